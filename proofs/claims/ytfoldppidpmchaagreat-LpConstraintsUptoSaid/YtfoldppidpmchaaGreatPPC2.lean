/- A part of the proof: the framework, the plain functions, the followed functions, the plain laws. -/
import Derived.Test.YtfoldppidpmchaaGreatPPC1
set_option linter.unusedVariables false
set_option linter.unusedSimpArgs false
namespace Go.Fw
open Go.RowKit
def NewC (P : Program) (f : FuncId) (args : List SV) (R : Row) : Prop :=
  ∀ (M : Mem) (w : World) (vs : List Value), M.inW w → SV.All M args vs →
    Calls P f ⟨vs⟩ w fun e w' => ∃ v M' us, e = .returned v ∧ M.le M' ∧ (∀ b o x, M' b o = some x → M b o = some x ∨ w.heap.size ≤ b) ∧ M'.inW w' ∧
      w'.ownsRow 0 R.E R.sz v R.n us ∧ SV.All M' R.cells us ∧ (∀ g, v.ownBlock = some g → w.heap.size ≤ g ∧ ∀ o, M' g o = none) ∧ Below w.heap.size w w'
theorem newC_of_ok {P : Program} {f : FuncId} {fn : Func} {code : Code} {args : List SV} {R : Row} (hf : P.funcs[f]? = some fn) (hb : fn.body = some code) (hn : args.length ≤ fn.ntmps)
    (h : ∀ (w : World) (M : Mem) (vs : List Value), SV.All M args vs → Ok P (ctx0 w M) code (AS.init fn.ntmps args) (fun e S => (e = .normal ∨ e = .ret) ∧ ∃ k, ResA P S fn.results.toList (.row k) ∧ S.r k = .live R)) : NewC P f args R := by
  intro M w vs hM hvs
  refine calls_of_ok rfl hf hb (init_holds hM hvs hn) (h w M vs hvs) ?_
  rintro S' E a w' ⟨k, hr, hR⟩ hh
  obtain ⟨v, hv, hx⟩ := hr.run hh
  obtain ⟨⟨us, q1, q2⟩, q3⟩ := hh.rx k R hR
  rw [← show v = E.ν k from hx] at q1 q3
  refine ⟨v, hv, v, E.M, us, rfl, hh.m0, fun b o x e => ?_, hh.inW, q1, q2, fun g hg => ?_, hh.os, hh.tape, hh.output, hh.grown, fun k hk => hh.frame k hk (fun h => h)⟩
  · rcases hh.mnew b o x e with h | h | h
    · exact .inl h
    · exact .inr h
    · exact h.elim
  · obtain ⟨q4, q5, _⟩ := q3 g hg
    exact ⟨q4.elim id (fun h => h.elim), q5⟩
def BoxC (P : Program) (f : FuncId) (args : List SV) (T : TypeId) (c0 : List SV) (res : SV) (c1 : List SV) : Prop :=
  ∀ (M : Mem) (w : World) (β : Nat) (vs us : List Value), M.inW w → w.heap[β]? = some (.cells ⟨us⟩ T (0, 0)) → SV.All M c0 us → (∀ o, M β o = none) → SV.All M args vs →
    Calls P f ⟨vs ++ [.pointer (some ⟨β, 0, none⟩)]⟩ w fun e w' => ∃ v M' us', e = .returned v ∧ M.le M' ∧ (∀ b o x, M' b o = some x → M b o = some x ∨ w.heap.size ≤ b) ∧ M'.inW w' ∧ res.h M' v ∧
      w'.heap[β]? = some (.cells ⟨us'⟩ T (0, 0)) ∧ SV.All M' c1 us' ∧ w.grownBy w' (some β)
def ctxB (w : World) (M : Mem) (β : Nat) : Ctx := { w0 := w, M0 := M, own := fun k => k = β, bor := fun k => k = β, pin := fun i => bif Nat.beq i 1000 then some β else none, pinr := fun _ => none, ro := none, J := fun _ _ _ _ _ => True, hbo := fun _ h => h, hpr := fun _ _ h => (by cases h), jf := fun _ _ _ _ _ _ _ _ _ _ _ _ _ _ _ _ => trivial }
theorem AllV.append {E : Env} : ∀ {l l' : List AV} {xs ys : List Value}, AllV E l xs → AllV E l' ys → AllV E (l ++ l') (xs ++ ys)
  | [], _, [], _, _, h => h
  | _ :: _, _, _ :: _, _, h, h' => ⟨h.1, AllV.append h.2 h'⟩
  | [], _, _ :: _, _, h, _ => h.elim
  | _ :: _, _, [], _, h, _ => h.elim
theorem all_of_sv {E : Env} : ∀ {l : List SV} {vs : List Value}, AllV E (l.map AV.sv) vs → SV.All E.M l vs
  | [], [], _ => trivial
  | _ :: _, _ :: _, h => ⟨h.1, all_of_sv h.2⟩
  | [], _ :: _, h => h.elim
  | _ :: _, [], h => h.elim
theorem ini_box {n : Nat} {args : List SV} {T : TypeId} {c0 : List SV} {M : Mem} {w : World} {β : Nat} {vs us : List Value} (hM : M.inW w) (hb : w.heap[β]? = some (.cells ⟨us⟩ T (0, 0))) (hc : SV.All M c0 us) (hm : ∀ o, M β o = none) (hv : SV.All M args vs) (hn : args.length + 1 ≤ n) :
    HoldsAt (ctxB w M β) (AS.ini n (args.map AV.sv ++ [.ptr 1000 0]) [(1000, ⟨T, c0.map AV.sv⟩)] []) ⟨fun _ => β, fun _ => .nilIface, fun _ => False, M⟩ { tmps := ⟨vs ++ [.pointer (some ⟨β, 0, none⟩)]⟩ ++ Array.replicate (n - (⟨vs ++ [.pointer (some ⟨β, 0, none⟩)]⟩ : Array Value).size) undef, defers := [] } w := by
  have hl := hv.length
  have hall : AllV ⟨fun _ => β, fun _ => .nilIface, fun _ => False, M⟩ (args.map AV.sv ++ [.ptr 1000 0]) (vs ++ [.pointer (some ⟨β, 0, none⟩)]) := AllV.append (AllV.of_sv hv) ⟨rfl, trivial⟩
  have live : ∀ j B, (AS.ini n (args.map AV.sv ++ [.ptr 1000 0]) [(1000, ⟨T, c0.map AV.sv⟩)] []).b j = some B → j = 1000 ∧ B = ⟨T, c0.map AV.sv⟩ := by
    intro j B h
    have := lkB_mem h
    simpa using this
  have b1000 : (AS.ini n (args.map AV.sv ++ [.ptr 1000 0]) [(1000, ⟨T, c0.map AV.sv⟩)] []).b 1000 = some ⟨T, c0.map AV.sv⟩ := rfl
  have argOk : ∀ s, argA (args.map AV.sv ++ [.ptr 1000 0]) s = .ptr 1000 0 ∨ ∃ t, argA (args.map AV.sv ++ [.ptr 1000 0]) s = .sv t := fun s => by
    rcases argA_mem (l := args.map AV.sv ++ [.ptr 1000 0]) (k := s) with e | e
    · exact .inr ⟨_, e⟩
    · rcases List.mem_append.1 e with e | e
      · obtain ⟨t, _, ht⟩ := List.mem_map.1 e; exact .inr ⟨t, ht.symm⟩
      · exact .inl (by simpa using e)
  exact {
    wf := by
      refine ⟨fun s j hj => ?_, fun s j hj => ?_, fun i B hB x hx j hj => ?_, fun i B hB x hx j hj => ?_⟩
      · rcases argOk s with e | ⟨t, e⟩
        · have hj' : (argA (args.map AV.sv ++ [.ptr 1000 0]) s).mb j := hj
          rw [e] at hj'; cases hj'; exact ⟨_, b1000⟩
        · have hj' : (argA (args.map AV.sv ++ [.ptr 1000 0]) s).mb j := hj
          rw [e] at hj'; exact hj'.elim
      · have hj' : (argA (args.map AV.sv ++ [.ptr 1000 0]) s).mr j := hj
        rcases argOk s with e | ⟨t, e⟩ <;> rw [e] at hj' <;> exact hj'.elim
      · obtain ⟨rfl, rfl⟩ := live i B hB
        exact (all_sv_live (S := AS.ini n (args.map AV.sv ++ [.ptr 1000 0]) [(1000, ⟨T, c0.map AV.sv⟩)] []) x hx).1 j hj
      · obtain ⟨rfl, rfl⟩ := live i B hB
        exact (all_sv_live (S := AS.ini n (args.map AV.sv ++ [.ptr 1000 0]) [(1000, ⟨T, c0.map AV.sv⟩)] []) x hx).2 j hj
    marks := ⟨[], rfl, List.nodup_nil, by simp⟩
    size := by simp [AS.ini]; omega
    os := rfl
    tape := rfl
    output := rfl
    grown := Nat.le_refl _
    frame := fun _ _ _ => rfl
    m0 := Mem.le_refl _
    mnew := fun _ _ _ e => .inl e
    inW := hM
    tm := fun s => ini_tm hall s
    bx := fun i B h => by
      obtain ⟨rfl, rfl⟩ := live i B h
      exact ⟨.inr rfl, hm, fun h => h, us, hb, AllV.of_sv hc⟩
    inj := fun i j B1 B2 hi hj _ => by rw [(live i B1 hi).1, (live j B2 hj).1]
    rx := fun i R e => by cases e
    rinj := fun i j R R' e => by cases e
    pin := fun i b e => by
      simp only [ctxB] at e
      cases h : Nat.beq i 1000 with
      | false => rw [h] at e; cases e
      | true => rw [h] at e; cases e; rfl
    pinr := fun i v e => by cases e
    olt := fun b e => e.elim
    jj := trivial }
theorem boxC_of_ok {P : Program} {f : FuncId} {fn : Func} {code : Code} {args : List SV} {T : TypeId} {c0 c1 : List SV} {res : SV} (hf : P.funcs[f]? = some fn) (hb : fn.body = some code) (hn : args.length + 1 ≤ fn.ntmps)
    (h : ∀ (w : World) (M : Mem) (β : Nat), Ok P (ctxB w M β) code (AS.ini fn.ntmps (args.map AV.sv ++ [.ptr 1000 0]) [(1000, ⟨T, c0.map AV.sv⟩)] []) (fun e S => (e = .normal ∨ e = .ret) ∧ Res P S fn.results.toList res ∧ S.b 1000 = some ⟨T, c1.map AV.sv⟩)) : BoxC P f args T c0 res c1 := by
  intro M w β vs us hM hbk hc hm hv
  refine calls_of_ok rfl hf hb (ini_box hM hbk hc hm hv hn) (h w M β) ?_
  rintro S' E a w' ⟨hr, hB⟩ hh
  obtain ⟨v, hv, hx⟩ := (ResA.sv hr).run hh
  have hβ : E.β 1000 = β := hh.pin 1000 β rfl
  obtain ⟨_, q1, _, us', q2, q3⟩ := hh.bx 1000 _ hB
  rw [hβ] at q1 q2
  refine ⟨v, hv, v, E.M, us', rfl, hh.m0, fun b o x e => ?_, hh.inW, hx, q2, all_of_sv q3, hh.os, hh.tape, hh.output, hh.grown, fun k hk hne => hh.frame k hk (fun e => hne (by rw [show k = β from e]))⟩
  rcases hh.mnew b o x e with e' | e' | e'
  · exact .inl e'
  · exact .inr e'
  · rw [show b = β from e', q1 o] at e; cases e
def CloC (P : Program) (f : FuncId) (args : List SV) (g : FuncId) (T : TypeId) (cells : List SV) : Prop :=
  ∀ (M : Mem) (w : World) (vs : List Value), M.inW w → SV.All M args vs →
    Calls P f ⟨vs⟩ w fun e w' => ∃ β M' us, e = .returned (.func (.func g) #[] #[.pointer (some ⟨β, 0, none⟩)]) ∧ M.le M' ∧ (∀ b o x, M' b o = some x → M b o = some x ∨ w.heap.size ≤ b) ∧ M'.inW w' ∧
      w.heap.size ≤ β ∧ w'.heap[β]? = some (.cells ⟨us⟩ T (0, 0)) ∧ SV.All M' cells us ∧ (∀ o, M' β o = none) ∧ Below w.heap.size w w'
theorem cloC_of_ok {P : Program} {f : FuncId} {fn : Func} {code : Code} {args : List SV} {g : FuncId} {T : TypeId} {cells : List SV} (hf : P.funcs[f]? = some fn) (hb : fn.body = some code) (hn : args.length ≤ fn.ntmps)
    (h : ∀ (w : World) (M : Mem) (vs : List Value), SV.All M args vs → Ok P (ctx0 w M) code (AS.init fn.ntmps args) (fun e S => (e = .normal ∨ e = .ret) ∧ ∃ k, ResA P S fn.results.toList (.clo g [.box k]) ∧ S.b k = some ⟨T, cells.map AV.sv⟩)) : CloC P f args g T cells := by
  intro M w vs hM hvs
  refine calls_of_ok rfl hf hb (init_holds hM hvs hn) (h w M vs hvs) ?_
  rintro S' E a w' ⟨k, hr, hB⟩ hh
  obtain ⟨v, hv, cs, rfl, hcs⟩ := hr.run hh
  obtain ⟨q1, q2, _, us, q3, q4⟩ := hh.bx k _ hB
  cases cs with
  | nil => exact hcs.elim
  | cons c cs =>
    cases cs with
    | cons _ _ => exact hcs.2.elim
    | nil =>
      obtain rfl : c = .pointer (some ⟨E.β k, 0, none⟩) := hcs.1
      refine ⟨_, hv, E.β k, E.M, us, rfl, hh.m0, fun b o x e => ?_, hh.inW, q1.elim id (fun h => h.elim), q3, all_of_sv q4, q2, hh.os, hh.tape, hh.output, hh.grown, fun k hk => hh.frame k hk (fun h => h)⟩
      rcases hh.mnew b o x e with h | h | h
      · exact .inl h
      · exact .inr h
      · exact h.elim
section steps
variable {P : Program} {C : Ctx} {ops : Array Oper} {S : AS} {nd : Bool} {K : List Ac → AS → Prop} {rest : List Oper} {acc : List Ac}
variable {gd : Option (Nat × Bool)} {rg : List Nat} {d : Nat} {ty : TypeId} {pos : String} {aft : Array Edge} {x y z : Operand} {T U E0 : TypeId}
theorem grown_refl (w : World) (b : Option Nat) : w.grownBy w b := ⟨rfl, rfl, rfl, Nat.le_refl _, fun _ _ _ => rfl⟩
theorem HoldsAt.freeNew {E : Env} {a : Act} {w : World} (h : HoldsAt C S E a w) {g : Nat} {M' : Mem} (hg : w.heap.size ≤ g) (hM : ∀ o, M' g o = none) : Free C S { E with M := M' } g := by
  obtain ⟨h1, _, h3, h4, h5⟩ := h.free hg
  exact ⟨h1, hM, h3, h4, h5⟩
theorem RT.callN (hg : Gd ops S gd rg) {f : FuncId} [Ent P f] {g : Operand} {xs : Array Operand} {at_ : Array TypeId} {args : List SV} {R : Row} (hp : NewC P f args R) (hf : S.ev g = .sv (.v (.func (.func f) #[] #[]))) (hargs : AllSv S xs.toList args) (hd : d < S.n) (hdr : S.r d = .un) (hd1 : d < 1000)
    (next : RunT P C ops nd K rest (⟨rg ++ (okeys g ++ xs.toList.flatMap okeys), [], [d], ⟨some (d, .row d), [], [(d, .live R)]⟩⟩ :: acc) ((AS.setRs [(d, .live R)] S).set d (.row d))) : RunT P C ops nd K (⟨some d, .call ⟨.value g, xs, at_⟩, ty, pos, aft, gd⟩ :: rest) acc S := by
  refine .inl ⟨_, [], [d], _, ?_, next⟩
  rintro S' hn ht _ hr i a w L Q ho ⟨E, h⟩ hL
  refine wpOp_of (C := C) ho (hg.wanted h (fun s hs => ht s (List.mem_append_left _ hs)) rfl) ?_
  have hgf : a.eval g = .func (.func f) #[] ⟨[]⟩ := by
    have h1 := h.ev g; rw [ev_congr (fun _ h => List.mem_append_right _ (List.mem_append_left _ h)) ht, hf] at h1; exact h1
  have hall := AllSv.vals h hargs (fun s hs => ht s (List.mem_append_right _ (List.mem_append_right _ hs)))
  have hdu : S'.r d = .un := by rw [hr d (by simp)]; exact hdr
  refine wpIn_of (C := C) (by intro c h; cases h) (run_call hgf) ?_
  rw [List.append_nil]
  refine ⟨fun h => by simp at h, fr_calls ((hp E.M w _ h.inW hall).mono ?_)⟩
  rintro e w' ⟨v, M', us, rfl, hM, hnew, hin, hv, hc, hfr, hb⟩
  have h1 := (h.grow hM hnew hin hb).newRow' hdu hd1 [] none (.inl ⟨rfl, rfl⟩) (R' := R) hv hc (fun g hg => .inr (h.freeNew (hfr g hg).1 (hfr g hg).2)) (grown_refl w' none)
  refine hL _ _ ⟨_, h1.put (x := .row d) (v := v) (by simp [AV.holds]) (by show d < S'.n; omega) ⟨fun _ e => e.elim, fun j e => ?_⟩⟩
  cases e
  show (AS.setR S' d _).r d ≠ _
  rw [AS.setR_same]; simp
theorem HoldsAt.lentBox {E : Env} {a : Act} {w w' : World} (h : HoldsAt C S E a w) {j : Nat} {B : Box} (hB : S.b j = some B) {M' : Mem} {c1 : List SV} {us : List Value}
    (hM : E.M.le M') (hn : ∀ b o x, M' b o = some x → E.M b o = some x ∨ w.heap.size ≤ b) (hin : M'.inW w') (hb : w'.heap[E.β j]? = some (.cells ⟨us⟩ B.T (0, 0))) (hc : SV.All M' c1 us) (hg : w.grownBy w' (some (E.β j))) :
    HoldsAt C (S.setB j ⟨B.T, c1.map AV.sv⟩) { E with M := M' } a w' := by
  obtain ⟨_, q1, _, vs, q2, _⟩ := h.bx j B hB
  have hlt := box_lt h hB
  have hnone : ∀ o, M' (E.β j) o = none := fun o => by
    cases e : M' (E.β j) o with
    | none => rfl
    | some v =>
      rcases hn _ _ _ e with e' | e'
      · rw [q1 o] at e'; cases e'
      · omega
  have hin1 : M'.inW (restore w w' (E.β j)) := inW_of_same hin fun b ⟨o, v, e⟩ => restore_other (by rintro rfl; rw [hnone o] at e; cases e)
  have h1 := h.grow hM hn hin1 (restore_below hg hlt)
  have h2 := h1.putBox (B := B) hB (cells := c1.map AV.sv) (vs := us) (AllV.of_sv hc) all_sv_live
  have e : putBlk (restore w w' (E.β j)) (E.β j) us B.T = w' := by
    have hlt' := (Array.getElem?_eq_some_iff.1 hb).1
    unfold restore
    rw [q2]
    unfold putBlk
    have : (w'.heap.setIfInBounds (E.β j) (.cells ⟨vs⟩ B.T (0, 0))).setIfInBounds (E.β j) (.cells ⟨us⟩ B.T (0, 0)) = w'.heap := by
      apply Array.ext_getElem?
      intro k
      rw [Array.getElem?_setIfInBounds]
      by_cases hk : E.β j = k
      · subst hk; rw [if_pos rfl, if_pos (by simpa using hlt'), hb]
      · rw [if_neg hk, Array.getElem?_setIfInBounds, if_neg hk]
    simp only [this]
  exact e ▸ h2
theorem RT.callB (hg : Gd ops S gd rg) {f : FuncId} [Ent P f] {g : Operand} {xs : Array Operand} {at_ : Array TypeId} {args : List SV} {T : TypeId} {c0 c1 : List SV} {res : SV} (hp : BoxC P f args T c0 res c1) (j : Nat) (hB : S.b j = some ⟨T, c0.map AV.sv⟩)
    (hf : S.ev g = .clo f [.box j]) (hargs : AllSv S xs.toList args) (hd : d < S.n)
    (next : RunT P C ops nd K rest (⟨rg ++ (okeys g ++ xs.toList.flatMap okeys), [j], [], ⟨some (d, .sv res), [(j, ⟨T, c1.map AV.sv⟩)], []⟩⟩ :: acc) ((AS.setBs [(j, ⟨T, c1.map AV.sv⟩)] S).set d (.sv res))) : RunT P C ops nd K (⟨some d, .call ⟨.value g, xs, at_⟩, ty, pos, aft, gd⟩ :: rest) acc S := by
  refine .inl ⟨_, [j], [], _, ?_, next⟩
  rintro S' hn ht hb _ k a w L Q ho ⟨E, h⟩ hL
  refine wpOp_of (C := C) ho (hg.wanted h (fun s hs => ht s (List.mem_append_left _ hs)) rfl) ?_
  have hgf : a.eval g = .func (.func f) #[] ⟨[.pointer (some ⟨E.β j, 0, none⟩)]⟩ := by
    have h1 := h.ev g; rw [ev_congr (fun _ h => List.mem_append_right _ (List.mem_append_left _ h)) ht, hf] at h1
    obtain ⟨vs, h2, h3⟩ := h1
    cases vs with
    | nil => exact h3.elim
    | cons v vs =>
      cases vs with
      | cons _ _ => exact h3.2.elim
      | nil => rw [h2, show v = _ from h3.1]
  have hall := AllSv.vals h hargs (fun s hs => ht s (List.mem_append_right _ (List.mem_append_right _ hs)))
  have hB' : S'.b j = some ⟨T, c0.map AV.sv⟩ := by rw [hb j (by simp)]; exact hB
  obtain ⟨_, q1, _, us, q2, q3⟩ := h.bx j _ hB'
  refine wpIn_of (C := C) (by intro c h; cases h) (run_call hgf) ?_
  refine ⟨fun h => by simp at h, fr_calls ((hp E.M w (E.β j) _ us h.inW q2 (all_of_sv q3) q1 hall).mono ?_)⟩
  rintro e w' ⟨v, M', us', rfl, hM, hnew, hin, hv, hbk, hc, hgr⟩
  have h1 := h.lentBox hB' hM hnew hin hbk hc hgr
  exact hL _ _ ⟨_, h1.put (x := .sv res) (v := v) hv (by show d < S'.n; omega) nomb⟩
theorem HoldsAt.newBox' {E : Env} {a : Act} {w : World} (h : HoldsAt C S E a w) {i : Nat} (hi : S.b i = none) (hp : C.pin i = none) {g : Nat} (hg : Free C S E g) {cells : List AV} {vs : List Value} (hb : w.heap[g]? = some (.cells ⟨vs⟩ T (0, 0))) (hc : AllV E cells vs) (hl : ∀ x ∈ cells, (∀ j, x.mb j → ∃ B, S.b j = some B) ∧ (∀ j, x.mr j → S.r j ≠ .un)) :
    HoldsAt C (S.setB i ⟨T, cells⟩) { E with β := fun j => if j = i then g else E.β j } a w := by
  obtain ⟨f1, f2, f3, f4, f5⟩ := hg
  have ne : ∀ j, (∃ B, S.b j = some B) → j ≠ i := by rintro j ⟨B, hB⟩ rfl; rw [hi] at hB; cases hB
  have keep : ∀ x : AV, (∀ j, x.mb j → ∃ B, S.b j = some B) → ∀ v, x.holds E v → x.holds { E with β := fun j => if j = i then g else E.β j } v := fun x hx v hv =>
    AV.holds_congr (E := E) (E' := { E with β := fun j => if j = i then g else E.β j }) (Mem.le_refl _) (fun j hj => if_neg (ne j (hx j hj))) (fun _ _ => rfl) hv
  have liveB : ∀ j, (∃ B, S.b j = some B) → ∃ B, (S.setB i ⟨T, cells⟩).b j = some B := fun j hj => by
    obtain ⟨B, hB⟩ := hj
    exact ⟨B, by rw [AS.setB_other _ _ _ _ (ne j ⟨B, hB⟩)]; exact hB⟩
  exact {
    wf := by
      refine ⟨fun s j hj => liveB j (h.wf.tb s j hj), h.wf.tr, fun j B hB x hx k hk => ?_, fun j B hB x hx k hk => ?_⟩
      · by_cases hj : j = i
        · subst hj; rw [AS.setB_same] at hB; cases hB; exact liveB k ((hl x hx).1 k hk)
        · rw [AS.setB_other _ _ _ _ hj] at hB; exact liveB k (h.wf.bb j B hB x hx k hk)
      · by_cases hj : j = i
        · subst hj; rw [AS.setB_same] at hB; cases hB; exact (hl x hx).2 k hk
        · rw [AS.setB_other _ _ _ _ hj] at hB; exact h.wf.br j B hB x hx k hk
    marks := h.marks
    size := h.size
    os := h.os
    tape := h.tape
    output := h.output
    grown := h.grown
    frame := h.frame
    m0 := h.m0
    mnew := h.mnew
    inW := h.inW
    tm := fun s => keep _ (h.wf.tb s) _ (h.tm s)
    bx := fun j B hB => by
      by_cases hj : j = i
      · subst hj
        rw [AS.setB_same] at hB
        cases hB
        simp only [if_true]
        exact ⟨.inl f1, f2, f3, vs, hb, hc.imp fun x hx v hv => keep x (hl x hx).1 v hv⟩
      · rw [AS.setB_other _ _ _ _ hj] at hB
        obtain ⟨h1, h2, h3, vs', h4, h5⟩ := h.bx j B hB
        simp only [if_neg hj]
        exact ⟨h1, h2, h3, vs', h4, h5.imp fun x hx v hv => keep x (h.wf.bb j B hB x hx) v hv⟩
    inj := fun j k B B' hj hk e => by
      by_cases h1 : j = i
      · subst h1
        by_cases h2 : k = j
        · exact h2.symm
        · rw [AS.setB_other _ _ _ _ h2] at hk
          simp only [if_true, if_neg h2] at e
          exact absurd e.symm (f4 k B' hk)
      · rw [AS.setB_other _ _ _ _ h1] at hj
        by_cases h2 : k = i
        · subst h2
          simp only [if_true, if_neg h1] at e
          exact absurd e (f4 j B hj)
        · rw [AS.setB_other _ _ _ _ h2] at hk
          simp only [if_neg h1, if_neg h2] at e
          exact h.inj j k B B' hj hk e
    rx := fun j R hR => by
      obtain ⟨⟨us, h1, h2⟩, h3⟩ := h.rx j R hR
      refine ⟨⟨us, h1, h2⟩, fun g' hg' => ?_⟩
      obtain ⟨h4, h5, h6, h7⟩ := h3 g' hg'
      refine ⟨h4, h5, h6, fun k B hB => ?_⟩
      by_cases hk : k = i
      · subst hk
        simp only [if_true]
        rintro rfl
        exact f5 j R hR hg'
      · rw [AS.setB_other _ _ _ _ hk] at hB
        simp only [if_neg hk]
        exact h7 k B hB
    rinj := h.rinj
    pin := fun j b hj => by
      have hne : j ≠ i := by rintro rfl; rw [hp] at hj; cases hj
      simp only [if_neg hne]; exact h.pin j b hj
    pinr := h.pinr
    olt := h.olt
    jj := h.jj }
theorem RT.callF (hg : Gd ops S gd rg) {f : FuncId} [Ent P f] {g : Operand} {xs : Array Operand} {at_ : Array TypeId} {args : List SV} {fc : FuncId} {T : TypeId} {cells : List SV} (hp : CloC P f args fc T cells) (hf : S.ev g = .sv (.v (.func (.func f) #[] #[]))) (hargs : AllSv S xs.toList args) (hd : d < S.n) (hdb : S.b d = none) (hpin : C.pin d = none)
    (next : RunT P C ops nd K rest (⟨rg ++ (okeys g ++ xs.toList.flatMap okeys), [d], [], ⟨some (d, .clo fc [.box d]), [(d, ⟨T, cells.map AV.sv⟩)], []⟩⟩ :: acc) ((AS.setBs [(d, ⟨T, cells.map AV.sv⟩)] S).set d (.clo fc [.box d]))) : RunT P C ops nd K (⟨some d, .call ⟨.value g, xs, at_⟩, ty, pos, aft, gd⟩ :: rest) acc S := by
  refine .inl ⟨_, [d], [], _, ?_, next⟩
  rintro S' hn ht hb _ i a w L Q ho ⟨E, h⟩ hL
  refine wpOp_of (C := C) ho (hg.wanted h (fun s hs => ht s (List.mem_append_left _ hs)) rfl) ?_
  have hgf : a.eval g = .func (.func f) #[] ⟨[]⟩ := by
    have h1 := h.ev g; rw [ev_congr (fun _ h => List.mem_append_right _ (List.mem_append_left _ h)) ht, hf] at h1; exact h1
  have hall := AllSv.vals h hargs (fun s hs => ht s (List.mem_append_right _ (List.mem_append_right _ hs)))
  have hdn : S'.b d = none := by rw [hb d (by simp)]; exact hdb
  refine wpIn_of (C := C) (by intro c h; cases h) (run_call hgf) ?_
  rw [List.append_nil]
  refine ⟨fun h => by simp at h, fr_calls ((hp E.M w _ h.inW hall).mono ?_)⟩
  rintro e w' ⟨β, M', us, rfl, hM, hnew, hin, hβ, hbk, hc, hno, hbl⟩
  have h1 := (h.grow hM hnew hin hbl).newBox' hdn hpin (h.freeNew hβ hno) hbk (AllV.of_sv hc) all_sv_live
  refine hL _ _ ⟨_, h1.put (x := .clo fc [.box d]) ⟨[_], rfl, by simp [Cap.holds], trivial⟩ (by show d < S'.n; omega) ⟨fun j e => ?_, fun j e => e.elim⟩⟩
  have : j = d := by simpa [AV.mb] using e
  subst this
  exact ⟨_, AS.setB_same _ _ _⟩
end steps
end Go.Fw
namespace Go.Fw
open Go.RowKit
abbrev JT := Nat → Bool → (Nat → Prop) → Mem → World → Prop
structure Swap (O : Nat → Prop) (M : Mem) (w : World) (O' : Nat → Prop) (M' : Mem) (w' : World) : Prop where
  le : M.le M'
  inW : M'.inW w'
  new : ∀ b o v, M' b o = some v → M b o = some v ∨ w.heap.size ≤ b ∨ O b
  oo : ∀ b, O' b → (O b ∨ w.heap.size ≤ b) ∧ b < w'.heap.size ∧ ∀ o, M' b o = none
  same : ∀ k, k < w.heap.size → ¬ O k → w'.heap[k]? = w.heap[k]?
  os : w'.os = w.os
  tape : w'.tape = w.tape
  output : w'.output = w.output
  size : w.heap.size ≤ w'.heap.size
def JFrame (w0 : World) (J : JT) : Prop :=
  ∀ (g : Nat) (h : Bool) (O : Nat → Prop) (M M' : Mem) (w w' : World), J g h O M w → M.le M' → M'.inW w' → (∀ b o v, M' b o = some v → M b o = some v ∨ (w0.heap.size ≤ b ∧ ¬ O b)) →
    (∀ b, b < w0.heap.size ∨ O b → w'.heap[b]? = w.heap[b]?) → w'.os = w.os → w'.tape = w.tape → w'.output = w.output → w.heap.size ≤ w'.heap.size → J g h O M' w'
def Rounds (P : Program) (l : Nat) (J : JT) (n : Nat) (xs : Nat → List SV) (M0 : Mem) : Prop :=
  ∀ (k : Nat) (O : Nat → Prop) (M : Mem) (w : World) (args : List Value), k < n → J k true O M w → M0.le M → M.inW w → SV.All M (xs k) args →
    YieldAt (Fr none) 0 P l ⟨args⟩ w fun e w' => ∃ b O' M', e = .returned (.bool b) ∧ J (k + 1) b O' M' w' ∧ Swap O M w O' M' w'
def Iter (P : Program) (f : FuncId) (caps : List SV) (n : Nat) (xs : Nat → List SV) : Prop :=
  ∀ (J : JT) (O : Nat → Prop) (M : Mem) (w : World) (l : Nat) (cvs : List Value), M.inW w → SV.All M caps cvs → JFrame w J → Rounds P l J n xs M → (∀ b, O b → b < w.heap.size ∧ ∀ o, M b o = none) → J 0 true O M w →
    Calls P f ⟨.func (.yield l) #[] #[] :: cvs⟩ w fun e w' => ∃ v g b O' M', e = .returned v ∧ J g b O' M' w' ∧ (b = true → g = n)
theorem jframe_jf {w0 : World} {J : JT} (hJ : JFrame w0 J) (g : Nat) (h : Bool) (O : Nat → Prop) (M M' : Mem) (w w' : World) (j : J g h O M w) (hM : M.le M') (hin : M'.inW w') (hn : ∀ b o v, M' b o = some v → M b o = some v ∨ ((w0.heap.size ≤ b ∨ False) ∧ ¬ O b))
    (hs : ∀ b, (b < w0.heap.size ∧ ¬ False) ∨ O b → w'.heap[b]? = w.heap[b]?) (h1 : w'.os = w.os) (h2 : w'.tape = w.tape) (h3 : w'.output = w.output) (h4 : w.heap.size ≤ w'.heap.size) : J g h O M' w' :=
  hJ g h O M M' w w' j hM hin (fun b o v e => (hn b o v e).imp id (fun ⟨a, c⟩ => ⟨a.elim id (fun x => x.elim), c⟩)) (fun b hb => hs b (hb.imp (fun x => ⟨x, fun y => y⟩) id)) h1 h2 h3 h4
def ctxI (w : World) (M : Mem) (O : Nat → Prop) (J : JT) (hJ : JFrame w J) : Ctx := { w0 := w, M0 := M, own := O, bor := fun _ => False, pin := fun _ => none, pinr := fun _ => none, ro := none, J := J, hbo := fun _ h => h.elim, hpr := fun _ _ h => (by cases h), jf := jframe_jf hJ }
theorem iter_of_ok {P : Program} {f : FuncId} {fn : Func} {code : Code} {caps : List SV} {n : Nat} {xs : Nat → List SV} (hf : P.funcs[f]? = some fn) (hb : fn.body = some code) (hres : fn.results = #[]) (hn : caps.length + 1 ≤ fn.ntmps)
    (h : ∀ (w : World) (M : Mem) (O : Nat → Prop) (l : Nat) (J : JT) (hJ : JFrame w J), (∃ cvs, SV.All M caps cvs) → Rounds P l J n xs M →
      Ok P (ctxI w M O J hJ) code (AS.init fn.ntmps (.v (.func (.yield l) #[] #[]) :: caps)) (fun e S => (e = .normal ∨ e = .ret) ∧ (S.go = true → S.g = n))) : Iter P f caps n xs := by
  intro J O M w l cvs hM hc hJ hr hO h0
  have hvs : SV.All M (.v (.func (.yield l) #[] #[]) :: caps) (.func (.yield l) #[] #[] :: cvs) := ⟨rfl, hc⟩
  have hl := hvs.length
  have hini : HoldsAt (ctxI w M O J hJ) (AS.init fn.ntmps (.v (.func (.yield l) #[] #[]) :: caps)) ⟨fun _ => 0, fun _ => .nilIface, O, M⟩ { tmps := ⟨.func (.yield l) #[] #[] :: cvs⟩ ++ Array.replicate (fn.ntmps - (⟨.func (.yield l) #[] #[] :: cvs⟩ : Array Value).size) undef, defers := [] } w := by
    have h1 := init_holds (n := fn.ntmps) hM hvs (by simpa using hn)
    exact { h1 with tm := fun s => AV.holds_congr (E := ⟨fun _ => 0, fun _ => .nilIface, fun _ => False, M⟩) (E' := ⟨fun _ => 0, fun _ => .nilIface, O, M⟩) (Mem.le_refl _) (fun _ _ => rfl) (fun _ _ => rfl) (h1.tm s), marks := ⟨[], rfl, List.nodup_nil, by simp⟩, frame := fun _ _ _ => rfl, mnew := fun _ _ _ e => .inl e, bx := fun i B e => (by cases e), rx := fun i R e => (by cases e), pin := fun i b e => (by cases e), pinr := fun i b e => (by cases e), olt := fun b hb => ⟨(hO b hb).1, (hO b hb).2, .inl hb⟩, jj := h0 }
  refine calls_of_ok rfl hf hb hini (h w M O l J hJ ⟨cvs, hc⟩ hr) ?_
  rintro S' E a w' hg hh
  refine ⟨.tuple #[], ?_, .tuple #[], S'.g, S'.go, E.O, E.M, rfl, hh.jj, hg⟩
  simp [results, hres]
section steps
variable {P : Program} {C : Ctx} {ops : Array Oper} {S : AS} {nd : Bool} {K : List Ac → AS → Prop} {rest : List Oper} {acc : List Ac}
variable {gd : Option (Nat × Bool)} {rg : List Nat} {d : Nat} {ty : TypeId} {pos : String} {aft : Array Edge} {x y z : Operand} {T U E0 : TypeId}
theorem HoldsAt.swap {E : Env} {a : Act} {w w' : World} (h : HoldsAt C S E a w) {O' : Nat → Prop} {M' : Mem} (hs : Swap E.O E.M w O' M' w') (hbor : ∀ k, ¬ C.bor k) {g : Nat} {go : Bool} (hj : C.J g go O' M' w') :
    HoldsAt C { S with g := g, go := go } { E with O := O', M := M' } a w' := by
  have keep : ∀ x : AV, ∀ v, x.holds E v → x.holds { E with O := O', M := M' } v := fun x v hv => AV.holds_congr (E := E) (E' := { E with O := O', M := M' }) hs.le (fun _ _ => rfl) (fun _ _ => rfl) hv
  have none : ∀ b, b < w.heap.size → ¬ E.O b → (∀ o, E.M b o = none) → ∀ o, M' b o = none := fun b hb hO h2 o => by
    cases e : M' b o with
    | none => rfl
    | some v =>
      rcases hs.new _ _ _ e with e' | e' | e'
      · rw [h2 o] at e'; cases e'
      · omega
      · exact absurd e' hO
  have notO : ∀ b, b < w.heap.size → ¬ E.O b → ¬ O' b := fun b hb hO h' => by
    rcases (hs.oo b h').1 with e | e
    · exact hO e
    · omega
  exact {
    wf := ⟨h.wf.tb, h.wf.tr, h.wf.bb, h.wf.br⟩
    marks := by
      obtain ⟨ds, h1, h2, h3⟩ := h.marks
      refine ⟨ds, h1, h2, fun r hr => ?_⟩
      obtain ⟨h4, h5, h6⟩ := h3 r hr
      have hlt := (Array.getElem?_eq_some_iff.1 h6).1
      exact ⟨h4, notO r hlt h5, by rw [hs.same r hlt h5]; exact h6⟩
    size := h.size
    os := hs.os.trans h.os
    tape := hs.tape.trans h.tape
    output := hs.output.trans h.output
    grown := Nat.le_trans h.grown hs.size
    frame := fun k hk hk' => by
      rw [hs.same k (by have := h.grown; omega) (fun hO => by
        rcases (h.olt k hO).2.2 with e | e
        · exact hk' e
        · omega)]
      exact h.frame k hk hk'
    m0 := Mem.le_trans h.m0 hs.le
    mnew := fun b o v e => by
      rcases hs.new b o v e with e' | e' | e'
      · exact h.mnew b o v e'
      · exact .inr (.inl (Nat.le_trans h.grown e'))
      · exact .inr ((h.olt b e').2.2.symm)
    inW := hs.inW
    tm := fun s => keep _ _ (h.tm s)
    bx := fun i B hB => by
      obtain ⟨h1, h2, h3, vs, h4, h5⟩ := h.bx i B hB
      have hlt := box_lt h hB
      exact ⟨h1, none _ hlt h3 h2, notO _ hlt h3, vs, by rw [hs.same _ hlt h3]; exact h4, h5.imp fun x _ v hv => keep x v hv⟩
    inj := h.inj
    rx := fun i R hR => by
      obtain ⟨⟨us, h1, h2⟩, h3⟩ := h.rx i R hR
      refine ⟨⟨us, ownsRow_same h1 fun g hg => hs.same g (row_lt h hR hg) (h3 g hg).2.2.1, h2.mono hs.le⟩, fun g hg => ?_⟩
      obtain ⟨h4, h5, h6, h7⟩ := h3 g hg
      exact ⟨h4, none _ (row_lt h hR hg) h6 h5, notO _ (row_lt h hR hg) h6, h7⟩
    rinj := h.rinj
    pin := h.pin
    pinr := h.pinr
    olt := fun b hO => by
      obtain ⟨h1, h2, h3⟩ := hs.oo b hO
      refine ⟨h2, h3, ?_⟩
      rcases h1 with e | e
      · exact (h.olt b e).2.2
      · exact .inr (Nat.le_trans h.grown e)
    jj := hj }
theorem RT.yield (hg : Gd ops S gd rg) {l n : Nat} {xs : Nat → List SV} (hr : Rounds P l C.J n xs C.M0) (hro : C.ro = none) (hbor : ∀ k, ¬ C.bor k) {g : Operand} {ys : Array Operand} {at_ : Array TypeId} (hf : S.ev g = .sv (.v (.func (.yield l) #[] #[]))) (k : Nat) (hk : S.g = k) (hgo : S.go = true) (hlt : k < n) (hargs : AllSv S ys.toList (xs k)) (hd : d < S.n)
    {R : AS → Prop} (next : ∀ b : Bool, RunT P C ops true (fun _ S => R S) rest [] ((AS.mk S.n S.t S.b S.r (k + 1) b).set d (.sv (.v (.bool b))))) : RunT P C ops true (fun _ S => R S) (⟨some d, .call ⟨.value g, ys, at_⟩, ty, pos, aft, gd⟩ :: rest) acc S := by
  refine .inr ⟨rfl, fun S' => ∃ b : Bool, S' = (AS.mk S.n S.t S.b S.r (k + 1) b).set d (.sv (.v (.bool b))), ?_, ?_⟩
  · rintro i a w L Q ho ⟨E, h⟩ hL
    refine wpOp_of (C := C) ho (hg.wanted h (fun _ _ => rfl) rfl) ?_
    have hgf : a.eval g = .func (.yield l) #[] #[] := by have h1 := h.ev g; rw [hf] at h1; exact h1
    have hall := AllSv.vals h hargs (fun _ _ => rfl)
    have hj := h.jj
    rw [hk, hgo] at hj
    obtain ⟨fn, tmps, assign, body, hy, hround⟩ := hr k E.O E.M w _ hlt hj h.m0 h.inW hall
    have e2 : ys.map a.eval = ⟨ys.toList.map a.eval⟩ := by apply Array.ext'; simp
    have hrun : (execOp a.eval ⟨some d, .call ⟨.value g, ys, at_⟩, ty, pos, aft, gd⟩).run P w = .ok (.round l fn tmps assign body) w := by
      rw [← e2] at hy
      simp [execOp, resolve, hgf, Deferred.ofValue, invoke, hy]
    refine wpIn_of (C := C) (by intro c h; cases h) hrun ?_
    rw [hro]
    refine ⟨fun h => by simp at h, RoundIn.mono hround ?_⟩
    rintro e w' ⟨b, O', M', rfl, hj', hs⟩
    exact hL _ _ _ ⟨b, rfl⟩ ⟨_, (h.swap hs hbor hj').put (x := .sv (.v (.bool b))) rfl hd nomb⟩
  · rintro S' ⟨b, rfl⟩
    exact next b
end steps
end Go.Fw
namespace Go.Fw
open Go.RowKit
structure RD where
  W : World
  M : Mem
  bor : Nat → Prop
  β : Nat → Nat
  l : Nat
  o : Bool → Obj
theorem rctx_jf (D : RD) (h : Bool) (O : Nat → Prop) (w w' : World) (j : O D.l ∧ w.heap[D.l]? = some (D.o h)) (hs : ∀ b, (b < D.W.heap.size ∧ ¬ D.bor b) ∨ O b → w'.heap[b]? = w.heap[b]?) : O D.l ∧ w'.heap[D.l]? = some (D.o h) :=
  ⟨j.1, by rw [hs D.l (.inr j.1)]; exact j.2⟩
def pinF (pb : List Nat) (β : Nat → Nat) (p : Nat → Option Nat) (i : Nat) : Option Nat := bif pb.any (Nat.beq i) then some (β i) else p i
def rctx (C : Ctx) (D : RD) (pb : List Nat) : Ctx := { w0 := D.W, M0 := D.M, own := fun k => D.bor k ∨ k = D.l, bor := D.bor, pin := pinF pb D.β C.pin, pinr := C.pinr, ro := some D.l, J := fun _ go O _ w => O D.l ∧ w.heap[D.l]? = some (D.o go), hbo := fun _ h => .inl h, hpr := C.hpr, jf := fun _ h O _ _ w w' j _ _ _ hs _ _ _ _ => rctx_jf D h O w w' j hs }
def pctx (C : Ctx) (β : Nat → Nat) (pb : List Nat) : Ctx := { w0 := C.w0, M0 := C.M0, own := C.own, bor := C.bor, pin := pinF pb β C.pin, pinr := C.pinr, ro := C.ro, J := C.J, hbo := C.hbo, hpr := C.hpr, jf := C.jf }
theorem any_mem {pb : List Nat} {i : Nat} : pb.any (Nat.beq i) = true ↔ i ∈ pb := by
  rw [List.any_eq_true]
  exact ⟨fun ⟨x, h1, h2⟩ => by rw [Nat.eq_of_beq_eq_true h2]; exact h1, fun h => ⟨i, h, by simp⟩⟩
theorem HoldsAt.pinned {C : Ctx} {S : AS} {E : Env} {a : Act} {w : World} (h : HoldsAt C S E a w) (pb : List Nat) : HoldsAt (pctx C E.β pb) S E a w :=
  { wf := h.wf, marks := h.marks, size := h.size, os := h.os, tape := h.tape, output := h.output, grown := h.grown, frame := h.frame, m0 := h.m0, mnew := h.mnew, inW := h.inW, tm := h.tm, bx := h.bx, inj := h.inj, rx := h.rx, rinj := h.rinj, pinr := h.pinr, olt := h.olt, jj := h.jj,
    pin := fun i b e => by
      simp only [pctx, pinF] at e
      cases hh : pb.any (Nat.beq i) with
      | true => rw [hh] at e; cases e; rfl
      | false => rw [hh] at e; exact h.pin i b e }
theorem HoldsAt.unpinned {C : Ctx} {S : AS} {E : Env} {a : Act} {w : World} {β : Nat → Nat} {pb : List Nat} (h : HoldsAt (pctx C β pb) S E a w) (hβ : ∀ i b, C.pin i = some b → β i = b) : HoldsAt C S E a w :=
  { wf := h.wf, marks := h.marks, size := h.size, os := h.os, tape := h.tape, output := h.output, grown := h.grown, frame := h.frame, m0 := h.m0, mnew := h.mnew, inW := h.inW, tm := h.tm, bx := h.bx, inj := h.inj, rx := h.rx, rinj := h.rinj, pinr := h.pinr, olt := h.olt, jj := h.jj,
    pin := fun i b e => by
      cases hh : pb.any (Nat.beq i) with
      | true => rw [h.pin i (β i) (by simp [pctx, pinF, hh])]; exact hβ i b e
      | false => exact h.pin i b (by simpa [pctx, pinF, hh] using e) }
def Cl (S : AS) (E : Env) (k : Nat) : Prop := (∃ i B, S.b i = some B ∧ E.β i = k) ∨ (∃ i R, S.r i = .live R ∧ (E.ν i).ownBlock = some k)
theorem cl_cells {C : Ctx} {S : AS} {E : Env} {a : Act} {w : World} (h : HoldsAt C S E a w) {k : Nat} (hk : Cl S E k) : (C.w0.heap.size ≤ k ∨ C.bor k) ∧ (∀ o, E.M k o = none) ∧ ¬ E.O k ∧ ∃ c e, w.heap[k]? = some (Obj.cells c e (0, 0)) := by
  rcases hk with ⟨i, B, h1, rfl⟩ | ⟨i, R, h1, h2⟩
  · obtain ⟨h3, h4, h5, vs, h6, _⟩ := h.bx i B h1
    exact ⟨h3, h4, h5, _, _, h6⟩
  · obtain ⟨⟨us, h3, _⟩, h4⟩ := h.rx i R h1
    obtain ⟨h5, h6, h7, _⟩ := h4 k h2
    refine ⟨h5, h6, h7, ?_⟩
    rcases h3.2 with ⟨h8, _⟩ | ⟨g, cap, cur, h8, _, h9, _⟩
    · rw [h8] at h2; cases h2
    · rw [h8] at h2; cases h2; exact ⟨_, _, h9⟩
def setPs : List Nat → List SV → AS → AS
  | p :: ps, s :: ss, S => setPs ps ss (S.set p (.sv s))
  | _, _, S => S
def AS.inR (S : AS) (ps : List Nat) (ss : List SV) : AS := setPs ps ss ⟨S.n, S.t, S.b, S.r, S.g, false⟩
def AS.goOn (S : AS) : AS := ⟨S.n, S.t, S.b, S.r, S.g, true⟩
def RP (p : Prop) (pb : List Nat) (T next : AS) (Q : Exit → AS → Prop) : Exit → AS → Prop
  | .normal, S => p ∧ S.go = true ∧ (pb.all fun i => (S.b i).isSome) = true ∧ Weak (AS.mk T.n T.t S.b S.r S.g true) next
  | .ret, S => S.go = true ∧ (pb.all fun i => (S.b i).isSome) = true ∧ Q .ret (AS.mk T.n T.t S.b S.r S.g true)
  | .exit id, S => S.go = true ∧ (pb.all fun i => (S.b i).isSome) = true ∧ Q (.exit id) (AS.mk T.n T.t S.b S.r S.g true)
  | _, _ => False
theorem HoldsAt.putLoop {C : Ctx} {S : AS} {E : Env} {a : Act} {w : World} (h : HoldsAt C S E a w) {l : Nat} {o : Obj} (hO : E.O l) (hown : C.w0.heap.size ≤ l ∨ C.own l) {go : Bool} (hj : C.J S.g go E.O E.M (w.putObj l o)) :
    HoldsAt C ⟨S.n, S.t, S.b, S.r, S.g, go⟩ E a (w.putObj l o) := by
  have same : ∀ k, k ≠ l → (w.putObj l o).heap[k]? = w.heap[k]? := fun k hk => World.putObj_heap_other hk
  exact {
    wf := ⟨h.wf.tb, h.wf.tr, h.wf.bb, h.wf.br⟩
    marks := by
      obtain ⟨ds, h1, h2, h3⟩ := h.marks
      refine ⟨ds, h1, h2, fun r hr => ?_⟩
      obtain ⟨h4, h5, h6⟩ := h3 r hr
      exact ⟨h4, h5, by rw [same r (by rintro rfl; exact h5 hO)]; exact h6⟩
    size := h.size
    os := h.os
    tape := h.tape
    output := h.output
    grown := by rw [World.putObj_size]; exact h.grown
    frame := fun k hk hk' => by
      rw [same k (by
        rintro rfl
        rcases hown with e | e
        · omega
        · exact hk' e)]
      exact h.frame k hk hk'
    m0 := h.m0
    mnew := h.mnew
    inW := inW_of_same h.inW fun b ⟨o', v, e⟩ => same b (by rintro rfl; rw [(h.olt _ hO).2.1 o'] at e; cases e)
    tm := h.tm
    bx := fun i B hB => by
      obtain ⟨h1, h2, h3, vs, h4, h5⟩ := h.bx i B hB
      exact ⟨h1, h2, h3, vs, by rw [same _ (by intro e; rw [e] at h3; exact h3 hO)]; exact h4, h5⟩
    inj := h.inj
    rx := fun i R hR => by
      obtain ⟨⟨us, h1, h2⟩, h3⟩ := h.rx i R hR
      exact ⟨⟨us, ownsRow_same h1 fun g hg => same g (by rintro rfl; exact (h3 _ hg).2.2.1 hO), h2⟩, h3⟩
    rinj := h.rinj
    pin := h.pin
    pinr := h.pinr
    olt := fun b hb => by rw [World.putObj_size]; exact h.olt b hb
    jj := hj }
theorem setPs_holds {C : Ctx} {E : Env} {w : World} : ∀ (ps : List Nat) (ss : List SV) (S : AS) (vs : List Value) (tmps : Array Value), HoldsAt C S E ⟨tmps, []⟩ w → SV.All E.M ss vs → ps.length = ss.length → (∀ p ∈ ps, p < S.n) →
    HoldsAt C (setPs ps ss S) E ⟨(ps.zip vs).foldl (fun t (p, v) => t.setIfInBounds p v) tmps, []⟩ w
  | [], [], S, [], tmps, h, _, _, _ => h
  | p :: ps, s :: ss, S, v :: vs, tmps, h, hv, hl, hp => by
    have h1 := h.put (d := p) (x := .sv s) (v := v) hv.1 (hp p (by simp)) nomb
    exact setPs_holds ps ss _ vs _ h1 hv.2 (by simpa using hl) (fun q hq => hp q (List.mem_cons_of_mem _ hq))
  | [], _ :: _, _, _, _, _, _, hl, _ => by simp at hl
  | _ :: _, [], _, _, _, _, _, hl, _ => by simp at hl
  | [], [], _, _ :: _, _, _, h, _, _ => h.elim
  | _ :: _, _ :: _, _, [], _, _, h, _, _ => h.elim
theorem HoldsAt.intoRound {C : Ctx} {S : AS} {E : Env} {a : Act} {w : World} {β : Nat → Nat} {pb : List Nat} (h : HoldsAt (pctx C β pb) S E a w) {l : Nat} {o : Bool → Obj} (hl : w.heap[l]? = some (o false)) (hlo : ∀ b c e, o b ≠ .cells c e (0, 0)) (hlm : ∀ o', E.M l o' = none) :
    HoldsAt (rctx C ⟨w, E.M, Cl S E, β, l, o⟩ pb) ⟨S.n, S.t, S.b, S.r, S.g, false⟩ { E with O := fun b => b = l } ⟨a.tmps, []⟩ w where
  wf := ⟨h.wf.tb, h.wf.tr, h.wf.bb, h.wf.br⟩
  marks := ⟨[], rfl, List.nodup_nil, by simp⟩
  size := h.size
  os := rfl
  tape := rfl
  output := rfl
  grown := Nat.le_refl _
  frame := fun _ _ _ => rfl
  m0 := Mem.le_refl _
  mnew := fun _ _ _ e => .inl e
  inW := h.inW
  tm := fun s => AV.holds_congr (E := E) (E' := { E with O := fun b => b = l }) (Mem.le_refl _) (fun _ _ => rfl) (fun _ _ => rfl) (h.tm s)
  bx := fun i B hB => by
    obtain ⟨h1, h2, h3, vs, h4, h5⟩ := h.bx i B hB
    refine ⟨.inr (.inl ⟨i, B, hB, rfl⟩), h2, ?_, vs, h4, h5.imp fun x _ v hv => AV.holds_congr (E := E) (E' := { E with O := fun b => b = l }) (Mem.le_refl _) (fun _ _ => rfl) (fun _ _ => rfl) hv⟩
    intro e
    rw [show E.β i = l from e, hl] at h4
    exact hlo _ _ _ (Option.some.inj h4)
  inj := h.inj
  rx := fun i R hR => by
    obtain ⟨⟨us, h1, h2⟩, h3⟩ := h.rx i R hR
    refine ⟨⟨us, h1, h2⟩, fun g hg => ?_⟩
    obtain ⟨h4, h5, h6, h7⟩ := h3 g hg
    refine ⟨.inr (.inr ⟨i, R, hR, hg⟩), h5, ?_, h7⟩
    intro e
    obtain ⟨_, _, _, c, e', hc⟩ := cl_cells h (.inr ⟨i, R, hR, hg⟩)
    rw [show g = l from e, hl] at hc
    exact hlo _ _ _ (Option.some.inj hc)
  rinj := h.rinj
  pin := h.pin
  pinr := h.pinr
  olt := fun b e => by
    obtain rfl : b = l := e
    exact ⟨(Array.getElem?_eq_some_iff.1 hl).1, hlm, .inl (.inr rfl)⟩
  jj := ⟨rfl, hl⟩
theorem HoldsAt.dropT {C : Ctx} {T S2 : AS} {E E2 : Env} {a a2 : Act} {W3 : World} {D : RD} {pb : List Nat} (h2 : HoldsAt (rctx C D pb) S2 E2 a2 W3)
    (hT : ∀ s, (∀ j, (T.t s).mb j → j ∈ pb) ∧ (∀ j, ¬ (T.t s).mr j)) (hpb : (pb.all fun i => (S2.b i).isSome) = true) (hn : a.tmps.size = T.n) (htm : ∀ s, (T.t s).holds E (a.tmps.getD s undef)) (hM : E.M.le E2.M) (hβ : ∀ i, i ∈ pb → E.β i = D.β i) :
    HoldsAt (rctx C D pb) ⟨T.n, T.t, S2.b, S2.r, S2.g, S2.go⟩ E2 ⟨a.tmps, []⟩ W3 :=
  { h2 with
    wf := ⟨fun s j hj => by
        have := List.all_eq_true.1 hpb j ((hT s).1 j hj)
        exact Option.isSome_iff_exists.1 this, fun s j hj => absurd hj ((hT s).2 j), h2.wf.bb, h2.wf.br⟩
    marks := ⟨[], rfl, List.nodup_nil, by simp⟩
    size := hn
    tm := fun s => AV.holds_congr hM (fun j hj => by
        have hj' := (hT s).1 j hj
        rw [hβ j hj']
        exact h2.pin j (D.β j) (by simp [rctx, pinF, any_mem.2 hj'])) (fun j hj => absurd hj ((hT s).2 j)) (htm s) }
theorem HoldsAt.outOfRound {C : Ctx} {S S2 : AS} {E E2 : Env} {a : Act} {w W3 : World} {β : Nat → Nat} {pb : List Nat} (hJ : ∀ g h O M w, C.J g h O M w) (h : HoldsAt (pctx C β pb) S E a w) {l : Nat} {o : Bool → Obj} (hl0 : C.w0.heap.size ≤ l) (hlm : ∀ r, a.defers ≠ [] → markOf r ∈ a.defers → r ≠ l)
    (h2 : HoldsAt (rctx C ⟨w, E.M, Cl S E, β, l, o⟩ pb) S2 E2 ⟨a.tmps, []⟩ W3) (o' : Obj) :
    HoldsAt (pctx C β pb) S2 { E2 with O := fun _ => False } a (W3.putObj l o') := by
  have hOl : E2.O l := h2.jj.1
  have same : ∀ k, k ≠ l → (W3.putObj l o').heap[k]? = W3.heap[k]? := fun k hk => World.putObj_heap_other hk
  have keep : ∀ x : AV, ∀ v, x.holds E2 v → x.holds { E2 with O := fun _ => False } v := fun x v hv => AV.holds_congr (E := E2) (E' := { E2 with O := fun _ => False }) (Mem.le_refl _) (fun _ _ => rfl) (fun _ _ => rfl) hv
  have bor : ∀ k, w.heap.size ≤ k ∨ Cl S E k → C.w0.heap.size ≤ k ∨ C.bor k := fun k hk => by
    rcases hk with e | e
    · exact .inl (Nat.le_trans h.grown e)
    · exact (cl_cells h e).1
  exact {
    wf := h2.wf
    marks := by
      obtain ⟨ds, h1, h3, h4⟩ := h.marks
      refine ⟨ds, h1, h3, fun r hr => ?_⟩
      obtain ⟨h5, _, h6⟩ := h4 r hr
      have hmem : markOf r ∈ a.defers := by rw [h1]; exact List.mem_map_of_mem hr
      refine ⟨h5, fun h => h, ?_⟩
      rw [same r (hlm r (List.ne_nil_of_mem hmem) hmem), h2.frame r (Array.getElem?_eq_some_iff.1 h6).1 (fun e => ?_)]
      · exact h6
      · rcases e with e | e
        · obtain ⟨_, _, _, c, e', hc⟩ := cl_cells h e
          rw [h6] at hc; cases hc
        · exact hlm r (List.ne_nil_of_mem hmem) hmem e
    size := h2.size
    os := h2.os.trans h.os
    tape := h2.tape.trans h.tape
    output := h2.output.trans h.output
    grown := by rw [World.putObj_size]; exact Nat.le_trans h.grown h2.grown
    frame := fun k hk hk' => by
      have hkl : k ≠ l := by have : k < C.w0.heap.size := hk; omega
      have hk1 : k < w.heap.size := by have : C.w0.heap.size ≤ w.heap.size := h.grown; have : k < C.w0.heap.size := hk; omega
      rw [same k hkl, h2.frame k hk1 (fun e => ?_)]
      · exact h.frame k hk hk'
      · rcases e with e | e
        · rcases (cl_cells h e).1 with e | e
          · have : k < C.w0.heap.size := hk
            have : C.w0.heap.size ≤ k := e
            omega
          · exact hk' (C.hbo _ e)
        · exact hkl e
    m0 := Mem.le_trans h.m0 h2.m0
    mnew := fun b o v e => by
      rcases h2.mnew b o v e with e | e | e
      · exact h.mnew b o v e
      · exact .inr (.inl (Nat.le_trans h.grown e))
      · rcases e with e | e
        · rcases (cl_cells h e).1 with e | e
          · exact .inr (.inl e)
          · exact .inr (.inr (C.hbo _ e))
        · exact .inr (.inl (by rw [show b = l from e]; exact hl0))
    inW := inW_of_same h2.inW fun b ⟨o', v, e⟩ => same b (by rintro rfl; rw [(h2.olt _ hOl).2.1 o'] at e; cases e)
    tm := fun s => keep _ _ (h2.tm s)
    bx := fun i B hB => by
      obtain ⟨q1, q2, q3, vs, q4, q5⟩ := h2.bx i B hB
      exact ⟨bor _ q1, q2, fun h => h, vs, by rw [same _ (by intro e; rw [e] at q3; exact q3 hOl)]; exact q4, q5.imp fun x _ v hv => keep x v hv⟩
    inj := h2.inj
    rx := fun i R hR => by
      obtain ⟨⟨us, q1, q2⟩, q3⟩ := h2.rx i R hR
      refine ⟨⟨us, ownsRow_same q1 fun g hg => same g (by rintro rfl; exact (q3 _ hg).2.2.1 hOl), q2⟩, fun g hg => ?_⟩
      obtain ⟨q4, q5, q6, q7⟩ := q3 g hg
      exact ⟨bor _ q4, q5, fun h => h, q7⟩
    rinj := h2.rinj
    pin := h2.pin
    pinr := h2.pinr
    olt := fun b e => e.elim
    jj := hJ _ _ _ _ _ }
def JL (C : Ctx) (β : Nat → Nat) (pb : List Nat) (m : Nat) (I : Nat → AS) (Q : Exit → AS → Prop) (a0 : Act) (l : Nat) (rec : LoopState → Option Code → Loop) : JT := fun g b O M w =>
  ∃ E S', HoldsAt (pctx C β pb) S' E a0 w ∧ E.M = M ∧ (∀ k, ¬ E.O k) ∧ (∀ k, O k ↔ k = l ∨ Cl S' E k) ∧
    ((b = true ∧ g ≤ m ∧ S' = I g ∧ w.heap[l]? = some (.loop (rec .ready none))) ∨ (b = false ∧ ∃ c, ((c = .ret ∧ Q .ret S') ∨ ∃ id, c = .exit id ∧ Q (.exit id) S') ∧ w.heap[l]? = some (.loop (rec .done (some c)))))
theorem JL_frame {C : Ctx} {β : Nat → Nat} {pb : List Nat} {m : Nat} {I : Nat → AS} {Q : Exit → AS → Prop} {a0 : Act} {l : Nat} {rec : LoopState → Option Code → Loop} {W1 : World} (hJ : ∀ g h O M w, C.J g h O M w) (hmk : ∀ r, markOf r ∈ a0.defers → r < W1.heap.size) (hW : C.w0.heap.size ≤ W1.heap.size) : JFrame W1 (JL C β pb m I Q a0 l rec) := by
  rintro g b O M M' w w' ⟨E, S', h, rfl, hO, hcl, hrec⟩ hM hin hn hs g1 g2 g3 g4
  have keep : ∀ x : AV, ∀ v, x.holds E v → x.holds { E with M := M' } v := fun x v hv => AV.holds_congr (E := E) (E' := { E with M := M' }) hM (fun _ _ => rfl) (fun _ _ => rfl) hv
  have none : ∀ b, O b → (∀ o, E.M b o = none) → ∀ o, M' b o = none := fun b hb h2 o => by
    cases e : M' b o with
    | none => rfl
    | some v =>
      rcases hn _ _ _ e with e' | e'
      · rw [h2 o] at e'; cases e'
      · exact absurd hb e'.2
  have ob : ∀ i B, S'.b i = some B → O (E.β i) := fun i B hB => (hcl _).2 (.inr (.inl ⟨i, B, hB, rfl⟩))
  have orr : ∀ i R, S'.r i = .live R → ∀ g, (E.ν i).ownBlock = some g → O g := fun i R hR g hg => (hcl _).2 (.inr (.inr ⟨i, R, hR, hg⟩))
  refine ⟨{ E with M := M' }, S', ?_, rfl, hO, hcl, ?_⟩
  · exact {
      wf := h.wf
      marks := by
        obtain ⟨ds, h1, h2, h3⟩ := h.marks
        refine ⟨ds, h1, h2, fun r hr => ?_⟩
        obtain ⟨h4, h5, h6⟩ := h3 r hr
        exact ⟨h4, h5, by rw [hs r (.inl (hmk r (by rw [h1]; exact List.mem_map_of_mem hr)))]; exact h6⟩
      size := h.size
      os := g1.trans h.os
      tape := g2.trans h.tape
      output := g3.trans h.output
      grown := Nat.le_trans h.grown g4
      frame := fun k hk hk' => by
        rw [hs k (.inl (Nat.lt_of_lt_of_le hk hW))]; exact h.frame k hk hk'
      m0 := Mem.le_trans h.m0 hM
      mnew := fun b o v e => by
        rcases hn b o v e with e | e
        · exact h.mnew b o v e
        · exact .inr (.inl (Nat.le_trans hW e.1))
      inW := hin
      tm := fun s => keep _ _ (h.tm s)
      bx := fun i B hB => by
        obtain ⟨h1, h2, h3, vs, h4, h5⟩ := h.bx i B hB
        exact ⟨h1, none _ (ob i B hB) h2, h3, vs, by rw [hs _ (.inr (ob i B hB))]; exact h4, h5.imp fun x _ v hv => keep x v hv⟩
      inj := h.inj
      rx := fun i R hR => by
        obtain ⟨⟨us, h1, h2⟩, h3⟩ := h.rx i R hR
        refine ⟨⟨us, ownsRow_same h1 fun g hg => hs g (.inr (orr i R hR g hg)), h2.mono hM⟩, fun g hg => ?_⟩
        obtain ⟨h4, h5, h6, h7⟩ := h3 g hg
        exact ⟨h4, none _ (orr i R hR g hg) h5, h6, h7⟩
      rinj := h.rinj
      pin := h.pin
      pinr := h.pinr
      olt := fun b hb => absurd hb (hO b)
      jj := hJ _ _ _ _ _ }
  · have hl : w'.heap[l]? = w.heap[l]? := hs l (.inr ((hcl l).2 (.inl rfl)))
    rcases hrec with ⟨e1, e2, e3⟩ | ⟨e1, c, e2, e3⟩
    · exact .inl ⟨e1, e2, by rw [hl]; exact e3⟩
    · exact .inr ⟨e1, c, e2, by rw [hl]; exact e3⟩
theorem loop_not_cells {r : Loop} (c : Array Value) (e : TypeId) : (Obj.loop r) ≠ .cells c e (0, 0) := by intro h; cases h
theorem ok_rangeFuncX {P : Program} {C : Ctx} {S : AS} {Q : Exit → AS → Prop} {g : Operand} {ps : Array Tmp} {assign body : Code} {f : FuncId} [Ent P f] {caps : List SV} {n : Nat} {xs : Nat → List SV}
    (hit : Iter P f caps n xs) (hJ : ∀ g h O M w, C.J g h O M w) (hro : C.ro = none) (I : Nat → AS) (pb : List Nat) (hg : (I 0).ev g = .sv (cloS f caps)) (hI : ∀ k, (I k).n = (I 0).n ∧ (I k).t = (I 0).t)
    (hT : ∀ s, (∀ j, ((I 0).t s).mb j → j ∈ pb) ∧ ∀ j, ¬ ((I 0).t s).mr j) (hps : ∀ k, (xs k).length = ps.size) (hpn : ∀ p ∈ ps.toList, p < (I 0).n) (h0 : Weak S (I 0))
    (m : Nat) (round : ∀ k, k < n → k ≤ m → ∀ D : RD, C.w0.heap.size ≤ D.W.heap.size → Ok P (rctx C D pb) assign ((I k).inR ps.toList (xs k)) (AThen (fun S1 => S1.go = false ∧ Ok P (rctx C D pb) body S1.goOn (RP (k + 1 ≤ m) pb (I 0) (I (k + 1)) Q)) (fun _ _ => False)))
    (done : n ≤ m → Q .normal (I n)) : Ok P C (.rangeFunc g ps assign body) S Q := by
  intro a w hs
  obtain ⟨E', h1⟩ := h0 C a w hs
  obtain ⟨cvs, hgv, hcvs⟩ : (cloS f caps).h E'.M (a.eval g) := by have := h1.ev g; rw [hg] at this; exact this
  rw [hro]
  refine wpIn_rangeFunc ?_
  intro fn _
  obtain ⟨rec, hrec⟩ : ∃ rec : LoopState → Option Code → Loop, rec = fun st pe => { state := st, pending := pe, fn, tmps := a.tmps, params := ps, assign, body, defers := w.heap.size } := ⟨_, rfl⟩
  obtain ⟨W1, hW1⟩ : ∃ W1, (w.alloc (.deferred (some []))).alloc (.loop (rec .ready none)) = W1 := ⟨_, rfl⟩
  have hL1 : W1.heap[w.heap.size + 1]? = some (.loop (rec .ready none)) := by
    rw [← hW1]; have := World.alloc_heap_new (w.alloc (.deferred (some []))) (.loop (rec .ready none)); rwa [World.size_alloc] at this
  have hK1 : W1.heap[w.heap.size]? = some (.deferred (some [])) := by
    rw [← hW1]; exact (Below.heap_alloc _ _ _ (by simp)).trans (World.alloc_heap_new w _)
  have hb1 : Below w.heap.size w W1 := by rw [← hW1]; exact (((Below.refl _ w).alloc (Nat.le_refl _) _).alloc (by simp) _)
  have hsz : W1.heap.size = w.heap.size + 2 := by rw [← hW1]; simp
  have h2 := h1.grow (M' := E'.M) (Mem.le_refl _) (fun _ _ _ e => .inl e) (inW_of_same h1.inW fun b ⟨o, v, e⟩ => hb1.block b (inW_lt h1.inW e)) hb1
  obtain ⟨a0, ha0⟩ : ∃ a0 : Act, a0 = { a with defers := markOf w.heap.size :: a.defers } := ⟨_, rfl⟩
  obtain ⟨ds, d1, d2, d3⟩ := h1.marks
  have dlt : ∀ r ∈ ds, r < w.heap.size := fun r hr => (Array.getElem?_eq_some_iff.1 (d3 r hr).2.2).1
  have markInj : ∀ r r', markOf r = markOf r' → r = r' := fun r r' e => by
    have := congrArg Deferred.target e
    simpa [markOf] using this
  have hmk : ∀ r, markOf r ∈ a0.defers → r < w.heap.size + 1 := fun r hr => by
    rw [ha0] at hr
    rcases List.mem_cons.1 hr with e | e
    · rw [markInj _ _ e]; omega
    · rw [d1] at e
      obtain ⟨r', hr', e⟩ := List.mem_map.1 e
      rw [← markInj _ _ e]
      have := dlt r' hr'; omega
  have h3 : HoldsAt C (I 0) { E' with O := fun _ => False } a0 W1 :=
    { h2 with
      marks := by
        refine ⟨w.heap.size :: ds, by rw [ha0, List.map_cons, d1], List.nodup_cons.2 ⟨fun hm => by have := dlt _ hm; omega, d2⟩, fun r hr => ?_⟩
        rcases List.mem_cons.1 hr with rfl | hr
        · exact ⟨h1.grown, fun h => h, hK1⟩
        · exact ⟨(d3 r hr).1, fun h => h, by rw [hb1.block r (dlt r hr)]; exact (d3 r hr).2.2⟩
      size := by rw [ha0]; exact h2.size
      tm := fun s => by rw [ha0]; exact AV.holds_congr (E := E') (E' := { E' with O := fun _ => False }) (Mem.le_refl _) (fun _ _ => rfl) (fun _ _ => rfl) (h2.tm s)
      bx := fun i B hB => by
        obtain ⟨q1, q2, q3, vs, q4, q5⟩ := h2.bx i B hB
        exact ⟨q1, q2, fun h => h, vs, q4, q5.imp fun x _ v hv => AV.holds_congr (E := { E' with M := E'.M }) (E' := { E' with O := fun _ => False }) (Mem.le_refl _) (fun _ _ => rfl) (fun _ _ => rfl) hv⟩
      rx := fun i R hR => by
        obtain ⟨q1, q2⟩ := h2.rx i R hR
        exact ⟨q1, fun g hg => ⟨(q2 g hg).1, (q2 g hg).2.1, fun h => h, (q2 g hg).2.2.2⟩⟩
      olt := fun b e => e.elim
      jj := hJ _ _ _ _ _ }
  have hpinβ : ∀ i b, C.pin i = some b → E'.β i = b := h1.pin
  have h4 := h3.pinned pb
  have hl0 : C.w0.heap.size ≤ w.heap.size + 1 := Nat.le_succ_of_le h1.grown
  refine ⟨w.heap.size + 1, [markOf w.heap.size], W1, { target := .fn (.func f) ⟨cvs⟩, args := #[.func (.yield (w.heap.size + 1)) #[] #[]] }, W1, f,
    ⟨.func (.yield (w.heap.size + 1)) #[] #[] :: cvs⟩, W1, ?_, ?_, fun _ _ => trivial, ?_, fun h => by simp at h, ?_⟩
  · rw [← hW1, hrec]; exact run_enterLoop_outer _ _ _ _ _
  · simp only [resolve, hgv]
    simp [Deferred.ofValue, Act.eval]
  · have := Ent.run (P := P) (f := f) (#[.func (.yield (w.heap.size + 1)) #[] #[]] ++ ⟨cvs⟩) W1
    have e : (#[.func (.yield (w.heap.size + 1)) #[] #[]] ++ ⟨cvs⟩ : Array Value) = ⟨.func (.yield (w.heap.size + 1)) #[] #[] :: cvs⟩ := by apply Array.ext'; simp
    rw [e] at this
    simp [invoke, e, this]
  have hinW1 : E'.M.inW W1 := h3.inW
  refine fr_calls ((hit (JL C E'.β pb m I Q a0 (w.heap.size + 1) rec) (fun k => k = w.heap.size + 1 ∨ Cl (I 0) { E' with O := fun _ => False } k) E'.M W1 (w.heap.size + 1) cvs hinW1 hcvs
    (JL_frame hJ (fun r hr => by have := hmk r hr; omega) (by have := h3.grown; exact this)) ?_ ?_ ?_).mono ?_)
  ·
    rintro k O M W args hk ⟨E, S', h, rfl, hO, hcl, hst⟩ _ hin hargs
    rcases hst with ⟨_, hkm, rfl, hl⟩ | ⟨e, _⟩
    case inr => cases e
    have hlM : ∀ o, E.M (w.heap.size + 1) o = none := fun o => by
      cases e : E.M (w.heap.size + 1) o with
      | none => rfl
      | some v => exact ((hin _ _ _ e).no (by simp [World.cell?, hl]) (fun es ck q => by rw [hl] at q; cases q) (fun c T q => by rw [hl] at q; cases q)).elim
    have hlen : args.length = ps.size := by rw [← hargs.length, hps k]
    have hy := run_yield (P := P) (args := ⟨args⟩) hl (by rw [hrec]; simpa using hlen)
    rw [hrec] at hy
    refine ⟨fn, _, assign, body, hy, ?_⟩
    simp only
    clear hy
    let o : Bool → Obj := fun b => bif b then .loop (rec .busy none) else .loop (rec .ready none)
    have hin1 := h.intoRound (l := w.heap.size + 1) (o := o) hl (fun b c e => by cases b <;> exact loop_not_cells c e) hlM
    have ha0t : a0.tmps = a.tmps := by rw [ha0]
    have hin2 := setPs_holds ps.toList (xs k) _ args a0.tmps hin1 hargs (by rw [hps k]; simp) (by
      intro p hp
      show p < (I k).n
      rw [(hI k).1]; exact hpn p hp)
    have htm : (ps.toList.zip args).foldl (fun t (p, v) => t.setIfInBounds p v) a0.tmps = (ps.zip ⟨args⟩).foldl (fun tmps (t, a) => tmps.setIfInBounds t a) a.tmps := by
      rw [ha0t, ← Array.foldl_toList, Array.toList_zip]
    rw [htm] at hin2
    have hr := round k hk hkm ⟨W, E.M, Cl (I k) E, E'.β, w.heap.size + 1, o⟩ h.grown _ W ⟨_, hin2⟩
    refine roundIn_of_wpIn (F := Fr none) trivial (wpIn_mono hr ?_)
    rintro e a1 w1 ⟨S1, q, E1, hh1⟩
    cases e with
    | normal =>
      obtain ⟨hgo, hbody⟩ := q
      obtain ⟨hOl, hl1⟩ := hh1.jj
      rw [hgo] at hl1
      refine ⟨_, run_beginRound hl1 (by rw [hrec]), ?_⟩
      have hlt1 := (Array.getElem?_eq_some_iff.1 hl1).1
      have hb2 : Obj.loop { rec .ready none with state := .busy } = o true := by simp only [o, hrec]; rfl
      have hh2 := hh1.putLoop (l := w.heap.size + 1) (o := o true) hOl (.inr (.inr rfl)) (go := true) ⟨hOl, World.putObj_heap_same hlt1⟩
      rw [hb2]
      refine wpIn_mono (hbody a1 _ ⟨_, hh2⟩) ?_
      have hlm : ∀ r, a0.defers ≠ [] → markOf r ∈ a0.defers → r ≠ w.heap.size + 1 := fun r _ hr => by have := hmk r hr; omega
      have out : ∀ (S2 : AS) (E2 : Env) (a2 : Act) (W3 : World), HoldsAt (rctx C ⟨W, E.M, Cl (I k) E, E'.β, w.heap.size + 1, o⟩ pb) S2 E2 a2 W3 → S2.go = true → (pb.all fun i => (S2.b i).isSome) = true →
          HoldsAt (rctx C ⟨W, E.M, Cl (I k) E, E'.β, w.heap.size + 1, o⟩ pb) ⟨(I 0).n, (I 0).t, S2.b, S2.r, S2.g, true⟩ E2 ⟨a0.tmps, []⟩ W3 := by
        intro S2 E2 a2 W3 hh hgo2 hpb
        have := hh.dropT (T := I 0) (E := E) (a := a0) hT hpb (by rw [h.size, (hI k).1]) (fun s => by have := h.tm s; rw [(hI k).2] at this; exact this) hh.m0 (fun i hi => h.pin i (E'.β i) (by simp [pctx, pinF, any_mem.2 hi]))
        rw [hgo2] at this
        exact this
      have fin : ∀ (S2 : AS) (E2 : Env) (W3 : World) (jump : Option Code), HoldsAt (rctx C ⟨W, E.M, Cl (I k) E, E'.β, w.heap.size + 1, o⟩ pb) S2 E2 ⟨a0.tmps, []⟩ W3 → S2.go = true →
          (Instr.endRound (w.heap.size + 1) jump).run P W3 = .ok (.bool jump.isNone) (W3.putObj (w.heap.size + 1) (.loop (rec (if jump.isNone then .ready else .done) jump))) ∧
          HoldsAt (pctx C E'.β pb) S2 { E2 with O := fun _ => False } a0 (W3.putObj (w.heap.size + 1) (.loop (rec (if jump.isNone then .ready else .done) jump))) ∧
          (W3.putObj (w.heap.size + 1) (.loop (rec (if jump.isNone then .ready else .done) jump))).heap[w.heap.size + 1]? = some (.loop (rec (if jump.isNone then .ready else .done) jump)) ∧
          Swap O E.M W (fun b => b = w.heap.size + 1 ∨ Cl S2 { E2 with O := fun _ => False } b) E2.M (W3.putObj (w.heap.size + 1) (.loop (rec (if jump.isNone then .ready else .done) jump))) := by
        intro S2 E2 W3 jump hh hgo2
        obtain ⟨hOl3, hl3⟩ := hh.jj
        rw [hgo2] at hl3
        have hlt3 := (Array.getElem?_eq_some_iff.1 hl3).1
        have hrun := run_endRound (P := P) jump hl3
        have hout := h.outOfRound hJ (l := w.heap.size + 1) (o := o) hl0 hlm hh (.loop (rec (if jump.isNone then .ready else .done) jump))
        refine ⟨?_, hout, World.putObj_heap_same hlt3, ?_⟩
        · rw [hrun, hrec]
        · refine ⟨hh.m0, hout.inW, fun b o v e => ?_, fun b hb => ?_, fun k' hk' hnO => ?_, hh.os, hh.tape, hh.output, by rw [World.putObj_size]; exact hh.grown⟩
          · rcases hh.mnew b o v e with e | e | e
            · exact .inl e
            · exact .inr (.inl e)
            · exact .inr (.inr ((hcl b).2 (e.symm)))
          · rw [World.putObj_size]
            rcases hb with hb | hb
            · subst hb
              exact ⟨.inl ((hcl _).2 (.inl rfl)), hlt3, (hh.olt _ hOl3).2.1⟩
            · obtain ⟨q1, q2, q3, c, e', q4⟩ := cl_cells hh (show Cl S2 E2 b from hb)
              refine ⟨?_, (Array.getElem?_eq_some_iff.1 q4).1, q2⟩
              rcases q1 with q1 | q1
              · exact .inr q1
              · exact .inl ((hcl b).2 (.inr q1))
          · have hne : k' ≠ w.heap.size + 1 := by rintro rfl; exact hnO ((hcl _).2 (.inl rfl))
            rw [World.putObj_heap_other hne]
            exact hh.frame k' hk' (fun e => hnO ((hcl k').2 e.symm))
      rintro e a2 W3 ⟨S2, hp, E2, hh3⟩
      cases e with
      | normal =>
        obtain ⟨p0, p1, p2, p3⟩ := hp
        obtain ⟨E3, hh4⟩ := p3 _ _ _ ⟨_, out S2 E2 a2 W3 hh3 p1 p2⟩
        have hgo3 : (I (k + 1)).go = true ∨ (I (k + 1)).go = false := by cases (I (k + 1)).go <;> simp
        have hgo4 : (I (k + 1)).go = true := by
          rcases hgo3 with e | e
          · exact e
          · exfalso
            have h5 := hh4.jj.2
            have h6 := (out S2 E2 a2 W3 hh3 p1 p2).jj.2
            rw [e] at h5
            rw [show (AS.mk (I 0).n (I 0).t S2.b S2.r S2.g true).go = true from rfl] at h6
            rw [h5] at h6
            simp [o, hrec] at h6
        obtain ⟨f1, f2, f3, f4⟩ := fin _ E3 W3 none hh4 hgo4
        exact ⟨_, _, f1, true, _, _, rfl, ⟨_, _, f2, rfl, fun _ h => h, fun _ => Iff.rfl, .inl ⟨rfl, p0, rfl, f3⟩⟩, f4⟩
      | ret =>
        obtain ⟨p1, p2, p3⟩ := hp
        obtain ⟨f1, f2, f3, f4⟩ := fin _ E2 W3 (some .ret) (out S2 E2 a2 W3 hh3 p1 p2) rfl
        exact ⟨_, _, f1, false, _, _, rfl, ⟨_, _, f2, rfl, fun _ h => h, fun _ => Iff.rfl, .inr ⟨rfl, .ret, .inl ⟨rfl, p3⟩, f3⟩⟩, f4⟩
      | exit id =>
        obtain ⟨p1, p2, p3⟩ := hp
        obtain ⟨f1, f2, f3, f4⟩ := fin _ E2 W3 (some (.exit id)) (out S2 E2 a2 W3 hh3 p1 p2) rfl
        exact ⟨_, _, f1, false, _, _, rfl, ⟨_, _, f2, rfl, fun _ h => h, fun _ => Iff.rfl, .inr ⟨rfl, .exit id, .inr ⟨id, rfl, p3⟩, f3⟩⟩, f4⟩
      | goto t => exact hp.elim
      | panic ch => exact hp.elim
      | outgrown => exact hp.elim
    | _ => exact q.elim
  ·
    rintro b (rfl | hb)
    · refine ⟨by omega, fun o => ?_⟩
      cases e : E'.M (w.heap.size + 1) o with
      | none => rfl
      | some v => exact ((hinW1 _ _ _ e).no (by simp [World.cell?, hL1]) (fun es ck q => by rw [hL1] at q; cases q) (fun c T q => by rw [hL1] at q; cases q)).elim
    · obtain ⟨_, q2, _, c, e, q3⟩ := cl_cells h4 hb
      exact ⟨(Array.getElem?_eq_some_iff.1 q3).1, q2⟩
  · exact ⟨_, _, h4, rfl, fun _ h => h, fun _ => Iff.rfl, .inl ⟨rfl, Nat.zero_le _, rfl, hL1⟩⟩
  ·
    rintro e w' ⟨v, k, b, O', M', rfl, ⟨E, S', h, rfl, hO, hcl, hst⟩, hbn⟩
    have hnl : ∀ o', HoldsAt C S' E a0 (w'.putObj (w.heap.size + 1) o') := fun o' => by
      have hh := h.unpinned hpinβ
      have hlr : ∃ r, w'.heap[w.heap.size + 1]? = some (.loop r) := by
        rcases hst with ⟨_, _, _, h⟩ | ⟨_, c, _, h⟩ <;> exact ⟨_, h⟩
      obtain ⟨r, hlr⟩ := hlr
      have hlM : ∀ o, E.M (w.heap.size + 1) o = none := fun o => by
        cases e : E.M (w.heap.size + 1) o with
        | none => rfl
        | some v => exact ((h.inW _ _ _ e).no (by simp [World.cell?, hlr]) (fun es ck q => by rw [hlr] at q; cases q) (fun c T q => by rw [hlr] at q; cases q)).elim
      have hncl : ∀ b, Cl S' E b → b ≠ w.heap.size + 1 := by
        rintro b hb rfl
        obtain ⟨_, _, _, c, e, q⟩ := cl_cells hh hb
        rw [hlr] at q; cases q
      have same : ∀ k, k ≠ w.heap.size + 1 → (w'.putObj (w.heap.size + 1) o').heap[k]? = w'.heap[k]? := fun k hk => World.putObj_heap_other hk
      exact { hh with
        marks := by
          obtain ⟨ds', q1, q2, q3⟩ := hh.marks
          refine ⟨ds', q1, q2, fun r hr => ?_⟩
          obtain ⟨q4, q5, q6⟩ := q3 r hr
          exact ⟨q4, q5, by rw [same r (by have := hmk r (by rw [q1]; exact List.mem_map_of_mem hr); omega)]; exact q6⟩
        grown := by rw [World.putObj_size]; exact hh.grown
        frame := fun k hk hk' => by rw [same k (by omega)]; exact hh.frame k hk hk'
        inW := inW_of_same hh.inW fun b ⟨o, v, e⟩ => same b (by rintro rfl; rw [hlM o] at e; cases e)
        bx := fun i B hB => by
          obtain ⟨q1, q2, q3, vs, q4, q5⟩ := hh.bx i B hB
          exact ⟨q1, q2, q3, vs, by rw [same _ (hncl _ (.inl ⟨i, B, hB, rfl⟩))]; exact q4, q5⟩
        rx := fun i R hR => by
          obtain ⟨⟨us, q1, q2⟩, q3⟩ := hh.rx i R hR
          exact ⟨⟨us, ownsRow_same q1 fun g hg => same g (hncl g (.inr ⟨i, R, hR, hg⟩)), q2⟩, q3⟩
        olt := fun b hb => absurd hb (hO b)
        jj := hJ _ _ _ _ _ }
    rw [show ({ a with defers := [markOf w.heap.size] ++ a.defers } : Act) = a0 from by rw [ha0]; rfl]
    rcases hst with ⟨hb, hkm, rfl, hl⟩ | ⟨hb, c, hc, hl⟩
    · have hk := hbn hb
      subst hk
      refine ⟨none, _, by have := run_endLoop (P := P) hl (by rw [hrec]; simp); rw [hrec] at this; exact this, _, done hkm, _, hnl _⟩
    · refine ⟨some c, _, by have := run_endLoop (P := P) hl (by rw [hrec]; simp); rw [hrec] at this; exact this, ?_⟩
      rcases hc with ⟨rfl, hq⟩ | ⟨id, rfl, hq⟩
      · exact wpIn_ret ⟨_, hq, _, hnl _⟩
      · exact wpIn_exit ⟨_, hq, _, hnl _⟩
theorem ok_rangeFunc {P : Program} {C : Ctx} {S : AS} {Q : Exit → AS → Prop} {g : Operand} {ps : Array Tmp} {assign body : Code} {f : FuncId} [Ent P f] {caps : List SV} {n : Nat} {xs : Nat → List SV}
    (hit : Iter P f caps n xs) (hJ : ∀ g h O M w, C.J g h O M w) (hro : C.ro = none) (I : Nat → AS) (pb : List Nat) (hg : (I 0).ev g = .sv (cloS f caps)) (hI : ∀ k, (I k).n = (I 0).n ∧ (I k).t = (I 0).t)
    (hT : ∀ s, (∀ j, ((I 0).t s).mb j → j ∈ pb) ∧ ∀ j, ¬ ((I 0).t s).mr j) (hps : ∀ k, (xs k).length = ps.size) (hpn : ∀ p ∈ ps.toList, p < (I 0).n) (h0 : Weak S (I 0))
    (round : ∀ k, k < n → ∀ D : RD, C.w0.heap.size ≤ D.W.heap.size → Ok P (rctx C D pb) assign ((I k).inR ps.toList (xs k)) (AThen (fun S1 => S1.go = false ∧ Ok P (rctx C D pb) body S1.goOn (RP True pb (I 0) (I (k + 1)) Q)) (fun _ _ => False)))
    (done : Q .normal (I n)) : Ok P C (.rangeFunc g ps assign body) S Q :=
  ok_rangeFuncX hit hJ hro I pb hg hI hT hps hpn h0 n (fun k hk _ D hD => ok_mono (round k hk D hD) fun e S1 q => by
    cases e with
    | normal => exact ⟨q.1, ok_mono q.2 fun e' S2 q' => by cases e' <;> first | exact ⟨hk, q'.2⟩ | exact q'⟩
    | _ => exact q) (fun _ => done)
end Go.Fw
namespace Go.Fw
open Go.RowKit
theorem SVIs.of_eq {l l' : List SV} (h : l = l') : SVIs l l' := by subst h; exact SVIs.refl _
theorem cu64 {a : Nat} : IntKind.u64.wrap (a : Int) = ((a % 18446744073709551616 : Nat) : Int) := by
  simp [IntKind.wrap, IntKind.signed, IntKind.bits]
section steps
variable {P : Program} {C : Ctx} {ops : Array Oper} {S : AS} {nd : Bool} {K : List Ac → AS → Prop} {rest : List Oper} {acc : List Ac}
variable {gd : Option (Nat × Bool)} {rg : List Nat} {d : Nat} {ty : TypeId} {pos : String} {aft : Array Edge} {x y z : Operand} {T U E0 E1 : TypeId}
theorem RT.nilSl {R : AS → Prop} (hg : Gd ops S gd rg) {n : Nat} [tS : TySl P T E0 n] {s : SV} {rows : List (List SV)} [hs : Slc s n rows] {n' c' : Nat} (hx : S.ev x = .sv s) (hd : d < S.n)
    (next : ∀ b : Bool, (b = true → rows = []) → RunT P C ops true (fun _ S => R S) rest [] (S.set d (.sv (.v (.bool b))))) : RunT P C ops true (fun _ S => R S) (⟨some d, .binOp .eql T x (.const (.slice none n' c')) U, ty, pos, aft, gd⟩ :: rest) acc S := by
  refine .inr ⟨rfl, fun S' => ∃ b : Bool, (b = true → rows = []) ∧ S' = S.set d (.sv (.v (.bool b))), ?_, ?_⟩
  · rintro i a w L Q ho ⟨E, h⟩ hL
    refine wpOp_of (C := C) ho (hg.wanted h (fun _ _ => rfl) rfl) ?_
    have h1 := h.ev x
    rw [hx] at h1
    obtain ⟨ad, n0, c0, hv, hnil⟩ : ∃ ad n0 c0, a.eval x = .slice ad n0 c0 ∧ (ad.isNone = true → rows = []) := by
      rcases hs.h _ _ h1 with ⟨_, e, e2⟩ | ⟨b, o, c, e, _⟩
      · exact ⟨_, _, _, e, fun _ => e2⟩
      · exact ⟨_, _, _, e, fun h => by cases h⟩
    have hrun : (execOp a.eval ⟨some d, .binOp .eql T x (.const (.slice none n' c')) U, ty, pos, aft, gd⟩).run P w = .ok (.value (.bool ad.isNone)) w := by
      have e1 := Lib.run_eql_slice_nil (P := P) w T E0 ad n0 c0 n' c' tS.u
      have e2 : (eqGuard .eql T x (.const (.slice none n' c')) (.slice ad n0 c0) (.slice none n' c')).run P w = .ok () w := by simp [eqGuard]
      have e0 : a.eval (.const (.slice none n' c')) = .slice none n' c' := rfl
      simp only [execOp, hv, e0]
      simp only [Sem.run_bind, e2, e1, Result.andThen_ok, Sem.run_pure]
    exact wpIn_of (C := C) (by intro c h; cases h) hrun (hL _ _ _ ⟨_, hnil, rfl⟩ ⟨E, h.put (x := .sv (.v (.bool ad.isNone))) rfl hd nomb⟩)
  · rintro S' ⟨b, hb, rfl⟩
    exact next b hb
theorem RT.field (hg : Gd ops S gd rg) {f off : Nat} [hf : Fld P T f off U] [tV : TyV P U] {cs : List SV} {s : SV} (hx : S.ev x = .sv (.agg cs)) (hs : cs[off]? = some s) (hd : d < S.n)
    (next : RunT P C ops nd K rest (⟨rg ++ okeys x, [], [], ⟨some (d, .sv s), [], []⟩⟩ :: acc) (S.set d (.sv s))) : RunT P C ops nd K (⟨some d, .field T x f, ty, pos, aft, gd⟩ :: rest) acc S :=
  RT.value hg (okeys x) [] [] (.sv s) hd (by intro c h; cases h) (fun S' ht _ _ E a w h => by
    have h1 := h.ev x
    rw [ev_congr (fun _ h => h) ht, hx] at h1
    obtain ⟨vs, hv, hall⟩ := h1
    obtain ⟨u, hu, hs⟩ := hall.get hs
    refine ⟨u, ?_, hs, nomb⟩
    have hF := hf.h
    cases hT : P.underlying T with
    | none => rw [hT] at hF; cases hF
    | some ut =>
      rw [hT] at hF
      cases ut with
      | struct fs =>
        simp only at hF
        cases hFf : fs[f]? with
        | none => rw [hFf] at hF; cases hF
        | some F =>
          rw [hFf] at hF
          simp only [Option.map_some, Option.some.injEq, Prod.mk.injEq] at hF
          obtain ⟨q1, q2⟩ := hF
          simp [execOp, Instr.field, underlying, hT, hFf, hv, asAgg, part, q1, q2, tV.isAgg, hu]
      | _ => cases hF) next
end steps
theorem weak_nil {S : AS} (s k : Nat) (E0 : TypeId) (sz : Nat) (hs : S.t s = .sv (.v (.slice none 0 0))) (hk : S.r k = .un) (hk1 : k < 1000) : Weak S ((AS.setRs [(k, .live ⟨E0, sz, 0, []⟩)] S).set s (.row k)) := by
  rintro C a w ⟨E, h⟩
  have h1 := h.newRow hk hk1 [] none (.inl ⟨rfl, rfl⟩) (R' := ⟨E0, sz, 0, []⟩) (World.ownsRow_nil w 0 E0 sz) (vs' := []) trivial (.inl rfl) (grown_refl w none)
  refine ⟨_, { h1 with wf := ?_, tm := fun t => ?_ }⟩
  · refine ⟨fun t j hj => ?_, fun t j hj => ?_, h1.wf.bb, h1.wf.br⟩
    · by_cases e : t = s
      · subst e; rw [AS.set_same] at hj; exact hj.elim
      · rw [AS.set_other _ _ _ _ e] at hj; exact h1.wf.tb t j hj
    · by_cases e : t = s
      · subst e; rw [AS.set_same] at hj; cases hj
        show (AS.setR S k _).r k ≠ _
        rw [AS.setR_same]; simp
      · rw [AS.set_other _ _ _ _ e] at hj; exact h1.wf.tr t j hj
  · by_cases e : t = s
    · subst e
      rw [AS.set_same]
      have := h.tm t
      rw [hs] at this
      show a.tmps.getD t undef = if k = k then _ else _
      rw [if_pos rfl]; exact this
    · rw [AS.set_other _ _ _ _ e]; exact h1.tm t
theorem weak_t {S : AS} (s : Nat) (X : SV) (hx : ∀ E v, (S.t s).holds E v → X.h E.M v) : Weak S (S.set s (.sv X)) := by
  rintro C a w ⟨E, h⟩
  refine ⟨E, { h with wf := ?_, tm := fun t => ?_ }⟩
  · refine ⟨fun t j hj => ?_, fun t j hj => ?_, h.wf.bb, h.wf.br⟩
    · by_cases e : t = s
      · subst e; rw [AS.set_same] at hj; exact hj.elim
      · rw [AS.set_other _ _ _ _ e] at hj; exact h.wf.tb t j hj
    · by_cases e : t = s
      · subst e; rw [AS.set_same] at hj; exact hj.elim
      · rw [AS.set_other _ _ _ _ e] at hj; exact h.wf.tr t j hj
  · by_cases e : t = s
    · subst e; rw [AS.set_same]; exact hx E _ (h.tm t)
    · rw [AS.set_other _ _ _ _ e]; exact h.tm t
theorem clo_sv {g : FuncId} {caps : List SV} {E : Env} {v : Value} (h : (AV.clo g (caps.map Cap.val)).holds E v) : (cloS g caps).h E.M v := by
  obtain ⟨vs, rfl, h⟩ := h
  refine ⟨vs, rfl, ?_⟩
  have key : ∀ (l : List SV) (vs : List Value), AllC E (l.map Cap.val) vs → SV.All E.M l vs := by
    intro l
    induction l with
    | nil => intro vs h; cases vs with | nil => trivial | cons _ _ => exact h.elim
    | cons c l ih =>
      intro vs h
      cases vs with
      | nil => exact h.elim
      | cons x xs => exact ⟨h.1, ih xs h.2⟩
  exact key caps vs h
def AV.rt (pb : List Nat) : AV → Bool
  | .sv _ => true
  | .ptr i _ => pb.any (Nat.beq i)
  | .bsl i _ _ _ => pb.any (Nat.beq i)
  | .clo _ js => js.all fun c => match c with | .box i => pb.any (Nat.beq i) | .val _ => true
  | _ => false
theorem rt_ok {pb : List Nat} {x : AV} (h : x.rt pb = true) : (∀ j, x.mb j → j ∈ pb) ∧ ∀ j, ¬ x.mr j := by
  cases x <;> first | cases h | skip
  · exact ⟨fun j e => e.elim, fun j e => e⟩
  · exact ⟨fun j e => by cases e; exact any_mem.1 h, fun j e => e⟩
  · exact ⟨fun j e => by cases e; exact any_mem.1 h, fun j e => e⟩
  · refine ⟨fun j e => ?_, fun j e => e⟩
    exact any_mem.1 (List.all_eq_true.1 h _ e)
theorem rangeT {n : Nat} {ts : List (Nat × AV)} {bs : List (Nat × Box)} {rs : List (Nat × Row)} {pb : List Nat} (h : (ts.all fun p => p.2.rt pb) = true) (s : Nat) : (∀ j, ((AS.mkL n ts bs rs).t s).mb j → j ∈ pb) ∧ ∀ j, ¬ ((AS.mkL n ts bs rs).t s).mr j := by
  show (∀ j, (lkT ts s).mb j → j ∈ pb) ∧ ∀ j, ¬ (lkT ts s).mr j
  rcases lkT_mem (ts := ts) (s := s) with e | ⟨p, hp, _, e⟩
  · rw [e]; exact ⟨fun j e => e.elim, fun j e => e⟩
  · rw [e]; exact rt_ok (List.all_eq_true.1 h p hp)
theorem rangeP {ps : List Nat} {n : Nat} (h : (ps.all fun p => Nat.ble (p + 1) n) = true) : ∀ p ∈ ps, p < n := fun p hp => Nat.le_of_ble_eq_true (List.all_eq_true.1 h p hp)
end Go.Fw
namespace Go.Fw
open Go.RowKit
inductive Src (S : AS) (E0 : TypeId) (n : Nat) : Operand → List (Nat × RSt) → List Nat → Nat → List SV → Prop
  | nil {x : Operand} (h : S.ev x = .sv (.v (.slice none 0 0))) : Src S E0 n x [] [] 0 []
  | row {x : Operand} {i m : Nat} {cs : List SV} (h : S.ev x = .row i) (hR : S.r i = .live ⟨E0, n, m, cs⟩) : Src S E0 n x [(i, .dead)] [i] m cs
theorem frz_id {i : Nat} {X : SV} {x : AV} (h : ¬ x.mr i) : x.frz i X = x := by
  cases x with
  | row k => simp only [AV.frz]; rw [beq_ne (fun e => h e.symm)]; rfl
  | rptr k o => simp only [AV.frz]; rw [beq_ne (fun e => h e.symm)]; rfl
  | rsl k o l => simp only [AV.frz]; rw [beq_ne (fun e => h e.symm)]; rfl
  | cmp t js =>
    simp only [AV.frz]
    have : js.any (Fc.isRow i) = false := by
      cases e : js.any (Fc.isRow i) with
      | false => rfl
      | true =>
        obtain ⟨c, hc, hi⟩ := List.any_eq_true.1 e
        cases c with
        | row j => have hi : Nat.beq j i = true := hi; obtain rfl := Nat.eq_of_beq_eq_true hi; exact absurd hc h
        | _ => cases hi
    rw [this]; rfl
  | _ => rfl
section steps
variable {P : Program} {C : Ctx} {ops : Array Oper} {S : AS} {nd : Bool} {K : List Ac → AS → Prop} {rest : List Oper} {acc : List Ac}
variable {gd : Option (Nat × Bool)} {rg : List Nat} {d : Nat} {ty : TypeId} {pos : String} {aft : Array Edge} {x y z : Operand} {T U E0 : TypeId}
theorem Src.val {E : Env} {a : Act} {w : World} {S' : AS} {n m : Nat} {old : List (Nat × RSt)} {rr : List Nat} {cs : List SV} (h : HoldsAt C S' E a w) (hx : Src S E0 n x old rr m cs) (ht : ∀ s ∈ okeys x, S'.t s = S.t s) (hr : ∀ i ∈ rr, S'.r i = S.r i) :
    (∃ vs, w.ownsRow 0 E0 n (a.eval x) m vs ∧ SV.All E.M cs vs) ∧ ((old = [] ∧ (a.eval x).ownBlock = none) ∨ ∃ i R, old = [(i, .dead)] ∧ S'.r i = .live R ∧ (a.eval x).ownBlock = (E.ν i).ownBlock) := by
  cases hx with
  | nil hx =>
    have h1 : a.eval x = .slice none 0 0 := by have h1 := h.ev x; rw [ev_congr (fun _ h => h) ht, hx] at h1; exact h1
    rw [h1]
    exact ⟨⟨[], World.ownsRow_nil _ _ _ _, trivial⟩, .inl ⟨rfl, rfl⟩⟩
  | @row i _ _ hx hR =>
    have h1 : a.eval x = E.ν i := by have h1 := h.ev x; rw [ev_congr (fun _ h => h) ht, hx] at h1; exact h1
    have hR' := (hr i (by simp)).trans hR
    rw [h1]
    obtain ⟨⟨vs, h2, h3⟩, _⟩ := h.rx i _ hR'
    exact ⟨⟨vs, h2, h3⟩, .inr ⟨i, _, rfl, hR', rfl⟩⟩
theorem RT.appendI (hg : Gd ops S gd rg) {n by_ : Nat} {zv : Value} [tS : TySl P T E0 n] [tE : TyEl P E0 n by_ zv] {old : List (Nat × RSt)} {rr : List Nat} {m : Nat} {cs : List SV} {s : SV} {rows : List (List SV)} [hs : Slc s n rows]
    (hx : Src S E0 n x old rr m cs) (hy : S.ev y = .sv s) (hd : d < S.n) (hdr : S.r d = .un) (hd1 : d < 1000) (hroom : (m + rows.length) * by_ ≤ 140737488355328) (hroom2 : m + rows.length ≤ 140737488355328)
    (X : SV) {rows' : List (List SV)} (hX : ∀ M v, (slc n rows').h M v → (∀ g, v.ownBlock = some g → (C.w0.heap.size ≤ g ∨ C.bor g) ∧ ∃ o, M g o = some (.agg #[])) → X.h M v) (hrows : Rows n rows' (cs ++ rows.flatten)) (hlen : rows'.length = m + rows.length) (hone : ∀ M vs, SV.All M (cs ++ rows.flatten) vs → ∀ v ∈ vs, v.oneCell' = true)
    (next : RunT P C ops nd K rest (⟨rg ++ (okeys x ++ okeys y), [], d :: rr, ⟨some (d, .sv X), [], old ++ [(d, .dead)]⟩⟩ :: acc) ((AS.setRs (old ++ [(d, .dead)]) S).set d (.sv X))) : RunT P C ops nd K (⟨some d, .call ⟨.builtin .append, #[x, y], #[T, T]⟩, ty, pos, aft, gd⟩ :: rest) acc S := by
  refine .inl ⟨_, [], d :: rr, _, ?_, next⟩
  rintro S' hn ht _ hr i a w L Q ho ⟨E, h⟩ hL
  refine wpOp_of (C := C) ho (hg.wanted h (fun s hs => ht s (List.mem_append_left _ hs)) rfl) ?_
  obtain ⟨⟨vs, hown, hvs⟩, hold⟩ := hx.val h (fun s hs => ht s (List.mem_append_right _ (List.mem_append_left _ hs))) (fun i hi => hr i (List.mem_cons_of_mem _ hi))
  have h2 := h.ev y
  rw [ev_congr (fun _ h => List.mem_append_right _ (List.mem_append_right _ h)) ht, hy] at h2
  obtain ⟨info, hi, hsz, hby, hz⟩ := TyEl.info (P := P) (E := E0) (n := n) (by_ := by_) (z := zv)
  have hdu : S'.r d = .un := by rw [hr d (by simp)]; exact hdr
  have run : ∃ v' w' vs', (Builtin.append_ #[T, T] ty #[a.eval x, a.eval y]).run P w = .ok v' w' ∧ w'.ownsRow 0 E0 n v' (m + rows.length) vs' ∧ SV.All E.M (cs ++ rows.flatten) vs' ∧ w.grownBy w' (a.eval x).ownBlock ∧ (v'.ownBlock = (a.eval x).ownBlock ∨ v'.ownBlock = some w.heap.size ∨ v'.ownBlock = none) := by
    rcases hs.h _ _ h2 with ⟨a0, e, e2⟩ | ⟨b, o, c, e, hc, hc2, hrow⟩
    · rw [e, e2]
      cases a0 with
      | none => exact ⟨_, _, vs, run_append_owned_none w 0 T ty E0 info n tS.u hi _ m vs hown, by simpa using hown, by simpa using hvs, ⟨rfl, rfl, rfl, Nat.le_refl _, fun _ _ _ => rfl⟩, .inl rfl⟩
      | some a0 =>
        rw [e2, List.length_nil] at hroom hroom2
        obtain ⟨v', w', q1, q2, q3, _, q4⟩ := run_append_own_at (P := P) w 0 T ty E0 info zv n by_ tS.u hi hz hsz hby tE.z tE.p _ m vs hown a0 0 0 [] (by simp) (by simp) (by simp) (by unfold maxLen; omega) hroom (Nat.zero_le _)
        exact ⟨v', w', vs, q1, by simpa using q2, by simpa using hvs, q3, q4.imp id .inl⟩
    · obtain ⟨us, g1, g2, g3, g4⟩ := slc_vals rows o hrow
      rw [e]
      obtain ⟨v', w', q1, q2, q3, _, q4⟩ := run_append_own_at (P := P) w 0 T ty E0 info zv n by_ tS.u hi hz hsz hby tE.z tE.p _ m vs hown ⟨b, o, none⟩ rows.length c us g2 (fun j u hj => by rw [addr_add]; exact (h.inW _ _ _ (g4 j u hj)).cell (g3 u (List.mem_of_getElem? hj))) g3 (by unfold maxLen; omega) hroom (Nat.zero_le _)
      exact ⟨v', w', vs ++ us, q1, q2, SV.All.append hvs g1, q3, q4.imp id .inl⟩
  obtain ⟨v', w', vs', q1, q2, q3, q4, q5⟩ := run
  have hr' : (execOp a.eval ⟨some d, .call ⟨.builtin .append, #[x, y], #[T, T]⟩, ty, pos, aft, gd⟩).run P w = .ok (.value v') w' := by
    simp [execOp, resolve, invoke, builtin, q1]
  have lastL : ∀ (l : List (Nat × RSt)) (R : RSt) (j : Nat), lastR (l ++ [(d, R)]) j = if j = d then some R else lastR l j := by
    intro l R j
    induction l with
    | nil => rfl
    | cons p l ih =>
      obtain ⟨i, R'⟩ := p
      rw [List.cons_append, lastR, lastR, ih]
      by_cases e : j = d
      · simp [e]
      · simp [e]
  have h3 := (h.newRow hdu hd1 old (a.eval x).ownBlock hold (R' := ⟨E0, n, m + rows.length, cs ++ rows.flatten⟩) q2 q3 q5 q4).put (d := d) (x := .row d) (v := v') (by simp [AV.holds]) (by rw [(setRs_n _ _).1]; omega) ⟨fun _ e => e.elim, fun j e => by
    cases e
    rw [setRs_r, lastL]; simp⟩
  have hRd : (AS.set (AS.setRs (old ++ [(d, RSt.live ⟨E0, n, m + rows.length, cs ++ rows.flatten⟩)]) S') d (.row d)).r d = .live ⟨E0, n, m + rows.length, cs ++ rows.flatten⟩ := by
    show (AS.setRs _ S').r d = _
    rw [setRs_r, lastL]; simp
  obtain ⟨E', h4⟩ := h3.frz hRd hrows hlen (Nat.le_trans hroom2 (by decide)) hone hX
  have e : (AS.set (AS.setRs (old ++ [(d, RSt.live ⟨E0, n, m + rows.length, cs ++ rows.flatten⟩)]) S') d (.row d)).frz d X = S'.app ⟨some (d, .sv X), [], old ++ [(d, .dead)]⟩ := by
    have n1 := setRs_n (old ++ [(d, RSt.live ⟨E0, n, m + rows.length, cs ++ rows.flatten⟩)]) S'
    have n2 := setRs_n (old ++ [(d, RSt.dead)]) S'
    refine AS.ext' ?_ (fun t => ?_) (fun j => ?_) (fun j => ?_) ?_ ?_
    · show (AS.setRs _ S').n = (AS.setRs _ S').n
      rw [n1.1, n2.1]
    · rw [AS.app_t]
      show ((AS.set (AS.setRs _ S') d (.row d)).t t).frz d X = _
      by_cases e : t = d
      · subst e; rw [AS.set_same]; simp [AV.frz, wT]
      · rw [AS.set_other _ _ _ _ e, n1.2.1, frz_id (fun hm => h.wf.tr t d hm hdu)]; simp [wT, e]
    · rw [AS.app_b]
      show ((AS.setRs _ S').b j).map _ = _
      rw [n1.2.2.1]
      simp only [lastB, Option.getD_none]
      cases hb : S'.b j with
      | none => rfl
      | some B =>
        rw [Option.map_some]
        have : B.cells.map (AV.frz d X) = B.cells := by
          conv => rhs; rw [← List.map_id B.cells]
          exact List.map_congr_left fun c hc => frz_id (fun hm => h.wf.br j B hb c hc d hm hdu)
        rw [this]
    · rw [AS.app_r]
      show (bif Nat.beq j d then RSt.dead else (AS.setRs _ S').r j) = _
      rw [setRs_r, lastL, lastL]
      by_cases e : j = d
      · subst e; simp
      · simp [beq_ne e, e]
    · rw [(AS.app_g _ _).1]; exact n1.2.2.2.1
    · rw [(AS.app_g _ _).2]; exact n1.2.2.2.2
  exact wpIn_of (C := C) (by intro c h; cases h) hr' (hL _ _ ⟨E', e ▸ h4⟩)
end steps
end Go.Fw
namespace Go.Fw
open Go.RowKit
def letJ {J R : Type} (k : J → Option R) (f : (J → Option R) → Option R) : Option R := f k
theorem bind_some {α β : Type} {x : Option α} {f : α → Option β} {r : β} (h : Option.bind x f = some r) : ∃ a, x = some a ∧ f a = some r := by
  cases x with
  | none => cases h
  | some a => exact ⟨a, rfl, h⟩
theorem sk {b w : Bool} (h : (b == w) = false) : b ≠ w := by cases b <;> cases w <;> simp_all
def geti {α : Type} (l : List α) (i : Int) : Option α := if 0 ≤ i then l[i.toNat]? else none
def cki {α : Type} (l : List α) (i : Int) : Option Nat := if 0 ≤ i ∧ i < l.length then some i.toNat else none
def subM {α : Type} (l : List α) (lo hi : Int) : Option (List α) := if 0 ≤ lo ∧ lo ≤ hi ∧ hi ≤ l.length then some (cut l lo.toNat hi.toNat) else none
def apM {α : Type} (by_ : Nat) (l k : List α) : Option (List α) := if (l.length + k.length) * by_ ≤ 140737488355328 ∧ l.length + k.length ≤ 140737488355328 then some (l ++ k) else none
def mkM {α : Type} (by_ : Nat) (c : Int) (z : α) : Option (List α) := if 0 ≤ c ∧ by_ * c ≤ 281474976710656 ∧ c ≤ 140737488355328 then some (List.replicate c.toNat z) else none
def mkE {α : Type} (by_ : Nat) (c : Int) : Option (List α) := if 0 ≤ c ∧ by_ * c ≤ 281474976710656 ∧ c ≤ 140737488355328 then some [] else none
def stM {α : Type} (l : List α) (n : Nat) (y : α) : Option (List α) := if n < l.length then some (l.set n y) else none
def iquo (a b : Int) : Option Int := if b = 0 then none else some (IntKind.i64.wrap (a.tdiv b))
def irem (a b : Int) : Option Int := if b = 0 then none else some (a.tmod b)
def uquo (M a b : Nat) : Option Nat := if b = 0 then none else some (a / b % M)
def urem (a b : Nat) : Option Nat := if b = 0 then none else some (a % b)
def usub (M a b : Nat) : Nat := (((a : Int) - b) % M).toNat
theorem geti_some {α : Type} {l : List α} {i : Int} {a : α} (h : geti l i = some a) : 0 ≤ i ∧ l[i.toNat]? = some a := by
  unfold geti at h; split at h
  · exact ⟨by assumption, h⟩
  · cases h
theorem cki_some {α : Type} {l : List α} {i : Int} {k : Nat} (h : cki l i = some k) : 0 ≤ i ∧ i < l.length ∧ i.toNat = k := by
  unfold cki at h; split at h
  · rename_i hh; exact ⟨hh.1, hh.2, Option.some.inj h⟩
  · cases h
theorem subM_some {α : Type} {l l' : List α} {a b : Int} (h : subM l a b = some l') : 0 ≤ a ∧ a ≤ b ∧ b ≤ l.length ∧ cut l a.toNat b.toNat = l' := by
  unfold subM at h; split at h
  · rename_i hh; exact ⟨hh.1, hh.2.1, hh.2.2, Option.some.inj h⟩
  · cases h
theorem apM_some {α : Type} {by_ : Nat} {l k l' : List α} (h : apM by_ l k = some l') : (l.length + k.length) * by_ ≤ 140737488355328 ∧ l.length + k.length ≤ 140737488355328 ∧ l ++ k = l' := by
  unfold apM at h; split at h
  · rename_i hh; exact ⟨hh.1, hh.2, Option.some.inj h⟩
  · cases h
theorem mkM_some {α : Type} {by_ : Nat} {c : Int} {z : α} {l' : List α} (h : mkM by_ c z = some l') : 0 ≤ c ∧ by_ * c ≤ 281474976710656 ∧ c ≤ 140737488355328 ∧ List.replicate c.toNat z = l' := by
  unfold mkM at h; split at h
  · rename_i hh; exact ⟨hh.1, hh.2.1, hh.2.2, Option.some.inj h⟩
  · cases h
theorem mkE_some {α : Type} {by_ : Nat} {c : Int} {l' : List α} (h : mkE by_ c = some l') : 0 ≤ c ∧ by_ * c ≤ 281474976710656 ∧ c ≤ 140737488355328 ∧ [] = l' := by
  unfold mkE at h; split at h
  · rename_i hh; exact ⟨hh.1, hh.2.1, hh.2.2, Option.some.inj h⟩
  · cases h
theorem stM_some {α : Type} {l l' : List α} {n : Nat} {y : α} (h : stM l n y = some l') : n < l.length ∧ l.set n y = l' := by
  unfold stM at h; split at h
  · rename_i hh; exact ⟨hh, Option.some.inj h⟩
  · cases h
def runsN {S E : Type} (body : S → Option (S ⊕ E)) : Nat → S → Option E
  | 0, _ => none
  | n + 1, s => match body s with
    | some (.inl s') => runsN body n s'
    | some (.inr e) => some e
    | none => none
theorem runsN_mono {S E : Type} {body : S → Option (S ⊕ E)} : ∀ {n m : Nat} {s : S} {e : E}, n ≤ m → runsN body n s = some e → runsN body m s = some e
  | 0, _, _, _, _, h => by cases h
  | n + 1, 0, _, _, hm, _ => by omega
  | n + 1, m + 1, s, e, hm, h => by
    unfold runsN at h ⊢
    cases hb : body s with
    | none => rw [hb] at h; cases h
    | some y =>
      rw [hb] at h
      cases y with
      | inl s' => exact runsN_mono (by omega) h
      | inr e' => exact h
open Classical in
noncomputable def loopM {S E : Type} (body : S → Option (S ⊕ E)) (s : S) : Option E := if h : ∃ n e, runsN body n s = some e then some (Classical.choose (Classical.choose_spec h)) else none
theorem loopM_some {S E : Type} {body : S → Option (S ⊕ E)} {s : S} {e : E} (h : loopM body s = some e) : ∃ n, runsN body n s = some e := by
  unfold loopM at h
  split at h
  · rename_i hh
    exact ⟨_, by rw [← Option.some.inj h]; exact Classical.choose_spec (Classical.choose_spec hh)⟩
  · cases h
theorem loopM_of {S E : Type} {body : S → Option (S ⊕ E)} {s : S} {e : E} {n : Nat} (h : runsN body n s = some e) : loopM body s = some e := by
  have hh : ∃ n e, runsN body n s = some e := ⟨n, e, h⟩
  unfold loopM
  rw [dif_pos hh]
  have h2 := Classical.choose_spec (Classical.choose_spec hh)
  have h3 := runsN_mono (Nat.le_max_left n (Classical.choose hh)) h
  have h4 := runsN_mono (Nat.le_max_right n (Classical.choose hh)) h2
  rw [h3] at h4
  exact h4.symm
theorem loopM_exit {S E : Type} {body : S → Option (S ⊕ E)} {s : S} {e : E} (h : body s = some (.inr e)) : loopM body s = some e := loopM_of (n := 1) (by simp [runsN, h])
theorem loopM_step {S E : Type} {body : S → Option (S ⊕ E)} {s s' : S} (h : body s = some (.inl s')) : loopM body s = loopM body s' := by
  cases hl : loopM body s' with
  | some e => obtain ⟨n, hn⟩ := loopM_some hl; exact loopM_of (n := n + 1) (by simp [runsN, h, hn])
  | none =>
    cases hl2 : loopM body s with
    | none => rfl
    | some e =>
      obtain ⟨n, hn⟩ := loopM_some hl2
      cases n with
      | zero => cases hn
      | succ n => simp only [runsN, h] at hn; rw [loopM_of hn] at hl; cases hl
theorem loopM_inv {S E : Type} {body : S → Option (S ⊕ E)} (I : S → Prop) (Post : E → Prop) (μ : S → Nat)
    (step : ∀ s, I s → (∃ s', body s = some (.inl s') ∧ I s' ∧ μ s' < μ s) ∨ (∃ e, body s = some (.inr e) ∧ Post e)) {s : S} (h : I s) : ∃ e, loopM body s = some e ∧ Post e := by
  have key : ∀ (n : Nat) (s : S), μ s ≤ n → I s → ∃ e, loopM body s = some e ∧ Post e := by
    intro n
    induction n with
    | zero =>
      intro s hn hs
      rcases step s hs with ⟨s', _, _, h3⟩ | ⟨e, h1, h2⟩
      · omega
      · exact ⟨e, loopM_exit h1, h2⟩
    | succ n ih =>
      intro s hn hs
      rcases step s hs with ⟨s', h1, h2, h3⟩ | ⟨e, h1, h2⟩
      · obtain ⟨e, q1, q2⟩ := ih s' (by omega) h2
        exact ⟨e, by rw [loopM_step h1]; exact q1, q2⟩
      · exact ⟨e, loopM_exit h1, h2⟩
  exact key _ s (Nat.le_refl _) h
theorem loopM_to {S E : Type} {body : S → Option (S ⊕ E)} (st : Nat → S) (n : Nat) {e : E} (hs : ∀ k, k < n → body (st k) = some (.inl (st (k + 1)))) (he : body (st n) = some (.inr e)) : loopM body (st 0) = some e := by
  have key : ∀ k, k ≤ n → loopM body (st (n - k)) = some e := by
    intro k
    induction k with
    | zero => intro _; exact loopM_exit he
    | succ k ih =>
      intro hk
      rw [loopM_step (hs (n - (k + 1)) (by omega)), show n - (k + 1) + 1 = n - k by omega]
      exact ih (by omega)
  have := key n (Nat.le_refl _)
  rwa [Nat.sub_self] at this
theorem eqI {p q : Int} {c : Bool} (h : decide (p = q) = c) : (p == q) = c := by rw [← h]; exact Bool.beq_eq_decide_eq p q
theorem neI {p q : Int} {c : Bool} (h : decide (p ≠ q) = c) : (p != q) = c := by rw [← h, bne, Bool.beq_eq_decide_eq p q]; simp
theorem eqN {p q : Nat} {c : Bool} (h : decide (p = q) = c) : ((p : Int) == (q : Int)) = c := eqI (by rw [← h]; simp [Int.natCast_inj])
theorem neN {p q : Nat} {c : Bool} (h : decide (p ≠ q) = c) : ((p : Int) != (q : Int)) = c := neI (by rw [← h]; simp [Int.natCast_inj])
theorem ltN {p q : Nat} {c : Bool} (h : decide (p < q) = c) : decide ((p : Int) < (q : Int)) = c := by rw [← h]; simp
theorem leN {p q : Nat} {c : Bool} (h : decide (p ≤ q) = c) : decide ((p : Int) ≤ (q : Int)) = c := by rw [← h]; simp
theorem maxI {p q c : Int} (h : max p q = c) : (if q > p then q else p) = c := by rw [← h]; split <;> omega
theorem minI {p q c : Int} (h : min p q = c) : (if q < p then q else p) = c := by rw [← h]; split <;> omega
class UK (k : IntKind) (b : outParam Nat) (M : outParam Nat) : Prop where
  w : ∀ x : Int, k.wrap x = x % M
  hb : k.bits = b
  hm : 2 ^ b = M
instance : UK .u8 8 256 := ⟨fun x => by simp [IntKind.wrap, IntKind.signed, IntKind.bits], rfl, by decide⟩
instance : UK .u16 16 65536 := ⟨fun x => by simp [IntKind.wrap, IntKind.signed, IntKind.bits], rfl, by decide⟩
instance : UK .u32 32 4294967296 := ⟨fun x => by simp [IntKind.wrap, IntKind.signed, IntKind.bits], rfl, by decide⟩
instance : UK .u64 64 18446744073709551616 := ⟨fun x => by simp [IntKind.wrap, IntKind.signed, IntKind.bits], rfl, by decide⟩
section uk
variable {k : IntKind} {bi M a b c : Nat} [u : UK k bi M]
include u
theorem UK.pos : 0 < M := by rw [← u.hm]; exact Nat.two_pow_pos _
theorem UK.nat (h : a % M = c) : k.wrap (a : Int) = (c : Int) := by rw [u.w, ← h, Int.natCast_emod]
theorem UK.add (h : (a + b) % M = c) : k.wrap ((a : Int) + (b : Int)) = (c : Int) := by rw [← Int.natCast_add]; exact UK.nat h
theorem UK.mul (h : (a * b) % M = c) : k.wrap ((a : Int) * (b : Int)) = (c : Int) := by rw [← Int.natCast_mul]; exact UK.nat h
theorem UK.sub (h : usub M a b = c) : k.wrap ((a : Int) - (b : Int)) = (c : Int) := by
  rw [u.w, ← h, usub, Int.toNat_of_nonneg]; exact Int.emod_nonneg _ (by have := UK.pos (k := k) (bi := bi) (M := M); omega)
theorem UK.neg (h : usub M 0 a = c) : k.wrap (0 - (a : Int)) = (c : Int) := UK.sub h
theorem UK.conv {p : Int} (h : (p % M).toNat = c) : k.wrap p = (c : Int) := by
  rw [u.w, ← h, Int.toNat_of_nonneg]; exact Int.emod_nonneg _ (by have := UK.pos (k := k) (bi := bi) (M := M); omega)
theorem UK.quo (h : uquo M a b = some c) : k.wrap ((a : Int).tdiv (b : Int)) = (c : Int) := by
  unfold uquo at h; split at h
  · cases h
  · rw [Int.tdiv_eq_ediv_of_nonneg (by omega), ← Int.natCast_ediv]; exact UK.nat (Option.some.inj h)
theorem UK.quo' (h : a / b % M = c) : k.wrap ((a : Int).tdiv (b : Int)) = (c : Int) := by
  rw [Int.tdiv_eq_ediv_of_nonneg (by omega), ← Int.natCast_ediv]; exact UK.nat h
theorem UK.shl {q : Int} {s : Nat} (hs : min q.toNat k.bits = s) (h : a * 2 ^ s % M = c) : k.wrap ((a : Int) * 2 ^ (min q.toNat k.bits)) = (c : Int) := by
  rw [hs, show (a : Int) * 2 ^ s = ((a * 2 ^ s : Nat) : Int) by rw [Int.natCast_mul, Int.natCast_pow]; rfl]; exact UK.nat h
theorem UK.ofInt (a : Nat) : (BitVec.ofInt k.bits (a : Int)).toNat = a % M := by
  rw [BitVec.ofInt_natCast, BitVec.toNat_ofNat, u.hb, u.hm]
theorem UK.and (h : (a &&& b) % M = c) : k.wrap ((BitVec.ofInt k.bits (a : Int) &&& BitVec.ofInt k.bits (b : Int)).toNat) = (c : Int) := by
  rw [BitVec.toNat_and, UK.ofInt, UK.ofInt, ← u.hm, ← Nat.and_mod_two_pow, u.hm, h, UK.nat (a := c) (c := c)]
  rw [← h, Nat.mod_mod]
theorem UK.or (h : (a ||| b) % M = c) : k.wrap ((BitVec.ofInt k.bits (a : Int) ||| BitVec.ofInt k.bits (b : Int)).toNat) = (c : Int) := by
  rw [BitVec.toNat_or, UK.ofInt, UK.ofInt, ← u.hm, ← Nat.or_mod_two_pow, u.hm, h, UK.nat (a := c) (c := c)]
  rw [← h, Nat.mod_mod]
theorem UK.xor (h : (a ^^^ b) % M = c) : k.wrap ((BitVec.ofInt k.bits (a : Int) ^^^ BitVec.ofInt k.bits (b : Int)).toNat) = (c : Int) := by
  rw [BitVec.toNat_xor, UK.ofInt, UK.ofInt, ← u.hm, ← Nat.xor_mod_two_pow, u.hm, h, UK.nat (a := c) (c := c)]
  rw [← h, Nat.mod_mod]
end uk
theorem shrU {k : IntKind} {a c s : Nat} {q : Int} (hs : min q.toNat k.bits = s) (h : a / 2 ^ s = c) : (a : Int).fdiv (2 ^ (min q.toNat k.bits)) = (c : Int) := by
  rw [hs, Int.fdiv_eq_ediv_of_nonneg _ (Int.le_of_lt (Int.pow_pos (by decide))), ← h, Int.natCast_ediv, Int.natCast_pow]; rfl
theorem remU {a b c : Nat} (h : urem a b = some c) : (a : Int).tmod (b : Int) = (c : Int) := by
  unfold urem at h; split at h
  · cases h
  · rw [Int.tmod_eq_emod_of_nonneg (by omega), ← Option.some.inj h]; rfl
theorem remU' {a b c : Nat} (h : a % b = c) : (a : Int).tmod (b : Int) = (c : Int) := by
  rw [Int.tmod_eq_emod_of_nonneg (by omega), ← h]; rfl
theorem nzU {M a b c : Nat} (h : uquo M a b = some c) : (b : Int) ≠ 0 := by
  unfold uquo at h; split at h
  · cases h
  · omega
theorem nzR {a b c : Nat} (h : urem a b = some c) : (b : Int) ≠ 0 := by
  unfold urem at h; split at h
  · cases h
  · omega
theorem nzI {a b c : Int} (h : iquo a b = some c) : b ≠ 0 := by unfold iquo at h; split at h <;> simp_all
theorem nzRI {a b c : Int} (h : irem a b = some c) : b ≠ 0 := by unfold irem at h; split at h <;> simp_all
theorem quoI {a b c : Int} (h : iquo a b = some c) : IntKind.i64.wrap (a.tdiv b) = c := by
  unfold iquo at h; split at h
  · cases h
  · exact Option.some.inj h
theorem remI {a b c : Int} (h : irem a b = some c) : a.tmod b = c := by
  unfold irem at h; split at h
  · cases h
  · exact Option.some.inj h
abbrev eU32 (x : Nat) : List SV := [.v (.int .u32 (x : Nat))]
abbrev eI64 (x : Int) : List SV := [.v (.int .i64 x)]
abbrev eB (x : Bool) : List SV := [.v (.bool x)]
abbrev eS {α : Type} (n : Nat) (e : α → List SV) (l : List α) : List SV := [slc n (l.map e)]
structure Zr where
  neg : Bool
  w : List Nat
structure Qr where
  num : Zr
  den : Zr
abbrev eZ (z : Zr) : List SV := [.v (.bool z.neg), slc 1 (z.w.map eU32)]
abbrev eQ (q : Qr) : List SV := [.v (.bool q.num.neg), slc 1 (q.num.w.map eU32), .v (.bool q.den.neg), slc 1 (q.den.w.map eU32)]
class EL {α : Type} (e : α → List SV) (n : outParam Nat) : Prop where
  len : ∀ x, (e x).length = n
  one : ∀ x, Ones (e x)
instance : EL eU32 1 := ⟨fun _ => rfl, fun _ => inferInstance⟩
instance : EL eI64 1 := ⟨fun _ => rfl, fun _ => inferInstance⟩
instance : EL eB 1 := ⟨fun _ => rfl, fun _ => inferInstance⟩
instance {α : Type} {n : Nat} {e : α → List SV} : EL (eS n e) 1 := ⟨fun _ => rfl, fun _ => inferInstance⟩
instance : EL eZ 2 := ⟨fun _ => rfl, fun _ => inferInstance⟩
instance : EL eQ 4 := ⟨fun _ => rfl, fun _ => inferInstance⟩
structure Sd where
  prices : List Qr
  gen : List Qr
  take : List Qr
structure En where
  acc : Int
  kd : Nat
  hour : Int
  cents : Zr
structure A3 where
  a : Int
  b : Int
  c : Int
structure X4 where
  acc : Int
  kd : Nat
  hour : Int
  e : Int
structure Mv where
  acc : Int
  kd : Nat
  hour : Int
  amount : Qr
structure Lr where
  vars : Int
  objs : List (List Qr)
  rows : List (List Qr)
  bounds : List Qr
abbrev eLr (x : Lr) : List SV := [.v (.int .i64 x.vars), slc 1 (x.objs.map (eS 4 eQ)), slc 1 (x.rows.map (eS 4 eQ)), slc 4 (x.bounds.map eQ)]
instance : EL eLr 4 := ⟨fun _ => rfl, fun _ => inferInstance⟩
structure Sz where
  vars : Int
  objs : Int
  rows : Int
  bounds : Int
abbrev eSz (x : Sz) : List SV := [.v (.int .i64 x.vars), .v (.int .i64 x.objs), .v (.int .i64 x.rows), .v (.int .i64 x.bounds)]
instance : EL eSz 4 := ⟨fun _ => rfl, fun _ => inferInstance⟩
structure Cn where
  row : List Qr
  most : Qr
abbrev eCn (x : Cn) : List SV := [slc 4 (x.row.map eQ), .v (.bool x.most.num.neg), slc 1 (x.most.num.w.map eU32), .v (.bool x.most.den.neg), slc 1 (x.most.den.w.map eU32)]
instance : EL eCn 5 := ⟨fun _ => rfl, fun _ => inferInstance⟩
abbrev TR (E : TypeId) (sz : Nat) {α : Type} (e : α → List SV) (l : List α) : Row := ⟨E, sz, l.length, l.flatMap e⟩
theorem imp_nil {α : Type} {n : Nat} {e : α → List SV} : SV.imp (.v (.slice none 0 0)) (slc n (([] : List α).map e)) := fun _ _ h => .inl ⟨none, h, rfl⟩
theorem flat_map {α : Type} (e : α → List SV) (l : List α) : (l.map e).flatten = l.flatMap e := by rw [List.flatMap_def]
theorem rows_map {α : Type} {e : α → List SV} {n : Nat} [h : EL e n] (l : List α) : Rows n (l.map e) (l.flatMap e) := ⟨flat_map e l, fun r hr => by obtain ⟨x, _, rfl⟩ := List.mem_map.1 hr; exact h.len x⟩
theorem all_split {M : Mem} : ∀ {l k : List SV} {vs : List Value}, SV.All M (l ++ k) vs → ∃ us ws, vs = us ++ ws ∧ SV.All M l us ∧ SV.All M k ws
  | [], _, vs, h => ⟨[], vs, rfl, trivial, h⟩
  | _ :: _, _, [], h => h.elim
  | _ :: l, _, v :: vs, h => by
    obtain ⟨us, ws, rfl, h1, h2⟩ := all_split (l := l) h.2
    exact ⟨v :: us, ws, rfl, ⟨h.1, h1⟩, h2⟩
theorem ones_flat {α : Type} {e : α → List SV} {n : Nat} [h : EL e n] (l : List α) : ∀ M vs, SV.All M (l.flatMap e) vs → ∀ v ∈ vs, v.oneCell' = true := by
  intro M
  induction l with
  | nil => intro vs hv; cases vs with | nil => simp | cons _ _ => exact hv.elim
  | cons x l ih =>
    intro vs hv
    rw [List.flatMap_cons] at hv
    obtain ⟨us, ws, rfl, h1, h2⟩ := all_split hv
    intro v hv
    rcases List.mem_append.1 hv with hv | hv
    · exact (h.one x).h M us h1 v hv
    · exact ih ws h2 v hv
theorem flat_get {α : Type} {e : α → List SV} {n : Nat} [h : EL e n] : ∀ {l : List α} {k : Nat} {a : α}, l[k]? = some a → ((l.flatMap e).drop (k * n)).take n = e a
  | [], _, _, hh => by simp at hh
  | x :: l, 0, a, hh => by
    simp only [List.getElem?_cons_zero, Option.some.injEq] at hh
    subst hh
    rw [List.flatMap_cons, Nat.zero_mul, List.drop_zero, ← h.len x, List.take_left']
    rfl
  | x :: l, k + 1, a, hh => by
    rw [List.getElem?_cons_succ] at hh
    rw [List.flatMap_cons, show (k + 1) * n = (e x).length + k * n by rw [h.len, Nat.add_mul]; omega, ← List.drop_drop, List.drop_left']
    · exact flat_get hh
    · rfl
theorem flat_set {α : Type} {e : α → List SV} {n : Nat} [h : EL e n] {y : α} : ∀ {l : List α} {k : Nat}, k < l.length → spl (l.flatMap e) (k * n) (e y) = (l.set k y).flatMap e := by
  have splE : ∀ (u : List SV) (a b : List SV) (j : Nat), j + u.length ≤ a.length → spl (a ++ b) j u = spl a j u ++ b := by
    intro u
    induction u with
    | nil => intro a b j _; rfl
    | cons s u ih =>
      intro a b j hj
      simp only [List.length_cons] at hj
      simp only [spl]
      rw [List.set_append_left _ _ (by omega), ih _ _ _ (by rw [List.length_set]; omega)]
  have splF : ∀ (u : List SV) (a b : List SV) (j : Nat), spl (a ++ b) (a.length + j) u = a ++ spl b j u := by
    intro u
    induction u with
    | nil => intro a b j; rfl
    | cons s u ih =>
      intro a b j
      simp only [spl]
      rw [List.set_append_right _ _ (by omega), show a.length + j - a.length = j by omega, show a.length + j + 1 = a.length + (j + 1) by omega, ih]
  have splA : ∀ (u a : List SV), u.length = a.length → spl a 0 u = u := by
    have gen : ∀ (u a p : List SV), u.length = a.length → spl (p ++ a) p.length u = p ++ u := by
      intro u
      induction u with
      | nil => intro a p ha; have : a = [] := List.eq_nil_of_length_eq_zero ha.symm; subst this; rfl
      | cons s u ih =>
        intro a p ha
        cases a with
        | nil => cases ha
        | cons t a =>
          simp only [spl]
          rw [List.set_append_right _ _ (Nat.le_refl _), Nat.sub_self, List.set_cons_zero, show p ++ s :: a = (p ++ [s]) ++ a by simp, show p.length + 1 = (p ++ [s]).length by simp, ih a _ (by simpa using ha)]
          simp
    intro u a ha
    exact gen u a [] ha
  intro l
  induction l with
  | nil => intro k hk; simp at hk
  | cons x l ih =>
    intro k hk
    cases k with
    | zero =>
      rw [List.set_cons_zero, List.flatMap_cons, List.flatMap_cons, Nat.zero_mul, splE _ _ _ _ (by rw [h.len, h.len]; omega), splA _ _ (by rw [h.len, h.len])]
    | succ k =>
      simp only [List.length_cons] at hk
      rw [List.set_cons_succ, List.flatMap_cons, List.flatMap_cons, show (k + 1) * n = (e x).length + k * n by rw [h.len, Nat.add_mul]; omega, splF, ih (by omega)]
end Go.Fw
namespace Go.Fw
open Go.RowKit
section steps
variable {P : Program} {C : Ctx} {ops : Array Oper} {S : AS} {nd : Bool} {K : List Ac → AS → Prop} {rest : List Oper} {acc : List Ac}
variable {gd : Option (Nat × Bool)} {rg : List Nat} {d : Nat} {ty : TypeId} {pos : String} {aft : Array Edge} {x y z : Operand} {T U E0 : TypeId}
variable {α : Type} {l l' k : List α} {e : α → List SV} {n by_ : Nat} {zv : Value}
theorem RT.asgI (hg : Gd ops S gd rg) {s X : SV} (hx : S.ev x = .sv s) (hi : SV.imp s X) (hd : d < S.n)
    (next : RunT P C ops nd K rest (⟨rg ++ okeys x, [], [], ⟨some (d, .sv X), [], []⟩⟩ :: acc) (S.set d (.sv X))) : RunT P C ops nd K (⟨some d, .assign x, ty, pos, aft, gd⟩ :: rest) acc S :=
  RT.value hg (okeys x) [] [] (.sv X) hd (by intro c h; cases h) (fun S' ht _ _ E a w h => by
    have hx' : S'.ev x = .sv s := by rw [ev_congr (fun _ h => h) ht, hx]
    exact ⟨a.eval x, rfl, by have := h.ev x; rw [hx'] at this; exact hi _ _ this, nomb⟩) next
theorem allv_svis {E : Env} : ∀ {l l' : List SV} {vs : List Value}, SVIs l l' → SV.All E.M l vs → AllV E (l'.map AV.sv) vs := fun hi h => AllV.of_sv (hi.holds h)
theorem all_vv (M : Mem) : ∀ l : List Value, SV.All M (l.map SV.v) l
  | [] => trivial
  | _ :: l => ⟨rfl, all_vv M l⟩
theorem RT.allocI (hg : Gd ops S gd rg) [tz : TyZero P T zv] {cs : List SV} (hi : SVIs (zv.cells.toList.map SV.v) cs) {av : List AV} (hav : cs.map AV.sv = av) (hd : d < S.n) (hb : S.b d = none) (hp : C.pin d = none)
    (next : RunT P C ops nd K rest (⟨rg ++ [], [d], [], ⟨some (d, .ptr d 0), [(d, ⟨T, av⟩)], []⟩⟩ :: acc) ((S.setB d ⟨T, av⟩).set d (.ptr d 0))) : RunT P C ops nd K (⟨some d, .alloc T, ty, pos, aft, gd⟩ :: rest) acc S := by
  subst hav
  exact RT.mkBox hg (by intro c h; cases h) [] hd hb hp (fun S' _ E a w h => ⟨zv.cells.toList, by simp [execOp, Instr.alloc, newVar, newRow, tz.run], allv_svis hi (all_vv _ _), fun y hy => by
    obtain ⟨s, _, rfl⟩ := List.mem_map.1 hy
    exact nomb⟩) next
theorem RT.buildI (hg : Gd ops S gd rg) {pl : List (Nat × Nat)} {zc : List Value} [tP : StructPl P T pl zc] {parts : Array (Nat × Operand)} {qs : List (Nat × List SV)} (hp : Parts S parts.toList qs) {cs cs' : List SV} (hf : fillS (fun i => pl[i]?) (zc.map SV.v) qs = some cs) (hi : SVIs cs cs') (hd : d < S.n)
    (next : RunT P C ops nd K rest (⟨rg ++ pkeys parts.toList, [], [], ⟨some (d, .sv (.agg cs')), [], []⟩⟩ :: acc) (S.set d (.sv (.agg cs')))) : RunT P C ops nd K (⟨some d, .build T parts, ty, pos, aft, gd⟩ :: rest) acc S := by
  refine RT.value hg (pkeys parts.toList) [] [] (.sv (.agg cs')) hd (by intro c h; cases h) (fun S' ht _ _ E a w h => ?_) next
  have hu := tP.h
  cases hT : P.underlying T with
  | none => rw [hT] at hu; cases hu
  | some u =>
    rw [hT] at hu
    cases u with
    | struct fs =>
      simp only at hu
      have hz : (zeroValue T).run P w = .ok (.agg ⟨zc⟩) w := TyZero.run (t := ⟨tP.hz⟩) w
      obtain ⟨us, h1, h2, _⟩ := fill_run h (fun i => pl[i]?) hp ht (cells := zc.map SV.v) (vs := zc) (all_vv _ zc) (List.all_eq_true.1 tP.o) hf
      refine ⟨.agg ⟨us⟩, ?_, ⟨us, rfl, hi.holds h2⟩, nomb⟩
      have hm : (fs.mapM (fun f => do pure (f.offset, ← sizeOf f.type) : Field → Sem (Nat × Nat))).run P w = .ok pl.toArray w := by
        have := mapM_places (P := P) (w := w) hu
        rw [← Array.toArray_toList (xs := fs), List.mapM_toArray]
        rw [Sem.run_map, this]; rfl
      have h1' : Instr.fill (fun i => pl.toArray[i]?) ⟨zc⟩ (parts.toList.map fun p => (p.1, a.eval p.2)) = some ⟨us⟩ := by simpa using h1
      simp only [execOp, Instr.build, underlying]
      simp only [Sem.run_bind, hz, Result.andThen_ok, run_program, hT, Sem.run_pure, Value.cells]
      have hm' : (Array.mapM (fun f => do
          let __do_lift ← sizeOf f.type
          pure (f.offset, __do_lift)) fs : Sem _).run P w = .ok pl.toArray w := hm
      simp only [hm', Result.andThen_ok]
      have e4 : (Array.map (fun x => match x with | (i, x) => (i, a.eval x)) parts).toList = parts.toList.map fun p => (p.1, a.eval p.2) := by simp
      simp only [e4, h1', Sem.run_pure, Result.andThen_ok]
    | _ => cases hu
theorem Pure.w {f : FuncId} {args args' : List SV} {r : SV} (h : Pure P f args r) (hi : SVIs args' args) : Pure P f args' r := fun M w vs hM hv => h M w vs hM (hi.holds hv)
theorem Pure.r {f : FuncId} {args : List SV} {r r' : SV} (h : Pure P f args r) (hi : SV.imp r r') : Pure P f args r' := fun M w vs hM hv => (h M w vs hM hv).mono fun _ _ ⟨v, M', h1, h2, h3, h4, h5, h6⟩ => ⟨v, M', h1, h2, h3, h4, hi _ _ h5, h6⟩
theorem NewC.w {f : FuncId} {args args' : List SV} {R : Row} (h : NewC P f args R) (hi : SVIs args' args) : NewC P f args' R := fun M w vs hM hv => h M w vs hM (hi.holds hv)
theorem RT.lenM (hg : Gd ops S gd rg) {m : Nat} [tS : TySl P T E0 m] {c : Int} (hx : S.ev x = .sv (slc n (l.map e))) (hd : d < S.n) (hc : (l.length : Int) = c)
    (next : RunT P C ops nd K rest (⟨rg ++ okeys x, [], [], ⟨some (d, .sv (.v (.int .i64 c))), [], []⟩⟩ :: acc) (S.set d (.sv (.v (.int .i64 c))))) : RunT P C ops nd K (⟨some d, .call ⟨.builtin .len, #[x], #[T]⟩, ty, pos, aft, gd⟩ :: rest) acc S :=
  RT.len hg hx hd (by rw [List.length_map, hc]; exact next)
theorem RT.lenRM (hg : Gd ops S gd rg) {m : Nat} [tS : TySl P T E0 m] {i : Nat} {E1 : TypeId} {c : Int} (hx : S.ev x = .row i) (hR : S.r i = .live (TR E1 n e l)) (hd : d < S.n) (hc : (l.length : Int) = c)
    (next : RunT P C ops nd K rest (⟨rg ++ okeys x, [], [i], ⟨some (d, .sv (.v (.int .i64 c))), [], []⟩⟩ :: acc) (S.set d (.sv (.v (.int .i64 c))))) : RunT P C ops nd K (⟨some d, .call ⟨.builtin .len, #[x], #[T]⟩, ty, pos, aft, gd⟩ :: rest) acc S :=
  RT.lenR hg hx hR hd (by show RunT _ _ _ _ _ _ (⟨_, _, _, ⟨some (d, .sv (.v (.int .i64 (l.length : Int)))), _, _⟩⟩ :: _) (S.set d (.sv (.v (.int .i64 (l.length : Int))))); rw [hc]; exact next)
theorem RT.ixM (hg : Gd ops S gd rg) [tS : TySl P T E0 n] {kk : IntKind} {i : Int} {a : α} (hx : S.ev x = .sv (slc n (l.map e))) (hy : S.ev y = .sv (.v (.int kk i))) (hd : d < S.n) (ha : geti l i = some a)
    (next : RunT P C ops nd K rest (⟨rg ++ (okeys x ++ okeys y), [], [], ⟨some (d, .sv (ref (e a))), [], []⟩⟩ :: acc) (S.set d (.sv (ref (e a))))) : RunT P C ops nd K (⟨some d, .indexAddr T x y, ty, pos, aft, gd⟩ :: rest) acc S :=
  RT.indexAddr hg (e a) hx hy hd (geti_some ha).1 (by rw [List.getElem?_map, (geti_some ha).2]; rfl) next
theorem RT.sliceM (hg : Gd ops S gd rg) [tS : TySl P T E0 n] {lo hi : Option Operand} (a b : Int) (hx : S.ev x = .sv (slc n (l.map e))) (hlo : bndS S 0 lo a) (hhi : bndS S l.length hi b) (hd : d < S.n) (h : subM l a b = some l')
    (next : RunT P C ops nd K rest (⟨rg ++ (okeys x ++ (bkeys lo ++ bkeys hi)), [], [], ⟨some (d, .sv (slc n (l'.map e))), [], []⟩⟩ :: acc) (S.set d (.sv (slc n (l'.map e))))) : RunT P C ops nd K (⟨some d, .slice T x lo hi none, ty, pos, aft, gd⟩ :: rest) acc S := by
  obtain ⟨h0, h1, h2, h3⟩ := subM_some h
  exact RT.slice hg hx a b hlo (by rw [List.length_map]; exact hhi) hd h0 h1 (by rw [List.length_map]; exact h2) _ (by rw [cut_map, h3]) next
theorem RT.buildSl (hg : Gd ops S gd rg) [tS : TySl P T E0 n] [tE : TyEl P E0 n by_ zv] {len : Nat} {parts : Array (Nat × Operand)} {qs : List (Nat × List SV)} (hp : Parts S parts.toList qs) (hd : d < S.n)
    (hc : consec 0 qs = true) (hl : qs.length = len) (hsz : (qs.all fun q => Nat.beq q.2.length n) = true) (hlen : Nat.ble (len * n) 16777216 = true) (hz1 : (zv.cells.toList.all fun v => v.oneCell') = true) (hrows : qs.map (·.2) = l.map e)
    (next : RunT P C ops nd K rest (⟨rg ++ pkeys parts.toList, [], [], ⟨some (d, .sv (slc n (l.map e))), [], []⟩⟩ :: acc) (S.set d (.sv (slc n (l.map e))))) : RunT P C ops nd K (⟨some d, .buildSlice T len parts, ty, pos, aft, gd⟩ :: rest) acc S :=
  RT.buildSlice hg hp hd hc hl hsz (Nat.le_of_ble_eq_true hlen) (List.all_eq_true.1 hz1) hrows next
theorem RT.buildRw (hg : Gd ops S gd rg) [tS : TySl P T E0 n] [tE : TyEl P E0 n by_ zv] {len : Nat} {parts : Array (Nat × Operand)} {qs : List (Nat × List SV)} (hp : Parts S parts.toList qs) (hd : d < S.n) (hdr : S.r d = .un) (hd1 : d < 1000)
    (hc : consec 0 qs = true) (hl : qs.length = len) (hsz : (qs.all fun q => Nat.beq q.2.length n) = true) (hlen : Nat.ble (len * n) 16777216 = true) (hz1 : (zv.cells.toList.all fun v => v.oneCell') = true) (hrows : qs.map (·.2) = l.map e)
    (next : RunT P C ops nd K rest (⟨rg ++ pkeys parts.toList, [], [d], ⟨some (d, .row d), [], [(d, .live (TR E0 n e l))]⟩⟩ :: acc) ((AS.setRs [(d, .live (TR E0 n e l))] S).set d (.row d))) : RunT P C ops nd K (⟨some d, .buildSlice T len parts, ty, pos, aft, gd⟩ :: rest) acc S := by
  refine RT.buildSliceR hg hp hd hdr hd1 hc hl hsz (Nat.le_of_ble_eq_true hlen) (List.all_eq_true.1 hz1) (cells := l.flatMap e) (by rw [hrows, flat_map]) ?_
  have : len = l.length := by have h0 := congrArg List.length hrows; simpa [hl] using h0
  rw [this]; exact next
theorem RT.apR (hg : Gd ops S gd rg) [tS : TySl P T E0 n] [tE : TyEl P E0 n by_ zv] {i : Nat} (hx : S.ev x = .row i) (hR : S.r i = .live (TR E0 n e l)) (hy : S.ev y = .sv (slc n (k.map e))) (hd : d < S.n) (hdr : S.r d = .un) (hd1 : d < 1000) (h : apM by_ l k = some l')
    (next : RunT P C ops nd K rest (⟨rg ++ (okeys x ++ okeys y), [], [i, d], ⟨some (d, .row d), [], [(i, .dead), (d, .live (TR E0 n e l'))]⟩⟩ :: acc) ((AS.setRs [(i, .dead), (d, .live (TR E0 n e l'))] S).set d (.row d))) : RunT P C ops nd K (⟨some d, .call ⟨.builtin .append, #[x, y], #[T, T]⟩, ty, pos, aft, gd⟩ :: rest) acc S := by
  obtain ⟨h1, h2, rfl⟩ := apM_some h
  exact RT.appendR hg hx hR hy hd hdr hd1 (by simpa using h1) (by simpa using h2) _ (by simp [flat_map]) next
theorem RT.apIR (hg : Gd ops S gd rg) [tS : TySl P T E0 n] [tE : TyEl P E0 n by_ zv] [el : EL e n] {i : Nat} (hx : S.ev x = .row i) (hR : S.r i = .live (TR E0 n e l)) (hy : S.ev y = .sv (slc n (k.map e))) (hd : d < S.n) (hdr : S.r d = .un) (hd1 : d < 1000) (h : apM by_ l k = some l')
    (next : RunT P C ops nd K rest (⟨rg ++ (okeys x ++ okeys y), [], [d, i], ⟨some (d, .sv (slc n (l'.map e))), [], [(i, .dead), (d, .dead)]⟩⟩ :: acc) ((AS.setRs [(i, .dead), (d, .dead)] S).set d (.sv (slc n (l'.map e))))) : RunT P C ops nd K (⟨some d, .call ⟨.builtin .append, #[x, y], #[T, T]⟩, ty, pos, aft, gd⟩ :: rest) acc S := by
  obtain ⟨h1, h2, rfl⟩ := apM_some h
  have hf : l.flatMap e ++ (k.map e).flatten = (l ++ k).flatMap e := by simp [flat_map]
  exact RT.appendI hg (.row hx hR) hy hd hdr hd1 (by simpa using h1) (by simpa using h2) _ (rows' := (l ++ k).map e) (fun _ _ h _ => h) (by rw [hf]; exact rows_map _) (by simp) (by rw [hf]; exact ones_flat _) next
theorem made_flat (zc : Array Value) (n : Nat) (hz : zc.size = n) (hn : 0 < n) : ∀ m : Nat, (madeCells zc (m * n)).toList = (List.replicate m zc.toList).flatten
  | 0 => by simp [madeCells]
  | m + 1 => by
    have ih := made_flat zc n hz hn m
    rw [List.replicate_succ', List.flatten_append, ← ih]
    simp only [madeCells, Array.toList_map, Array.toList_range, List.flatten_cons, List.flatten_nil, List.append_nil]
    rw [show (m + 1) * n = m * n + n by rw [Nat.add_mul]; omega, List.range_add, List.map_append, List.map_map]
    congr 1
    apply List.ext_getElem?
    intro i
    rw [List.getElem?_map]
    rcases Nat.lt_or_ge i n with hi | hi
    · rw [List.getElem?_range hi]
      simp only [Option.map_some, Function.comp]
      rw [hz, Nat.mul_comm m n, Nat.mul_add_mod, Nat.mod_eq_of_lt hi]
      rw [getElem!_pos zc i (by omega), Array.getElem?_toList, Array.getElem?_eq_getElem (by omega)]
    · rw [List.getElem?_eq_none (by simpa using hi), List.getElem?_eq_none (by simp; omega)]; rfl
theorem svis_app : ∀ {a b c d : List SV}, SVIs a c → SVIs b d → SVIs (a ++ b) (c ++ d)
  | [], _, [], _, _, h => h
  | _ :: _, _, _ :: _, _, h, h' => ⟨h.1, svis_app h.2 h'⟩
  | [], _, _ :: _, _, h, _ => h.elim
  | _ :: _, _, [], _, h, _ => h.elim
theorem svis_rep {zl : List Value} {zz : α} (hi : SVIs (zl.map SV.v) (e zz)) : ∀ m : Nat, SVIs ((List.replicate m zl).flatten.map SV.v) ((List.replicate m zz).flatMap e)
  | 0 => trivial
  | m + 1 => by
    rw [List.replicate_succ, List.replicate_succ, List.flatten_cons, List.map_append, List.flatMap_cons]
    exact svis_app hi (svis_rep hi m)
theorem RT.mkRow (hg : Gd ops S gd rg) [tS : TySl P T E0 n] [tE : TyEl P E0 n by_ zv] {kl kc : IntKind} {c : Int} {zz : α} (hx : S.ev x = .sv (.v (.int kl c))) (hy : S.ev y = .sv (.v (.int kc c))) (hd : d < S.n) (hdr : S.r d = .un) (hd1 : d < 1000) (hz : zv.cells.size = n) (hn : 0 < n) (hi : SVIs (zv.cells.toList.map SV.v) (e zz)) (hm : mkM by_ c zz = some l')
    (next : RunT P C ops nd K rest (⟨rg ++ (okeys x ++ okeys y), [], [d], ⟨some (d, .row d), [], [(d, .live (TR E0 n e l'))]⟩⟩ :: acc) ((AS.setRs [(d, .live (TR E0 n e l'))] S).set d (.row d))) : RunT P C ops nd K (⟨some d, .makeSlice T x y, ty, pos, aft, gd⟩ :: rest) acc S := by
  obtain ⟨h0, hroom, hroom2, rfl⟩ := mkM_some hm
  refine .inl ⟨_, [], [d], _, ?_, next⟩
  rintro S' hn' ht _ hr i a w L Q ho ⟨E, h⟩ hL
  refine wpOp_of (C := C) ho (hg.wanted h (fun s hs => ht s (List.mem_append_left _ hs)) rfl) ?_
  have h1 : a.eval x = .int kl c := by have h1 := h.ev x; rw [ev_congr (fun _ h => List.mem_append_right _ (List.mem_append_left _ h)) ht, hx] at h1; exact h1
  have h2 : a.eval y = .int kc c := by have h2 := h.ev y; rw [ev_congr (fun _ h => List.mem_append_right _ (List.mem_append_right _ h)) ht, hy] at h2; exact h2
  obtain ⟨info, hii, hsz, hby, hzz⟩ := TyEl.info (P := P) (E := E0) (n := n) (by_ := by_) (z := zv)
  obtain ⟨m, rfl⟩ := Int.eq_ofNat_of_zero_le h0
  have hb' : info.bytes * m ≤ 281474976710656 := by
    rw [hby]
    have : ((by_ * m : Nat) : Int) ≤ 281474976710656 := by rw [Int.natCast_mul]; exact hroom
    omega
  obtain ⟨w', q1, q2, q3⟩ := run_make_full (P := P) w 0 T E0 info zv n tS.u hii hzz hsz kl kc m hb' (by unfold maxLen; omega) (Nat.zero_le _)
  have hr' : (execOp a.eval ⟨some d, .makeSlice T x y, ty, pos, aft, gd⟩).run P w = .ok (.value (.slice (some ⟨w.heap.size, 0, none⟩) m m)) w' := by
    simp only [execOp, h1, h2]
    simp [q1]
  have hdu : S'.r d = .un := by rw [hr d (by simp)]; exact hdr
  have e0 : (m : Int).toNat = m := by simp
  have hall : SV.All E.M ((List.replicate m zz).flatMap e) (madeCells zv.cells (m * n)).toList := by
    rw [made_flat zv.cells n hz hn]
    exact SVIs.holds (l := ((List.replicate m zv.cells.toList).flatten.map SV.v)) (svis_rep hi m) (all_vv _ _)
  have hlen : (List.replicate (m : Int).toNat zz).length = m := by simp
  refine wpIn_of (C := C) (by intro c h; cases h) hr' (hL _ _ ⟨_, (h.newRow hdu hd1 [] none (.inl ⟨rfl, rfl⟩) (R' := TR E0 n e (List.replicate (m : Int).toNat zz)) (by show w'.ownsRow 0 E0 n _ (List.replicate (m : Int).toNat zz).length _; rw [hlen]; exact q2) (by rw [e0]; exact hall) (.inr (.inl rfl)) q3).put (d := d) (x := .row d) (v := .slice (some ⟨w.heap.size, 0, none⟩) m m) (by simp [AV.holds]) (by show d < S'.n; omega) ⟨fun _ e => e.elim, fun j e => ?_⟩⟩)
  cases e
  show (AS.setR S' d _).r d ≠ _
  rw [AS.setR_same]; simp
theorem RT.mkEmp (hg : Gd ops S gd rg) [tS : TySl P T E0 n] [tE : TyEl P E0 n by_ zv] {kl kc : IntKind} {c : Int} (hx : S.ev x = .sv (.v (.int kl 0))) (hy : S.ev y = .sv (.v (.int kc c))) (hd : d < S.n) (hdr : S.r d = .un) (hd1 : d < 1000) (h : mkE (α := α) by_ c = some l')
    (next : RunT P C ops nd K rest (⟨rg ++ (okeys x ++ okeys y), [], [d], ⟨some (d, .row d), [], [(d, .live (TR E0 n e l'))]⟩⟩ :: acc) ((AS.setRs [(d, .live (TR E0 n e l'))] S).set d (.row d))) : RunT P C ops nd K (⟨some d, .makeSlice T x y, ty, pos, aft, gd⟩ :: rest) acc S := by
  obtain ⟨h0, h1, h2, rfl⟩ := mkE_some h
  exact RT.make0 hg hx hy hd hdr hd1 h0 h1 h2 next
theorem RT.ixRM (hg : Gd ops S gd rg) [tS : TySl P T E0 n] {i j : Nat} {E1 : TypeId} {kk : IntKind} {v : Int} (hx : S.ev x = .row i) (hR : S.r i = .live (TR E1 n e l)) (hy : S.ev y = .sv (.v (.int kk v))) (hd : d < S.n) (h : cki l v = some j)
    (next : RunT P C ops nd K rest (⟨rg ++ (okeys x ++ okeys y), [], [i], ⟨some (d, .rptr i (j * n)), [], []⟩⟩ :: acc) (S.set d (.rptr i (j * n)))) : RunT P C ops nd K (⟨some d, .indexAddr T x y, ty, pos, aft, gd⟩ :: rest) acc S := by
  obtain ⟨h0, h1, h2⟩ := cki_some h
  exact RT.ixR hg (.row hx hR) hy hd h0 h1 (j * n) (by rw [h2]; omega) next
theorem RT.ldRM (hg : Gd ops S gd rg) [tV : TyV P T] [el : EL e 1] {i j : Nat} {E1 : TypeId} {a : α} {s : SV} (hx : S.ev x = .rptr i (j * 1)) (hR : S.r i = .live (TR E1 1 e l)) (ha : l[j]? = some a) (hs : e a = [s]) (hd : d < S.n)
    (next : RunT P C ops nd K rest (⟨rg ++ okeys x, [], [i], ⟨some (d, .sv s), [], []⟩⟩ :: acc) (S.set d (.sv s))) : RunT P C ops nd K (⟨some d, .load T x, ty, pos, aft, gd⟩ :: rest) acc S := by
  refine RT.ldR hg hx hR (s := s) ?_ hd next
  have := flat_get (e := e) ha
  rw [hs] at this
  have h2 := congrArg (·[0]?) this
  simpa [List.getElem?_take] using h2
theorem set_spl (a : List SV) (k : Nat) (s : SV) : a.set k s = spl a k [s] := rfl
theorem RT.stRM (hg : Gd ops S gd rg) [tV : TyV P T] [el : EL e 1] {i j : Nat} {E1 : TypeId} {s : SV} [o1 : One s] (a : α) (hs : e a = [s]) (hx : S.ev x = .rptr i (j * 1)) (hR : S.r i = .live (TR E1 1 e l)) (hy : S.ev y = .sv s) (h : stM l j a = some l')
    (next : RunT P C ops nd K rest (⟨rg ++ (okeys x ++ okeys y), [], [i], ⟨none, [], [(i, .live (TR E1 1 e l'))]⟩⟩ :: acc) (AS.setRs [(i, .live (TR E1 1 e l'))] S)) : RunT P C ops nd K (⟨none, .store T x y, ty, pos, aft, gd⟩ :: rest) acc S := by
  obtain ⟨h1, rfl⟩ := stM_some h
  refine RT.stR hg hx hR hy (by show j * 1 + 1 ≤ l.length * 1; omega) ((l.set j a).flatMap e) (by rw [set_spl, ← hs]; exact flat_set h1) ?_
  have : (TR E1 1 e (l.set j a)) = ⟨E1, 1, l.length, (l.set j a).flatMap e⟩ := by show Row.mk _ _ _ _ = _; rw [List.length_set]
  rw [← this]; exact next
theorem RT.stRMA (hg : Gd ops S gd rg) [tA : TyA P T n] [el : EL e n] {i j : Nat} {E1 : TypeId} (a : α) (hx : S.ev x = .rptr i (j * n)) (hR : S.r i = .live (TR E1 n e l)) (hy : S.ev y = .sv (.agg (e a))) (h : stM l j a = some l')
    (next : RunT P C ops nd K rest (⟨rg ++ (okeys x ++ okeys y), [], [i], ⟨none, [], [(i, .live (TR E1 n e l'))]⟩⟩ :: acc) (AS.setRs [(i, .live (TR E1 n e l'))] S)) : RunT P C ops nd K (⟨none, .store T x y, ty, pos, aft, gd⟩ :: rest) acc S := by
  obtain ⟨h1, rfl⟩ := stM_some h
  have o1 := el.one a
  refine RT.stRA hg hx hR hy (el.len a) (by show j * n + n ≤ l.length * n; have := Nat.mul_le_mul_right n h1; rw [Nat.succ_mul] at this; exact this) ((l.set j a).flatMap e) (flat_set h1) ?_
  have : (TR E1 n e (l.set j a)) = ⟨E1, n, l.length, (l.set j a).flatMap e⟩ := by show Row.mk _ _ _ _ = _; rw [List.length_set]
  rw [← this]; exact next
end steps
theorem weak_frzM {S : AS} {i n : Nat} {E1 : TypeId} {α : Type} {e : α → List SV} {l : List α} [el : EL e n] (hR : S.r i = .live (TR E1 n e l)) : Weak S (S.frz i (slc n (l.map e))) := by
  rintro C a w ⟨E, h⟩
  have hlen : l.length ≤ 9223372036854775807 := by
    obtain ⟨⟨vs, ho, hv⟩, _⟩ := h.rx i _ hR
    rcases ho.2 with ⟨_, q2⟩ | ⟨g', cap, cur, q1, _, q2, q3, q4, q5, q6⟩
    · have q2 : l.length = 0 := q2
      omega
    · have q3 : l.length ≤ cap := q3
      have : maxLen = 9223372036854775807 := by decide
      omega
  exact h.frz hR (rows_map l) (by rw [List.length_map]) hlen (ones_flat l) (fun _ _ h _ => h)
section control
variable {P : Program} {C : Ctx} {S : AS} {Q : Exit → AS → Prop}
theorem ok_tailJ {A : Code} {J R : Type} {kB : J → Option R} {fA : (J → Option R) → Option R} {r : R} (h : letJ kB fA = some r) (I : J → AS)
    (hA : fA kB = some r → Ok P C A S (AThen (fun S' => ∃ j, kB j = some r ∧ Weak S' (I j)) Q)) (hQ : ∀ j, kB j = some r → Q .normal (I j)) : Ok P C A S Q := fun a w hs => by
  refine wpIn_mono (hA h a w hs) ?_
  rintro e a' w' ⟨S', q, hh⟩
  cases e with
  | normal => obtain ⟨j, h1, h2⟩ := q; exact ⟨_, hQ j h1, h2 C a' w' hh⟩
  | _ => exact ⟨S', q, hh⟩
theorem ok_tailP {A : Code} {X : Type} (I : X → AS) (p : X → Prop) (hA : Ok P C A S (AThen (fun S' => ∃ j, p j ∧ Weak S' (I j)) Q)) (hQ : ∀ j, p j → Q .normal (I j)) : Ok P C A S Q := fun a w hs => by
  refine wpIn_mono (hA a w hs) ?_
  rintro e a' w' ⟨S', q, hh⟩
  cases e with
  | normal => obtain ⟨j, h1, h2⟩ := q; exact ⟨_, hQ j h1, h2 C a' w' hh⟩
  | _ => exact ⟨S', q, hh⟩
theorem ok_loopM {c : Code} {T E : Type} {body : T → Option (T ⊕ E)} {s0 : T} {e : E} (h : loopM body s0 = some e) (I : T → AS) (h0 : Weak S (I s0))
    (round : ∀ (s : T) (y : T ⊕ E) (G : T → Prop), body s = some y → (∀ s', y = .inl s' → G s') → (∀ e', y = .inr e' → e' = e) → Ok P C c (I s) (AThen (fun S' => ∃ s', G s' ∧ Weak S' (I s')) Q)) : Ok P C (.loop c) S Q := by
  obtain ⟨n, hn⟩ := loopM_some h
  refine ok_loop (ι := { x : T × Nat // runsN body x.2 x.1 = some e }) (fun x => I x.1.1) (fun x => x.1.2) ⟨(s0, n), hn⟩ h0 ?_
  rintro ⟨⟨s, m⟩, hm⟩
  cases m with
  | zero => cases hm
  | succ m =>
    cases hb : body s with
    | none => simp only [runsN, hb] at hm; cases hm
    | some y =>
      refine ok_mono (round s y (fun s' => runsN body m s' = some e) hb ?_ ?_) ?_
      · rintro s' rfl; simpa only [runsN, hb] using hm
      · rintro e' rfl; simp only [runsN, hb] at hm; exact Option.some.inj hm
      · intro ex S' q
        cases ex with
        | normal => obtain ⟨s', h1, h2⟩ := q; exact ⟨⟨(s', m), h1⟩, Nat.lt_succ_self m, h2⟩
        | _ => exact q
end control
end Go.Fw
namespace Go.Fw
open Go.RowKit
abbrev Str := List UInt8
def bs (l : Str) : ByteArray := ⟨⟨l⟩⟩
def sgeti (l : Str) (i : Int) : Option Nat := (geti l i).map UInt8.toNat
theorem bs_size (l : Str) : (bs l).size = l.length := rfl
theorem bs_get (l : Str) (i : Nat) : (bs l)[i]? = l[i]? := by
  rcases Nat.lt_or_ge i l.length with h | h
  · rw [getElem?_pos (bs l) i h, List.getElem?_eq_getElem h]; rfl
  · rw [getElem?_neg (bs l) i (by rw [bs_size]; omega), List.getElem?_eq_none h]
section steps
variable {P : Program} {C : Ctx} {ops : Array Oper} {S : AS} {nd : Bool} {K : List Ac → AS → Prop} {rest : List Oper} {acc : List Ac}
variable {gd : Option (Nat × Bool)} {rg : List Nat} {d : Nat} {ty : TypeId} {pos : String} {aft : Array Edge} {x y z : Operand} {T U E0 : TypeId}
variable {l l' k : Str}
theorem RT.skV {op : Op} {j g : Nat} {b want : Bool} (h1 : (ops[j]?).bind (·.dst) = some g) (h2 : S.t g = .sv (.v (.bool b))) (hb : b ≠ want) (hd : d < S.n)
    (next : RunT P C ops nd K rest (⟨[g], [], [], ⟨some (d, .sv (.v undef)), [], []⟩⟩ :: acc) (S.set d (.sv (.v undef)))) : RunT P C ops nd K (⟨some d, op, ty, pos, aft, some (j, want)⟩ :: rest) acc S := by
  refine .inl ⟨[g], [], [], ⟨some (d, .sv (.v undef)), [], []⟩, ?_, next⟩
  rintro S' hn ht _ _ i a w L Q ho ⟨E, h⟩ hL
  have hv := h.tm g
  rw [ht g (by simp), h2] at hv
  have hv : a.tmps.getD g undef = .bool b := hv
  have hgv : a.tmps[g]? = some (.bool b) := by
    rw [Array.getD_eq_getD_getElem?] at hv
    cases e : a.tmps[g]? with
    | none => rw [e] at hv; simp [undef] at hv
    | some x => rw [e] at hv; simp at hv; rw [hv]
  have hw : Region.wanted ⟨some d, op, ty, pos, aft, some (j, want)⟩ (yielded ops a.tmps) = false := by
    simp [Region.wanted, yielded, h1, hgv, hb]
  simp only [wpOpIn, ho, hw]
  exact ⟨fun _ _ => trivial, hL _ _ ⟨E, h.put (x := .sv (.v undef)) (v := undef) rfl (by omega) ⟨fun _ h => h.elim, fun _ h => h.elim⟩⟩⟩
theorem RT.skipU {op : Op} {j g : Nat} {want : Bool} (h1 : (ops[j]?).bind (·.dst) = some g) (h2 : S.t g = .sv (.v undef)) (hd : d < S.n)
    (next : RunT P C ops nd K rest (⟨[g], [], [], ⟨some (d, .sv (.v undef)), [], []⟩⟩ :: acc) (S.set d (.sv (.v undef)))) : RunT P C ops nd K (⟨some d, op, ty, pos, aft, some (j, want)⟩ :: rest) acc S := by
  refine .inl ⟨[g], [], [], ⟨some (d, .sv (.v undef)), [], []⟩, ?_, next⟩
  rintro S' hn ht _ _ i a w L Q ho ⟨E, h⟩ hL
  have hv := h.tm g
  rw [ht g (by simp), h2] at hv
  have hv : a.tmps.getD g undef = undef := hv
  rw [Array.getD_eq_getD_getElem?] at hv
  have hw : Region.wanted ⟨some d, op, ty, pos, aft, some (j, want)⟩ (yielded ops a.tmps) = false := by
    cases e : a.tmps[g]? with
    | none => simp [Region.wanted, yielded, h1, e]
    | some x =>
      rw [e] at hv
      simp only [Option.getD_some] at hv
      subst hv
      simp [Region.wanted, yielded, h1, e, undef]
  simp only [wpOpIn, ho, hw]
  exact ⟨fun _ _ => trivial, hL _ _ ⟨E, h.put (x := .sv (.v undef)) (v := undef) rfl (by omega) ⟨fun _ h => h.elim, fun _ h => h.elim⟩⟩⟩
theorem RT.six (hg : Gd ops S gd rg) [tS : TyStr P T] {kk : IntKind} {i : Int} {c : Nat} (hx : S.ev x = .sv (.v (.string (bs l)))) (hy : S.ev y = .sv (.v (.int kk i))) (hd : d < S.n) (h : sgeti l i = some c)
    (next : RunT P C ops nd K rest (⟨rg ++ (okeys x ++ okeys y), [], [], ⟨some (d, .sv (.v (.int .u8 (c : Nat)))), [], []⟩⟩ :: acc) (S.set d (.sv (.v (.int .u8 (c : Nat)))))) : RunT P C ops nd K (⟨some d, .index T x y, ty, pos, aft, gd⟩ :: rest) acc S :=
  RT.op2 hg (by intro c h; cases h) hx hy hd (fun ρ w h1 h2 => by
    unfold sgeti at h
    cases hh : geti l i with
    | none => rw [hh] at h; cases h
    | some b =>
      rw [hh] at h
      obtain ⟨q1, q2⟩ := geti_some hh
      have q3 : b.toNat = c := Option.some.inj h
      have q4 : (bs l)[i.toNat]? = some b := by rw [bs_get]; exact q2
      simp [execOp, h1, h2, Instr.index, asIntOf, underlying, tS.h, q1, q4, q3]) next
end steps
section rows
variable {P : Program} {C : Ctx} {ops : Array Oper} {S : AS} {nd : Bool} {K : List Ac → AS → Prop} {rest : List Oper} {acc : List Ac}
variable {gd : Option (Nat × Bool)} {rg : List Nat} {d : Nat} {ty : TypeId} {pos : String} {aft : Array Edge} {x y z : Operand} {T U E0 : TypeId}
variable {α : Type} {l l' k : List α} {e : α → List SV} {n by_ : Nat} {zv : Value}
end rows
end Go.Fw
namespace Go.Fw
open Go.RowKit
def eqLen {α : Type} (l l' : List α) : Option Unit := if l'.length = l.length then some () else none
theorem eqLen_some {α : Type} {l l' : List α} {u : Unit} (h : eqLen l l' = some u) : l'.length = l.length := by
  unfold eqLen at h; split at h
  · assumption
  · cases h
def ckS {α : Type} (l : List α) (lo hi : Int) : Option (Nat × Nat) := if 0 ≤ lo ∧ lo < l.length ∧ lo ≤ hi ∧ hi ≤ l.length then some (lo.toNat, (hi - lo).toNat) else none
theorem ckS_some {α : Type} {l : List α} {lo hi : Int} {o n : Nat} (h : ckS l lo hi = some (o, n)) : 0 ≤ lo ∧ lo < l.length ∧ lo ≤ hi ∧ hi ≤ l.length ∧ lo.toNat = o ∧ (hi - lo).toNat = n := by
  unfold ckS at h; split at h
  · rename_i hh
    obtain ⟨q1, q2⟩ := Prod.mk.inj (Option.some.inj h)
    exact ⟨hh.1, hh.2.1, hh.2.2.1, hh.2.2.2, q1, q2⟩
  · cases h
def ckR (o n : Nat) (i : Int) : Option Nat := if 0 ≤ i ∧ i < n then some (o + i.toNat) else none
theorem ckR_some {o n j : Nat} {i : Int} (h : ckR o n i = some j) : 0 ≤ i ∧ i < n ∧ o + i.toNat = j := by
  unfold ckR at h; split at h
  · rename_i hh; exact ⟨hh.1, hh.2, Option.some.inj h⟩
  · cases h
def RowsImp : List (List SV) → List (List SV) → Prop
  | [], [] => True
  | r :: l, r' :: l' => SVIs r r' ∧ RowsImp l l'
  | _, _ => False
theorem SVIs.get : ∀ {l l' : List SV} {k : Nat} {s' : SV}, SVIs l l' → l'[k]? = some s' → ∃ s, l[k]? = some s ∧ SV.imp s s'
  | x :: _, y :: _, 0, _, h, e => ⟨x, rfl, by simp at e; subst e; exact h.1⟩
  | _ :: l, _ :: l', k + 1, _, h, e => by simpa using SVIs.get (l := l) (l' := l') h.2 (by simpa using e)
  | [], [], _, _, _, e => by simp at e
  | [], _ :: _, _, _, h, _ => h.elim
  | _ :: _, [], _, _, h, _ => h.elim
theorem SVIs.len : ∀ {l l' : List SV}, SVIs l l' → l'.length = l.length
  | [], [], _ => rfl
  | _ :: _, _ :: _, h => congrArg (· + 1) (SVIs.len h.2)
  | [], _ :: _, h => h.elim
  | _ :: _, [], h => h.elim
theorem RowsImp.len : ∀ {l l' : List (List SV)}, RowsImp l l' → l'.length = l.length
  | [], [], _ => rfl
  | _ :: _, _ :: _, h => congrArg (· + 1) (RowsImp.len h.2)
  | [], _ :: _, h => h.elim
  | _ :: _, [], h => h.elim
theorem RowsImp.get : ∀ {l l' : List (List SV)} {k : Nat} {s' : List SV}, RowsImp l l' → l'[k]? = some s' → ∃ s, l[k]? = some s ∧ SVIs s s'
  | x :: _, y :: _, 0, _, h, e => ⟨x, rfl, by simp at e; subst e; exact h.1⟩
  | _ :: l, _ :: l', k + 1, _, h, e => by simpa using RowsImp.get (l := l) (l' := l') h.2 (by simpa using e)
  | [], [], _, _, _, e => by simp at e
  | [], _ :: _, _, _, h, _ => h.elim
  | _ :: _, [], _, _, h, _ => h.elim
class PV {α : Type} (e : α → List SV) : Prop where
  h : ∀ x, ∃ v : Value, e x = [.v v]
instance : PV eU32 := ⟨fun _ => ⟨_, rfl⟩⟩
instance : PV eI64 := ⟨fun _ => ⟨_, rfl⟩⟩
theorem slc_len {α : Type} {e : α → List SV} {l : List α} {n : Nat} {M : Mem} {v : Value} (h : (slc n (l.map e)).h M v) : l.length ≤ 9223372036854775807 := by
  rcases h with ⟨_, _, h⟩ | ⟨b, o, c, _, _, h, _⟩
  · have : l = [] := by simpa using h
    subst this; simp
  · rwa [List.length_map] at h
theorem ref_len {α : Type} {e : α → List SV} {l : List α} {n : Nat} {M : Mem} {v : Value} (h : (ref [slc n (l.map e)]).h M v) : l.length ≤ 9223372036854775807 := by
  obtain ⟨b, o, _, h⟩ := h
  obtain ⟨y, _, _, h⟩ := h 0 _ rfl
  exact slc_len h
theorem getD_of_le {l : List Nat} {i : Nat} (h : l.length ≤ i) : l.getD i 0 = 0 := by simp [List.getD, List.getElem?_eq_none h]
theorem get_getD {l : List Nat} {i : Nat} (h : i < l.length) : l[i]? = some (l.getD i 0) := by simp [List.getD, h]
theorem getD_of_le' {α : Type} {l : List α} {d : α} {i : Nat} (h : l.length ≤ i) : l.getD i d = d := by simp [List.getD, List.getElem?_eq_none h]
theorem get_getD' {α : Type} {l : List α} {d : α} {i : Nat} (h : i < l.length) : l[i]? = some (l.getD i d) := by simp [List.getD, h]
theorem pair_cases {α β : Type} (a : List α) (b : List β) (i : Nat) (h : i ≤ max a.length b.length) : (i < max a.length b.length ∧ i < a.length ∧ i < b.length) ∨ (i < max a.length b.length ∧ i < a.length ∧ b.length ≤ i) ∨ (i < max a.length b.length ∧ a.length ≤ i ∧ i < b.length) ∨ i = max a.length b.length := by omega
section steps
variable {P : Program} {C : Ctx} {ops : Array Oper} {S : AS} {nd : Bool} {K : List Ac → AS → Prop} {rest : List Oper} {acc : List Ac}
variable {gd : Option (Nat × Bool)} {rg : List Nat} {d : Nat} {ty : TypeId} {pos : String} {aft : Array Edge} {x y z : Operand} {T U E0 : TypeId}
variable {α : Type} {l l' k : List α} {e : α → List SV} {n by_ : Nat} {zv : Value}
theorem tr_len {E1 : TypeId} (h : l'.length = l.length) : (⟨E1, n, l.length, l'.flatMap e⟩ : Row) = TR E1 n e l' := by show _ = Row.mk _ _ _ _; rw [h]
theorem RT.callRM (hg : Gd ops S gd rg) {f : FuncId} [Ent P f] {g : Operand} {xs : Array Operand} {at_ : Array TypeId} {args : List AV} {E1 : TypeId} {res : AV} (hp : RowC P f args (TR E1 n e l) res (l'.flatMap e)) (hlen : l'.length = l.length) (i : Nat) (hR : S.r i = .live (TR E1 n e l)) (hrow : args.all AV.rowy = true) (hres : res.rowy = true)
    (hf : S.ev g = .sv (.v (.func (.func f) #[] #[]))) (hargs : Args S xs.toList (args.map (AV.ren i))) (hd : d < S.n)
    (next : RunT P C ops nd K rest (⟨rg ++ (okeys g ++ xs.toList.flatMap okeys), [], [i], ⟨some (d, res.ren i), [], [(i, .live (TR E1 n e l'))]⟩⟩ :: acc) ((AS.setRs [(i, .live (TR E1 n e l'))] S).set d (res.ren i))) : RunT P C ops nd K (⟨some d, .call ⟨.value g, xs, at_⟩, ty, pos, aft, gd⟩ :: rest) acc S :=
  RT.callR hg hp i hR hrow hres hf hargs hd (by rw [tr_len hlen]; exact next)
theorem RT.slRM (hg : Gd ops S gd rg) [tS : TySl P T E0 n] {i o m : Nat} {E1 : TypeId} {lo hi : Option Operand} (a b : Int) (hx : S.ev x = .row i) (hR : S.r i = .live (TR E1 n e l)) (hlo : bndS S 0 lo a) (hhi : bndS S l.length hi b) (hd : d < S.n) (h : ckS l a b = some (o, m))
    (next : RunT P C ops nd K rest (⟨rg ++ (okeys x ++ (bkeys lo ++ bkeys hi)), [], [i], ⟨some (d, .rsl i (o * n) m), [], []⟩⟩ :: acc) (S.set d (.rsl i (o * n) m))) : RunT P C ops nd K (⟨some d, .slice T x lo hi none, ty, pos, aft, gd⟩ :: rest) acc S := by
  obtain ⟨h0, h1, h2, h3, h4, h5⟩ := ckS_some h
  exact RT.sliceR hg (.row hx hR) a b hlo hhi hd h0 h1 h2 h3 (o * n) m (by rw [h4]; omega) h5 next
theorem RT.lenRsM (hg : Gd ops S gd rg) {m : Nat} [tS : TySl P T E0 m] {i o q : Nat} {c : Int} (hx : S.ev x = .rsl i o q) (hd : d < S.n) (hc : (q : Int) = c)
    (next : RunT P C ops nd K rest (⟨rg ++ okeys x, [], [], ⟨some (d, .sv (.v (.int .i64 c))), [], []⟩⟩ :: acc) (S.set d (.sv (.v (.int .i64 c))))) : RunT P C ops nd K (⟨some d, .call ⟨.builtin .len, #[x], #[T]⟩, ty, pos, aft, gd⟩ :: rest) acc S :=
  RT.lenRs hg hx hd (by rw [hc]; exact next)
theorem RT.ixRsM (hg : Gd ops S gd rg) [tS : TySl P T E0 n] {i o q j : Nat} {kk : IntKind} {v : Int} (hx : S.ev x = .rsl i (o * n) q) (hy : S.ev y = .sv (.v (.int kk v))) (hd : d < S.n) (h : ckR o q v = some j)
    (next : RunT P C ops nd K rest (⟨rg ++ (okeys x ++ okeys y), [], [], ⟨some (d, .rptr i (j * n)), [], []⟩⟩ :: acc) (S.set d (.rptr i (j * n)))) : RunT P C ops nd K (⟨some d, .indexAddr T x y, ty, pos, aft, gd⟩ :: rest) acc S := by
  obtain ⟨h0, h1, h2⟩ := ckR_some h
  exact RT.ixR hg (.rsl hx) hy hd h0 h1 (j * n) (by rw [← h2, Nat.add_mul]) next
end steps
def rangeM {S : Type} (body : Nat → S → Option S) : Nat → S → Option S
  | 0, s => some s
  | n + 1, s => (rangeM body n s).bind (body n)
theorem rangeM_st {S : Type} {body : Nat → S → Option S} : ∀ {n : Nat} {s e : S}, rangeM body n s = some e → ∃ st : Nat → S, st 0 = s ∧ (∀ k, k < n → body k (st k) = some (st (k + 1))) ∧ st n = e
  | 0, s, e, h => ⟨fun _ => s, rfl, fun _ h => by omega, Option.some.inj h⟩
  | n + 1, s, e, h => by
    obtain ⟨e1, h1, h2⟩ := bind_some (x := rangeM body n s) h
    obtain ⟨st, q1, q2, q3⟩ := rangeM_st h1
    refine ⟨fun k => if k = n + 1 then e else st k, by simpa using q1, fun k hk => ?_, by simp⟩
    rcases Nat.lt_or_ge k n with hkn | hkn
    · simpa [show k ≠ n + 1 by omega, show k ≠ n by omega] using q2 k hkn
    · obtain rfl : k = n := by omega
      simpa [q3] using h2
theorem rangeM_to {S : Type} {body : Nat → S → Option S} (st : Nat → S) : ∀ (n : Nat), (∀ k, k < n → body k (st k) = some (st (k + 1))) → rangeM body n (st 0) = some (st n)
  | 0, _ => rfl
  | n + 1, h => by
    rw [rangeM, rangeM_to st n (fun k hk => h k (by omega))]
    exact h n (by omega)
def rangeX {S E : Type} (body : Nat → S → Option (S ⊕ E)) : Nat → S → Option (S ⊕ E)
  | 0, s => some (.inl s)
  | n + 1, s => (rangeX body n s).bind fun r => match r with | .inl s' => body n s' | .inr e => some (.inr e)
theorem rangeX_st {S E : Type} {body : Nat → S → Option (S ⊕ E)} : ∀ {n : Nat} {s : S} {r : S ⊕ E}, rangeX body n s = some r → ∃ (m : Nat) (st : Nat → S), st 0 = s ∧ m ≤ n ∧ (∀ k, k < m → body k (st k) = some (.inl (st (k + 1)))) ∧ ((m = n ∧ r = .inl (st n)) ∨ (m < n ∧ ∃ e, r = .inr e ∧ body m (st m) = some (.inr e)))
  | 0, s, r, h => ⟨0, fun _ => s, rfl, Nat.le_refl _, fun _ h => by omega, .inl ⟨rfl, (Option.some.inj h).symm⟩⟩
  | n + 1, s, r, h => by
    obtain ⟨r1, h1, h2⟩ := bind_some (x := rangeX body n s) h
    obtain ⟨m, st, q1, q2, q3, q4⟩ := rangeX_st h1
    rcases q4 with ⟨rfl, rfl⟩ | ⟨q4, e, rfl, q5⟩
    · simp only at h2
      cases r with
      | inr e => exact ⟨m, st, q1, by omega, q3, .inr ⟨by omega, e, rfl, h2⟩⟩
      | inl s' =>
        refine ⟨m + 1, fun k => if k = m + 1 then s' else st k, by simpa using q1, Nat.le_refl _, fun k hk => ?_, .inl ⟨rfl, by simp⟩⟩
        rcases Nat.lt_or_ge k m with hkn | hkn
        · simpa [show k ≠ m + 1 by omega, show k ≠ m by omega] using q3 k hkn
        · obtain rfl : k = m := by omega
          simpa using h2
    · simp only at h2
      cases h2
      exact ⟨m, st, q1, by omega, q3, .inr ⟨by omega, e, rfl, q5⟩⟩
theorem rangeX_round {S E : Type} {body : Nat → S → Option (S ⊕ E)} {n m : Nat} {st : Nat → S} {r : S ⊕ E} (h : ∀ k, k < m → body k (st k) = some (.inl (st (k + 1)))) (hr : (m = n ∧ r = .inl (st n)) ∨ (m < n ∧ ∃ e, r = .inr e ∧ body m (st m) = some (.inr e))) {k : Nat} (hk : k < n) (hkm : k ≤ m) :
    ∃ y, body k (st k) = some y ∧ (∀ s', y = .inl s' → k + 1 ≤ m ∧ s' = st (k + 1)) ∧ ∀ e', y = .inr e' → r = .inr e' := by
  rcases Nat.lt_or_ge k m with q | q
  · exact ⟨_, h k q, (fun s' e => ⟨q, by cases e; rfl⟩), (fun e' e => by cases e)⟩
  · obtain rfl : k = m := by omega
    rcases hr with ⟨rfl, _⟩ | ⟨_, e, rfl, he⟩
    · omega
    · exact ⟨_, he, (fun s' e => by cases e), (fun e' q => by cases q; rfl)⟩
theorem rangeX_done {S E : Type} {body : Nat → S → Option (S ⊕ E)} {n m : Nat} {st : Nat → S} {r : S ⊕ E} (hr : (m = n ∧ r = .inl (st n)) ∨ (m < n ∧ ∃ e, r = .inr e ∧ body m (st m) = some (.inr e))) (h : n ≤ m) : r = .inl (st n) := by
  rcases hr with ⟨_, q⟩ | ⟨q, _⟩
  · exact q
  · omega
theorem rangeX_rd {S E : Type} {body : Nat → S → Option (S ⊕ E)} {n : Nat} {s : S} {r : S ⊕ E} (h : rangeX body n s = some r) : ∃ (m : Nat) (st : Nat → S), st 0 = s ∧ (∀ k, k < n → k ≤ m → ∃ y, body k (st k) = some y ∧ (∀ s', y = .inl s' → k + 1 ≤ m ∧ s' = st (k + 1)) ∧ ∀ e', y = .inr e' → r = .inr e') ∧ (n ≤ m → r = .inl (st n)) := by
  obtain ⟨m, st, q1, q2, q3, q4⟩ := rangeX_st h
  exact ⟨m, st, q1, fun k hk hm => rangeX_round q3 q4 hk hm, fun hn => rangeX_done q4 hn⟩
end Go.Fw
namespace Go.Fw
open Go.RowKit
def mapS (es : List (Value × Value)) : SV where
  h M v := ∃ b, v = .map (some b) ∧ M b 0 = some (.tuple ⟨es.map fun p => .tuple #[p.1, p.2]⟩)
  mono hM h := by obtain ⟨b, e, h⟩ := h; exact ⟨b, e, hM _ _ _ h⟩
class TyMap (P : Program) (T : TypeId) (k : outParam TypeId) (e : outParam TypeId) : Prop where
  u : P.underlying T = some (.map k e)
def lookE (k : IntKind) (n : Int) : List (Value × Value) → Option Value
  | [] => none
  | (.int k' m, v) :: l => if k = k' then (if n = m then some v else lookE k n l) else none
  | _ :: _ => none
theorem findNow_lookE {k : IntKind} {n : Int} {v : Value} : ∀ (es : List MapEntry) (i : Nat), lookE k n (es.map fun e => (e.key, e.val)) = some v → ∃ j, Instr.findNow (.int k) (.int k n) es i = some (some (j, v))
  | [], _, h => by simp [lookE] at h
  | ⟨key, val, born⟩ :: es, i, h => by
    cases key with
    | int k' m =>
      simp only [List.map_cons, lookE] at h
      by_cases hk : k = k'
      · subst hk
        rw [if_pos rfl] at h
        by_cases hn : n = m
        · subst hn
          rw [if_pos rfl] at h
          cases h
          exact ⟨i, by simp [Instr.findNow, Instr.sameNow]⟩
        · rw [if_neg hn] at h
          obtain ⟨j, hj⟩ := findNow_lookE es (i + 1) h
          have hb : (n == m) = false := by simp [hn]
          exact ⟨j, by simp [Instr.findNow, Instr.sameNow, hb, hj]⟩
      · rw [if_neg hk] at h; cases h
    | _ => simp [lookE] at h
theorem tup_inj : ∀ (l : List (Value × Value)) (m : List MapEntry), l.map (fun p => Value.tuple #[p.1, p.2]) = m.map (fun e => Value.tuple #[e.key, e.val]) → m.map (fun e => (e.key, e.val)) = l
  | [], [], _ => rfl
  | [], _ :: _, h => by simp at h
  | _ :: _, [], h => by simp at h
  | (p, q) :: l, e :: m, h => by
    simp only [List.map_cons, List.cons.injEq, Value.tuple.injEq] at h ⊢
    refine ⟨?_, tup_inj l m h.2⟩
    have := h.1
    simp at this
    rw [this.1, this.2]
theorem entV_inj {es : Array MapEntry} {l : List (Value × Value)} (h : (⟨l.map fun p => .tuple #[p.1, p.2]⟩ : Array Value) = entV es) : es.toList.map (fun e => (e.key, e.val)) = l :=
  tup_inj l es.toList (congrArg Array.toList h)
theorem getM {P : Program} {w : World} {r : Nat} {es : Array MapEntry} {ck : Nat} (hb : w.heap[r]? = some (.map es ck)) : (getObj r).run P w = .ok (.map es ck) w := by simp [getObj, Sem.run, hb]
theorem setM {P : Program} {w : World} {r : Nat} {es : Array MapEntry} {ck : Nat} (o : Obj) (hb : w.heap[r]? = some (.map es ck)) : (setObj r o).run P w = .ok () { w with heap := w.heap.setIfInBounds r o } := by simp [setObj, Sem.run, hb]
theorem ckM {P : Program} {w : World} {kt : TypeId} {k : IntKind} [tI : TyInt P kt k] {n : Int} (bb : Bool) : (Instr.checkKey bb 10000 kt (.int k n)).run P w = .ok () w := by
  rw [show (10000 : Nat) = 9999 + 1 from rfl, Instr.checkKey]
  simp [underlying, tI.h]
theorem all_vs {M : Mem} : ∀ l : List Value, SV.All M (l.map SV.v) l
  | [] => trivial
  | _ :: l => ⟨rfl, all_vs l⟩
section steps
variable {P : Program} {C : Ctx} {ops : Array Oper} {S : AS} {nd : Bool} {K : List Ac → AS → Prop} {rest : List Oper} {acc : List Ac}
variable {gd : Option (Nat × Bool)} {rg : List Nat} {d : Nat} {ty : TypeId} {pos : String} {aft : Array Edge} {x y z : Operand} {T U E0 : TypeId}
theorem RT.look (hg : Gd ops S gd rg) {kt et : TypeId} [tM : TyMap P T kt et] {k : IntKind} [tI : TyInt P kt k] {es : List (Value × Value)} {n : Int} (cs : List Value) (hx : S.ev x = .sv (mapS es)) (hy : S.ev y = .sv (.v (.int k n))) (hl : lookE k n es = some (.agg ⟨cs⟩)) (hd : d < S.n)
    (next : RunT P C ops nd K rest (⟨rg ++ (okeys x ++ okeys y), [], [], ⟨some (d, .sv (.agg (cs.map SV.v))), [], []⟩⟩ :: acc) (S.set d (.sv (.agg (cs.map SV.v))))) : RunT P C ops nd K (⟨some d, .lookup T x y false, ty, pos, aft, gd⟩ :: rest) acc S :=
  RT.value hg (okeys x ++ okeys y) [] [] (.sv (.agg (cs.map SV.v))) hd (by intro c h; cases h) (fun S' ht _ _ E a w h => by
    have h1 := h.ev x
    rw [ev_congr (fun _ h => List.mem_append_left _ h) ht, hx] at h1
    have h2 : a.eval y = .int k n := by have h2 := h.ev y; rw [ev_congr (fun _ h => List.mem_append_right _ h) ht, hy] at h2; exact h2
    obtain ⟨b, e, hb⟩ := h1
    obtain ⟨ms, ck, hm, he⟩ := h.inW _ _ _ hb
    have he := entV_inj he
    rw [← he] at hl
    obtain ⟨j, hj⟩ := findNow_lookE ms.toList 0 hl
    refine ⟨.agg ⟨cs⟩, ?_, ⟨cs, rfl, ?_⟩, nomb⟩
    · have hfk : (Instr.findKey kt (.int k n) ms.toList).run P w = .ok (some (j, .agg ⟨cs⟩)) w := by
        simp [Instr.findKey, underlying, tI.h, hj]
      simp [execOp, e, h2, Instr.lookup, underlying, tM.u, getM hm, ckM, hfk]
    · exact all_vs cs) next
def pushM (w : World) (ms : Array MapEntry) (ck : Nat) : World := w.alloc (.map ms ck)
theorem pushM_get (w : World) (ms : Array MapEntry) (ck : Nat) : (pushM w ms ck).heap[w.heap.size]? = some (.map ms ck) := by show (w.heap.push _)[w.heap.size]? = _; simp
theorem run_make {d : Option Nat} {ρ : Operand → Value} {w : World} : (execOp ρ ⟨d, .makeMap T none, ty, pos, aft, none⟩).run P w = .ok (.value (.map (some w.heap.size))) (pushM w #[] 0) := by
  simp [execOp, Instr.makeMap, pushM]
theorem run_ins {d : Option Nat} {kt et : TypeId} [tM : TyMap P T kt et] {k : IntKind} [tI : TyInt P kt k] {ρ : Operand → Value} {w : World} {ms : Array MapEntry} {ck : Nat} {n : Int} {v : Value} (hx : ρ x = .map (some w.heap.size)) (hy : ρ y = .int k n) (hz : ρ z = v)
    (hf : Instr.findNow (.int k) (.int k n) ms.toList 0 = some none) : (execOp ρ ⟨d, .insert T x y z, ty, pos, aft, none⟩).run P (pushM w ms ck) = .ok .skip (pushM w (ms.push ⟨.int k n, v, ck⟩) (ck + 1)) := by
  have hfk : (Instr.findKey kt (.int k n) ms.toList).run P (pushM w ms ck) = .ok none (pushM w ms ck) := by
    simp [Instr.findKey, underlying, tI.h, hf]
  have hset : ∀ o : Obj, { pushM w ms ck with heap := (pushM w ms ck).heap.setIfInBounds w.heap.size o } = w.alloc o := by
    intro o
    simp only [pushM, World.alloc]
    congr 1
    apply Array.ext'
    simp
  simp [execOp, hx, hy, hz, Instr.mapUpdate, underlying, tM.u, getM (pushM_get w ms ck), ckM, hfk, setM _ (pushM_get w ms ck)]
  exact hset _
theorem run_bld {d : Option Nat} {z0 : Value} [tP : StructPl P U [(0, 1)] [z0]] {ρ : Operand → Value} {w : World} {v : Value} (hx : ρ x = v) (hv : v.oneCell' = true) : (execOp ρ ⟨d, .build U #[(0, x)], ty, pos, aft, none⟩).run P w = .ok (.value (.agg #[v])) w := by
  have hu := tP.h
  cases hT : P.underlying U with
  | none => rw [hT] at hu; cases hu
  | some u =>
    rw [hT] at hu
    cases u with
    | struct fs =>
      simp only at hu
      have hz : (zeroValue U).run P w = .ok (.agg ⟨[z0]⟩) w := TyZero.run (t := ⟨tP.hz⟩) w
      have hm : (fs.mapM (fun f => do pure (f.offset, ← sizeOf f.type) : Field → Sem (Nat × Nat))).run P w = .ok #[(0, 1)] w := by
        have := mapM_places (P := P) (w := w) hu
        rw [← Array.toArray_toList (xs := fs), List.mapM_toArray]
        rw [Sem.run_map, this]; rfl
      simp only [execOp, Instr.build, underlying]
      simp only [Sem.run_bind, hz, Result.andThen_ok, run_program, hT, Sem.run_pure, Value.cells]
      have hm' : (Array.mapM (fun f => do
          let __do_lift ← sizeOf f.type
          pure (f.offset, __do_lift)) fs : Sem _).run P w = .ok #[(0, 1)] w := hm
      simp only [hm', Result.andThen_ok]
      have h1' : Instr.fill (fun i => (#[(0, 1)] : Array (Nat × Nat))[i]?) ⟨[z0]⟩ [(0, v)] = some ⟨[v]⟩ := by
        simp [Instr.fill, oneCell_cells hv]
        try rfl
      have e4 : (Array.map (fun x => match x with | (i, x) => (i, ρ x)) #[(0, x)]).toList = [(0, v)] := by simp [hx]
      simp only [e4, h1', Sem.run_pure, Result.andThen_ok]
    | _ => cases hu
theorem ok_map4 {Q : Exit → AS → Prop} {id : Nat} {T U kt et t0 : TypeId} [tM : TyMap P T kt et] {k : IntKind} [tI : TyInt P kt k] {z0 : Value} [tP : StructPl P U [(0, 1)] [z0]] {f1 f2 f3 f4 : FuncId} {n1 n2 n3 n4 : Int}
    {p0 p1 p2 p3 p4 p5 p6 p7 p8 p9 p10 : String} {a0 a1 a2 a3 a4 a5 a6 a7 a8 a9 a10 : Array Edge} {u1 u2 u3 u4 u5 u6 u7 u8 u9 : TypeId} (hn : 7 ≤ S.n)
    (h2 : Instr.findNow (.int k) (.int k n2) [⟨.int k n1, .agg #[.func (.func f1) #[] #[]], 0⟩] 0 = some none)
    (h3 : Instr.findNow (.int k) (.int k n3) [⟨.int k n1, .agg #[.func (.func f1) #[] #[]], 0⟩, ⟨.int k n2, .agg #[.func (.func f2) #[] #[]], 1⟩] 0 = some none)
    (h4 : Instr.findNow (.int k) (.int k n4) [⟨.int k n1, .agg #[.func (.func f1) #[] #[]], 0⟩, ⟨.int k n2, .agg #[.func (.func f2) #[] #[]], 1⟩, ⟨.int k n3, .agg #[.func (.func f3) #[] #[]], 2⟩] 0 = some none)
    (hQ : ∀ S', S'.t 0 = .sv (mapS [(.int k n1, .agg #[.func (.func f1) #[] #[]]), (.int k n2, .agg #[.func (.func f2) #[] #[]]), (.int k n3, .agg #[.func (.func f3) #[] #[]]), (.int k n4, .agg #[.func (.func f4) #[] #[]])]) → Q .normal S') :
    Ok P C (.region id #[⟨some 1, .makeMap T none, t0, p0, a0, none⟩, ⟨some 2, .build U #[(0, .func f1)], u1, p1, a1, none⟩, ⟨none, .insert T (.tmp 1) (.const (.int k n1)) (.tmp 2), u2, p2, a2, none⟩,
      ⟨some 3, .build U #[(0, .func f2)], u3, p3, a3, none⟩, ⟨none, .insert T (.tmp 1) (.const (.int k n2)) (.tmp 3), u4, p4, a4, none⟩, ⟨some 4, .build U #[(0, .func f3)], u5, p5, a5, none⟩, ⟨none, .insert T (.tmp 1) (.const (.int k n3)) (.tmp 4), u6, p6, a6, none⟩,
      ⟨some 5, .build U #[(0, .func f4)], u7, p7, a7, none⟩, ⟨none, .insert T (.tmp 1) (.const (.int k n4)) (.tmp 5), u8, p8, a8, none⟩, ⟨some 6, .move (.tmp 1), u9, p9, a9, none⟩, ⟨some 0, .assign (.tmp 6), u9, p10, a10, none⟩] false) S Q := by
  rintro a w ⟨E, h⟩
  refine wpIn_region ?_
  show wpOpsIn _ _ _ _ _ [0, 1, 2, 3, 4, 5, 6, 7, 8, 9, 10] a w
  have hS : ∀ (S : AS) (d : Nat) (x : AV), (S.set d x).n = S.n := fun _ _ _ => rfl
  rw [wpOpsIn_cons]
  refine wpOp_of (C := C) rfl rfl (wpIn_of (C := C) (by intro c h; cases h) run_make ?_)
  have g1 := h.put (d := 1) (x := .sv (.v (.map (some w.heap.size)))) (v := .map (some w.heap.size)) rfl (by omega) nomb
  show wpOpsIn _ _ _ _ _ _ (a.put (some 1) _) _
  generalize a.put (some 1) (.map (some w.heap.size)) = b1 at g1 ⊢
  rw [wpOpsIn_cons]
  refine wpOp_of (C := C) rfl rfl (wpIn_of (C := C) (by intro c h; cases h) (run_bld rfl rfl) ?_)
  have g2 := g1.put (d := 2) (x := .sv (.v (.agg #[.func (.func f1) #[] #[]]))) (v := .agg #[.func (.func f1) #[] #[]]) rfl (by rw [hS]; omega) nomb
  show wpOpsIn _ _ _ _ _ _ (b1.put (some 2) (.agg #[.func (.func f1) #[] #[]])) _
  generalize b1.put (some 2) (.agg #[.func (.func f1) #[] #[]]) = b2 at g2 ⊢
  rw [wpOpsIn_cons]
  refine wpOp_of (C := C) rfl rfl (wpIn_of (C := C) (by intro c h; cases h) (run_ins (k := k) (n := n1) (v := .agg #[.func (.func f1) #[] #[]]) (g2.ev (.tmp 1)) rfl (g2.ev (.tmp 2)) rfl) ?_)
  show wpOpsIn _ _ _ _ _ _ (b2.put none undef) _
  rw [show b2.put none undef = b2 from rfl, wpOpsIn_cons]
  refine wpOp_of (C := C) rfl rfl (wpIn_of (C := C) (by intro c h; cases h) (run_bld rfl rfl) ?_)
  have g3 := g2.put (d := 3) (x := .sv (.v (.agg #[.func (.func f2) #[] #[]]))) (v := .agg #[.func (.func f2) #[] #[]]) rfl (by rw [hS, hS]; omega) nomb
  show wpOpsIn _ _ _ _ _ _ (b2.put (some 3) (.agg #[.func (.func f2) #[] #[]])) _
  generalize b2.put (some 3) (.agg #[.func (.func f2) #[] #[]]) = b3 at g3 ⊢
  rw [wpOpsIn_cons]
  refine wpOp_of (C := C) rfl rfl (wpIn_of (C := C) (by intro c h; cases h) (run_ins (k := k) (n := n2) (v := .agg #[.func (.func f2) #[] #[]]) (g3.ev (.tmp 1)) rfl (g3.ev (.tmp 3)) (by simpa using h2)) ?_)
  show wpOpsIn _ _ _ _ _ _ (b3.put none undef) _
  rw [show b3.put none undef = b3 from rfl, wpOpsIn_cons]
  refine wpOp_of (C := C) rfl rfl (wpIn_of (C := C) (by intro c h; cases h) (run_bld rfl rfl) ?_)
  have g4 := g3.put (d := 4) (x := .sv (.v (.agg #[.func (.func f3) #[] #[]]))) (v := .agg #[.func (.func f3) #[] #[]]) rfl (by rw [hS, hS, hS]; omega) nomb
  show wpOpsIn _ _ _ _ _ _ (b3.put (some 4) (.agg #[.func (.func f3) #[] #[]])) _
  generalize b3.put (some 4) (.agg #[.func (.func f3) #[] #[]]) = b4 at g4 ⊢
  rw [wpOpsIn_cons]
  refine wpOp_of (C := C) rfl rfl (wpIn_of (C := C) (by intro c h; cases h) (run_ins (k := k) (n := n3) (v := .agg #[.func (.func f3) #[] #[]]) (g4.ev (.tmp 1)) rfl (g4.ev (.tmp 4)) (by simpa using h3)) ?_)
  show wpOpsIn _ _ _ _ _ _ (b4.put none undef) _
  rw [show b4.put none undef = b4 from rfl, wpOpsIn_cons]
  refine wpOp_of (C := C) rfl rfl (wpIn_of (C := C) (by intro c h; cases h) (run_bld rfl rfl) ?_)
  have g5 := g4.put (d := 5) (x := .sv (.v (.agg #[.func (.func f4) #[] #[]]))) (v := .agg #[.func (.func f4) #[] #[]]) rfl (by rw [hS, hS, hS, hS]; omega) nomb
  show wpOpsIn _ _ _ _ _ _ (b4.put (some 5) (.agg #[.func (.func f4) #[] #[]])) _
  generalize b4.put (some 5) (.agg #[.func (.func f4) #[] #[]]) = b5 at g5 ⊢
  rw [wpOpsIn_cons]
  refine wpOp_of (C := C) rfl rfl (wpIn_of (C := C) (by intro c h; cases h) (run_ins (k := k) (n := n4) (v := .agg #[.func (.func f4) #[] #[]]) (g5.ev (.tmp 1)) rfl (g5.ev (.tmp 5)) (by simpa using h4)) ?_)
  show wpOpsIn _ _ _ _ _ _ (b5.put none undef) _
  have e1 : b5.eval (.tmp 1) = .map (some w.heap.size) := g5.ev (.tmp 1)
  obtain ⟨ms, hms⟩ : ∃ ms : Array MapEntry, (((((#[] : Array MapEntry).push ⟨.int k n1, .agg #[.func (.func f1) #[] #[]], 0⟩).push ⟨.int k n2, .agg #[.func (.func f2) #[] #[]], 0 + 1⟩).push ⟨.int k n3, .agg #[.func (.func f3) #[] #[]], 0 + 1 + 1⟩).push ⟨.int k n4, .agg #[.func (.func f4) #[] #[]], 0 + 1 + 1 + 1⟩) = ms := ⟨_, rfl⟩
  rw [hms]
  have hno : ∀ o, E.M w.heap.size o = none := fun o => by
    cases e : E.M w.heap.size o with
    | none => rfl
    | some v => have := inW_lt h.inW e; omega
  have g6 := g5.grow (M' := fun b o => if b = w.heap.size ∧ o = 0 then some (.tuple (entV ms)) else E.M b o) (w' := pushM w ms (0 + 1 + 1 + 1 + 1)) (fun b o v e => by
      have : b ≠ w.heap.size := by rintro rfl; rw [hno o] at e; cases e
      simp [this, e]) (fun b o v e => by
      by_cases hb : b = w.heap.size ∧ o = 0
      · exact .inr (by omega)
      · simp only [if_neg hb] at e; exact .inl e) (fun b o v e => by
      by_cases hb : b = w.heap.size ∧ o = 0
      · simp only [if_pos hb] at e
        obtain ⟨rfl, rfl⟩ := hb
        cases e
        exact ⟨ms, _, pushM_get w ms _, rfl⟩
      · simp only [if_neg hb] at e
        have hlt := inW_lt h.inW e
        refine (h.inW b o v e).same ?_
        show (w.heap.push _)[b]? = _
        rw [Array.getElem?_push, if_neg (by omega)]) ((Below.refl _ _).alloc (Nat.le_refl _) _)
  have hm : ∀ X : Env, X.M w.heap.size 0 = some (.tuple (entV ms)) → (mapS [(.int k n1, .agg #[.func (.func f1) #[] #[]]), (.int k n2, .agg #[.func (.func f2) #[] #[]]), (.int k n3, .agg #[.func (.func f3) #[] #[]]), (.int k n4, .agg #[.func (.func f4) #[] #[]])]).h X.M (.map (some w.heap.size)) := fun X hX => by
    refine ⟨_, rfl, ?_⟩
    rw [hX, ← hms]; rfl
  have g7 := g6.put (d := 6) (x := .sv (.v (.map (some w.heap.size)))) (v := .map (some w.heap.size)) rfl (by rw [hS, hS, hS, hS, hS]; omega) nomb
  rw [show b5.put none undef = b5 from rfl, wpOpsIn_cons]
  refine wpOp_of (C := C) rfl rfl (wpIn_of (C := C) (by intro c h; cases h) (r := .ok (.value (.map (some w.heap.size))) _) (by show Result.ok (Next.value (b5.eval (.tmp 1))) _ = _; rw [e1]) ?_)
  show wpOpsIn _ _ _ _ _ _ (b5.put (some 6) (.map (some w.heap.size))) _
  generalize b5.put (some 6) (.map (some w.heap.size)) = b6 at g7 ⊢
  have e6 : b6.eval (.tmp 6) = .map (some w.heap.size) := g7.ev (.tmp 6)
  have g8 := g7.put (d := 0) (x := .sv (mapS [(.int k n1, .agg #[.func (.func f1) #[] #[]]), (.int k n2, .agg #[.func (.func f2) #[] #[]]), (.int k n3, .agg #[.func (.func f3) #[] #[]]), (.int k n4, .agg #[.func (.func f4) #[] #[]])])) (v := .map (some w.heap.size)) (hm _ (by simp)) (by rw [hS, hS, hS, hS, hS, hS]; omega) nomb
  rw [wpOpsIn_cons]
  refine wpOp_of (C := C) rfl rfl (wpIn_of (C := C) (by intro c h; cases h) (r := .ok (.value (.map (some w.heap.size))) _) (by show Result.ok (Next.value (b6.eval (.tmp 6))) _ = _; rw [e6]) ?_)
  show wpOpsIn _ _ _ _ _ _ (b6.put (some 0) (.map (some w.heap.size))) _
  rw [wpOpsIn]
  exact ⟨_, hQ _ rfl, _, g8⟩
end steps
theorem stepR_scope {P : Program} {b : Frame} {a : Act} {k : List Item} {cs : List Frame} {w : World} {c : Code} : step P (lone (b.atR a (.code (.scope c) :: k)) cs w) = .next (lone (b.atR a (.code c :: .inScope c :: k)) cs w) :=
  step_lone_go (by simp [stepG, stepG.exec, Frame.atR])
theorem stepR_inScope {P : Program} {b : Frame} {a : Act} {k : List Item} {cs : List Frame} {w : World} {c : Code} : step P (lone (b.atR a (.inScope c :: k)) cs w) = .next (lone (b.atR a k) cs w) :=
  step_lone_go (by simp [stepG, stepG.exec, Frame.atR])
theorem wpIn_scope {F : Fence} {n : Nat} {P : Program} {Q : Exit → Act → World → Prop} {a : Act} {w : World} {c : Code} (h : c.wpIn F n P (Exit.noGoto Q) a w) : (Code.scope c).wpIn F n P Q a w := by
  intro b k cs hro hb hr
  have h0 : (lone (b.atR a (.code (.scope c) :: k)) cs w).fenced P F := fenced_calm hb hr rfl
  obtain ⟨e, a₁, w₁, hq, harr⟩ := h b (.inScope c :: k) cs hro hb hr
  cases e with
  | normal => exact ⟨.normal, a₁, w₁, hq, .head h0 stepR_scope (StepsIn.trans harr (.one (fenced_calm hb hr rfl) stepR_inScope))⟩
  | exit id =>
    have hx : exitTo id (.inScope c :: k) = exitTo id k := by simp [exitTo]
    exact ⟨.exit id, a₁, w₁, hq, fun k' hk => .head h0 stepR_scope (harr.1 k' (by rw [hx]; exact hk)),
      fun hr' hk => let ⟨k₁, h1, h2⟩ := harr.2 hr' (by rw [hx]; exact hk); ⟨k₁, h1, .head h0 stepR_scope h2⟩⟩
  | goto l => exact hq.elim
  | ret => exact ⟨_, a₁, w₁, hq, .of_steps (.one h0 stepR_scope) harr⟩
  | panic ch => exact ⟨_, a₁, w₁, hq, .of_steps (.one h0 stepR_scope) harr⟩
  | outgrown => exact ⟨_, a₁, w₁, hq, .of_steps (.one h0 stepR_scope) harr⟩
def ASc (Q : Exit → AS → Prop) : Exit → AS → Prop
  | .goto _, _ => False
  | e, S => Q e S
section scope
variable {P : Program} {C : Ctx} {S : AS} {Q : Exit → AS → Prop}
theorem ASc.n (h : Q .normal S) : ASc Q .normal S := h
theorem ASc.r (h : Q .ret S) : ASc Q .ret S := h
theorem ASc.x {id : Nat} (h : Q (.exit id) S) : ASc Q (.exit id) S := h
theorem ok_scope {c : Code} (h : Ok P C c S (ASc Q)) : Ok P C (.scope c) S Q := fun a w hs => by
  refine wpIn_scope (wpIn_mono (h a w hs) ?_)
  rintro e a' w' ⟨S', q, hh⟩
  cases e <;> first | exact ⟨S', q, hh⟩ | exact q.elim
theorem ok_label {l : Nat} (h : Q .normal S) : Ok P C (.label l) S Q := fun _ _ hs => wpIn_label ⟨S, h, hs⟩
end scope
end Go.Fw
namespace Go.Fw
open Go.RowKit
class ArrPl (P : Program) (T : TypeId) (n : outParam Nat) (E : outParam TypeId) (sz : outParam Nat) (z : outParam (List Value)) : Prop where
  u : P.underlying T = some (.array n E)
  s : (P.info? E).map (·.size) = some sz
  hz : (P.info? T).bind (·.zero) = some (.agg ⟨z⟩)
  o : z.all (fun v => v.oneCell') = true
theorem ArrPl.size {P : Program} {T E : TypeId} {n sz : Nat} {z : List Value} [t : ArrPl P T n E sz z] (w : World) : (sizeOf E).run P w = .ok sz w := by
  have h := t.s
  unfold Go.sizeOf typeInfo
  cases hi : P.info? E with
  | none => rw [hi] at h; simp at h
  | some i => rw [hi] at h; simp at h; simp [hi, h]
section
variable {P : Program} {C : Ctx} {ops : Array Oper} {S : AS} {nd : Bool} {K : List Ac → AS → Prop} {rest : List Oper} {acc : List Ac}
variable {gd : Option (Nat × Bool)} {rg : List Nat} {d : Nat} {ty : TypeId} {pos : String} {aft : Array Edge} {x y z : Operand} {T U E0 : TypeId}
end
end Go.Fw
namespace Go.Proofs.YtfoldppidpmchaaGreat
open Go.Fw
open Go.Proofs
instance : TyV Tryz.prog 1 := ⟨by kernel_rfl, by kernel_rfl⟩
instance : TyZero Tryz.prog 1 (.nilFunc) := ⟨by kernel_rfl⟩
instance : TyEl Tryz.prog 1 1 8 (.nilFunc) := ⟨by kernel_rfl, by rfl, by decide, by decide⟩
instance : TyInt Tryz.prog 2 .i64 := ⟨by kernel_rfl⟩
instance : TyV Tryz.prog 2 := ⟨by kernel_rfl, by kernel_rfl⟩
instance : TyZero Tryz.prog 2 (.int .i64 0) := ⟨by kernel_rfl⟩
instance : TyEl Tryz.prog 2 1 8 (.int .i64 0) := ⟨by kernel_rfl, by rfl, by decide, by decide⟩
instance : TyInt Tryz.prog 3 .i64 := ⟨by kernel_rfl⟩
instance : TyV Tryz.prog 3 := ⟨by kernel_rfl, by kernel_rfl⟩
instance : TyZero Tryz.prog 3 (.int .i64 0) := ⟨by kernel_rfl⟩
instance : TyEl Tryz.prog 3 1 8 (.int .i64 0) := ⟨by kernel_rfl, by rfl, by decide, by decide⟩
instance : TyBool Tryz.prog 4 := ⟨by kernel_rfl⟩
instance : TyV Tryz.prog 4 := ⟨by kernel_rfl, by kernel_rfl⟩
instance : TyZero Tryz.prog 4 (.bool false) := ⟨by kernel_rfl⟩
instance : TyEl Tryz.prog 4 1 1 (.bool false) := ⟨by kernel_rfl, by rfl, by decide, by decide⟩
instance : TyInt Tryz.prog 5 .u8 := ⟨by kernel_rfl⟩
instance : TyV Tryz.prog 5 := ⟨by kernel_rfl, by kernel_rfl⟩
instance : TyZero Tryz.prog 5 (.int .u8 0) := ⟨by kernel_rfl⟩
instance : TyEl Tryz.prog 5 1 1 (.int .u8 0) := ⟨by kernel_rfl, by rfl, by decide, by decide⟩
instance : TyInt Tryz.prog 6 .u8 := ⟨by kernel_rfl⟩
instance : TyV Tryz.prog 6 := ⟨by kernel_rfl, by kernel_rfl⟩
instance : TyZero Tryz.prog 6 (.int .u8 0) := ⟨by kernel_rfl⟩
instance : TyEl Tryz.prog 6 1 1 (.int .u8 0) := ⟨by kernel_rfl, by rfl, by decide, by decide⟩
instance : TyA Tryz.prog 7 4 := ⟨by kernel_rfl, by kernel_rfl⟩
instance : Sized Tryz.prog 7 := ⟨fun w => ⟨3, TyA.size (T := 7) (n := 4) w⟩⟩
instance : TyZero Tryz.prog 7 (.agg #[.int .i64 0, .int .i64 0, .bool false, .int .u8 0]) := ⟨by kernel_rfl⟩
instance : TyEl Tryz.prog 7 4 24 (.agg #[.int .i64 0, .int .i64 0, .bool false, .int .u8 0]) := ⟨by kernel_rfl, by rfl, by decide, by decide⟩
instance : StructPl Tryz.prog 7 [(0, 1), (1, 1), (2, 1), (3, 1)] [.int .i64 0, .int .i64 0, .bool false, .int .u8 0] := ⟨by kernel_rfl, by kernel_rfl, by rfl⟩
instance : Fld Tryz.prog 7 0 0 2 := ⟨by kernel_rfl⟩
instance : Fld Tryz.prog 7 1 1 3 := ⟨by kernel_rfl⟩
instance : Fld Tryz.prog 7 2 2 4 := ⟨by kernel_rfl⟩
instance : Fld Tryz.prog 7 3 3 6 := ⟨by kernel_rfl⟩
instance : TyA Tryz.prog 8 4 := ⟨by kernel_rfl, by kernel_rfl⟩
instance : Sized Tryz.prog 8 := ⟨fun w => ⟨3, TyA.size (T := 8) (n := 4) w⟩⟩
instance : TyZero Tryz.prog 8 (.agg #[.int .i64 0, .int .i64 0, .bool false, .int .u8 0]) := ⟨by kernel_rfl⟩
instance : TyEl Tryz.prog 8 4 24 (.agg #[.int .i64 0, .int .i64 0, .bool false, .int .u8 0]) := ⟨by kernel_rfl, by rfl, by decide, by decide⟩
instance : StructPl Tryz.prog 8 [(0, 1), (1, 1), (2, 1), (3, 1)] [.int .i64 0, .int .i64 0, .bool false, .int .u8 0] := ⟨by kernel_rfl, by kernel_rfl, by rfl⟩
instance : Fld Tryz.prog 8 0 0 2 := ⟨by kernel_rfl⟩
instance : Fld Tryz.prog 8 1 1 3 := ⟨by kernel_rfl⟩
instance : Fld Tryz.prog 8 2 2 4 := ⟨by kernel_rfl⟩
instance : Fld Tryz.prog 8 3 3 6 := ⟨by kernel_rfl⟩
instance : TyStr Tryz.prog 9 := ⟨by kernel_rfl⟩
instance : TyV Tryz.prog 9 := ⟨by kernel_rfl, by kernel_rfl⟩
instance : TyZero Tryz.prog 9 (.string (ByteArray.mk #[])) := ⟨by kernel_rfl⟩
instance : TyEl Tryz.prog 9 1 16 (.string (ByteArray.mk #[])) := ⟨by kernel_rfl, by rfl, by decide, by decide⟩
instance : TyStr Tryz.prog 10 := ⟨by kernel_rfl⟩
instance : TyV Tryz.prog 10 := ⟨by kernel_rfl, by kernel_rfl⟩
instance : TyZero Tryz.prog 10 (.string (ByteArray.mk #[])) := ⟨by kernel_rfl⟩
instance : TyEl Tryz.prog 10 1 16 (.string (ByteArray.mk #[])) := ⟨by kernel_rfl, by rfl, by decide, by decide⟩
instance : TyStr Tryz.prog 11 := ⟨by kernel_rfl⟩
instance : TyV Tryz.prog 11 := ⟨by kernel_rfl, by kernel_rfl⟩
instance : TyZero Tryz.prog 11 (.string (ByteArray.mk #[])) := ⟨by kernel_rfl⟩
instance : TyEl Tryz.prog 11 1 16 (.string (ByteArray.mk #[])) := ⟨by kernel_rfl, by rfl, by decide, by decide⟩
instance : TyInt Tryz.prog 12 .u64 := ⟨by kernel_rfl⟩
instance : TyV Tryz.prog 12 := ⟨by kernel_rfl, by kernel_rfl⟩
instance : TyZero Tryz.prog 12 (.int .u64 0) := ⟨by kernel_rfl⟩
instance : TyEl Tryz.prog 12 1 8 (.int .u64 0) := ⟨by kernel_rfl, by rfl, by decide, by decide⟩
instance : TyA Tryz.prog 13 2 := ⟨by kernel_rfl, by kernel_rfl⟩
instance : Sized Tryz.prog 13 := ⟨fun w => ⟨1, TyA.size (T := 13) (n := 2) w⟩⟩
instance : TyZero Tryz.prog 13 (.agg #[.string (ByteArray.mk #[]), .int .u64 0]) := ⟨by kernel_rfl⟩
instance : TyEl Tryz.prog 13 2 24 (.agg #[.string (ByteArray.mk #[]), .int .u64 0]) := ⟨by kernel_rfl, by rfl, by decide, by decide⟩
instance : StructPl Tryz.prog 13 [(0, 1), (1, 1)] [.string (ByteArray.mk #[]), .int .u64 0] := ⟨by kernel_rfl, by kernel_rfl, by rfl⟩
instance : Fld Tryz.prog 13 0 0 9 := ⟨by kernel_rfl⟩
instance : Fld Tryz.prog 13 1 1 12 := ⟨by kernel_rfl⟩
instance : TyA Tryz.prog 14 2 := ⟨by kernel_rfl, by kernel_rfl⟩
instance : Sized Tryz.prog 14 := ⟨fun w => ⟨1, TyA.size (T := 14) (n := 2) w⟩⟩
instance : TyZero Tryz.prog 14 (.agg #[.string (ByteArray.mk #[]), .int .u64 0]) := ⟨by kernel_rfl⟩
instance : TyEl Tryz.prog 14 2 24 (.agg #[.string (ByteArray.mk #[]), .int .u64 0]) := ⟨by kernel_rfl, by rfl, by decide, by decide⟩
instance : StructPl Tryz.prog 14 [(0, 1), (1, 1)] [.string (ByteArray.mk #[]), .int .u64 0] := ⟨by kernel_rfl, by kernel_rfl, by rfl⟩
instance : Fld Tryz.prog 14 0 0 9 := ⟨by kernel_rfl⟩
instance : Fld Tryz.prog 14 1 1 12 := ⟨by kernel_rfl⟩
instance : TyV Tryz.prog 15 := ⟨by kernel_rfl, by kernel_rfl⟩
instance : TyZero Tryz.prog 15 (.pointer none) := ⟨by kernel_rfl⟩
instance : TyEl Tryz.prog 15 1 8 (.pointer none) := ⟨by kernel_rfl, by rfl, by decide, by decide⟩
instance : TyV Tryz.prog 16 := ⟨by kernel_rfl, by kernel_rfl⟩
instance : TyZero Tryz.prog 16 (.pointer none) := ⟨by kernel_rfl⟩
instance : TyEl Tryz.prog 16 1 8 (.pointer none) := ⟨by kernel_rfl, by rfl, by decide, by decide⟩
instance : TyV Tryz.prog 17 := ⟨by kernel_rfl, by kernel_rfl⟩
instance : TyZero Tryz.prog 17 (.pointer none) := ⟨by kernel_rfl⟩
instance : TyEl Tryz.prog 17 1 8 (.pointer none) := ⟨by kernel_rfl, by rfl, by decide, by decide⟩
instance : TyA Tryz.prog 18 1 := ⟨by kernel_rfl, by kernel_rfl⟩
instance : Sized Tryz.prog 18 := ⟨fun w => ⟨0, TyA.size (T := 18) (n := 1) w⟩⟩
instance : TyZero Tryz.prog 18 (.agg #[.pointer none]) := ⟨by kernel_rfl⟩
instance : TyEl Tryz.prog 18 1 8 (.agg #[.pointer none]) := ⟨by kernel_rfl, by rfl, by decide, by decide⟩
instance : StructPl Tryz.prog 18 [(0, 1)] [.pointer none] := ⟨by kernel_rfl, by kernel_rfl, by rfl⟩
instance : Fld Tryz.prog 18 0 0 17 := ⟨by kernel_rfl⟩
instance : TyA Tryz.prog 19 1 := ⟨by kernel_rfl, by kernel_rfl⟩
instance : Sized Tryz.prog 19 := ⟨fun w => ⟨0, TyA.size (T := 19) (n := 1) w⟩⟩
instance : TyZero Tryz.prog 19 (.agg #[.pointer none]) := ⟨by kernel_rfl⟩
instance : TyEl Tryz.prog 19 1 8 (.agg #[.pointer none]) := ⟨by kernel_rfl, by rfl, by decide, by decide⟩
instance : StructPl Tryz.prog 19 [(0, 1)] [.pointer none] := ⟨by kernel_rfl, by kernel_rfl, by rfl⟩
instance : Fld Tryz.prog 19 0 0 17 := ⟨by kernel_rfl⟩
instance : TyV Tryz.prog 20 := ⟨by kernel_rfl, by kernel_rfl⟩
instance : TyZero Tryz.prog 20 (.nilIface) := ⟨by kernel_rfl⟩
instance : TyEl Tryz.prog 20 1 16 (.nilIface) := ⟨by kernel_rfl, by rfl, by decide, by decide⟩
instance : TyInt Tryz.prog 21 .i32 := ⟨by kernel_rfl⟩
instance : TyV Tryz.prog 21 := ⟨by kernel_rfl, by kernel_rfl⟩
instance : TyZero Tryz.prog 21 (.int .i32 0) := ⟨by kernel_rfl⟩
instance : TyEl Tryz.prog 21 1 4 (.int .i32 0) := ⟨by kernel_rfl, by rfl, by decide, by decide⟩
instance : TyV Tryz.prog 22 := ⟨by kernel_rfl, by kernel_rfl⟩
instance : TyZero Tryz.prog 22 (.nilFunc) := ⟨by kernel_rfl⟩
instance : TyEl Tryz.prog 22 1 8 (.nilFunc) := ⟨by kernel_rfl, by rfl, by decide, by decide⟩
instance : TyV Tryz.prog 23 := ⟨by kernel_rfl, by kernel_rfl⟩
instance : TyZero Tryz.prog 23 (.slice none 0 0) := ⟨by kernel_rfl⟩
instance : TyEl Tryz.prog 23 1 24 (.slice none 0 0) := ⟨by kernel_rfl, by rfl, by decide, by decide⟩
instance : TySl Tryz.prog 23 24 1 := ⟨by kernel_rfl, by kernel_rfl⟩
instance : TyV Tryz.prog 24 := ⟨by kernel_rfl, by kernel_rfl⟩
instance : TyZero Tryz.prog 24 (.slice none 0 0) := ⟨by kernel_rfl⟩
instance : TyEl Tryz.prog 24 1 24 (.slice none 0 0) := ⟨by kernel_rfl, by rfl, by decide, by decide⟩
instance : TySl Tryz.prog 24 36 4 := ⟨by kernel_rfl, by kernel_rfl⟩
instance : TyA Tryz.prog 25 4 := ⟨by kernel_rfl, by kernel_rfl⟩
instance : Sized Tryz.prog 25 := ⟨fun w => ⟨3, TyA.size (T := 25) (n := 4) w⟩⟩
instance : TyZero Tryz.prog 25 (.agg #[.int .i64 0, .slice none 0 0, .slice none 0 0, .slice none 0 0]) := ⟨by kernel_rfl⟩
instance : TyEl Tryz.prog 25 4 80 (.agg #[.int .i64 0, .slice none 0 0, .slice none 0 0, .slice none 0 0]) := ⟨by kernel_rfl, by rfl, by decide, by decide⟩
instance : StructPl Tryz.prog 25 [(0, 1), (1, 1), (2, 1), (3, 1)] [.int .i64 0, .slice none 0 0, .slice none 0 0, .slice none 0 0] := ⟨by kernel_rfl, by kernel_rfl, by rfl⟩
instance : Fld Tryz.prog 25 0 0 3 := ⟨by kernel_rfl⟩
instance : Fld Tryz.prog 25 1 1 23 := ⟨by kernel_rfl⟩
instance : Fld Tryz.prog 25 2 2 23 := ⟨by kernel_rfl⟩
instance : Fld Tryz.prog 25 3 3 24 := ⟨by kernel_rfl⟩
instance : TyA Tryz.prog 26 4 := ⟨by kernel_rfl, by kernel_rfl⟩
instance : Sized Tryz.prog 26 := ⟨fun w => ⟨3, TyA.size (T := 26) (n := 4) w⟩⟩
instance : TyZero Tryz.prog 26 (.agg #[.int .i64 0, .slice none 0 0, .slice none 0 0, .slice none 0 0]) := ⟨by kernel_rfl⟩
instance : TyEl Tryz.prog 26 4 80 (.agg #[.int .i64 0, .slice none 0 0, .slice none 0 0, .slice none 0 0]) := ⟨by kernel_rfl, by rfl, by decide, by decide⟩
instance : StructPl Tryz.prog 26 [(0, 1), (1, 1), (2, 1), (3, 1)] [.int .i64 0, .slice none 0 0, .slice none 0 0, .slice none 0 0] := ⟨by kernel_rfl, by kernel_rfl, by rfl⟩
instance : Fld Tryz.prog 26 0 0 3 := ⟨by kernel_rfl⟩
instance : Fld Tryz.prog 26 1 1 23 := ⟨by kernel_rfl⟩
instance : Fld Tryz.prog 26 2 2 23 := ⟨by kernel_rfl⟩
instance : Fld Tryz.prog 26 3 3 24 := ⟨by kernel_rfl⟩
instance : TyV Tryz.prog 27 := ⟨by kernel_rfl, by kernel_rfl⟩
instance : TyZero Tryz.prog 27 (.nilFunc) := ⟨by kernel_rfl⟩
instance : TyEl Tryz.prog 27 1 8 (.nilFunc) := ⟨by kernel_rfl, by rfl, by decide, by decide⟩
instance : TyV Tryz.prog 28 := ⟨by kernel_rfl, by kernel_rfl⟩
instance : TyZero Tryz.prog 28 (.nilFunc) := ⟨by kernel_rfl⟩
instance : TyEl Tryz.prog 28 1 8 (.nilFunc) := ⟨by kernel_rfl, by rfl, by decide, by decide⟩
instance : TyInt Tryz.prog 29 .i64 := ⟨by kernel_rfl⟩
instance : TyV Tryz.prog 29 := ⟨by kernel_rfl, by kernel_rfl⟩
instance : TyZero Tryz.prog 29 (.int .i64 0) := ⟨by kernel_rfl⟩
instance : TyEl Tryz.prog 29 1 8 (.int .i64 0) := ⟨by kernel_rfl, by rfl, by decide, by decide⟩
instance : TyV Tryz.prog 31 := ⟨by kernel_rfl, by kernel_rfl⟩
instance : TyZero Tryz.prog 31 (.nilFunc) := ⟨by kernel_rfl⟩
instance : TyEl Tryz.prog 31 1 8 (.nilFunc) := ⟨by kernel_rfl, by rfl, by decide, by decide⟩
instance : TyV Tryz.prog 32 := ⟨by kernel_rfl, by kernel_rfl⟩
instance : TyZero Tryz.prog 32 (.slice none 0 0) := ⟨by kernel_rfl⟩
instance : TyEl Tryz.prog 32 1 24 (.slice none 0 0) := ⟨by kernel_rfl, by rfl, by decide, by decide⟩
instance : TySl Tryz.prog 32 106 1 := ⟨by kernel_rfl, by kernel_rfl⟩
instance : TyA Tryz.prog 33 2 := ⟨by kernel_rfl, by kernel_rfl⟩
instance : Sized Tryz.prog 33 := ⟨fun w => ⟨1, TyA.size (T := 33) (n := 2) w⟩⟩
instance : TyZero Tryz.prog 33 (.agg #[.bool false, .slice none 0 0]) := ⟨by kernel_rfl⟩
instance : TyEl Tryz.prog 33 2 32 (.agg #[.bool false, .slice none 0 0]) := ⟨by kernel_rfl, by rfl, by decide, by decide⟩
instance : StructPl Tryz.prog 33 [(0, 1), (1, 1)] [.bool false, .slice none 0 0] := ⟨by kernel_rfl, by kernel_rfl, by rfl⟩
instance : Fld Tryz.prog 33 0 0 4 := ⟨by kernel_rfl⟩
instance : Fld Tryz.prog 33 1 1 32 := ⟨by kernel_rfl⟩
instance : TyA Tryz.prog 34 2 := ⟨by kernel_rfl, by kernel_rfl⟩
instance : Sized Tryz.prog 34 := ⟨fun w => ⟨1, TyA.size (T := 34) (n := 2) w⟩⟩
instance : TyZero Tryz.prog 34 (.agg #[.bool false, .slice none 0 0]) := ⟨by kernel_rfl⟩
instance : TyEl Tryz.prog 34 2 32 (.agg #[.bool false, .slice none 0 0]) := ⟨by kernel_rfl, by rfl, by decide, by decide⟩
instance : StructPl Tryz.prog 34 [(0, 1), (1, 1)] [.bool false, .slice none 0 0] := ⟨by kernel_rfl, by kernel_rfl, by rfl⟩
instance : Fld Tryz.prog 34 0 0 4 := ⟨by kernel_rfl⟩
instance : Fld Tryz.prog 34 1 1 32 := ⟨by kernel_rfl⟩
instance : TyA Tryz.prog 35 4 := ⟨by kernel_rfl, by kernel_rfl⟩
instance : Sized Tryz.prog 35 := ⟨fun w => ⟨3, TyA.size (T := 35) (n := 4) w⟩⟩
instance : TyZero Tryz.prog 35 (.agg #[.bool false, .slice none 0 0, .bool false, .slice none 0 0]) := ⟨by kernel_rfl⟩
instance : TyEl Tryz.prog 35 4 64 (.agg #[.bool false, .slice none 0 0, .bool false, .slice none 0 0]) := ⟨by kernel_rfl, by rfl, by decide, by decide⟩
instance : StructPl Tryz.prog 35 [(0, 2), (2, 2)] [.bool false, .slice none 0 0, .bool false, .slice none 0 0] := ⟨by kernel_rfl, by kernel_rfl, by rfl⟩
instance : Fld Tryz.prog 35 0 0 34 := ⟨by kernel_rfl⟩
instance : Fld Tryz.prog 35 1 2 34 := ⟨by kernel_rfl⟩
instance : TyA Tryz.prog 36 4 := ⟨by kernel_rfl, by kernel_rfl⟩
instance : Sized Tryz.prog 36 := ⟨fun w => ⟨3, TyA.size (T := 36) (n := 4) w⟩⟩
instance : TyZero Tryz.prog 36 (.agg #[.bool false, .slice none 0 0, .bool false, .slice none 0 0]) := ⟨by kernel_rfl⟩
instance : TyEl Tryz.prog 36 4 64 (.agg #[.bool false, .slice none 0 0, .bool false, .slice none 0 0]) := ⟨by kernel_rfl, by rfl, by decide, by decide⟩
instance : StructPl Tryz.prog 36 [(0, 2), (2, 2)] [.bool false, .slice none 0 0, .bool false, .slice none 0 0] := ⟨by kernel_rfl, by kernel_rfl, by rfl⟩
instance : Fld Tryz.prog 36 0 0 34 := ⟨by kernel_rfl⟩
instance : Fld Tryz.prog 36 1 2 34 := ⟨by kernel_rfl⟩
instance : TyV Tryz.prog 37 := ⟨by kernel_rfl, by kernel_rfl⟩
instance : TyZero Tryz.prog 37 (.nilFunc) := ⟨by kernel_rfl⟩
instance : TyEl Tryz.prog 37 1 8 (.nilFunc) := ⟨by kernel_rfl, by rfl, by decide, by decide⟩
instance : TyV Tryz.prog 38 := ⟨by kernel_rfl, by kernel_rfl⟩
instance : TyZero Tryz.prog 38 (.nilFunc) := ⟨by kernel_rfl⟩
instance : TyEl Tryz.prog 38 1 8 (.nilFunc) := ⟨by kernel_rfl, by rfl, by decide, by decide⟩
instance : TyV Tryz.prog 39 := ⟨by kernel_rfl, by kernel_rfl⟩
instance : TyZero Tryz.prog 39 (.nilFunc) := ⟨by kernel_rfl⟩
instance : TyEl Tryz.prog 39 1 8 (.nilFunc) := ⟨by kernel_rfl, by rfl, by decide, by decide⟩
instance : TyV Tryz.prog 40 := ⟨by kernel_rfl, by kernel_rfl⟩
instance : TyZero Tryz.prog 40 (.nilFunc) := ⟨by kernel_rfl⟩
instance : TyEl Tryz.prog 40 1 8 (.nilFunc) := ⟨by kernel_rfl, by rfl, by decide, by decide⟩
instance : TyV Tryz.prog 42 := ⟨by kernel_rfl, by kernel_rfl⟩
instance : TyZero Tryz.prog 42 (.nilFunc) := ⟨by kernel_rfl⟩
instance : TyEl Tryz.prog 42 1 8 (.nilFunc) := ⟨by kernel_rfl, by rfl, by decide, by decide⟩
instance : TyV Tryz.prog 43 := ⟨by kernel_rfl, by kernel_rfl⟩
instance : TyZero Tryz.prog 43 (.nilFunc) := ⟨by kernel_rfl⟩
instance : TyEl Tryz.prog 43 1 8 (.nilFunc) := ⟨by kernel_rfl, by rfl, by decide, by decide⟩
instance : TyV Tryz.prog 44 := ⟨by kernel_rfl, by kernel_rfl⟩
instance : TyZero Tryz.prog 44 (.nilFunc) := ⟨by kernel_rfl⟩
instance : TyEl Tryz.prog 44 1 8 (.nilFunc) := ⟨by kernel_rfl, by rfl, by decide, by decide⟩
instance : TyV Tryz.prog 45 := ⟨by kernel_rfl, by kernel_rfl⟩
instance : TyZero Tryz.prog 45 (.nilFunc) := ⟨by kernel_rfl⟩
instance : TyEl Tryz.prog 45 1 8 (.nilFunc) := ⟨by kernel_rfl, by rfl, by decide, by decide⟩
instance : TyV Tryz.prog 46 := ⟨by kernel_rfl, by kernel_rfl⟩
instance : TyZero Tryz.prog 46 (.nilFunc) := ⟨by kernel_rfl⟩
instance : TyEl Tryz.prog 46 1 8 (.nilFunc) := ⟨by kernel_rfl, by rfl, by decide, by decide⟩
instance : TyV Tryz.prog 47 := ⟨by kernel_rfl, by kernel_rfl⟩
instance : TyZero Tryz.prog 47 (.nilFunc) := ⟨by kernel_rfl⟩
instance : TyEl Tryz.prog 47 1 8 (.nilFunc) := ⟨by kernel_rfl, by rfl, by decide, by decide⟩
instance : TyV Tryz.prog 48 := ⟨by kernel_rfl, by kernel_rfl⟩
instance : TyZero Tryz.prog 48 (.nilFunc) := ⟨by kernel_rfl⟩
instance : TyEl Tryz.prog 48 1 8 (.nilFunc) := ⟨by kernel_rfl, by rfl, by decide, by decide⟩
instance : TyV Tryz.prog 49 := ⟨by kernel_rfl, by kernel_rfl⟩
instance : TyZero Tryz.prog 49 (.nilFunc) := ⟨by kernel_rfl⟩
instance : TyEl Tryz.prog 49 1 8 (.nilFunc) := ⟨by kernel_rfl, by rfl, by decide, by decide⟩
instance : TyV Tryz.prog 50 := ⟨by kernel_rfl, by kernel_rfl⟩
instance : TyZero Tryz.prog 50 (.nilFunc) := ⟨by kernel_rfl⟩
instance : TyEl Tryz.prog 50 1 8 (.nilFunc) := ⟨by kernel_rfl, by rfl, by decide, by decide⟩
instance : TyV Tryz.prog 51 := ⟨by kernel_rfl, by kernel_rfl⟩
instance : TyZero Tryz.prog 51 (.nilFunc) := ⟨by kernel_rfl⟩
instance : TyEl Tryz.prog 51 1 8 (.nilFunc) := ⟨by kernel_rfl, by rfl, by decide, by decide⟩
instance : TyV Tryz.prog 52 := ⟨by kernel_rfl, by kernel_rfl⟩
instance : TyZero Tryz.prog 52 (.nilFunc) := ⟨by kernel_rfl⟩
instance : TyEl Tryz.prog 52 1 8 (.nilFunc) := ⟨by kernel_rfl, by rfl, by decide, by decide⟩
instance : TyV Tryz.prog 53 := ⟨by kernel_rfl, by kernel_rfl⟩
instance : TyZero Tryz.prog 53 (.nilFunc) := ⟨by kernel_rfl⟩
instance : TyEl Tryz.prog 53 1 8 (.nilFunc) := ⟨by kernel_rfl, by rfl, by decide, by decide⟩
instance : TyV Tryz.prog 54 := ⟨by kernel_rfl, by kernel_rfl⟩
instance : TyZero Tryz.prog 54 (.nilFunc) := ⟨by kernel_rfl⟩
instance : TyEl Tryz.prog 54 1 8 (.nilFunc) := ⟨by kernel_rfl, by rfl, by decide, by decide⟩
instance : TyV Tryz.prog 55 := ⟨by kernel_rfl, by kernel_rfl⟩
instance : TyZero Tryz.prog 55 (.nilFunc) := ⟨by kernel_rfl⟩
instance : TyEl Tryz.prog 55 1 8 (.nilFunc) := ⟨by kernel_rfl, by rfl, by decide, by decide⟩
instance : TyV Tryz.prog 56 := ⟨by kernel_rfl, by kernel_rfl⟩
instance : TyZero Tryz.prog 56 (.nilFunc) := ⟨by kernel_rfl⟩
instance : TyEl Tryz.prog 56 1 8 (.nilFunc) := ⟨by kernel_rfl, by rfl, by decide, by decide⟩
instance : TyV Tryz.prog 58 := ⟨by kernel_rfl, by kernel_rfl⟩
instance : TyZero Tryz.prog 58 (.nilFunc) := ⟨by kernel_rfl⟩
instance : TyEl Tryz.prog 58 1 8 (.nilFunc) := ⟨by kernel_rfl, by rfl, by decide, by decide⟩
instance : TyV Tryz.prog 59 := ⟨by kernel_rfl, by kernel_rfl⟩
instance : TyZero Tryz.prog 59 (.nilFunc) := ⟨by kernel_rfl⟩
instance : TyEl Tryz.prog 59 1 8 (.nilFunc) := ⟨by kernel_rfl, by rfl, by decide, by decide⟩
instance : TyV Tryz.prog 60 := ⟨by kernel_rfl, by kernel_rfl⟩
instance : TyZero Tryz.prog 60 (.nilFunc) := ⟨by kernel_rfl⟩
instance : TyEl Tryz.prog 60 1 8 (.nilFunc) := ⟨by kernel_rfl, by rfl, by decide, by decide⟩
instance : TyV Tryz.prog 61 := ⟨by kernel_rfl, by kernel_rfl⟩
instance : TyZero Tryz.prog 61 (.nilFunc) := ⟨by kernel_rfl⟩
instance : TyEl Tryz.prog 61 1 8 (.nilFunc) := ⟨by kernel_rfl, by rfl, by decide, by decide⟩
instance : TyV Tryz.prog 62 := ⟨by kernel_rfl, by kernel_rfl⟩
instance : TyZero Tryz.prog 62 (.slice none 0 0) := ⟨by kernel_rfl⟩
instance : TyEl Tryz.prog 62 1 24 (.slice none 0 0) := ⟨by kernel_rfl, by rfl, by decide, by decide⟩
instance : TySl Tryz.prog 62 2 1 := ⟨by kernel_rfl, by kernel_rfl⟩
instance : TyV Tryz.prog 63 := ⟨by kernel_rfl, by kernel_rfl⟩
instance : TyZero Tryz.prog 63 (.nilFunc) := ⟨by kernel_rfl⟩
instance : TyEl Tryz.prog 63 1 8 (.nilFunc) := ⟨by kernel_rfl, by rfl, by decide, by decide⟩
instance : TyV Tryz.prog 64 := ⟨by kernel_rfl, by kernel_rfl⟩
instance : TyZero Tryz.prog 64 (.nilFunc) := ⟨by kernel_rfl⟩
instance : TyEl Tryz.prog 64 1 8 (.nilFunc) := ⟨by kernel_rfl, by rfl, by decide, by decide⟩
instance : TyV Tryz.prog 65 := ⟨by kernel_rfl, by kernel_rfl⟩
instance : TyZero Tryz.prog 65 (.nilFunc) := ⟨by kernel_rfl⟩
instance : TyEl Tryz.prog 65 1 8 (.nilFunc) := ⟨by kernel_rfl, by rfl, by decide, by decide⟩
instance : TyV Tryz.prog 66 := ⟨by kernel_rfl, by kernel_rfl⟩
instance : TyZero Tryz.prog 66 (.nilFunc) := ⟨by kernel_rfl⟩
instance : TyEl Tryz.prog 66 1 8 (.nilFunc) := ⟨by kernel_rfl, by rfl, by decide, by decide⟩
instance : TyV Tryz.prog 67 := ⟨by kernel_rfl, by kernel_rfl⟩
instance : TyZero Tryz.prog 67 (.nilFunc) := ⟨by kernel_rfl⟩
instance : TyEl Tryz.prog 67 1 8 (.nilFunc) := ⟨by kernel_rfl, by rfl, by decide, by decide⟩
instance : TyV Tryz.prog 68 := ⟨by kernel_rfl, by kernel_rfl⟩
instance : TyZero Tryz.prog 68 (.nilFunc) := ⟨by kernel_rfl⟩
instance : TyEl Tryz.prog 68 1 8 (.nilFunc) := ⟨by kernel_rfl, by rfl, by decide, by decide⟩
instance : TyV Tryz.prog 69 := ⟨by kernel_rfl, by kernel_rfl⟩
instance : TyZero Tryz.prog 69 (.nilFunc) := ⟨by kernel_rfl⟩
instance : TyEl Tryz.prog 69 1 8 (.nilFunc) := ⟨by kernel_rfl, by rfl, by decide, by decide⟩
instance : TyA Tryz.prog 70 4 := ⟨by kernel_rfl, by kernel_rfl⟩
instance : Sized Tryz.prog 70 := ⟨fun w => ⟨3, TyA.size (T := 70) (n := 4) w⟩⟩
instance : TyZero Tryz.prog 70 (.agg #[.int .i64 0, .int .i64 0, .int .i64 0, .int .i64 0]) := ⟨by kernel_rfl⟩
instance : TyEl Tryz.prog 70 4 32 (.agg #[.int .i64 0, .int .i64 0, .int .i64 0, .int .i64 0]) := ⟨by kernel_rfl, by rfl, by decide, by decide⟩
instance : StructPl Tryz.prog 70 [(0, 1), (1, 1), (2, 1), (3, 1)] [.int .i64 0, .int .i64 0, .int .i64 0, .int .i64 0] := ⟨by kernel_rfl, by kernel_rfl, by rfl⟩
instance : Fld Tryz.prog 70 0 0 3 := ⟨by kernel_rfl⟩
instance : Fld Tryz.prog 70 1 1 3 := ⟨by kernel_rfl⟩
instance : Fld Tryz.prog 70 2 2 3 := ⟨by kernel_rfl⟩
instance : Fld Tryz.prog 70 3 3 3 := ⟨by kernel_rfl⟩
instance : TyA Tryz.prog 71 4 := ⟨by kernel_rfl, by kernel_rfl⟩
instance : Sized Tryz.prog 71 := ⟨fun w => ⟨3, TyA.size (T := 71) (n := 4) w⟩⟩
instance : TyZero Tryz.prog 71 (.agg #[.int .i64 0, .int .i64 0, .int .i64 0, .int .i64 0]) := ⟨by kernel_rfl⟩
instance : TyEl Tryz.prog 71 4 32 (.agg #[.int .i64 0, .int .i64 0, .int .i64 0, .int .i64 0]) := ⟨by kernel_rfl, by rfl, by decide, by decide⟩
instance : StructPl Tryz.prog 71 [(0, 1), (1, 1), (2, 1), (3, 1)] [.int .i64 0, .int .i64 0, .int .i64 0, .int .i64 0] := ⟨by kernel_rfl, by kernel_rfl, by rfl⟩
instance : Fld Tryz.prog 71 0 0 3 := ⟨by kernel_rfl⟩
instance : Fld Tryz.prog 71 1 1 3 := ⟨by kernel_rfl⟩
instance : Fld Tryz.prog 71 2 2 3 := ⟨by kernel_rfl⟩
instance : Fld Tryz.prog 71 3 3 3 := ⟨by kernel_rfl⟩
instance : TyV Tryz.prog 72 := ⟨by kernel_rfl, by kernel_rfl⟩
instance : TyZero Tryz.prog 72 (.nilFunc) := ⟨by kernel_rfl⟩
instance : TyEl Tryz.prog 72 1 8 (.nilFunc) := ⟨by kernel_rfl, by rfl, by decide, by decide⟩
instance : TyV Tryz.prog 73 := ⟨by kernel_rfl, by kernel_rfl⟩
instance : TyZero Tryz.prog 73 (.nilFunc) := ⟨by kernel_rfl⟩
instance : TyEl Tryz.prog 73 1 8 (.nilFunc) := ⟨by kernel_rfl, by rfl, by decide, by decide⟩
instance : TyV Tryz.prog 74 := ⟨by kernel_rfl, by kernel_rfl⟩
instance : TyZero Tryz.prog 74 (.nilFunc) := ⟨by kernel_rfl⟩
instance : TyEl Tryz.prog 74 1 8 (.nilFunc) := ⟨by kernel_rfl, by rfl, by decide, by decide⟩
instance : TyV Tryz.prog 75 := ⟨by kernel_rfl, by kernel_rfl⟩
instance : TyZero Tryz.prog 75 (.nilFunc) := ⟨by kernel_rfl⟩
instance : TyEl Tryz.prog 75 1 8 (.nilFunc) := ⟨by kernel_rfl, by rfl, by decide, by decide⟩
instance : TyV Tryz.prog 76 := ⟨by kernel_rfl, by kernel_rfl⟩
instance : TyZero Tryz.prog 76 (.nilFunc) := ⟨by kernel_rfl⟩
instance : TyEl Tryz.prog 76 1 8 (.nilFunc) := ⟨by kernel_rfl, by rfl, by decide, by decide⟩
instance : TyV Tryz.prog 77 := ⟨by kernel_rfl, by kernel_rfl⟩
instance : TyZero Tryz.prog 77 (.nilFunc) := ⟨by kernel_rfl⟩
instance : TyEl Tryz.prog 77 1 8 (.nilFunc) := ⟨by kernel_rfl, by rfl, by decide, by decide⟩
instance : TyV Tryz.prog 78 := ⟨by kernel_rfl, by kernel_rfl⟩
instance : TyZero Tryz.prog 78 (.nilFunc) := ⟨by kernel_rfl⟩
instance : TyEl Tryz.prog 78 1 8 (.nilFunc) := ⟨by kernel_rfl, by rfl, by decide, by decide⟩
instance : TyV Tryz.prog 79 := ⟨by kernel_rfl, by kernel_rfl⟩
instance : TyZero Tryz.prog 79 (.nilFunc) := ⟨by kernel_rfl⟩
instance : TyEl Tryz.prog 79 1 8 (.nilFunc) := ⟨by kernel_rfl, by rfl, by decide, by decide⟩
instance : TyV Tryz.prog 80 := ⟨by kernel_rfl, by kernel_rfl⟩
instance : TyZero Tryz.prog 80 (.nilFunc) := ⟨by kernel_rfl⟩
instance : TyEl Tryz.prog 80 1 8 (.nilFunc) := ⟨by kernel_rfl, by rfl, by decide, by decide⟩
instance : TyV Tryz.prog 81 := ⟨by kernel_rfl, by kernel_rfl⟩
instance : TyZero Tryz.prog 81 (.nilFunc) := ⟨by kernel_rfl⟩
instance : TyEl Tryz.prog 81 1 8 (.nilFunc) := ⟨by kernel_rfl, by rfl, by decide, by decide⟩
instance : TyV Tryz.prog 82 := ⟨by kernel_rfl, by kernel_rfl⟩
instance : TyZero Tryz.prog 82 (.nilFunc) := ⟨by kernel_rfl⟩
instance : TyEl Tryz.prog 82 1 8 (.nilFunc) := ⟨by kernel_rfl, by rfl, by decide, by decide⟩
instance : TyV Tryz.prog 84 := ⟨by kernel_rfl, by kernel_rfl⟩
instance : TyZero Tryz.prog 84 (.nilFunc) := ⟨by kernel_rfl⟩
instance : TyEl Tryz.prog 84 1 8 (.nilFunc) := ⟨by kernel_rfl, by rfl, by decide, by decide⟩
instance : TyV Tryz.prog 85 := ⟨by kernel_rfl, by kernel_rfl⟩
instance : TyZero Tryz.prog 85 (.nilFunc) := ⟨by kernel_rfl⟩
instance : TyEl Tryz.prog 85 1 8 (.nilFunc) := ⟨by kernel_rfl, by rfl, by decide, by decide⟩
instance : TyV Tryz.prog 86 := ⟨by kernel_rfl, by kernel_rfl⟩
instance : TyZero Tryz.prog 86 (.nilFunc) := ⟨by kernel_rfl⟩
instance : TyEl Tryz.prog 86 1 8 (.nilFunc) := ⟨by kernel_rfl, by rfl, by decide, by decide⟩
instance : TyV Tryz.prog 87 := ⟨by kernel_rfl, by kernel_rfl⟩
instance : TyZero Tryz.prog 87 (.nilFunc) := ⟨by kernel_rfl⟩
instance : TyEl Tryz.prog 87 1 8 (.nilFunc) := ⟨by kernel_rfl, by rfl, by decide, by decide⟩
instance : TyV Tryz.prog 88 := ⟨by kernel_rfl, by kernel_rfl⟩
instance : TyZero Tryz.prog 88 (.nilFunc) := ⟨by kernel_rfl⟩
instance : TyEl Tryz.prog 88 1 8 (.nilFunc) := ⟨by kernel_rfl, by rfl, by decide, by decide⟩
instance : TyA Tryz.prog 89 5 := ⟨by kernel_rfl, by kernel_rfl⟩
instance : Sized Tryz.prog 89 := ⟨fun w => ⟨4, TyA.size (T := 89) (n := 5) w⟩⟩
instance : TyZero Tryz.prog 89 (.agg #[.slice none 0 0, .bool false, .slice none 0 0, .bool false, .slice none 0 0]) := ⟨by kernel_rfl⟩
instance : TyEl Tryz.prog 89 5 88 (.agg #[.slice none 0 0, .bool false, .slice none 0 0, .bool false, .slice none 0 0]) := ⟨by kernel_rfl, by rfl, by decide, by decide⟩
instance : StructPl Tryz.prog 89 [(0, 1), (1, 4)] [.slice none 0 0, .bool false, .slice none 0 0, .bool false, .slice none 0 0] := ⟨by kernel_rfl, by kernel_rfl, by rfl⟩
instance : Fld Tryz.prog 89 0 0 24 := ⟨by kernel_rfl⟩
instance : Fld Tryz.prog 89 1 1 36 := ⟨by kernel_rfl⟩
instance : TyA Tryz.prog 90 5 := ⟨by kernel_rfl, by kernel_rfl⟩
instance : Sized Tryz.prog 90 := ⟨fun w => ⟨4, TyA.size (T := 90) (n := 5) w⟩⟩
instance : TyZero Tryz.prog 90 (.agg #[.slice none 0 0, .bool false, .slice none 0 0, .bool false, .slice none 0 0]) := ⟨by kernel_rfl⟩
instance : TyEl Tryz.prog 90 5 88 (.agg #[.slice none 0 0, .bool false, .slice none 0 0, .bool false, .slice none 0 0]) := ⟨by kernel_rfl, by rfl, by decide, by decide⟩
instance : StructPl Tryz.prog 90 [(0, 1), (1, 4)] [.slice none 0 0, .bool false, .slice none 0 0, .bool false, .slice none 0 0] := ⟨by kernel_rfl, by kernel_rfl, by rfl⟩
instance : Fld Tryz.prog 90 0 0 24 := ⟨by kernel_rfl⟩
instance : Fld Tryz.prog 90 1 1 36 := ⟨by kernel_rfl⟩
instance : TyV Tryz.prog 91 := ⟨by kernel_rfl, by kernel_rfl⟩
instance : TyZero Tryz.prog 91 (.nilFunc) := ⟨by kernel_rfl⟩
instance : TyEl Tryz.prog 91 1 8 (.nilFunc) := ⟨by kernel_rfl, by rfl, by decide, by decide⟩
instance : TyV Tryz.prog 92 := ⟨by kernel_rfl, by kernel_rfl⟩
instance : TyZero Tryz.prog 92 (.nilFunc) := ⟨by kernel_rfl⟩
instance : TyEl Tryz.prog 92 1 8 (.nilFunc) := ⟨by kernel_rfl, by rfl, by decide, by decide⟩
instance : TyV Tryz.prog 93 := ⟨by kernel_rfl, by kernel_rfl⟩
instance : TyZero Tryz.prog 93 (.nilFunc) := ⟨by kernel_rfl⟩
instance : TyEl Tryz.prog 93 1 8 (.nilFunc) := ⟨by kernel_rfl, by rfl, by decide, by decide⟩
instance : TyV Tryz.prog 94 := ⟨by kernel_rfl, by kernel_rfl⟩
instance : TyZero Tryz.prog 94 (.nilFunc) := ⟨by kernel_rfl⟩
instance : TyEl Tryz.prog 94 1 8 (.nilFunc) := ⟨by kernel_rfl, by rfl, by decide, by decide⟩
instance : TyV Tryz.prog 96 := ⟨by kernel_rfl, by kernel_rfl⟩
instance : TyZero Tryz.prog 96 (.nilFunc) := ⟨by kernel_rfl⟩
instance : TyEl Tryz.prog 96 1 8 (.nilFunc) := ⟨by kernel_rfl, by rfl, by decide, by decide⟩
instance : TyV Tryz.prog 97 := ⟨by kernel_rfl, by kernel_rfl⟩
instance : TyZero Tryz.prog 97 (.nilFunc) := ⟨by kernel_rfl⟩
instance : TyEl Tryz.prog 97 1 8 (.nilFunc) := ⟨by kernel_rfl, by rfl, by decide, by decide⟩
instance : TyV Tryz.prog 98 := ⟨by kernel_rfl, by kernel_rfl⟩
instance : TyZero Tryz.prog 98 (.nilFunc) := ⟨by kernel_rfl⟩
instance : TyEl Tryz.prog 98 1 8 (.nilFunc) := ⟨by kernel_rfl, by rfl, by decide, by decide⟩
instance : TyV Tryz.prog 99 := ⟨by kernel_rfl, by kernel_rfl⟩
instance : TyZero Tryz.prog 99 (.nilFunc) := ⟨by kernel_rfl⟩
instance : TyEl Tryz.prog 99 1 8 (.nilFunc) := ⟨by kernel_rfl, by rfl, by decide, by decide⟩
instance : TyV Tryz.prog 100 := ⟨by kernel_rfl, by kernel_rfl⟩
instance : TyZero Tryz.prog 100 (.slice none 0 0) := ⟨by kernel_rfl⟩
instance : TyEl Tryz.prog 100 1 24 (.slice none 0 0) := ⟨by kernel_rfl, by rfl, by decide, by decide⟩
instance : TySl Tryz.prog 100 62 1 := ⟨by kernel_rfl, by kernel_rfl⟩
instance : TyV Tryz.prog 101 := ⟨by kernel_rfl, by kernel_rfl⟩
instance : TyZero Tryz.prog 101 (.slice none 0 0) := ⟨by kernel_rfl⟩
instance : TyEl Tryz.prog 101 1 24 (.slice none 0 0) := ⟨by kernel_rfl, by rfl, by decide, by decide⟩
instance : TySl Tryz.prog 101 23 1 := ⟨by kernel_rfl, by kernel_rfl⟩
instance : TyV Tryz.prog 102 := ⟨by kernel_rfl, by kernel_rfl⟩
instance : TyZero Tryz.prog 102 (.nilFunc) := ⟨by kernel_rfl⟩
instance : TyEl Tryz.prog 102 1 8 (.nilFunc) := ⟨by kernel_rfl, by rfl, by decide, by decide⟩
instance : TyV Tryz.prog 103 := ⟨by kernel_rfl, by kernel_rfl⟩
instance : TyZero Tryz.prog 103 (.nilFunc) := ⟨by kernel_rfl⟩
instance : TyEl Tryz.prog 103 1 8 (.nilFunc) := ⟨by kernel_rfl, by rfl, by decide, by decide⟩
instance : TyInt Tryz.prog 104 .u64 := ⟨by kernel_rfl⟩
instance : TyV Tryz.prog 104 := ⟨by kernel_rfl, by kernel_rfl⟩
instance : TyZero Tryz.prog 104 (.int .u64 0) := ⟨by kernel_rfl⟩
instance : TyEl Tryz.prog 104 1 8 (.int .u64 0) := ⟨by kernel_rfl, by rfl, by decide, by decide⟩
instance : TyV Tryz.prog 105 := ⟨by kernel_rfl, by kernel_rfl⟩
instance : TyZero Tryz.prog 105 (.nilFunc) := ⟨by kernel_rfl⟩
instance : TyEl Tryz.prog 105 1 8 (.nilFunc) := ⟨by kernel_rfl, by rfl, by decide, by decide⟩
instance : TyInt Tryz.prog 106 .u32 := ⟨by kernel_rfl⟩
instance : TyV Tryz.prog 106 := ⟨by kernel_rfl, by kernel_rfl⟩
instance : TyZero Tryz.prog 106 (.int .u32 0) := ⟨by kernel_rfl⟩
instance : TyEl Tryz.prog 106 1 4 (.int .u32 0) := ⟨by kernel_rfl, by rfl, by decide, by decide⟩
instance : TyV Tryz.prog 107 := ⟨by kernel_rfl, by kernel_rfl⟩
instance : TyZero Tryz.prog 107 (.nilFunc) := ⟨by kernel_rfl⟩
instance : TyEl Tryz.prog 107 1 8 (.nilFunc) := ⟨by kernel_rfl, by rfl, by decide, by decide⟩
instance : TyV Tryz.prog 108 := ⟨by kernel_rfl, by kernel_rfl⟩
instance : TyZero Tryz.prog 108 (.nilFunc) := ⟨by kernel_rfl⟩
instance : TyEl Tryz.prog 108 1 8 (.nilFunc) := ⟨by kernel_rfl, by rfl, by decide, by decide⟩
instance : TyV Tryz.prog 109 := ⟨by kernel_rfl, by kernel_rfl⟩
instance : TyZero Tryz.prog 109 (.nilFunc) := ⟨by kernel_rfl⟩
instance : TyEl Tryz.prog 109 1 8 (.nilFunc) := ⟨by kernel_rfl, by rfl, by decide, by decide⟩
instance : TyV Tryz.prog 110 := ⟨by kernel_rfl, by kernel_rfl⟩
instance : TyZero Tryz.prog 110 (.nilFunc) := ⟨by kernel_rfl⟩
instance : TyEl Tryz.prog 110 1 8 (.nilFunc) := ⟨by kernel_rfl, by rfl, by decide, by decide⟩
instance : TyV Tryz.prog 111 := ⟨by kernel_rfl, by kernel_rfl⟩
instance : TyZero Tryz.prog 111 (.nilFunc) := ⟨by kernel_rfl⟩
instance : TyEl Tryz.prog 111 1 8 (.nilFunc) := ⟨by kernel_rfl, by rfl, by decide, by decide⟩
instance : TyV Tryz.prog 112 := ⟨by kernel_rfl, by kernel_rfl⟩
instance : TyZero Tryz.prog 112 (.nilFunc) := ⟨by kernel_rfl⟩
instance : TyEl Tryz.prog 112 1 8 (.nilFunc) := ⟨by kernel_rfl, by rfl, by decide, by decide⟩
instance : TyV Tryz.prog 114 := ⟨by kernel_rfl, by kernel_rfl⟩
instance : TyZero Tryz.prog 114 (.nilFunc) := ⟨by kernel_rfl⟩
instance : TyEl Tryz.prog 114 1 8 (.nilFunc) := ⟨by kernel_rfl, by rfl, by decide, by decide⟩
instance : TyV Tryz.prog 115 := ⟨by kernel_rfl, by kernel_rfl⟩
instance : TyZero Tryz.prog 115 (.nilFunc) := ⟨by kernel_rfl⟩
instance : TyEl Tryz.prog 115 1 8 (.nilFunc) := ⟨by kernel_rfl, by rfl, by decide, by decide⟩
instance : TyV Tryz.prog 116 := ⟨by kernel_rfl, by kernel_rfl⟩
instance : TyZero Tryz.prog 116 (.nilFunc) := ⟨by kernel_rfl⟩
instance : TyEl Tryz.prog 116 1 8 (.nilFunc) := ⟨by kernel_rfl, by rfl, by decide, by decide⟩
instance : TyA Tryz.prog 117 1 := ⟨by kernel_rfl, by kernel_rfl⟩
instance : Sized Tryz.prog 117 := ⟨fun w => ⟨0, TyA.size (T := 117) (n := 1) w⟩⟩
instance : TyZero Tryz.prog 117 (.agg #[.nilFunc]) := ⟨by kernel_rfl⟩
instance : TyEl Tryz.prog 117 1 8 (.agg #[.nilFunc]) := ⟨by kernel_rfl, by rfl, by decide, by decide⟩
instance : StructPl Tryz.prog 117 [(0, 1)] [.nilFunc] := ⟨by kernel_rfl, by kernel_rfl, by rfl⟩
instance : Fld Tryz.prog 117 0 0 116 := ⟨by kernel_rfl⟩
instance : TyA Tryz.prog 118 1 := ⟨by kernel_rfl, by kernel_rfl⟩
instance : Sized Tryz.prog 118 := ⟨fun w => ⟨0, TyA.size (T := 118) (n := 1) w⟩⟩
instance : TyZero Tryz.prog 118 (.agg #[.nilFunc]) := ⟨by kernel_rfl⟩
instance : TyEl Tryz.prog 118 1 8 (.agg #[.nilFunc]) := ⟨by kernel_rfl, by rfl, by decide, by decide⟩
instance : StructPl Tryz.prog 118 [(0, 1)] [.nilFunc] := ⟨by kernel_rfl, by kernel_rfl, by rfl⟩
instance : Fld Tryz.prog 118 0 0 116 := ⟨by kernel_rfl⟩
instance : TyV Tryz.prog 119 := ⟨by kernel_rfl, by kernel_rfl⟩
instance : TyZero Tryz.prog 119 (.map none) := ⟨by kernel_rfl⟩
instance : TyEl Tryz.prog 119 1 8 (.map none) := ⟨by kernel_rfl, by rfl, by decide, by decide⟩
instance : TyMap Tryz.prog 119 5 118 := ⟨by kernel_rfl⟩
instance : TyV Tryz.prog 120 := ⟨by kernel_rfl, by kernel_rfl⟩
instance : TyZero Tryz.prog 120 (.nilFunc) := ⟨by kernel_rfl⟩
instance : TyEl Tryz.prog 120 1 8 (.nilFunc) := ⟨by kernel_rfl, by rfl, by decide, by decide⟩
instance : TyV Tryz.prog 121 := ⟨by kernel_rfl, by kernel_rfl⟩
instance : TyZero Tryz.prog 121 (.slice none 0 0) := ⟨by kernel_rfl⟩
instance : TyEl Tryz.prog 121 1 24 (.slice none 0 0) := ⟨by kernel_rfl, by rfl, by decide, by decide⟩
instance : TySl Tryz.prog 121 34 2 := ⟨by kernel_rfl, by kernel_rfl⟩
instance : TyV Tryz.prog 122 := ⟨by kernel_rfl, by kernel_rfl⟩
instance : TyZero Tryz.prog 122 (.nilFunc) := ⟨by kernel_rfl⟩
instance : TyEl Tryz.prog 122 1 8 (.nilFunc) := ⟨by kernel_rfl, by rfl, by decide, by decide⟩
instance : TyV Tryz.prog 123 := ⟨by kernel_rfl, by kernel_rfl⟩
instance : TyZero Tryz.prog 123 (.nilFunc) := ⟨by kernel_rfl⟩
instance : TyEl Tryz.prog 123 1 8 (.nilFunc) := ⟨by kernel_rfl, by rfl, by decide, by decide⟩
instance : TyV Tryz.prog 124 := ⟨by kernel_rfl, by kernel_rfl⟩
instance : TyZero Tryz.prog 124 (.nilFunc) := ⟨by kernel_rfl⟩
instance : TyEl Tryz.prog 124 1 8 (.nilFunc) := ⟨by kernel_rfl, by rfl, by decide, by decide⟩
instance : TyV Tryz.prog 125 := ⟨by kernel_rfl, by kernel_rfl⟩
instance : TyZero Tryz.prog 125 (.slice none 0 0) := ⟨by kernel_rfl⟩
instance : TyEl Tryz.prog 125 1 24 (.slice none 0 0) := ⟨by kernel_rfl, by rfl, by decide, by decide⟩
instance : TySl Tryz.prog 125 90 5 := ⟨by kernel_rfl, by kernel_rfl⟩
instance : TyV Tryz.prog 126 := ⟨by kernel_rfl, by kernel_rfl⟩
instance : TyZero Tryz.prog 126 (.nilFunc) := ⟨by kernel_rfl⟩
instance : TyEl Tryz.prog 126 1 8 (.nilFunc) := ⟨by kernel_rfl, by rfl, by decide, by decide⟩
instance : TyV Tryz.prog 127 := ⟨by kernel_rfl, by kernel_rfl⟩
instance : TyZero Tryz.prog 127 (.nilFunc) := ⟨by kernel_rfl⟩
instance : TyEl Tryz.prog 127 1 8 (.nilFunc) := ⟨by kernel_rfl, by rfl, by decide, by decide⟩
instance : TyV Tryz.prog 128 := ⟨by kernel_rfl, by kernel_rfl⟩
instance : TyZero Tryz.prog 128 (.nilFunc) := ⟨by kernel_rfl⟩
instance : TyEl Tryz.prog 128 1 8 (.nilFunc) := ⟨by kernel_rfl, by rfl, by decide, by decide⟩
instance : TyV Tryz.prog 129 := ⟨by kernel_rfl, by kernel_rfl⟩
instance : TyZero Tryz.prog 129 (.nilFunc) := ⟨by kernel_rfl⟩
instance : TyEl Tryz.prog 129 1 8 (.nilFunc) := ⟨by kernel_rfl, by rfl, by decide, by decide⟩
instance : TyV Tryz.prog 130 := ⟨by kernel_rfl, by kernel_rfl⟩
instance : TyZero Tryz.prog 130 (.nilFunc) := ⟨by kernel_rfl⟩
instance : TyEl Tryz.prog 130 1 8 (.nilFunc) := ⟨by kernel_rfl, by rfl, by decide, by decide⟩
instance : TyV Tryz.prog 131 := ⟨by kernel_rfl, by kernel_rfl⟩
instance : TyZero Tryz.prog 131 (.nilFunc) := ⟨by kernel_rfl⟩
instance : TyEl Tryz.prog 131 1 8 (.nilFunc) := ⟨by kernel_rfl, by rfl, by decide, by decide⟩
instance : TyV Tryz.prog 132 := ⟨by kernel_rfl, by kernel_rfl⟩
instance : TyZero Tryz.prog 132 (.nilFunc) := ⟨by kernel_rfl⟩
instance : TyEl Tryz.prog 132 1 8 (.nilFunc) := ⟨by kernel_rfl, by rfl, by decide, by decide⟩
instance : TyV Tryz.prog 133 := ⟨by kernel_rfl, by kernel_rfl⟩
instance : TyZero Tryz.prog 133 (.slice none 0 0) := ⟨by kernel_rfl⟩
instance : TyEl Tryz.prog 133 1 24 (.slice none 0 0) := ⟨by kernel_rfl, by rfl, by decide, by decide⟩
instance : TySl Tryz.prog 133 3 1 := ⟨by kernel_rfl, by kernel_rfl⟩
instance : TyV Tryz.prog 134 := ⟨by kernel_rfl, by kernel_rfl⟩
instance : TyZero Tryz.prog 134 (.nilFunc) := ⟨by kernel_rfl⟩
instance : TyEl Tryz.prog 134 1 8 (.nilFunc) := ⟨by kernel_rfl, by rfl, by decide, by decide⟩
instance : TyV Tryz.prog 136 := ⟨by kernel_rfl, by kernel_rfl⟩
instance : TyZero Tryz.prog 136 (.nilFunc) := ⟨by kernel_rfl⟩
instance : TyEl Tryz.prog 136 1 8 (.nilFunc) := ⟨by kernel_rfl, by rfl, by decide, by decide⟩
instance : TyV Tryz.prog 137 := ⟨by kernel_rfl, by kernel_rfl⟩
instance : TyZero Tryz.prog 137 (.nilFunc) := ⟨by kernel_rfl⟩
instance : TyEl Tryz.prog 137 1 8 (.nilFunc) := ⟨by kernel_rfl, by rfl, by decide, by decide⟩
instance : TyV Tryz.prog 138 := ⟨by kernel_rfl, by kernel_rfl⟩
instance : TyZero Tryz.prog 138 (.nilFunc) := ⟨by kernel_rfl⟩
instance : TyEl Tryz.prog 138 1 8 (.nilFunc) := ⟨by kernel_rfl, by rfl, by decide, by decide⟩
instance : TyV Tryz.prog 139 := ⟨by kernel_rfl, by kernel_rfl⟩
instance : TyZero Tryz.prog 139 (.nilFunc) := ⟨by kernel_rfl⟩
instance : TyEl Tryz.prog 139 1 8 (.nilFunc) := ⟨by kernel_rfl, by rfl, by decide, by decide⟩
instance : TyInt Tryz.prog 140 .u64 := ⟨by kernel_rfl⟩
instance : TyV Tryz.prog 140 := ⟨by kernel_rfl, by kernel_rfl⟩
instance : TyZero Tryz.prog 140 (.int .u64 0) := ⟨by kernel_rfl⟩
instance : TyEl Tryz.prog 140 1 8 (.int .u64 0) := ⟨by kernel_rfl, by rfl, by decide, by decide⟩
instance : TyV Tryz.prog 141 := ⟨by kernel_rfl, by kernel_rfl⟩
instance : TyZero Tryz.prog 141 (.nilFunc) := ⟨by kernel_rfl⟩
instance : TyEl Tryz.prog 141 1 8 (.nilFunc) := ⟨by kernel_rfl, by rfl, by decide, by decide⟩
instance : TyV Tryz.prog 142 := ⟨by kernel_rfl, by kernel_rfl⟩
instance : TyZero Tryz.prog 142 (.nilFunc) := ⟨by kernel_rfl⟩
instance : TyEl Tryz.prog 142 1 8 (.nilFunc) := ⟨by kernel_rfl, by rfl, by decide, by decide⟩
instance : TyV Tryz.prog 143 := ⟨by kernel_rfl, by kernel_rfl⟩
instance : TyZero Tryz.prog 143 (.nilFunc) := ⟨by kernel_rfl⟩
instance : TyEl Tryz.prog 143 1 8 (.nilFunc) := ⟨by kernel_rfl, by rfl, by decide, by decide⟩
instance : TyV Tryz.prog 144 := ⟨by kernel_rfl, by kernel_rfl⟩
instance : TyZero Tryz.prog 144 (.nilFunc) := ⟨by kernel_rfl⟩
instance : TyEl Tryz.prog 144 1 8 (.nilFunc) := ⟨by kernel_rfl, by rfl, by decide, by decide⟩
instance : TyV Tryz.prog 146 := ⟨by kernel_rfl, by kernel_rfl⟩
instance : TyZero Tryz.prog 146 (.nilFunc) := ⟨by kernel_rfl⟩
instance : TyEl Tryz.prog 146 1 8 (.nilFunc) := ⟨by kernel_rfl, by rfl, by decide, by decide⟩
instance : TyV Tryz.prog 147 := ⟨by kernel_rfl, by kernel_rfl⟩
instance : TyZero Tryz.prog 147 (.nilFunc) := ⟨by kernel_rfl⟩
instance : TyEl Tryz.prog 147 1 8 (.nilFunc) := ⟨by kernel_rfl, by rfl, by decide, by decide⟩
instance : TyV Tryz.prog 148 := ⟨by kernel_rfl, by kernel_rfl⟩
instance : TyZero Tryz.prog 148 (.nilFunc) := ⟨by kernel_rfl⟩
instance : TyEl Tryz.prog 148 1 8 (.nilFunc) := ⟨by kernel_rfl, by rfl, by decide, by decide⟩
instance : TyV Tryz.prog 150 := ⟨by kernel_rfl, by kernel_rfl⟩
instance : TyZero Tryz.prog 150 (.nilFunc) := ⟨by kernel_rfl⟩
instance : TyEl Tryz.prog 150 1 8 (.nilFunc) := ⟨by kernel_rfl, by rfl, by decide, by decide⟩
instance : TyV Tryz.prog 151 := ⟨by kernel_rfl, by kernel_rfl⟩
instance : TyZero Tryz.prog 151 (.nilFunc) := ⟨by kernel_rfl⟩
instance : TyEl Tryz.prog 151 1 8 (.nilFunc) := ⟨by kernel_rfl, by rfl, by decide, by decide⟩
instance : TyV Tryz.prog 152 := ⟨by kernel_rfl, by kernel_rfl⟩
instance : TyZero Tryz.prog 152 (.nilFunc) := ⟨by kernel_rfl⟩
instance : TyEl Tryz.prog 152 1 8 (.nilFunc) := ⟨by kernel_rfl, by rfl, by decide, by decide⟩
instance : TyV Tryz.prog 153 := ⟨by kernel_rfl, by kernel_rfl⟩
instance : TyZero Tryz.prog 153 (.nilFunc) := ⟨by kernel_rfl⟩
instance : TyEl Tryz.prog 153 1 8 (.nilFunc) := ⟨by kernel_rfl, by rfl, by decide, by decide⟩
instance : TyV Tryz.prog 154 := ⟨by kernel_rfl, by kernel_rfl⟩
instance : TyZero Tryz.prog 154 (.nilFunc) := ⟨by kernel_rfl⟩
instance : TyEl Tryz.prog 154 1 8 (.nilFunc) := ⟨by kernel_rfl, by rfl, by decide, by decide⟩
instance : TyV Tryz.prog 155 := ⟨by kernel_rfl, by kernel_rfl⟩
instance : TyZero Tryz.prog 155 (.nilFunc) := ⟨by kernel_rfl⟩
instance : TyEl Tryz.prog 155 1 8 (.nilFunc) := ⟨by kernel_rfl, by rfl, by decide, by decide⟩
instance : TyV Tryz.prog 156 := ⟨by kernel_rfl, by kernel_rfl⟩
instance : TyZero Tryz.prog 156 (.nilFunc) := ⟨by kernel_rfl⟩
instance : TyEl Tryz.prog 156 1 8 (.nilFunc) := ⟨by kernel_rfl, by rfl, by decide, by decide⟩
instance : TyV Tryz.prog 157 := ⟨by kernel_rfl, by kernel_rfl⟩
instance : TyZero Tryz.prog 157 (.nilFunc) := ⟨by kernel_rfl⟩
instance : TyEl Tryz.prog 157 1 8 (.nilFunc) := ⟨by kernel_rfl, by rfl, by decide, by decide⟩
instance : TyV Tryz.prog 158 := ⟨by kernel_rfl, by kernel_rfl⟩
instance : TyZero Tryz.prog 158 (.nilFunc) := ⟨by kernel_rfl⟩
instance : TyEl Tryz.prog 158 1 8 (.nilFunc) := ⟨by kernel_rfl, by rfl, by decide, by decide⟩
instance : TyV Tryz.prog 159 := ⟨by kernel_rfl, by kernel_rfl⟩
instance : TyZero Tryz.prog 159 (.nilFunc) := ⟨by kernel_rfl⟩
instance : TyEl Tryz.prog 159 1 8 (.nilFunc) := ⟨by kernel_rfl, by rfl, by decide, by decide⟩
instance : TyV Tryz.prog 160 := ⟨by kernel_rfl, by kernel_rfl⟩
instance : TyZero Tryz.prog 160 (.nilFunc) := ⟨by kernel_rfl⟩
instance : TyEl Tryz.prog 160 1 8 (.nilFunc) := ⟨by kernel_rfl, by rfl, by decide, by decide⟩
instance : TyV Tryz.prog 161 := ⟨by kernel_rfl, by kernel_rfl⟩
instance : TyZero Tryz.prog 161 (.nilFunc) := ⟨by kernel_rfl⟩
instance : TyEl Tryz.prog 161 1 8 (.nilFunc) := ⟨by kernel_rfl, by rfl, by decide, by decide⟩
instance : TyV Tryz.prog 162 := ⟨by kernel_rfl, by kernel_rfl⟩
instance : TyZero Tryz.prog 162 (.nilFunc) := ⟨by kernel_rfl⟩
instance : TyEl Tryz.prog 162 1 8 (.nilFunc) := ⟨by kernel_rfl, by rfl, by decide, by decide⟩
instance : TyV Tryz.prog 163 := ⟨by kernel_rfl, by kernel_rfl⟩
instance : TyZero Tryz.prog 163 (.nilFunc) := ⟨by kernel_rfl⟩
instance : TyEl Tryz.prog 163 1 8 (.nilFunc) := ⟨by kernel_rfl, by rfl, by decide, by decide⟩
instance : TyV Tryz.prog 164 := ⟨by kernel_rfl, by kernel_rfl⟩
instance : TyZero Tryz.prog 164 (.nilFunc) := ⟨by kernel_rfl⟩
instance : TyEl Tryz.prog 164 1 8 (.nilFunc) := ⟨by kernel_rfl, by rfl, by decide, by decide⟩
instance : TyV Tryz.prog 165 := ⟨by kernel_rfl, by kernel_rfl⟩
instance : TyZero Tryz.prog 165 (.nilFunc) := ⟨by kernel_rfl⟩
instance : TyEl Tryz.prog 165 1 8 (.nilFunc) := ⟨by kernel_rfl, by rfl, by decide, by decide⟩
instance : TyA Tryz.prog 166 4 := ⟨by kernel_rfl, by kernel_rfl⟩
instance : Sized Tryz.prog 166 := ⟨fun w => ⟨3, TyA.size (T := 166) (n := 4) w⟩⟩
instance : TyZero Tryz.prog 166 (.agg #[.pointer none, .pointer none, .pointer none, .string (ByteArray.mk #[])]) := ⟨by kernel_rfl⟩
instance : TyEl Tryz.prog 166 4 40 (.agg #[.pointer none, .pointer none, .pointer none, .string (ByteArray.mk #[])]) := ⟨by kernel_rfl, by rfl, by decide, by decide⟩
instance : StructPl Tryz.prog 166 [(0, 1), (1, 1), (2, 1), (3, 1)] [.pointer none, .pointer none, .pointer none, .string (ByteArray.mk #[])] := ⟨by kernel_rfl, by kernel_rfl, by rfl⟩
instance : Fld Tryz.prog 166 0 0 17 := ⟨by kernel_rfl⟩
instance : Fld Tryz.prog 166 1 1 17 := ⟨by kernel_rfl⟩
instance : Fld Tryz.prog 166 2 2 17 := ⟨by kernel_rfl⟩
instance : Fld Tryz.prog 166 3 3 9 := ⟨by kernel_rfl⟩
instance : TyA Tryz.prog 167 4 := ⟨by kernel_rfl, by kernel_rfl⟩
instance : Sized Tryz.prog 167 := ⟨fun w => ⟨3, TyA.size (T := 167) (n := 4) w⟩⟩
instance : TyZero Tryz.prog 167 (.agg #[.pointer none, .pointer none, .pointer none, .string (ByteArray.mk #[])]) := ⟨by kernel_rfl⟩
instance : TyEl Tryz.prog 167 4 40 (.agg #[.pointer none, .pointer none, .pointer none, .string (ByteArray.mk #[])]) := ⟨by kernel_rfl, by rfl, by decide, by decide⟩
instance : StructPl Tryz.prog 167 [(0, 1), (1, 1), (2, 1), (3, 1)] [.pointer none, .pointer none, .pointer none, .string (ByteArray.mk #[])] := ⟨by kernel_rfl, by kernel_rfl, by rfl⟩
instance : Fld Tryz.prog 167 0 0 17 := ⟨by kernel_rfl⟩
instance : Fld Tryz.prog 167 1 1 17 := ⟨by kernel_rfl⟩
instance : Fld Tryz.prog 167 2 2 17 := ⟨by kernel_rfl⟩
instance : Fld Tryz.prog 167 3 3 9 := ⟨by kernel_rfl⟩
instance : TyA Tryz.prog 168 0 := ⟨by kernel_rfl, by kernel_rfl⟩
instance : TyZero Tryz.prog 168 (.agg #[]) := ⟨by kernel_rfl⟩
instance : TyA Tryz.prog 169 0 := ⟨by kernel_rfl, by kernel_rfl⟩
instance : TyZero Tryz.prog 169 (.agg #[]) := ⟨by kernel_rfl⟩
instance : StructPl Tryz.prog 169 [(0, 0)] [] := ⟨by kernel_rfl, by kernel_rfl, by rfl⟩
instance : Fld Tryz.prog 169 0 0 168 := ⟨by kernel_rfl⟩
instance : TyA Tryz.prog 170 0 := ⟨by kernel_rfl, by kernel_rfl⟩
instance : TyZero Tryz.prog 170 (.agg #[]) := ⟨by kernel_rfl⟩
instance : StructPl Tryz.prog 170 [(0, 0)] [] := ⟨by kernel_rfl, by kernel_rfl, by rfl⟩
instance : Fld Tryz.prog 170 0 0 168 := ⟨by kernel_rfl⟩
instance : TyV Tryz.prog 171 := ⟨by kernel_rfl, by kernel_rfl⟩
instance : TyZero Tryz.prog 171 (.nilFunc) := ⟨by kernel_rfl⟩
instance : TyEl Tryz.prog 171 1 8 (.nilFunc) := ⟨by kernel_rfl, by rfl, by decide, by decide⟩
instance : TyInt Tryz.prog 172 .u8 := ⟨by kernel_rfl⟩
instance : TyV Tryz.prog 172 := ⟨by kernel_rfl, by kernel_rfl⟩
instance : TyZero Tryz.prog 172 (.int .u8 0) := ⟨by kernel_rfl⟩
instance : TyEl Tryz.prog 172 1 1 (.int .u8 0) := ⟨by kernel_rfl, by rfl, by decide, by decide⟩
instance : TyInt Tryz.prog 173 .u8 := ⟨by kernel_rfl⟩
instance : TyV Tryz.prog 173 := ⟨by kernel_rfl, by kernel_rfl⟩
instance : TyZero Tryz.prog 173 (.int .u8 0) := ⟨by kernel_rfl⟩
instance : TyEl Tryz.prog 173 1 1 (.int .u8 0) := ⟨by kernel_rfl, by rfl, by decide, by decide⟩
instance : TyV Tryz.prog 174 := ⟨by kernel_rfl, by kernel_rfl⟩
instance : TyZero Tryz.prog 174 (.nilFunc) := ⟨by kernel_rfl⟩
instance : TyEl Tryz.prog 174 1 8 (.nilFunc) := ⟨by kernel_rfl, by rfl, by decide, by decide⟩
instance : TyV Tryz.prog 175 := ⟨by kernel_rfl, by kernel_rfl⟩
instance : TyZero Tryz.prog 175 (.pointer none) := ⟨by kernel_rfl⟩
instance : TyEl Tryz.prog 175 1 8 (.pointer none) := ⟨by kernel_rfl, by rfl, by decide, by decide⟩
instance : TyInt Tryz.prog 176 .i32 := ⟨by kernel_rfl⟩
instance : TyV Tryz.prog 176 := ⟨by kernel_rfl, by kernel_rfl⟩
instance : TyZero Tryz.prog 176 (.int .i32 0) := ⟨by kernel_rfl⟩
instance : TyEl Tryz.prog 176 1 4 (.int .i32 0) := ⟨by kernel_rfl, by rfl, by decide, by decide⟩
instance : TyInt Tryz.prog 177 .i32 := ⟨by kernel_rfl⟩
instance : TyV Tryz.prog 177 := ⟨by kernel_rfl, by kernel_rfl⟩
instance : TyZero Tryz.prog 177 (.int .i32 0) := ⟨by kernel_rfl⟩
instance : TyEl Tryz.prog 177 1 4 (.int .i32 0) := ⟨by kernel_rfl, by rfl, by decide, by decide⟩
instance : TyA Tryz.prog 178 11 := ⟨by kernel_rfl, by kernel_rfl⟩
instance : Sized Tryz.prog 178 := ⟨fun w => ⟨10, TyA.size (T := 178) (n := 11) w⟩⟩
instance : TyZero Tryz.prog 178 (.agg #[.int .u64 0, .int .u64 0, .int .u32 0, .int .u8 0, .int .u8 0, .int .u8 0, .int .u8 0, .nilFunc, .pointer none, .int .i32 0, .int .i32 0]) := ⟨by kernel_rfl⟩
instance : TyEl Tryz.prog 178 11 48 (.agg #[.int .u64 0, .int .u64 0, .int .u32 0, .int .u8 0, .int .u8 0, .int .u8 0, .int .u8 0, .nilFunc, .pointer none, .int .i32 0, .int .i32 0]) := ⟨by kernel_rfl, by rfl, by decide, by decide⟩
instance : StructPl Tryz.prog 178 [(0, 1), (1, 1), (2, 1), (3, 1), (4, 1), (5, 1), (6, 1), (7, 1), (8, 1), (9, 1), (10, 1)] [.int .u64 0, .int .u64 0, .int .u32 0, .int .u8 0, .int .u8 0, .int .u8 0, .int .u8 0, .nilFunc, .pointer none, .int .i32 0, .int .i32 0] := ⟨by kernel_rfl, by kernel_rfl, by rfl⟩
instance : Fld Tryz.prog 178 0 0 12 := ⟨by kernel_rfl⟩
instance : Fld Tryz.prog 178 1 1 12 := ⟨by kernel_rfl⟩
instance : Fld Tryz.prog 178 2 2 106 := ⟨by kernel_rfl⟩
instance : Fld Tryz.prog 178 3 3 172 := ⟨by kernel_rfl⟩
instance : Fld Tryz.prog 178 4 4 5 := ⟨by kernel_rfl⟩
instance : Fld Tryz.prog 178 5 5 5 := ⟨by kernel_rfl⟩
instance : Fld Tryz.prog 178 6 6 173 := ⟨by kernel_rfl⟩
instance : Fld Tryz.prog 178 7 7 174 := ⟨by kernel_rfl⟩
instance : Fld Tryz.prog 178 8 8 175 := ⟨by kernel_rfl⟩
instance : Fld Tryz.prog 178 9 9 176 := ⟨by kernel_rfl⟩
instance : Fld Tryz.prog 178 10 10 177 := ⟨by kernel_rfl⟩
instance : TyA Tryz.prog 179 11 := ⟨by kernel_rfl, by kernel_rfl⟩
instance : Sized Tryz.prog 179 := ⟨fun w => ⟨10, TyA.size (T := 179) (n := 11) w⟩⟩
instance : TyZero Tryz.prog 179 (.agg #[.int .u64 0, .int .u64 0, .int .u32 0, .int .u8 0, .int .u8 0, .int .u8 0, .int .u8 0, .nilFunc, .pointer none, .int .i32 0, .int .i32 0]) := ⟨by kernel_rfl⟩
instance : TyEl Tryz.prog 179 11 48 (.agg #[.int .u64 0, .int .u64 0, .int .u32 0, .int .u8 0, .int .u8 0, .int .u8 0, .int .u8 0, .nilFunc, .pointer none, .int .i32 0, .int .i32 0]) := ⟨by kernel_rfl, by rfl, by decide, by decide⟩
instance : StructPl Tryz.prog 179 [(0, 1), (1, 1), (2, 1), (3, 1), (4, 1), (5, 1), (6, 1), (7, 1), (8, 1), (9, 1), (10, 1)] [.int .u64 0, .int .u64 0, .int .u32 0, .int .u8 0, .int .u8 0, .int .u8 0, .int .u8 0, .nilFunc, .pointer none, .int .i32 0, .int .i32 0] := ⟨by kernel_rfl, by kernel_rfl, by rfl⟩
instance : Fld Tryz.prog 179 0 0 12 := ⟨by kernel_rfl⟩
instance : Fld Tryz.prog 179 1 1 12 := ⟨by kernel_rfl⟩
instance : Fld Tryz.prog 179 2 2 106 := ⟨by kernel_rfl⟩
instance : Fld Tryz.prog 179 3 3 172 := ⟨by kernel_rfl⟩
instance : Fld Tryz.prog 179 4 4 5 := ⟨by kernel_rfl⟩
instance : Fld Tryz.prog 179 5 5 5 := ⟨by kernel_rfl⟩
instance : Fld Tryz.prog 179 6 6 173 := ⟨by kernel_rfl⟩
instance : Fld Tryz.prog 179 7 7 174 := ⟨by kernel_rfl⟩
instance : Fld Tryz.prog 179 8 8 175 := ⟨by kernel_rfl⟩
instance : Fld Tryz.prog 179 9 9 176 := ⟨by kernel_rfl⟩
instance : Fld Tryz.prog 179 10 10 177 := ⟨by kernel_rfl⟩
instance : TyV Tryz.prog 180 := ⟨by kernel_rfl, by kernel_rfl⟩
instance : TyZero Tryz.prog 180 (.pointer none) := ⟨by kernel_rfl⟩
instance : TyEl Tryz.prog 180 1 8 (.pointer none) := ⟨by kernel_rfl, by rfl, by decide, by decide⟩
instance : Ent Tryz.prog 3 := ⟨by kernel_rfl⟩
instance : Ent Tryz.prog 4 := ⟨by kernel_rfl⟩
instance : Ent Tryz.prog 5 := ⟨by kernel_rfl⟩
instance : Ent Tryz.prog 6 := ⟨by kernel_rfl⟩
instance : Ent Tryz.prog 7 := ⟨by kernel_rfl⟩
instance : Ent Tryz.prog 8 := ⟨by kernel_rfl⟩
instance : Ent Tryz.prog 9 := ⟨by kernel_rfl⟩
instance : Ent Tryz.prog 10 := ⟨by kernel_rfl⟩
instance : Ent Tryz.prog 11 := ⟨by kernel_rfl⟩
instance : Ent Tryz.prog 12 := ⟨by kernel_rfl⟩
instance : Ent Tryz.prog 13 := ⟨by kernel_rfl⟩
instance : Ent Tryz.prog 14 := ⟨by kernel_rfl⟩
instance : Ent Tryz.prog 15 := ⟨by kernel_rfl⟩
instance : Ent Tryz.prog 16 := ⟨by kernel_rfl⟩
instance : Ent Tryz.prog 17 := ⟨by kernel_rfl⟩
instance : Ent Tryz.prog 18 := ⟨by kernel_rfl⟩
instance : Ent Tryz.prog 19 := ⟨by kernel_rfl⟩
instance : Ent Tryz.prog 20 := ⟨by kernel_rfl⟩
instance : Ent Tryz.prog 21 := ⟨by kernel_rfl⟩
instance : Ent Tryz.prog 22 := ⟨by kernel_rfl⟩
instance : Ent Tryz.prog 23 := ⟨by kernel_rfl⟩
instance : Ent Tryz.prog 24 := ⟨by kernel_rfl⟩
instance : Ent Tryz.prog 25 := ⟨by kernel_rfl⟩
instance : Ent Tryz.prog 26 := ⟨by kernel_rfl⟩
instance : Ent Tryz.prog 27 := ⟨by kernel_rfl⟩
instance : Ent Tryz.prog 28 := ⟨by kernel_rfl⟩
instance : Ent Tryz.prog 29 := ⟨by kernel_rfl⟩
instance : Ent Tryz.prog 30 := ⟨by kernel_rfl⟩
instance : Ent Tryz.prog 31 := ⟨by kernel_rfl⟩
instance : Ent Tryz.prog 32 := ⟨by kernel_rfl⟩
instance : Ent Tryz.prog 33 := ⟨by kernel_rfl⟩
instance : Ent Tryz.prog 34 := ⟨by kernel_rfl⟩
instance : Ent Tryz.prog 35 := ⟨by kernel_rfl⟩
instance : Ent Tryz.prog 36 := ⟨by kernel_rfl⟩
instance : Ent Tryz.prog 37 := ⟨by kernel_rfl⟩
instance : Ent Tryz.prog 38 := ⟨by kernel_rfl⟩
instance : Ent Tryz.prog 39 := ⟨by kernel_rfl⟩
instance : Ent Tryz.prog 40 := ⟨by kernel_rfl⟩
instance : Ent Tryz.prog 41 := ⟨by kernel_rfl⟩
instance : Ent Tryz.prog 42 := ⟨by kernel_rfl⟩
instance : Ent Tryz.prog 43 := ⟨by kernel_rfl⟩
instance : Ent Tryz.prog 44 := ⟨by kernel_rfl⟩
instance : Ent Tryz.prog 45 := ⟨by kernel_rfl⟩
instance : Ent Tryz.prog 46 := ⟨by kernel_rfl⟩
instance : Ent Tryz.prog 47 := ⟨by kernel_rfl⟩
instance : Ent Tryz.prog 48 := ⟨by kernel_rfl⟩
instance : Ent Tryz.prog 49 := ⟨by kernel_rfl⟩
instance : Ent Tryz.prog 50 := ⟨by kernel_rfl⟩
instance : Ent Tryz.prog 51 := ⟨by kernel_rfl⟩
instance : Ent Tryz.prog 52 := ⟨by kernel_rfl⟩
instance : Ent Tryz.prog 53 := ⟨by kernel_rfl⟩
instance : Ent Tryz.prog 54 := ⟨by kernel_rfl⟩
instance : Ent Tryz.prog 55 := ⟨by kernel_rfl⟩
instance : Ent Tryz.prog 56 := ⟨by kernel_rfl⟩
instance : Ent Tryz.prog 57 := ⟨by kernel_rfl⟩
instance : Ent Tryz.prog 58 := ⟨by kernel_rfl⟩
instance : Ent Tryz.prog 59 := ⟨by kernel_rfl⟩
instance : Ent Tryz.prog 60 := ⟨by kernel_rfl⟩
instance : Ent Tryz.prog 61 := ⟨by kernel_rfl⟩
instance : Ent Tryz.prog 62 := ⟨by kernel_rfl⟩
instance : Ent Tryz.prog 63 := ⟨by kernel_rfl⟩
instance : Ent Tryz.prog 64 := ⟨by kernel_rfl⟩
instance : Ent Tryz.prog 65 := ⟨by kernel_rfl⟩
instance : Ent Tryz.prog 66 := ⟨by kernel_rfl⟩
instance : Ent Tryz.prog 67 := ⟨by kernel_rfl⟩
instance : Ent Tryz.prog 68 := ⟨by kernel_rfl⟩
instance : Ent Tryz.prog 69 := ⟨by kernel_rfl⟩
instance : Ent Tryz.prog 70 := ⟨by kernel_rfl⟩
instance : Ent Tryz.prog 71 := ⟨by kernel_rfl⟩
instance : Ent Tryz.prog 72 := ⟨by kernel_rfl⟩
instance : Ent Tryz.prog 73 := ⟨by kernel_rfl⟩
instance : Ent Tryz.prog 74 := ⟨by kernel_rfl⟩
instance : Ent Tryz.prog 75 := ⟨by kernel_rfl⟩
instance : Ent Tryz.prog 76 := ⟨by kernel_rfl⟩
instance : Ent Tryz.prog 77 := ⟨by kernel_rfl⟩
instance : Ent Tryz.prog 78 := ⟨by kernel_rfl⟩
instance : Ent Tryz.prog 79 := ⟨by kernel_rfl⟩
instance : Ent Tryz.prog 80 := ⟨by kernel_rfl⟩
instance : Ent Tryz.prog 81 := ⟨by kernel_rfl⟩
instance : Ent Tryz.prog 82 := ⟨by kernel_rfl⟩
instance : Ent Tryz.prog 83 := ⟨by kernel_rfl⟩
instance : Ent Tryz.prog 84 := ⟨by kernel_rfl⟩
instance : Ent Tryz.prog 85 := ⟨by kernel_rfl⟩
instance : Ent Tryz.prog 86 := ⟨by kernel_rfl⟩
instance : Ent Tryz.prog 87 := ⟨by kernel_rfl⟩
instance : Ent Tryz.prog 88 := ⟨by kernel_rfl⟩
instance : Ent Tryz.prog 89 := ⟨by kernel_rfl⟩
instance : Ent Tryz.prog 90 := ⟨by kernel_rfl⟩
instance : Ent Tryz.prog 91 := ⟨by kernel_rfl⟩
instance : Ent Tryz.prog 92 := ⟨by kernel_rfl⟩
instance : Ent Tryz.prog 93 := ⟨by kernel_rfl⟩
instance : Ent Tryz.prog 94 := ⟨by kernel_rfl⟩
instance : Ent Tryz.prog 95 := ⟨by kernel_rfl⟩
instance : Ent Tryz.prog 96 := ⟨by kernel_rfl⟩
instance : Ent Tryz.prog 97 := ⟨by kernel_rfl⟩
instance : Ent Tryz.prog 98 := ⟨by kernel_rfl⟩
instance : Ent Tryz.prog 99 := ⟨by kernel_rfl⟩
instance : Ent Tryz.prog 100 := ⟨by kernel_rfl⟩
instance : Ent Tryz.prog 101 := ⟨by kernel_rfl⟩
instance : Ent Tryz.prog 102 := ⟨by kernel_rfl⟩
instance : Ent Tryz.prog 103 := ⟨by kernel_rfl⟩
instance : Ent Tryz.prog 104 := ⟨by kernel_rfl⟩
instance : Ent Tryz.prog 105 := ⟨by kernel_rfl⟩
instance : Ent Tryz.prog 106 := ⟨by kernel_rfl⟩
instance : Ent Tryz.prog 107 := ⟨by kernel_rfl⟩
instance : Ent Tryz.prog 108 := ⟨by kernel_rfl⟩
instance : Ent Tryz.prog 109 := ⟨by kernel_rfl⟩
instance : Ent Tryz.prog 110 := ⟨by kernel_rfl⟩
instance : Ent Tryz.prog 111 := ⟨by kernel_rfl⟩
instance : Ent Tryz.prog 112 := ⟨by kernel_rfl⟩
instance : Ent Tryz.prog 113 := ⟨by kernel_rfl⟩
instance : Ent Tryz.prog 114 := ⟨by kernel_rfl⟩
instance : Ent Tryz.prog 115 := ⟨by kernel_rfl⟩
instance : Ent Tryz.prog 116 := ⟨by kernel_rfl⟩
instance : Ent Tryz.prog 117 := ⟨by kernel_rfl⟩
instance : Ent Tryz.prog 118 := ⟨by kernel_rfl⟩
instance : Ent Tryz.prog 119 := ⟨by kernel_rfl⟩
instance : Ent Tryz.prog 120 := ⟨by kernel_rfl⟩
instance : Ent Tryz.prog 121 := ⟨by kernel_rfl⟩
instance : Ent Tryz.prog 122 := ⟨by kernel_rfl⟩
instance : Ent Tryz.prog 123 := ⟨by kernel_rfl⟩
instance : Ent Tryz.prog 124 := ⟨by kernel_rfl⟩
instance : Ent Tryz.prog 125 := ⟨by kernel_rfl⟩
instance : Ent Tryz.prog 126 := ⟨by kernel_rfl⟩
instance : Ent Tryz.prog 127 := ⟨by kernel_rfl⟩
instance : Ent Tryz.prog 128 := ⟨by kernel_rfl⟩
instance : Ent Tryz.prog 129 := ⟨by kernel_rfl⟩
instance : Ent Tryz.prog 130 := ⟨by kernel_rfl⟩
instance : Ent Tryz.prog 131 := ⟨by kernel_rfl⟩
instance : Ent Tryz.prog 132 := ⟨by kernel_rfl⟩
instance : Ent Tryz.prog 133 := ⟨by kernel_rfl⟩
instance : Ent Tryz.prog 134 := ⟨by kernel_rfl⟩
instance : Ent Tryz.prog 135 := ⟨by kernel_rfl⟩
instance : Ent Tryz.prog 136 := ⟨by kernel_rfl⟩
instance : Ent Tryz.prog 137 := ⟨by kernel_rfl⟩
instance : Ent Tryz.prog 138 := ⟨by kernel_rfl⟩
instance : Ent Tryz.prog 139 := ⟨by kernel_rfl⟩
instance : Ent Tryz.prog 140 := ⟨by kernel_rfl⟩
instance : Ent Tryz.prog 141 := ⟨by kernel_rfl⟩
instance : Ent Tryz.prog 142 := ⟨by kernel_rfl⟩
instance : Ent Tryz.prog 143 := ⟨by kernel_rfl⟩
instance : Ent Tryz.prog 144 := ⟨by kernel_rfl⟩
instance : Ent Tryz.prog 145 := ⟨by kernel_rfl⟩
instance : Ent Tryz.prog 146 := ⟨by kernel_rfl⟩
instance : Ent Tryz.prog 147 := ⟨by kernel_rfl⟩
instance : Ent Tryz.prog 148 := ⟨by kernel_rfl⟩
instance : Ent Tryz.prog 149 := ⟨by kernel_rfl⟩
instance : Ent Tryz.prog 150 := ⟨by kernel_rfl⟩
instance : Ent Tryz.prog 151 := ⟨by kernel_rfl⟩
instance : Ent Tryz.prog 152 := ⟨by kernel_rfl⟩
instance : Ent Tryz.prog 153 := ⟨by kernel_rfl⟩
instance : Ent Tryz.prog 154 := ⟨by kernel_rfl⟩
instance : Ent Tryz.prog 155 := ⟨by kernel_rfl⟩
instance : Ent Tryz.prog 156 := ⟨by kernel_rfl⟩
instance : Ent Tryz.prog 157 := ⟨by kernel_rfl⟩
instance : Ent Tryz.prog 158 := ⟨by kernel_rfl⟩
instance : Ent Tryz.prog 159 := ⟨by kernel_rfl⟩
instance : Ent Tryz.prog 160 := ⟨by kernel_rfl⟩
instance : Ent Tryz.prog 161 := ⟨by kernel_rfl⟩
instance : Ent Tryz.prog 162 := ⟨by kernel_rfl⟩
instance : Ent Tryz.prog 163 := ⟨by kernel_rfl⟩
instance : Ent Tryz.prog 164 := ⟨by kernel_rfl⟩
instance : Ent Tryz.prog 165 := ⟨by kernel_rfl⟩
instance : Ent Tryz.prog 166 := ⟨by kernel_rfl⟩
instance : Ent Tryz.prog 167 := ⟨by kernel_rfl⟩
instance : Ent Tryz.prog 168 := ⟨by kernel_rfl⟩
instance : Ent Tryz.prog 169 := ⟨by kernel_rfl⟩
instance : Ent Tryz.prog 170 := ⟨by kernel_rfl⟩
theorem mixed : Tryz.prog.follows .mixedOrders = true := by kernel_rfl
end Go.Proofs.YtfoldppidpmchaaGreat
namespace Go.Proofs.YtfoldppidpmchaaGreat
open Go.Fw Go.RowKit
def snap (W : World) : Mem := fun b o => (W.cell? ⟨b, o, none⟩).filter Value.oneCell'
theorem snap_in (W : World) : (snap W).inW W := fun _ _ _ e => by
  obtain ⟨e1, e2⟩ := Option.filter_eq_some_iff.1 e
  exact .of e1 e2
theorem snap_of {W : World} {b o : Nat} {v : Value} (h : W.cell? ⟨b, o, none⟩ = some v) (h1 : v.oneCell' = true) : snap W b o = some v := Option.filter_eq_some_iff.2 ⟨h, h1⟩
class Opn (P : Program) (T : TypeId) {α : Type} (e : α → List SV) (ok : outParam (α → Prop)) (sz : outParam (α → Nat)) : Prop where
  h : ∀ {H : Type} (enc : TypeId × Value → H) (W : World) (fuel : Nat) (cs : List Value) (d : DataW H) (p : List MemPlace), DataW.trod enc P W 0 (fun _ => true) true fuel T cs = some (d, p) →
    ∃ x : α, ok x ∧ SV.All (snap W) (e x) cs ∧ (∀ v ∈ cs, v.oneCell' = true) ∧ sz x ≤ Rows.uptoBulk d
section opn
variable {P : Program} {T : TypeId}
theorem wf_rng {k : IntKind} {n : Int} (h : (Lit.int k n).wf = true) : k.min ≤ n ∧ n ≤ k.max := by simpa [Lit.wf] using h
instance [t : TyInt P T .i64] : Opn P T eI64 (fun x => -9223372036854775808 ≤ x ∧ x ≤ 9223372036854775807) (fun _ => 1) := ⟨fun enc W fuel cs d p h => by
  obtain ⟨n, rfl, hx, hw⟩ := DataW.trod_int t.h h
  cases hx
  have := wf_rng hw
  exact ⟨n, by simpa [IntKind.min, IntKind.max, IntKind.signed, IntKind.bits] using this, ⟨rfl, trivial⟩, by simp [Value.oneCell'], by simp [Rows.uptoBulk]⟩⟩
theorem opn_u {k : IntKind} {M : Nat} {e : Nat → List SV} (t : TyInt P T k) (hk : k.min = 0 ∧ k.max = (M : Int) - 1) (he : ∀ n : Nat, e n = [.v (.int k (n : Int))]) : Opn P T e (fun x => x < M) (fun _ => 1) := ⟨fun enc W fuel cs d p h => by
  obtain ⟨n, rfl, hx, hw⟩ := DataW.trod_int t.h h
  cases hx
  have := wf_rng hw
  rw [hk.1, hk.2] at this
  obtain ⟨m, rfl⟩ := Int.eq_ofNat_of_zero_le this.1
  exact ⟨m, by omega, by rw [he]; exact ⟨rfl, trivial⟩, by simp [Value.oneCell'], by simp [Rows.uptoBulk]⟩⟩
instance [t : TyInt P T .u32] : Opn P T eU32 (fun x => x < 4294967296) (fun _ => 1) := opn_u t (by decide) (fun _ => rfl)
instance [t : TyBool P T] : Opn P T eB (fun _ => True) (fun _ => 1) := ⟨fun enc W fuel cs d p h => by
  obtain ⟨b, rfl, hx⟩ := DataW.trod_bool t.h h
  cases hx
  exact ⟨b, trivial, ⟨rfl, trivial⟩, by simp [Value.oneCell'], by simp [Rows.uptoBulk]⟩⟩
theorem bulk_sum {H α : Type} (sz : α → Nat) : ∀ (xs : List α) (ds : List (DataW H)), xs.length = ds.length → (∀ (i : Nat) (x : α) (d : DataW H), xs[i]? = some x → ds[i]? = some d → sz x ≤ Rows.uptoBulk d) → (xs.map sz).sum ≤ Rows.uptoBulkAll ds
  | [], [], _, _ => by simp
  | x :: xs, d :: ds, hl, h => by
    have h1 := h 0 x d rfl rfl
    have h2 := bulk_sum sz xs ds (by simpa using hl) (fun i x d e1 e2 => h (i + 1) x d (by simpa using e1) (by simpa using e2))
    simp only [List.map_cons, List.sum_cons, Rows.uptoBulkAll]; omega
  | [], _ :: _, hl, _ => by simp at hl
  | _ :: _, [], hl, _ => by simp at hl
instance {E : TypeId} {n : Nat} {α : Type} {e : α → List SV} {ok : α → Prop} {sz : α → Nat} {by_ : Nat} {zv : Value} [t : TySl P T E n] [tE : TyEl P E n by_ zv] [el : EL e n] [o : Opn P E e ok sz] : Opn P T (eS n e) (fun l => l.length ≤ 9223372036854775807 ∧ ∀ x ∈ l, ok x) (fun l => (l.map sz).sum + 1) := ⟨fun {H} enc W fuel cs d p h => by
  have hcell : P.cellsOf E = n := by
    have h1 := t.size W
    simp only [sizeOf, typeInfo] at h1
    cases hi : P.info? E with
    | none => simp [hi] at h1
    | some i => simp [hi] at h1; simp [Program.cellsOf, hi, h1]
  have hml : maxLen = 9223372036854775807 := by decide
  rcases Deep.open_slice t.u h with ⟨rfl, hx⟩ | ⟨a, len, cap, m, n', D, Pl, rfl, _, hl, hm, hmm, hx, hel⟩
  · cases hx
    exact ⟨[], ⟨by simp, by simp⟩, ⟨.inl ⟨none, rfl, rfl⟩, trivial⟩, by simp [Value.oneCell'], by simp [Rows.uptoBulk]⟩
  · cases hx
    rw [if_pos rfl] at hmm
    subst hmm
    have one : ∀ i, i < m → ∃ x, ok x ∧ sz x ≤ Rows.uptoBulk (D i) ∧ ∃ cs', W.cells? 0 (a.add (i * n)) n = some cs' ∧ SV.All (snap W) (e x) cs' ∧ (∀ v ∈ cs', v.oneCell' = true) := by
      intro i hi
      obtain ⟨cs', h1, h2⟩ := hel i hi
      obtain ⟨x, q1, q2, q3, q4⟩ := o.h enc W n' cs' (D i) (Pl i) h2
      rw [hcell] at h1
      exact ⟨x, q1, q4, cs', h1, q2, q3⟩
    obtain ⟨xs, hxl, hxs⟩ : ∃ xs : List α, xs.length = len ∧ ∀ (i : Nat) (x : α), xs[i]? = some x → ok x ∧ sz x ≤ Rows.uptoBulk (D i) ∧ ∃ cs', W.cells? 0 (a.add (i * n)) n = some cs' ∧ SV.All (snap W) (e x) cs' ∧ (∀ v ∈ cs', v.oneCell' = true) := by
      clear h hm hel
      have : ∀ k, k ≤ len → ∃ xs : List α, xs.length = k ∧ ∀ (i : Nat) (x : α), xs[i]? = some x → ok x ∧ sz x ≤ Rows.uptoBulk (D i) ∧ ∃ cs', W.cells? 0 (a.add (i * n)) n = some cs' ∧ SV.All (snap W) (e x) cs' ∧ (∀ v ∈ cs', v.oneCell' = true) := by
        intro k
        induction k with
        | zero => intro _; exact ⟨[], rfl, by simp⟩
        | succ k ih =>
          intro hk
          obtain ⟨xs, h1, h2⟩ := ih (by omega)
          obtain ⟨x, hx⟩ := one k (by omega)
          refine ⟨xs ++ [x], by simp [h1], fun i y hy => ?_⟩
          rcases Nat.lt_or_ge i k with hi | hi
          · exact h2 i y (by rwa [List.getElem?_append_left (by omega)] at hy)
          · rw [List.getElem?_append_right (by omega)] at hy
            have hi2 : i = k := by
              rcases Nat.lt_or_ge (i - xs.length) 1 with q | q
              · omega
              · rw [List.getElem?_eq_none (by simpa using q)] at hy; cases hy
            subst hi2
            rw [h1, Nat.sub_self] at hy
            simp at hy; subst hy; exact hx
      exact this len (Nat.le_refl _)
    refine ⟨xs, ⟨by omega, fun x hx => ?_⟩, ⟨?_, trivial⟩, by simp [Value.oneCell'], ?_⟩
    · obtain ⟨i, hi, rfl⟩ := List.getElem_of_mem hx
      exact (hxs i _ (List.getElem?_eq_getElem hi)).1
    · by_cases h0 : xs = []
      · subst h0
        simp at hxl
        subst hxl
        by_cases hc0 : m = 0
        · subst hc0; exact .inl ⟨_, rfl, rfl⟩
        ·
          obtain ⟨x, _, _, cs', g1, g2, _⟩ := one 0 (by omega)
          obtain ⟨_, g3, g4⟩ := World.cells?_some g1
          have hn : 0 < n := tE.p
          have g5 := g4 0 hn
          obtain ⟨b, o', spot⟩ := a
          have hspot : spot = none := by
            have : ∃ v, W.cell? (((⟨b, o', spot⟩ : Addr).add (0 * n)).add 0) = some v := by
              rw [g5]; exact ⟨_, List.getElem?_eq_getElem (by omega)⟩
            obtain ⟨v, hv⟩ := this
            simpa [Addr.add] using World.cell?_spot hv
          subst hspot
          refine .inr ⟨b, o', m, rfl, by simp, by simp, fun i row hr => by simp at hr⟩
      · have hlen0 : 0 < len := by
          rcases Nat.eq_zero_or_pos len with hz | hz
          · exact absurd (List.eq_nil_of_length_eq_zero (by omega)) h0
          · exact hz
        have hn : 0 < n := tE.p
        obtain ⟨x, _, _, cs', g1, g2, _⟩ := one 0 (by omega)
        obtain ⟨_, g3, g4⟩ := World.cells?_some g1
        have g5 := g4 0 hn
        obtain ⟨b, o', spot⟩ := a
        have hspot : spot = none := by
          have : ∃ v, W.cell? (((⟨b, o', spot⟩ : Addr).add (0 * n)).add 0) = some v := by
            rw [g5]; exact ⟨_, List.getElem?_eq_getElem (by omega)⟩
          obtain ⟨v, hv⟩ := this
          simpa [Addr.add] using World.cell?_spot hv
        subst hspot
        refine .inr ⟨b, o', m, by rw [List.length_map, hxl], by rw [List.length_map]; omega, by rw [List.length_map]; omega, fun i row hr => ?_⟩
        rw [List.getElem?_map] at hr
        cases hx : xs[i]? with
        | none => rw [hx] at hr; cases hr
        | some y =>
          rw [hx] at hr
          have hr : e y = row := Option.some.inj hr
          subst hr
          obtain ⟨_, _, cs2, k1, k2, k3⟩ := hxs i y hx
          obtain ⟨_, k4, k5⟩ := World.cells?_some k1
          refine ⟨el.len y, fun k s hk => ?_⟩
          obtain ⟨u, hu, hs⟩ := k2.get hk
          have hkn : k < n := by have := (List.getElem?_eq_some_iff.1 hu).1; omega
          have k6 := k5 k hkn
          rw [addr_add, addr_add, hu] at k6
          exact ⟨u, snap_of k6 (k3 u (List.mem_of_getElem? hu)), k3 u (List.mem_of_getElem? hu), hs⟩
    · have hb : Rows.uptoBulk (DataW.slice ((List.range len).map D) ((List.range (m - len)).map fun j => D (len + j))) = Rows.uptoBulkAll ((List.range len).map D) + Rows.uptoBulkAll ((List.range (m - len)).map fun j => D (len + j)) + 1 := rfl
      rw [hb]
      have := bulk_sum sz xs ((List.range len).map D) (by simp [hxl]) (fun i x d e1 e2 => by
        have hi : i < len := by have := (List.getElem?_eq_some_iff.1 e1).1; omega
        simp [hi] at e2; subst e2
        exact (hxs i x e1).2.1)
      omega⟩
class StN (P : Program) (T : TypeId) (k : outParam Nat) : Prop where
  h : (match P.underlying T with | some (.struct fs) => some fs.size | _ => none) = some k
theorem st_open {k : Nat} [s : StN P T k] {H : Type} {enc : TypeId × Value → H} {W : World} {fuel : Nat} {cs : List Value} {d : DataW H} {p : List MemPlace} (h : DataW.trod enc P W 0 (fun _ => true) true fuel T cs = some (d, p)) :
    ∃ (xs : List (DataW H × List MemPlace)) (n : Nat), d = .agg (xs.map (·.1)) ∧ cs.length = P.cellsOf T ∧ xs.length = k ∧ ∀ (i off : Nat) (U : TypeId), Fld P T i off U → DataW.trod enc P W 0 (fun _ => true) true n U ((cs.drop off).take (P.cellsOf U)) = xs[i]? := by
  have hs := s.h
  cases hT : P.underlying T with
  | none => rw [hT] at hs; cases hs
  | some u =>
    rw [hT] at hs
    cases u with
    | struct fs =>
      have hk : fs.size = k := Option.some.inj hs
      obtain ⟨xs, n, _, hx, hl, hn, hf⟩ := DataW.trod_struct hT h
      refine ⟨xs, n, (Prod.mk.inj hx).1, hl, by omega, fun i off U F => ?_⟩
      have hF := F.h
      rw [hT] at hF
      simp only at hF
      cases hg : fs[i]? with
      | none => rw [hg] at hF; cases hF
      | some f =>
        rw [hg] at hF
        simp only [Option.map_some, Option.some.injEq, Prod.mk.injEq] at hF
        have := hf i f hg
        rw [hF.1, hF.2] at this
        exact this
    | _ => cases hs
class OneV (P : Program) (T : TypeId) : Prop where
  h : ∀ (w : World) (r : Reach) (base : Nat) (v : Value), Value.okWide P w r base T v → v.cells.toList = [v]
instance {k : IntKind} [t : TyInt P T k] : OneV P T := ⟨fun w r base v h => by
  simp only [Value.okWide, t.h, Cell.okWide, Cell.ok] at h
  cases v <;> first | rfl | cases h⟩
instance [t : TyBool P T] : OneV P T := ⟨fun w r base v h => by
  simp only [Value.okWide, t.h, Cell.okWide, Cell.ok] at h
  cases v <;> first | rfl | cases h⟩
instance [t : TyStr P T] : OneV P T := ⟨fun w r base v h => by
  simp only [Value.okWide, t.h, Cell.okWide, Cell.ok] at h
  cases v <;> first | rfl | cases h⟩
instance {E : TypeId} {n : Nat} [t : TySl P T E n] : OneV P T := ⟨fun w r base v h => by
  obtain ⟨a, l, c, rfl⟩ := WideShapes.okWide_slice t.u h
  rfl⟩
theorem arg_one {α : Type} {e : α → List SV} {ok : α → Prop} {sz : α → Nat} [o1 : OneV P T] [o : Opn P T e ok sz] {H : Type} {enc : TypeId × Value → H} {W : World} {r : Reach} {base : Nat} {v : Value} {d : DataW H} {p : List MemPlace}
    (hv : Value.okWide P W r base T v) (h : DataW.Trod enc P W 0 (fun _ => true) true T v d p) : ∃ x, ok x ∧ sz x ≤ Rows.uptoBulk d ∧ SV.All (snap W) (e x) [v] := by
  obtain ⟨fuel, h⟩ := h
  rw [o1.h W r base v hv] at h
  obtain ⟨x, h1, h2, _, h4⟩ := o.h enc W fuel _ d p h
  exact ⟨x, h1, h4, h2⟩
theorem arg_agg {α : Type} {e : α → List SV} {ok : α → Prop} {sz : α → Nat} {k : Nat} [s : StN P T k] [o : Opn P T e ok sz] {H : Type} {enc : TypeId × Value → H} {W : World} {r : Reach} {base : Nat} {v : Value} {d : DataW H} {p : List MemPlace}
    (hv : Value.okWide P W r base T v) (h : DataW.Trod enc P W 0 (fun _ => true) true T v d p) : ∃ x, ok x ∧ sz x ≤ Rows.uptoBulk d ∧ (SV.agg (e x)).h (snap W) v := by
  have hs := s.h
  cases hT : P.underlying T with
  | none => rw [hT] at hs; cases hs
  | some u =>
    rw [hT] at hs
    cases u with
    | struct fs =>
      obtain ⟨cs, rfl, _⟩ := WideShapes.okWide_struct hT hv
      obtain ⟨fuel, h⟩ := h
      obtain ⟨x, h1, h2, _, h4⟩ := o.h enc W fuel _ d p h
      exact ⟨x, h1, h4, cs.toList, rfl, h2⟩
    | _ => cases hs
end opn
theorem said_of {f : FuncId} {vs : List Value} {svs : List SV} {W : World} (hp : Pure Tryz.prog f svs (.v (.bool true))) (h : SV.All (snap W) svs vs) :
    Calls Tryz.prog f ⟨vs⟩ W fun e w' => e = .returned (.bool true) ∧ Below W.heap.size W w' :=
  (hp (snap W) W vs (snap_in W) h).mono fun _ _ ⟨v, _, h1, _, _, _, h2, h3⟩ => by
    have h2 : v = .bool true := h2
    exact ⟨by rw [h1, h2], h3⟩
end Go.Proofs.YtfoldppidpmchaaGreat
namespace Go.Proofs.YtfoldppidpmchaaGreat
open Go.Fw Go.RowKit Go.ChangeShapes Go.WideShapes Go.ChangeAt
theorem own_ : ownKnob Tryz.prog.godebug = none := by kernel_rfl
theorem laidOut_ : laidOutB Tryz.prog = true := by kernel_rfl
instance : StN Tryz.prog 34 2 := ⟨by kernel_rfl⟩
set_option maxRecDepth 100000 in
instance : Opn Tryz.prog 34 eZ (fun (z : Zr) => (True ∧ (z.w.length ≤ 9223372036854775807 ∧ ∀ x1 ∈ z.w, x1 < 4294967296))) (fun (z : Zr) => (1 + ((z.w.map fun x1 => 1).sum + 1) + 1)) := ⟨fun enc W fuel cs d p h => by
  obtain ⟨xs, n, rfl, hl, hn, hf⟩ := st_open h
  have hl : cs.length = 2 := hl.trans (by kernel_rfl)
  match xs, hn with
  | [⟨d0, p0⟩, ⟨d1, p1⟩], _ =>
  match cs, hl with
  | [c0, c1], _ =>
  have t0 : DataW.trod enc Tryz.prog W 0 (fun _ => true) true n 4 [c0] = some (d0, p0) := (by have q := hf 0 _ _ inferInstance; rw [show Tryz.prog.cellsOf 4 = 1 by kernel_rfl] at q; exact q)
  obtain ⟨x0, a0, b0, e0, s0⟩ := Opn.h (P := Tryz.prog) (T := 4) (e := eB) enc W n _ d0 p0 t0
  have t1 : DataW.trod enc Tryz.prog W 0 (fun _ => true) true n 32 [c1] = some (d1, p1) := (by have q := hf 1 _ _ inferInstance; rw [show Tryz.prog.cellsOf 32 = 1 by kernel_rfl] at q; exact q)
  obtain ⟨x1, a1, b1, e1, s1⟩ := Opn.h (P := Tryz.prog) (T := 32) (e := (eS 1 eU32)) enc W n _ d1 p1 t1
  refine ⟨⟨x0, x1⟩, ⟨a0, a1⟩, ⟨b0.1, b1.1, trivial⟩, ?_, ?_⟩
  · intro v hv; simp only [List.mem_cons, List.not_mem_nil, or_false] at hv; rcases hv with rfl | rfl
    · exact e0 _ (by simp)
    · exact e1 _ (by simp)
  · simp only [List.map_cons, List.map_nil, Rows.uptoBulk, Rows.uptoBulkAll]; omega⟩
instance : StN Tryz.prog 36 2 := ⟨by kernel_rfl⟩
set_option maxRecDepth 100000 in
instance : Opn Tryz.prog 36 eQ (fun (z : Qr) => ((True ∧ (z.num.w.length ≤ 9223372036854775807 ∧ ∀ x1 ∈ z.num.w, x1 < 4294967296)) ∧ (True ∧ (z.den.w.length ≤ 9223372036854775807 ∧ ∀ x1 ∈ z.den.w, x1 < 4294967296)))) (fun (z : Qr) => ((1 + ((z.num.w.map fun x1 => 1).sum + 1) + 1) + (1 + ((z.den.w.map fun x1 => 1).sum + 1) + 1) + 1)) := ⟨fun enc W fuel cs d p h => by
  obtain ⟨xs, n, rfl, hl, hn, hf⟩ := st_open h
  have hl : cs.length = 4 := hl.trans (by kernel_rfl)
  match xs, hn with
  | [⟨d0, p0⟩, ⟨d1, p1⟩], _ =>
  match cs, hl with
  | [c0, c1, c2, c3], _ =>
  have t0 : DataW.trod enc Tryz.prog W 0 (fun _ => true) true n 34 [c0, c1] = some (d0, p0) := (by have q := hf 0 _ _ inferInstance; rw [show Tryz.prog.cellsOf 34 = 2 by kernel_rfl] at q; exact q)
  obtain ⟨x0, a0, b0, e0, s0⟩ := Opn.h (P := Tryz.prog) (T := 34) (e := eZ) enc W n _ d0 p0 t0
  have t1 : DataW.trod enc Tryz.prog W 0 (fun _ => true) true n 34 [c2, c3] = some (d1, p1) := (by have q := hf 1 _ _ inferInstance; rw [show Tryz.prog.cellsOf 34 = 2 by kernel_rfl] at q; exact q)
  obtain ⟨x1, a1, b1, e1, s1⟩ := Opn.h (P := Tryz.prog) (T := 34) (e := eZ) enc W n _ d1 p1 t1
  refine ⟨⟨x0, x1⟩, ⟨a0, a1⟩, ⟨b0.1, b0.2.1, b1.1, b1.2.1, trivial⟩, ?_, ?_⟩
  · intro v hv; simp only [List.mem_cons, List.not_mem_nil, or_false] at hv; rcases hv with rfl | rfl | rfl | rfl
    · exact e0 _ (by simp)
    · exact e0 _ (by simp)
    · exact e1 _ (by simp)
    · exact e1 _ (by simp)
  · simp only [List.map_cons, List.map_nil, Rows.uptoBulk, Rows.uptoBulkAll]; omega⟩
instance : StN Tryz.prog 26 4 := ⟨by kernel_rfl⟩
set_option maxRecDepth 100000 in
instance : Opn Tryz.prog 26 eLr (fun (z : Lr) => ((-9223372036854775808 ≤ z.vars ∧ z.vars ≤ 9223372036854775807) ∧ (z.objs.length ≤ 9223372036854775807 ∧ ∀ x1 ∈ z.objs, (x1.length ≤ 9223372036854775807 ∧ ∀ x2 ∈ x1, ((True ∧ (x2.num.w.length ≤ 9223372036854775807 ∧ ∀ x3 ∈ x2.num.w, x3 < 4294967296)) ∧ (True ∧ (x2.den.w.length ≤ 9223372036854775807 ∧ ∀ x3 ∈ x2.den.w, x3 < 4294967296))))) ∧ (z.rows.length ≤ 9223372036854775807 ∧ ∀ x1 ∈ z.rows, (x1.length ≤ 9223372036854775807 ∧ ∀ x2 ∈ x1, ((True ∧ (x2.num.w.length ≤ 9223372036854775807 ∧ ∀ x3 ∈ x2.num.w, x3 < 4294967296)) ∧ (True ∧ (x2.den.w.length ≤ 9223372036854775807 ∧ ∀ x3 ∈ x2.den.w, x3 < 4294967296))))) ∧ (z.bounds.length ≤ 9223372036854775807 ∧ ∀ x1 ∈ z.bounds, ((True ∧ (x1.num.w.length ≤ 9223372036854775807 ∧ ∀ x2 ∈ x1.num.w, x2 < 4294967296)) ∧ (True ∧ (x1.den.w.length ≤ 9223372036854775807 ∧ ∀ x2 ∈ x1.den.w, x2 < 4294967296)))))) (fun (z : Lr) => (1 + ((z.objs.map fun x1 => ((x1.map fun x2 => ((1 + ((x2.num.w.map fun x3 => 1).sum + 1) + 1) + (1 + ((x2.den.w.map fun x3 => 1).sum + 1) + 1) + 1)).sum + 1)).sum + 1) + ((z.rows.map fun x1 => ((x1.map fun x2 => ((1 + ((x2.num.w.map fun x3 => 1).sum + 1) + 1) + (1 + ((x2.den.w.map fun x3 => 1).sum + 1) + 1) + 1)).sum + 1)).sum + 1) + ((z.bounds.map fun x1 => ((1 + ((x1.num.w.map fun x2 => 1).sum + 1) + 1) + (1 + ((x1.den.w.map fun x2 => 1).sum + 1) + 1) + 1)).sum + 1) + 1)) := ⟨fun enc W fuel cs d p h => by
  obtain ⟨xs, n, rfl, hl, hn, hf⟩ := st_open h
  have hl : cs.length = 4 := hl.trans (by kernel_rfl)
  match xs, hn with
  | [⟨d0, p0⟩, ⟨d1, p1⟩, ⟨d2, p2⟩, ⟨d3, p3⟩], _ =>
  match cs, hl with
  | [c0, c1, c2, c3], _ =>
  have t0 : DataW.trod enc Tryz.prog W 0 (fun _ => true) true n 3 [c0] = some (d0, p0) := (by have q := hf 0 _ _ inferInstance; rw [show Tryz.prog.cellsOf 3 = 1 by kernel_rfl] at q; exact q)
  obtain ⟨x0, a0, b0, e0, s0⟩ := Opn.h (P := Tryz.prog) (T := 3) (e := eI64) enc W n _ d0 p0 t0
  have t1 : DataW.trod enc Tryz.prog W 0 (fun _ => true) true n 23 [c1] = some (d1, p1) := (by have q := hf 1 _ _ inferInstance; rw [show Tryz.prog.cellsOf 23 = 1 by kernel_rfl] at q; exact q)
  obtain ⟨x1, a1, b1, e1, s1⟩ := Opn.h (P := Tryz.prog) (T := 23) (e := (eS 1 (eS 4 eQ))) enc W n _ d1 p1 t1
  have t2 : DataW.trod enc Tryz.prog W 0 (fun _ => true) true n 23 [c2] = some (d2, p2) := (by have q := hf 2 _ _ inferInstance; rw [show Tryz.prog.cellsOf 23 = 1 by kernel_rfl] at q; exact q)
  obtain ⟨x2, a2, b2, e2, s2⟩ := Opn.h (P := Tryz.prog) (T := 23) (e := (eS 1 (eS 4 eQ))) enc W n _ d2 p2 t2
  have t3 : DataW.trod enc Tryz.prog W 0 (fun _ => true) true n 24 [c3] = some (d3, p3) := (by have q := hf 3 _ _ inferInstance; rw [show Tryz.prog.cellsOf 24 = 1 by kernel_rfl] at q; exact q)
  obtain ⟨x3, a3, b3, e3, s3⟩ := Opn.h (P := Tryz.prog) (T := 24) (e := (eS 4 eQ)) enc W n _ d3 p3 t3
  refine ⟨⟨x0, x1, x2, x3⟩, ⟨a0, a1, a2, a3⟩, ⟨b0.1, b1.1, b2.1, b3.1, trivial⟩, ?_, ?_⟩
  · intro v hv; simp only [List.mem_cons, List.not_mem_nil, or_false] at hv; rcases hv with rfl | rfl | rfl | rfl
    · exact e0 _ (by simp)
    · exact e1 _ (by simp)
    · exact e2 _ (by simp)
    · exact e3 _ (by simp)
  · simp only [List.map_cons, List.map_nil, Rows.uptoBulk, Rows.uptoBulkAll]; omega⟩
instance : StN Tryz.prog 71 4 := ⟨by kernel_rfl⟩
set_option maxRecDepth 100000 in
instance : Opn Tryz.prog 71 eSz (fun (z : Sz) => ((-9223372036854775808 ≤ z.vars ∧ z.vars ≤ 9223372036854775807) ∧ (-9223372036854775808 ≤ z.objs ∧ z.objs ≤ 9223372036854775807) ∧ (-9223372036854775808 ≤ z.rows ∧ z.rows ≤ 9223372036854775807) ∧ (-9223372036854775808 ≤ z.bounds ∧ z.bounds ≤ 9223372036854775807))) (fun (z : Sz) => (1 + 1 + 1 + 1 + 1)) := ⟨fun enc W fuel cs d p h => by
  obtain ⟨xs, n, rfl, hl, hn, hf⟩ := st_open h
  have hl : cs.length = 4 := hl.trans (by kernel_rfl)
  match xs, hn with
  | [⟨d0, p0⟩, ⟨d1, p1⟩, ⟨d2, p2⟩, ⟨d3, p3⟩], _ =>
  match cs, hl with
  | [c0, c1, c2, c3], _ =>
  have t0 : DataW.trod enc Tryz.prog W 0 (fun _ => true) true n 3 [c0] = some (d0, p0) := (by have q := hf 0 _ _ inferInstance; rw [show Tryz.prog.cellsOf 3 = 1 by kernel_rfl] at q; exact q)
  obtain ⟨x0, a0, b0, e0, s0⟩ := Opn.h (P := Tryz.prog) (T := 3) (e := eI64) enc W n _ d0 p0 t0
  have t1 : DataW.trod enc Tryz.prog W 0 (fun _ => true) true n 3 [c1] = some (d1, p1) := (by have q := hf 1 _ _ inferInstance; rw [show Tryz.prog.cellsOf 3 = 1 by kernel_rfl] at q; exact q)
  obtain ⟨x1, a1, b1, e1, s1⟩ := Opn.h (P := Tryz.prog) (T := 3) (e := eI64) enc W n _ d1 p1 t1
  have t2 : DataW.trod enc Tryz.prog W 0 (fun _ => true) true n 3 [c2] = some (d2, p2) := (by have q := hf 2 _ _ inferInstance; rw [show Tryz.prog.cellsOf 3 = 1 by kernel_rfl] at q; exact q)
  obtain ⟨x2, a2, b2, e2, s2⟩ := Opn.h (P := Tryz.prog) (T := 3) (e := eI64) enc W n _ d2 p2 t2
  have t3 : DataW.trod enc Tryz.prog W 0 (fun _ => true) true n 3 [c3] = some (d3, p3) := (by have q := hf 3 _ _ inferInstance; rw [show Tryz.prog.cellsOf 3 = 1 by kernel_rfl] at q; exact q)
  obtain ⟨x3, a3, b3, e3, s3⟩ := Opn.h (P := Tryz.prog) (T := 3) (e := eI64) enc W n _ d3 p3 t3
  refine ⟨⟨x0, x1, x2, x3⟩, ⟨a0, a1, a2, a3⟩, ⟨b0.1, b1.1, b2.1, b3.1, trivial⟩, ?_, ?_⟩
  · intro v hv; simp only [List.mem_cons, List.not_mem_nil, or_false] at hv; rcases hv with rfl | rfl | rfl | rfl
    · exact e0 _ (by simp)
    · exact e1 _ (by simp)
    · exact e2 _ (by simp)
    · exact e3 _ (by simp)
  · simp only [List.map_cons, List.map_nil, Rows.uptoBulk, Rows.uptoBulkAll]; omega⟩
instance : StN Tryz.prog 90 2 := ⟨by kernel_rfl⟩
set_option maxRecDepth 100000 in
instance : Opn Tryz.prog 90 eCn (fun (z : Cn) => ((z.row.length ≤ 9223372036854775807 ∧ ∀ x1 ∈ z.row, ((True ∧ (x1.num.w.length ≤ 9223372036854775807 ∧ ∀ x2 ∈ x1.num.w, x2 < 4294967296)) ∧ (True ∧ (x1.den.w.length ≤ 9223372036854775807 ∧ ∀ x2 ∈ x1.den.w, x2 < 4294967296)))) ∧ ((True ∧ (z.most.num.w.length ≤ 9223372036854775807 ∧ ∀ x1 ∈ z.most.num.w, x1 < 4294967296)) ∧ (True ∧ (z.most.den.w.length ≤ 9223372036854775807 ∧ ∀ x1 ∈ z.most.den.w, x1 < 4294967296))))) (fun (z : Cn) => (((z.row.map fun x1 => ((1 + ((x1.num.w.map fun x2 => 1).sum + 1) + 1) + (1 + ((x1.den.w.map fun x2 => 1).sum + 1) + 1) + 1)).sum + 1) + ((1 + ((z.most.num.w.map fun x1 => 1).sum + 1) + 1) + (1 + ((z.most.den.w.map fun x1 => 1).sum + 1) + 1) + 1) + 1)) := ⟨fun enc W fuel cs d p h => by
  obtain ⟨xs, n, rfl, hl, hn, hf⟩ := st_open h
  have hl : cs.length = 5 := hl.trans (by kernel_rfl)
  match xs, hn with
  | [⟨d0, p0⟩, ⟨d1, p1⟩], _ =>
  match cs, hl with
  | [c0, c1, c2, c3, c4], _ =>
  have t0 : DataW.trod enc Tryz.prog W 0 (fun _ => true) true n 24 [c0] = some (d0, p0) := (by have q := hf 0 _ _ inferInstance; rw [show Tryz.prog.cellsOf 24 = 1 by kernel_rfl] at q; exact q)
  obtain ⟨x0, a0, b0, e0, s0⟩ := Opn.h (P := Tryz.prog) (T := 24) (e := (eS 4 eQ)) enc W n _ d0 p0 t0
  have t1 : DataW.trod enc Tryz.prog W 0 (fun _ => true) true n 36 [c1, c2, c3, c4] = some (d1, p1) := (by have q := hf 1 _ _ inferInstance; rw [show Tryz.prog.cellsOf 36 = 4 by kernel_rfl] at q; exact q)
  obtain ⟨x1, a1, b1, e1, s1⟩ := Opn.h (P := Tryz.prog) (T := 36) (e := eQ) enc W n _ d1 p1 t1
  refine ⟨⟨x0, x1⟩, ⟨a0, a1⟩, ⟨b0.1, b1.1, b1.2.1, b1.2.2.1, b1.2.2.2.1, trivial⟩, ?_, ?_⟩
  · intro v hv; simp only [List.mem_cons, List.not_mem_nil, or_false] at hv; rcases hv with rfl | rfl | rfl | rfl | rfl
    · exact e0 _ (by simp)
    · exact e1 _ (by simp)
    · exact e1 _ (by simp)
    · exact e1 _ (by simp)
    · exact e1 _ (by simp)
  · simp only [List.map_cons, List.map_nil, Rows.uptoBulk, Rows.uptoBulkAll]; omega⟩
end Go.Proofs.YtfoldppidpmchaaGreat
namespace Go.Fw
open Go.RowKit
theorem weak_nilB {S : AS} (i o k : Nat) (E0 : TypeId) (sz : Nat) {T : TypeId} {cells : List AV} (hb : S.b i = some ⟨T, cells⟩) (hc : cells[o]? = some (.sv (.v (.slice none 0 0)))) (hk : S.r k = .un) (hk1 : k < 1000) :
    Weak S ((AS.setRs [(k, .live ⟨E0, sz, 0, []⟩)] S).setB i ⟨T, cells.set o (.row k)⟩) := by
  rintro C a w ⟨E, h⟩
  have h1 := h.newRow hk hk1 [] none (.inl ⟨rfl, rfl⟩) (R' := ⟨E0, sz, 0, []⟩) (World.ownsRow_nil w 0 E0 sz) (vs' := []) trivial (.inl rfl) (grown_refl w none)
  have hb1 : (AS.setRs [(k, .live ⟨E0, sz, 0, []⟩)] S).b i = some ⟨T, cells⟩ := hb
  have hrk : (AS.setRs [(k, .live ⟨E0, sz, 0, []⟩)] S).r k ≠ .un := by
    show (AS.setR S k _).r k ≠ _
    rw [AS.setR_same]; simp
  refine ⟨_, { h1 with wf := ?_, bx := fun j B hB => ?_, inj := fun j j' B B' hB hB' e => ?_, rx := fun j R hR => ?_ }⟩
  · refine ⟨fun t j hj => ?_, h1.wf.tr, fun j B hB x hx m hm => ?_, fun j B hB x hx m hm => ?_⟩
    · obtain ⟨B, hB⟩ := h1.wf.tb t j hj
      by_cases e : j = i
      · subst e; exact ⟨_, AS.setB_same _ _ _⟩
      · exact ⟨B, by rw [AS.setB_other _ _ _ _ e]; exact hB⟩
    · have key : ∃ B', (AS.setRs [(k, .live ⟨E0, sz, 0, []⟩)] S).b m = some B' := by
        by_cases e : j = i
        · subst e; rw [AS.setB_same] at hB; cases hB
          rcases List.mem_or_eq_of_mem_set hx with hx | rfl
          · exact h1.wf.bb j _ hb1 x hx m hm
          · exact hm.elim
        · rw [AS.setB_other _ _ _ _ e] at hB; exact h1.wf.bb j B hB x hx m hm
      obtain ⟨B', hB'⟩ := key
      by_cases e : m = i
      · subst e; exact ⟨_, AS.setB_same _ _ _⟩
      · exact ⟨B', by rw [AS.setB_other _ _ _ _ e]; exact hB'⟩
    · by_cases e : j = i
      · subst e; rw [AS.setB_same] at hB; cases hB
        rcases List.mem_or_eq_of_mem_set hx with hx | rfl
        · exact h1.wf.br j _ hb1 x hx m hm
        · cases hm; exact hrk
      · rw [AS.setB_other _ _ _ _ e] at hB; exact h1.wf.br j B hB x hx m hm
  · by_cases e : j = i
    · subst e; rw [AS.setB_same] at hB; cases hB
      obtain ⟨q1, q2, q3, vs, q4, q5⟩ := h1.bx j _ hb1
      refine ⟨q1, q2, q3, vs, q4, ?_⟩
      obtain ⟨x, hx, hv⟩ := q5.get hc
      have hv : x = .slice none 0 0 := hv
      have := AllV.set (i := o) (s := .row k) (x := x) q5 (by
        show x = if k = k then _ else _
        rw [if_pos rfl]; exact hv)
      have he : vs.set o x = vs := by
        apply List.ext_getElem?
        intro n
        rw [List.getElem?_set]
        split
        · rename_i hn; subst hn; rw [hx]; split <;> rename_i hl
          · rfl
          · have := (List.getElem?_eq_some_iff.1 hx).1; exact absurd this hl
        · rfl
      rwa [he] at this
    · rw [AS.setB_other _ _ _ _ e] at hB; exact h1.bx j B hB
  · have old : ∀ n B, ((AS.setRs [(k, .live ⟨E0, sz, 0, []⟩)] S).setB i ⟨T, cells.set o (.row k)⟩).b n = some B → ∃ B', (AS.setRs [(k, .live ⟨E0, sz, 0, []⟩)] S).b n = some B' := fun n B hn => by
      by_cases e : n = i
      · subst e; exact ⟨_, hb1⟩
      · rw [AS.setB_other _ _ _ _ e] at hn; exact ⟨B, hn⟩
    obtain ⟨B1, p1⟩ := old j B hB
    obtain ⟨B2, p2⟩ := old j' B' hB'
    exact h1.inj j j' B1 B2 p1 p2 e
  · obtain ⟨p1, p2⟩ := h1.rx j R hR
    refine ⟨p1, fun g hg => ?_⟩
    obtain ⟨p3, p4, p5, p6⟩ := p2 g hg
    refine ⟨p3, p4, p5, fun n B hn => ?_⟩
    by_cases e : n = i
    · subst e; exact p6 n _ hb1
    · rw [AS.setB_other _ _ _ _ e] at hn; exact p6 n B hn
end Go.Fw
namespace Go.Fw
open Go.RowKit
section part
variable {P : Program} {C : Ctx} {ops : Array Oper} {acts : List Ac} {S : AS}
def orderOkP (ops : Array Oper) (m : Nat) (acts : List Ac) : Bool :=
  let b := Region.before ops
  (acts.length == m) && (decide (m ≤ ops.size)) &&
  (ops.toList.zipIdx.all fun (o, j) => o.after.all fun e => !Region.binds .any e || decide (e.on < j)) &&
  (acts.zipIdx.all fun (y, j) => acts.zipIdx.all fun (x, i) => !(decide (i < j)) || !(x.clash y) || (b.getD j 0).testBit i) &&
  ((List.range ops.size).all fun j => !(decide (m ≤ j)) || (List.range j).all fun i => (b.getD j 0).testBit i)
theorem orderOkP_parts {m : Nat} (h : orderOkP ops m acts = true) : acts.length = m ∧ m ≤ ops.size ∧
    (∀ (j : Nat) (o : Oper), ops[j]? = some o → ∀ e ∈ o.after, Region.binds .any e = true → e.on < j) ∧
    (∀ (i j : Nat) (x y : Ac), acts[i]? = some x → acts[j]? = some y → i < j → x.clash y = true → ((Region.before ops).getD j 0).testBit i = true) ∧
    (∀ i j : Nat, m ≤ j → j < ops.size → i < j → ((Region.before ops).getD j 0).testBit i = true) := by
  simp only [orderOkP, Bool.and_eq_true, beq_iff_eq, List.all_eq_true, decide_eq_true_eq] at h
  obtain ⟨⟨⟨⟨h1, h0⟩, h2⟩, h3⟩, h4⟩ := h
  refine ⟨h1, h0, ?_, ?_, ?_⟩
  · intro j o ho e he hb
    have := h2 (o, j) (List.mem_zipIdx_iff_getElem?.2 (by simpa using ho))
    simp only [Array.all_eq_true_iff_forall_mem] at this
    have := this e he
    simpa [hb] using this
  · intro i j x y hx hy hij hc
    have := h3 (y, j) (List.mem_zipIdx_iff_getElem?.2 (by simpa using hy)) (x, i) (List.mem_zipIdx_iff_getElem?.2 (by simpa using hx))
    simpa [hij, hc] using this
  · intro i j hm hj hij
    have := h4 j (List.mem_range.2 hj)
    simp only [hm, decide_true, Bool.not_true, Bool.false_or, List.all_eq_true] at this
    exact this i (List.mem_range.2 hij)
theorem getD_ft (listed : Array Bool) (i : Nat) (hs : listed.size = ops.size) (hi : i < ops.size) : listed.getD i true = listed.getD i false := by
  rw [Array.getD_eq_getD_getElem?, Array.getD_eq_getD_getElem?]
  rw [Array.getElem?_eq_getElem (by omega)]; rfl
theorem ready_done (hback : ∀ (j : Nat) (o : Oper), ops[j]? = some o → ∀ e ∈ o.after, Region.binds .any e = true → e.on < j) (listed : Array Bool) (hs : listed.size = ops.size) (hr : Region.ready .any ops listed = []) : ∀ i, i < ops.size → listed.getD i false = true := by
  intro i
  induction i using Nat.strongRecOn with
  | _ i ih =>
    intro hi
    cases hli : listed.getD i false with
    | true => rfl
    | false =>
      exfalso
      have : i ∈ Region.ready .any ops listed := by
        simp only [Region.ready, List.mem_filter, List.mem_range]
        refine ⟨hi, ?_⟩
        rw [getD_ft listed i hs hi, hli, Array.getElem?_eq_getElem hi]
        simp only [Bool.not_false, Bool.true_and, Option.map_some, Option.getD_some, Array.all_eq_true_iff_forall_mem]
        intro e he
        cases hb : Region.binds .any e with
        | false => rfl
        | true =>
          have hlt := hback i ops[i] (Array.getElem?_eq_getElem hi) e he hb
          rw [ih e.on hlt (by omega)]; rfl
      rw [hr] at this
      simp at this
theorem ready_parts {listed : Array Bool} (hs : listed.size = ops.size) (hD : Down ops (fun i => listed.getD i false)) {i : Nat} (hi : i ∈ Region.ready .any ops listed) :
    ∃ h : i < ops.size, listed.getD i false = false ∧ (∀ m, (listed.setIfInBounds i true).getD m false = if m = i then true else listed.getD m false) ∧ Down ops (fun m => (listed.setIfInBounds i true).getD m false) := by
  simp only [Region.ready, List.mem_filter, List.mem_range, Bool.and_eq_true, Bool.not_eq_true'] at hi
  obtain ⟨hi, hli, hpre⟩ := hi
  have hli' : listed.getD i false = false := by rw [← getD_ft listed i hs hi]; exact hli
  have ho : ops[i]? = some ops[i] := Array.getElem?_eq_getElem hi
  have hpre' : ∀ e ∈ ops[i].after, Region.binds .any e = true → listed.getD e.on false = true := by
    rw [ho] at hpre
    simp only [Option.map_some, Option.getD_some, Array.all_eq_true_iff_forall_mem] at hpre
    intro e he hb
    have := hpre e he
    simpa [hb] using this
  have hget : ∀ m, (listed.setIfInBounds i true).getD m false = if m = i then true else listed.getD m false := by
    intro m
    rw [Array.getD_eq_getD_getElem?, Array.getElem?_setIfInBounds]
    by_cases hm : m = i
    · subst hm; simp [hs, hi]
    · rw [if_neg (by omega), if_neg hm, Array.getD_eq_getD_getElem?]
  refine ⟨hi, hli', hget, ?_⟩
  intro j o hj hl e he hb
  simp only [hget] at hl ⊢
  by_cases hji : j = i
  · subst hji
    have : o = ops[j] := by rw [ho] at hj; exact (Option.some.inj hj).symm
    subst this
    have := hpre' e he hb
    split <;> simp_all
  · rw [if_neg hji] at hl
    have := hD j o hj hl e he hb
    split <;> simp_all
theorem wpAnyIn_tail {m : Nat} (hback : ∀ (j : Nat) (o : Oper), ops[j]? = some o → ∀ e ∈ o.after, Region.binds .any e = true → e.on < j)
    (htail : ∀ i j : Nat, m ≤ j → j < ops.size → i < j → ((Region.before ops).getD j 0).testBit i = true) {Q : Exit → Act → World → Prop} {R : AS → Prop} (hQ : ∀ S a w, R S → S.holds C a w → Q .normal a w) :
    ∀ (fuel k : Nat) (listed : Array Bool) (a : Act) (w : World) (S : AS) (acc : List Ac), m ≤ k → k ≤ ops.size → listed.size = ops.size → (∀ i, i < ops.size → listed.getD i false = decide (i < k)) → ops.size - k ≤ fuel → Down ops (fun i => listed.getD i false) →
      RunT P C ops true (fun _ S => R S) (ops.toList.drop k) acc S → S.holds C a w → wpAnyIn (Fr C.ro) 0 P .any ops Q fuel listed a w := by
  intro fuel
  induction fuel with
  | zero =>
    intro k listed a w S acc hm hk hs hl hf hD hR hh
    obtain rfl : k = ops.size := by omega
    rw [show ops.toList.drop ops.size = [] by simp] at hR
    refine ⟨?_, hQ S a w hR hh⟩
    simp only [Region.ready, List.filter_eq_nil_iff, List.mem_range]
    intro i hi
    rw [getD_ft listed i hs hi, hl i hi, decide_eq_true hi]; simp
  | succ fuel ih =>
    intro k listed a w S acc hm hk hs hl hf hD hR hh
    refine ⟨fun hr => ?_, fun i hi => ?_⟩
    · have hall := ready_done hback listed hs hr
      obtain rfl : k = ops.size := by
        rcases Nat.lt_or_ge k ops.size with h | h
        · have := hall k h
          rw [hl k h] at this
          simp at this
        · omega
      rw [show ops.toList.drop ops.size = [] by simp] at hR
      exact hQ S a w hR hh
    · obtain ⟨hi, hli, hget, hD'⟩ := ready_parts hs hD hi
      have hki : i = k := by
        have h1 : ¬ i < k := by rw [hl i hi] at hli; simpa using hli
        rcases Nat.lt_or_ge k i with h | h
        · have hb := htail k i (by omega) hi h
          have := before_down hD' i k hb (by simp [hget])
          rw [hget, if_neg (by omega), hl k (by omega)] at this
          simp at this
        · omega
      subst hki
      have ho : ops[i]? = some ops[i] := Array.getElem?_eq_getElem hi
      have hdrop : ops.toList.drop i = ops[i] :: ops.toList.drop (i + 1) := by
        rw [List.drop_eq_getElem_cons (by simpa using hi)]; simp
      rw [hdrop] at hR
      have next : ∀ (S' : AS) (acc' : List Ac) (a' : Act) (w' : World), RunT P C ops true (fun _ S => R S) (ops.toList.drop (i + 1)) acc' S' → S'.holds C a' w' → wpAnyIn (Fr C.ro) 0 P .any ops Q fuel (listed.setIfInBounds i true) a' w' := by
        intro S' acc' a' w' h1 h2
        refine ih (i + 1) _ a' w' S' acc' (by omega) hi (by simp [hs]) (fun j hj => ?_) (by omega) hD' h1 h2
        rw [hget]
        by_cases hji : j = i
        · rw [if_pos hji]; simp [hji]
        · rw [if_neg hji, hl j hj, decide_eq_decide]; omega
      rcases hR with ⟨rs, rb, rr, e, hop, hnext⟩ | ⟨_, Post, hop, hnext⟩
      · exact hop S rfl (fun _ _ => rfl) (fun _ _ => rfl) (fun _ _ => rfl) i a w _ Q ho hh (fun a' w' hh' => next _ _ a' w' hnext hh')
      · exact hop i a w _ Q ho hh (fun S' a' w' hp hh' => next S' [] a' w' (hnext S' hp) hh')
theorem wpAnyIn_part {m : Nat} (hT : TextOk P C ops acts S) (hord : orderOkP ops m acts = true) {Q : Exit → Act → World → Prop}
    (hQ : ∀ (fuel : Nat) (listed : Array Bool) a w, listed.size = ops.size → (∀ i, i < ops.size → listed.getD i false = decide (i < m)) → ops.size - m ≤ fuel → Down ops (fun i => listed.getD i false) → (ov S (effOf acts) (fun _ => true) m).holds C a w → wpAnyIn (Fr C.ro) 0 P .any ops Q fuel listed a w) :
    ∀ (fuel : Nat) (listed : Array Bool) (a : Act) (w : World), listed.size = ops.size → unl ops.size listed ≤ fuel → Down ops (fun i => listed.getD i false) → (∀ i, listed.getD i false = true → i < m) →
      (ov S (effOf acts) (fun i => listed.getD i false) m).holds C a w → wpAnyIn (Fr C.ro) 0 P .any ops Q fuel listed a w := by
  obtain ⟨hlen, hmn, hback, hclash, htail⟩ := orderOkP_parts hord
  have whole : ∀ (fuel : Nat) (listed : Array Bool) (a : Act) (w : World), listed.size = ops.size → unl ops.size listed ≤ fuel → Down ops (fun i => listed.getD i false) → (∀ i, listed.getD i false = true → i < m) →
      (ov S (effOf acts) (fun i => listed.getD i false) m).holds C a w → (∀ i, i < m → listed.getD i false = true) → wpAnyIn (Fr C.ro) 0 P .any ops Q fuel listed a w := by
    intro fuel listed a w hs hu hD hL hh hall
    refine hQ fuel listed a w hs (fun i hi => ?_) ?_ hD ?_
    · by_cases h : i < m
      · rw [hall i h, decide_eq_true h]
      · rw [decide_eq_false h]
        cases e : listed.getD i false with
        | false => rfl
        | true => exact absurd (hL i e) h
    · have hsub : (List.range ops.size).filter (fun i => !decide (i < m)) = (List.range ops.size).filter fun i => !listed.getD i true := by
        apply List.filter_congr
        intro i hi
        have hi := List.mem_range.1 hi
        rw [getD_ft listed i hs hi]
        by_cases h : i < m
        · rw [hall i h, decide_eq_true h]
        · rw [decide_eq_false h]
          cases e : listed.getD i false with
          | false => rfl
          | true => exact absurd (hL i e) h
      have hcount : ∀ n, m ≤ n → ((List.range n).filter (fun i => !decide (i < m))).length = n - m := by
        intro n
        induction n with
        | zero => intro h; simp
        | succ n ih =>
          intro h
          rw [List.range_succ, List.filter_append, List.length_append]
          rcases Nat.lt_or_ge n m with q | q
          · obtain rfl : m = n + 1 := by omega
            have h1 : ((List.range n).filter (fun i => !decide (i < n + 1))) = [] := by
              rw [List.filter_eq_nil_iff]; intro i hi; have := List.mem_range.1 hi; simp; omega
            rw [h1]; simp
          · rw [ih q, List.filter_cons, decide_eq_false (by omega : ¬ n < m)]; simp; omega
      have h2 : unl ops.size listed = ops.size - m := by unfold unl; rw [← hsub, hcount _ hmn]
      omega
    · rwa [ov_congr S (effOf acts) (L := fun i => listed.getD i false) (L' := fun _ => true) m hall] at hh
  intro fuel
  induction fuel with
  | zero =>
    intro listed a w hs hu hD hL hh
    refine whole 0 listed a w hs hu hD hL hh (fun i hi => ?_)
    cases hli : listed.getD i false with
    | true => rfl
    | false =>
      exfalso
      have hm : i ∈ (List.range ops.size).filter fun i => !listed.getD i true := by
        rw [List.mem_filter]; exact ⟨List.mem_range.2 (by omega), by rw [getD_ft listed i hs (by omega), hli]; rfl⟩
      have : 0 < unl ops.size listed := List.length_pos_of_mem hm
      omega
  | succ fuel ih =>
    intro listed a w hs hu hD hL hh
    by_cases hall : ∀ i, i < m → listed.getD i false = true
    · exact whole _ listed a w hs hu hD hL hh hall
    have hex : ∃ i, i < m ∧ listed.getD i false = false := Classical.byContradiction (fun hc => hall (fun i hi => by
      cases e : listed.getD i false with
      | true => rfl
      | false => exact absurd ⟨i, hi, e⟩ hc))
    obtain ⟨i0, hi0, hl0⟩ := hex
    refine ⟨fun hr => ?_, fun i hi => ?_⟩
    · have := ready_done hback listed hs hr i0 (by omega)
      rw [hl0] at this; cases this
    · have hi' := hi
      obtain ⟨hi, hli', hget, hD'⟩ := ready_parts hs hD hi
      have ho : ops[i]? = some ops[i] := Array.getElem?_eq_getElem hi
      have him : i < m := by
        rcases Nat.lt_or_ge i m with h | h
        · exact h
        · have hb := htail i0 i h hi (by omega)
          have := before_down hD' i i0 hb (by simp [hget])
          rw [hget, if_neg (by omega), hl0] at this
          cases this
      have hia : i < acts.length := by omega
      have hx : acts[i]? = some acts[i] := List.getElem?_eq_getElem hia
      have effi : effOf acts i = acts[i].e := by simp [effOf, hia]
      have later : ∀ k, i < k → listed.getD k false = true → (acts[i]).clash ((acts[k]?).getD ⟨[], [], [], ⟨none, [], []⟩⟩) = false := by
        intro k hk hlk
        have hkn : k < m := hL k hlk
        have hka : acts[k]? = some acts[k] := List.getElem?_eq_getElem (by omega)
        rw [hka, Option.getD_some]
        cases hc : (acts[i]).clash acts[k] with
        | false => rfl
        | true =>
          have hb := hclash i k _ _ hx hka hk hc
          have := before_down hD k i hb hlk
          simp only [hli'] at this
          exact absurd this (by simp)
      have earlier : ∀ k, k < i → listed.getD k false = false → ((acts[k]?).getD ⟨[], [], [], ⟨none, [], []⟩⟩).clash acts[i] = false := by
        intro k hk hlk
        have hka : acts[k]? = some acts[k] := List.getElem?_eq_getElem (by omega)
        rw [hka, Option.getD_some]
        cases hc : (acts[k]).clash acts[i] with
        | false => rfl
        | true =>
          have hb := hclash k i _ _ hka hx hk hc
          have := before_down hD' i k hb (by simp [hget])
          rw [hget, if_neg (by omega), hlk] at this
          exact absurd this (by simp)
      have effk : ∀ k, ((acts[k]?).getD ⟨[], [], [], ⟨none, [], []⟩⟩).e = effOf acts k := by
        intro k; unfold effOf; cases acts[k]? <;> rfl
      have noclash : ∀ {x y : Ac}, x.clash y = false → (∀ d ∈ x.e.ks, d ∉ y.rs ∧ d ∉ y.e.ks) ∧ (∀ d ∈ y.e.ks, d ∉ x.rs) ∧ (∀ d ∈ x.e.kb, d ∉ y.rb ∧ d ∉ y.e.kb) ∧ (∀ d ∈ y.e.kb, d ∉ x.rb) ∧ (∀ d ∈ x.e.kr, d ∉ y.rr ∧ d ∉ y.e.kr) ∧ (∀ d ∈ y.e.kr, d ∉ x.rr) := by
        intro x y h
        simp only [Ac.clash, Bool.or_eq_false_iff] at h
        exact ⟨hits_false h.1.1.1.1.1, fun d hd => (hits_false h.1.1.1.1.2 d hd).1, hits_false h.1.1.1.2, fun d hd => (hits_false h.1.1.2 d hd).1, hits_false h.1.2, fun d hd => (hits_false h.2 d hd).1⟩
      have look : ∀ {α : Type} (get : AS → Nat → α) (wr : Eff → Nat → Option α) (hget : ∀ S e s, get (S.app e) s = (wr e s).getD (get S s)) (rk : Ac → List Nat) (wk : Eff → List Nat)
          (hk : ∀ e s, wr e s ≠ none → s ∈ wk e) (c1 : ∀ x y : Ac, x.clash y = false → (∀ d ∈ wk x.e, d ∉ rk y) ∧ (∀ d ∈ wk y.e, d ∉ rk x)), ∀ s ∈ rk acts[i],
          get (ov S (effOf acts) (fun q => listed.getD q false) m) s = get (ov S (effOf acts) (fun _ => true) i) s := by
        intro α get wr hget rk wk hk c1 s hsr
        rw [ov_skip get wr hget S (effOf acts) _ s i m (by omega)]
        · refine ov_agree get wr hget S (effOf acts) _ _ s i fun m hm hw => ?_
          cases hlm : listed.getD m false with
          | true => rfl
          | false =>
            have := (c1 _ _ (earlier m hm hlm)).1 s (by rw [effk]; exact hk _ _ hw)
            exact absurd hsr this
        · intro m hm1 hm2 hlm
          cases hw : wr (effOf acts m) s with
          | none => rfl
          | some x =>
            exfalso
            rcases Nat.lt_or_ge i m with h | h
            · have := (c1 _ _ (later m h hlm)).2 s (by rw [effk]; exact hk _ _ (by rw [hw]; simp))
              exact this hsr
            · obtain rfl : m = i := by omega
              simp only [hli'] at hlm
              exact absurd hlm (by simp)
      refine hT i ops[i] acts[i] ho hx (ov S (effOf acts) (fun q => listed.getD q false) m) (by rw [ov_n, ov_n]) ?_ ?_ ?_ i a w _ Q ho hh ?_
      · exact look AS.t wT AS.app_t Ac.rs Eff.ks (fun _ _ h => wT_key h) (fun x y h => ⟨fun d hd => ((noclash h).1 d hd).1, (noclash h).2.1⟩)
      · exact look AS.b (fun e => lastB e.bx) AS.app_b Ac.rb Eff.kb (fun _ _ h => lastB_key h) (fun x y h => ⟨fun d hd => ((noclash h).2.2.1 d hd).1, (noclash h).2.2.2.1⟩)
      · exact look AS.r (fun e => lastR e.rw) AS.app_r Ac.rr Eff.kr (fun _ _ h => lastR_key h) (fun x y h => ⟨fun d hd => ((noclash h).2.2.2.2.1 d hd).1, (noclash h).2.2.2.2.2⟩)
      · intro a' w' hh'
        refine ih (listed.setIfInBounds i true) a' w' (by simp [hs]) ?_ hD' ?_ ?_
        · have := unl_lt hi hs (by rw [getD_ft listed i hs hi]; exact hli')
          omega
        · intro k hk
          rw [hget] at hk
          by_cases hki : k = i
          · omega
          · rw [if_neg hki] at hk; exact hL k hk
        ·
          have heq : ov S (effOf acts) (fun q => (listed.setIfInBounds i true).getD q false) m = (ov S (effOf acts) (fun q => listed.getD q false) m).app acts[i].e := by
            have hsm : ∀ k, k ≤ i → ov S (effOf acts) (fun q => (listed.setIfInBounds i true).getD q false) k = ov S (effOf acts) (fun q => listed.getD q false) k := fun k hk =>
              ov_congr S (effOf acts) k (fun m hm => by rw [hget, if_neg (by omega)])
            have step : ∀ k, i < k → k ≤ m → ov S (effOf acts) (fun q => (listed.setIfInBounds i true).getD q false) k = (ov S (effOf acts) (fun q => listed.getD q false) k).app acts[i].e := by
              intro k hk hkn
              induction k with
              | zero => omega
              | succ k ihk =>
                by_cases hki : k = i
                · subst hki
                  show (if (listed.setIfInBounds k true).getD k false then _ else _) = AS.app (if listed.getD k false then _ else _) _
                  rw [hget, if_pos rfl, if_pos rfl, hli', hsm k (Nat.le_refl _), effi]
                  rfl
                · have ih2 := ihk (by omega) (by omega)
                  show (if (listed.setIfInBounds i true).getD k false then (ov S (effOf acts) (fun q => (listed.setIfInBounds i true).getD q false) k).app (effOf acts k) else ov S (effOf acts) (fun q => (listed.setIfInBounds i true).getD q false) k) = AS.app (if listed.getD k false then (ov S (effOf acts) (fun q => listed.getD q false) k).app (effOf acts k) else ov S (effOf acts) (fun q => listed.getD q false) k) _
                  rw [hget, if_neg hki, ih2]
                  cases hlk : listed.getD k false with
                  | false => rfl
                  | true =>
                    rw [if_pos rfl, if_pos rfl]
                    have hc := noclash (later k (by omega) hlk)
                    rw [effk] at hc
                    have two : ∀ {α : Type} (get : AS → Nat → α) (wr : Eff → Nat → Option α) (hget : ∀ S e s, get (S.app e) s = (wr e s).getD (get S s)) (wk : Eff → List Nat) (hk : ∀ e s, wr e s ≠ none → s ∈ wk e)
                        (c1 : ∀ d ∈ wk acts[i].e, d ∉ wk (effOf acts k)) (T : AS) (s : Nat), get ((T.app acts[i].e).app (effOf acts k)) s = get ((T.app (effOf acts k)).app acts[i].e) s := by
                      intro α get wr hget wk hk c1 T s
                      rw [hget, hget, hget, hget]
                      cases h1 : wr acts[i].e s with
                      | none => rfl
                      | some x =>
                        cases h2 : wr (effOf acts k) s with
                        | none => rfl
                        | some y => exact absurd (hk _ s (by rw [h2]; simp)) (c1 s (hk _ s (by rw [h1]; simp)))
                    refine AS.ext' (by simp [AS.app_n]) (fun s => ?_) (fun s => ?_) (fun s => ?_) (by simp [AS.app_g]) (by simp [AS.app_g])
                    · exact two AS.t wT AS.app_t Eff.ks (fun _ _ h => wT_key h) (fun d hd => (hc.1 d hd).2) _ s
                    · exact two AS.b (fun e => lastB e.bx) AS.app_b Eff.kb (fun _ _ h => lastB_key h) (fun d hd => (hc.2.2.1 d hd).2) _ s
                    · exact two AS.r (fun e => lastR e.rw) AS.app_r Eff.kr (fun _ _ h => lastR_key h) (fun d hd => (hc.2.2.2.2.1 d hd).2) _ s
            exact step m him (Nat.le_refl _)
          rw [heq]; exact hh'
end part
theorem runT_part {P : Program} {C : Ctx} {ops : Array Oper} {K : List Ac → AS → Prop} (rest : List Oper) (S : AS) (h : RunT P C ops false K rest [] S) :
    ∃ xs : List Ac, xs.length = rest.length ∧ (∀ (i : Nat) (o : Oper) (x : Ac), rest[i]? = some o → xs[i]? = some x → OpOk P C ops o x.rs x.rb x.rr (ov S (effOf xs) (fun _ => true) i) x.e) ∧ K xs.reverse (ov S (effOf xs) (fun _ => true) rest.length) := by
  obtain ⟨xs, h1, h2, h3⟩ := runT_list rest [] S h
  exact ⟨xs, h1, h2, by simpa using h3⟩
theorem ok_region_part {P : Program} {C : Ctx} {id : Nat} {ops : Array Oper} {S : AS} {Q : Exit → AS → Prop} (m : Nat) (hm : P.follows .mixedOrders = true)
    (h : RunT P C ops false (fun acc S => orderOkP ops m acc.reverse = true ∧ RunT P C ops true (fun _ S => Q .normal S) (ops.toList.drop m) [] S) (ops.toList.take m) [] S) : Ok P C (.region id ops true) S Q := fun a w hs => by
  obtain ⟨xs, hl, hxs, hord, hq⟩ := runT_part _ _ h
  rw [List.reverse_reverse] at hord
  obtain ⟨hlen, hmn, hback, hclash, htail⟩ := orderOkP_parts hord
  have hlm : (ops.toList.take m).length = m := by simp; omega
  rw [hlm] at hq
  refine wpIn_region_any hm ?_
  refine wpAnyIn_part (acts := xs) (S := S) (m := m) (fun i o x ho hx => hxs i o x ?_ hx) hord (fun fuel listed a w h1 h2 h3 h4 h5 => wpAnyIn_tail (m := m) hback htail (R := fun S => Q .normal S) (fun S a w hR hh => ⟨S, hR, hh⟩) fuel m listed a w _ [] (Nat.le_refl _) hmn h1 h2 h3 h4 hq h5) ops.size _ a _ (by simp) ?_ ?_ ?_ ?_
  · have hi : i < m := by
      have := (List.getElem?_eq_some_iff.1 hx).1; omega
    rw [List.getElem?_take_of_lt hi]; simpa using ho
  · have := List.length_filter_le (fun i => !(Array.replicate ops.size false).getD i true) (List.range ops.size)
    simpa [unl] using this
  · intro j o _ hj
    exfalso
    simp only [Array.getD_eq_getD_getElem?, Array.getElem?_replicate] at hj
    split at hj <;> simp at hj
  · intro i hi
    exfalso
    simp only [Array.getD_eq_getD_getElem?, Array.getElem?_replicate] at hi
    split at hi <;> simp at hi
  · rw [ov_congr S (effOf xs) (L' := fun _ => false) m (fun i hi => by rw [Array.getD_eq_getD_getElem?, Array.getElem?_replicate]; split <;> rfl)]
    have : ∀ k, ov S (effOf xs) (fun _ => false) k = S := by
      intro k; induction k with
      | zero => rfl
      | succ k ih => simpa [ov] using ih
    rw [this]
    exact hs.drew
end Go.Fw
namespace Go.Fw
open Go.RowKit
instance {g : FuncId} {caps : List SV} : One (cloS g caps) := ⟨fun _ _ h => by obtain ⟨vs, rfl, _⟩ := h; rfl⟩
section steps
variable {P : Program} {C : Ctx} {ops : Array Oper} {S : AS} {nd : Bool} {K : List Ac → AS → Prop} {rest : List Oper} {acc : List Ac}
variable {gd : Option (Nat × Bool)} {rg : List Nat} {d : Nat} {ty : TypeId} {pos : String} {aft : Array Edge} {x y z : Operand} {T U E0 : TypeId}
end steps
end Go.Fw
