/- Ranges over functions: what an iterator promises, how it is shown, and the loop's own law. Over any program. -/
import Derived.Test.YtgkafblpckcekaaFwLoan2
import Derived.RangeFuncSeq
namespace Go.Fw
open Go.RowKit

abbrev JT := Nat → Bool → (Nat → Prop) → Mem → World → Prop

/-- What a round may do: blocks of O, new blocks. -/
structure Swap (O : Nat → Prop) (M : Mem) (w : World) (O' : Nat → Prop) (M' : Mem) (w' : World) : Prop where
  le : M.le M'
  inW : M'.inW w'
  new : ∀ b o v, M' b o = some v → M b o = some v ∨ w.heap.size ≤ b ∨ O b
  oo : ∀ b, O' b → (O b ∨ w.heap.size ≤ b) ∧ b < w'.heap.size ∧ ∀ o, M' b o = none
  same : ∀ k, k < w.heap.size → ¬ O k → w'.heap[k]? = w.heap[k]?
  os : w'.os = w.os
  tape : w'.tape = w.tape
  output : w'.output = w.output
  size : w.heap.size ≤ w'.heap.size

/-- What the iterator's own steps leave alone. -/
def JFrame (w0 : World) (J : JT) : Prop :=
  ∀ (g : Nat) (h : Bool) (O : Nat → Prop) (M M' : Mem) (w w' : World), J g h O M w → M.le M' → M'.inW w' → (∀ b o v, M' b o = some v → M b o = some v ∨ (w0.heap.size ≤ b ∧ ¬ O b)) →
    (∀ b, b < w0.heap.size ∨ O b → w'.heap[b]? = w.heap[b]?) → w'.os = w.os → w'.tape = w.tape → w'.output = w.output → w.heap.size ≤ w'.heap.size → J g h O M' w'

def Rounds (P : Program) (l : Nat) (J : JT) (n : Nat) (xs : Nat → List SV) (M0 : Mem) : Prop :=
  ∀ (k : Nat) (O : Nat → Prop) (M : Mem) (w : World) (args : List Value), k < n → J k true O M w → M0.le M → M.inW w → SV.All M (xs k) args →
    YieldAt (Fr none) 0 P l ⟨args⟩ w fun e w' => ∃ b O' M', e = .returned (.bool b) ∧ J (k + 1) b O' M' w' ∧ Swap O M w O' M' w'

/-- An iterator: n rounds, the k-th with what xs k says. -/
def Iter (P : Program) (f : FuncId) (caps : List SV) (n : Nat) (xs : Nat → List SV) : Prop :=
  ∀ (J : JT) (O : Nat → Prop) (M : Mem) (w : World) (l : Nat) (cvs : List Value), M.inW w → SV.All M caps cvs → JFrame w J → Rounds P l J n xs M → (∀ b, O b → b < w.heap.size ∧ ∀ o, M b o = none) → J 0 true O M w →
    Calls P f ⟨.func (.yield l) #[] #[] :: cvs⟩ w fun e w' => ∃ v g b O' M', e = .returned v ∧ J g b O' M' w' ∧ (b = true → g = n)

theorem jframe_jf {w0 : World} {J : JT} (hJ : JFrame w0 J) (g : Nat) (h : Bool) (O : Nat → Prop) (M M' : Mem) (w w' : World) (j : J g h O M w) (hM : M.le M') (hin : M'.inW w') (hn : ∀ b o v, M' b o = some v → M b o = some v ∨ ((w0.heap.size ≤ b ∨ False) ∧ ¬ O b))
    (hs : ∀ b, (b < w0.heap.size ∧ ¬ False) ∨ O b → w'.heap[b]? = w.heap[b]?) (h1 : w'.os = w.os) (h2 : w'.tape = w.tape) (h3 : w'.output = w.output) (h4 : w.heap.size ≤ w'.heap.size) : J g h O M' w' :=
  hJ g h O M M' w w' j hM hin (fun b o v e => (hn b o v e).imp id (fun ⟨a, c⟩ => ⟨a.elim id (fun x => x.elim), c⟩)) (fun b hb => hs b (hb.imp (fun x => ⟨x, fun y => y⟩) id)) h1 h2 h3 h4
def ctxI (w : World) (M : Mem) (O : Nat → Prop) (J : JT) (hJ : JFrame w J) : Ctx := { w0 := w, M0 := M, own := O, bor := fun _ => False, pin := fun _ => none, pinr := fun _ => none, ro := none, J := J, hbo := fun _ h => h.elim, hpr := fun _ _ h => (by cases h), jf := jframe_jf hJ }

theorem iter_of_ok {P : Program} {f : FuncId} {fn : Func} {code : Code} {caps : List SV} {n : Nat} {xs : Nat → List SV} (hf : P.funcs[f]? = some fn) (hb : fn.body = some code) (hres : fn.results = #[]) (hn : caps.length + 1 ≤ fn.ntmps)
    (h : ∀ (w : World) (M : Mem) (O : Nat → Prop) (l : Nat) (J : JT) (hJ : JFrame w J), (∃ cvs, SV.All M caps cvs) → Rounds P l J n xs M →
      Ok P (ctxI w M O J hJ) code (AS.init fn.ntmps (.v (.func (.yield l) #[] #[]) :: caps)) (fun e S => (e = .normal ∨ e = .ret) ∧ (S.go = true → S.g = n))) : Iter P f caps n xs := by
  intro J O M w l cvs hM hc hJ hr hO h0
  have hvs : SV.All M (.v (.func (.yield l) #[] #[]) :: caps) (.func (.yield l) #[] #[] :: cvs) := ⟨rfl, hc⟩
  have hl := hvs.length
  have hini : HoldsAt (ctxI w M O J hJ) (AS.init fn.ntmps (.v (.func (.yield l) #[] #[]) :: caps)) ⟨fun _ => 0, fun _ => .nilIface, O, M⟩ { tmps := ⟨.func (.yield l) #[] #[] :: cvs⟩ ++ Array.replicate (fn.ntmps - (⟨.func (.yield l) #[] #[] :: cvs⟩ : Array Value).size) undef, defers := [] } w := by
    have h1 := init_holds (n := fn.ntmps) hM hvs (by simpa using hn)
    exact { h1 with tm := fun s => AV.holds_congr (E := ⟨fun _ => 0, fun _ => .nilIface, fun _ => False, M⟩) (E' := ⟨fun _ => 0, fun _ => .nilIface, O, M⟩) (Mem.le_refl _) (fun _ _ => rfl) (fun _ _ => rfl) (h1.tm s), marks := ⟨[], rfl, List.nodup_nil, by simp⟩, frame := fun _ _ _ => rfl, mnew := fun _ _ _ e => .inl e, bx := fun i B e => (by cases e), rx := fun i R e => (by cases e), pin := fun i b e => (by cases e), pinr := fun i b e => (by cases e), olt := fun b hb => ⟨(hO b hb).1, (hO b hb).2, .inl hb⟩, jj := h0 }
  refine calls_of_ok rfl hf hb hini (h w M O l J hJ ⟨cvs, hc⟩ hr) ?_
  rintro S' E a w' hg hh
  refine ⟨.tuple #[], ?_, .tuple #[], S'.g, S'.go, E.O, E.M, rfl, hh.jj, hg⟩
  simp [results, hres]

section steps
variable {P : Program} {C : Ctx} {ops : Array Oper} {S : AS} {nd : Bool} {K : List Ac → AS → Prop} {rest : List Oper} {acc : List Ac}
variable {gd : Option (Nat × Bool)} {rg : List Nat} {d : Nat} {ty : TypeId} {pos : String} {aft : Array Edge} {x y z : Operand} {T U E0 : TypeId}

theorem HoldsAt.swap {E : Env} {a : Act} {w w' : World} (h : HoldsAt C S E a w) {O' : Nat → Prop} {M' : Mem} (hs : Swap E.O E.M w O' M' w') (hbor : ∀ k, ¬ C.bor k) {g : Nat} {go : Bool} (hj : C.J g go O' M' w') :
    HoldsAt C { S with g := g, go := go } { E with O := O', M := M' } a w' := by
  have keep : ∀ x : AV, ∀ v, x.holds E v → x.holds { E with O := O', M := M' } v := fun x v hv => AV.holds_congr (E := E) (E' := { E with O := O', M := M' }) hs.le (fun _ _ => rfl) (fun _ _ => rfl) hv
  have none : ∀ b, b < w.heap.size → ¬ E.O b → (∀ o, E.M b o = none) → ∀ o, M' b o = none := fun b hb hO h2 o => by
    cases e : M' b o with
    | none => rfl
    | some v =>
      rcases hs.new _ _ _ e with e' | e' | e'
      · rw [h2 o] at e'; cases e'
      · omega
      · exact absurd e' hO
  have notO : ∀ b, b < w.heap.size → ¬ E.O b → ¬ O' b := fun b hb hO h' => by
    rcases (hs.oo b h').1 with e | e
    · exact hO e
    · omega
  exact {
    wf := ⟨h.wf.tb, h.wf.tr, h.wf.bb, h.wf.br⟩
    marks := by
      obtain ⟨ds, h1, h2, h3⟩ := h.marks
      refine ⟨ds, h1, h2, fun r hr => ?_⟩
      obtain ⟨h4, h5, h6⟩ := h3 r hr
      have hlt := (Array.getElem?_eq_some_iff.1 h6).1
      exact ⟨h4, notO r hlt h5, by rw [hs.same r hlt h5]; exact h6⟩
    size := h.size
    os := hs.os.trans h.os
    tape := hs.tape.trans h.tape
    output := hs.output.trans h.output
    grown := Nat.le_trans h.grown hs.size
    frame := fun k hk hk' => by
      rw [hs.same k (by have := h.grown; omega) (fun hO => by
        rcases (h.olt k hO).2.2 with e | e
        · exact hk' e
        · omega)]
      exact h.frame k hk hk'
    m0 := Mem.le_trans h.m0 hs.le
    mnew := fun b o v e => by
      rcases hs.new b o v e with e' | e' | e'
      · exact h.mnew b o v e'
      · exact .inr (.inl (Nat.le_trans h.grown e'))
      · exact .inr ((h.olt b e').2.2.symm)
    inW := hs.inW
    tm := fun s => keep _ _ (h.tm s)
    bx := fun i B hB => by
      obtain ⟨h1, h2, h3, vs, h4, h5⟩ := h.bx i B hB
      have hlt := box_lt h hB
      exact ⟨h1, none _ hlt h3 h2, notO _ hlt h3, vs, by rw [hs.same _ hlt h3]; exact h4, h5.imp fun x _ v hv => keep x v hv⟩
    inj := h.inj
    rx := fun i R hR => by
      obtain ⟨⟨us, h1, h2⟩, h3⟩ := h.rx i R hR
      refine ⟨⟨us, ownsRow_same h1 fun g hg => hs.same g (row_lt h hR hg) (h3 g hg).2.2.1, h2.mono hs.le⟩, fun g hg => ?_⟩
      obtain ⟨h4, h5, h6, h7⟩ := h3 g hg
      exact ⟨h4, none _ (row_lt h hR hg) h6 h5, notO _ (row_lt h hR hg) h6, h7⟩
    rinj := h.rinj
    pin := h.pin
    pinr := h.pinr
    olt := fun b hO => by
      obtain ⟨h1, h2, h3⟩ := hs.oo b hO
      refine ⟨h2, h3, ?_⟩
      rcases h1 with e | e
      · exact (h.olt b e).2.2
      · exact .inr (Nat.le_trans h.grown e)
    jj := hj }

/-- A call of yield. -/
theorem RT.yield (hg : Gd ops S gd rg) {l n : Nat} {xs : Nat → List SV} (hr : Rounds P l C.J n xs C.M0) (hro : C.ro = none) (hbor : ∀ k, ¬ C.bor k) {g : Operand} {ys : Array Operand} {at_ : Array TypeId} (hf : S.ev g = .sv (.v (.func (.yield l) #[] #[]))) (k : Nat) (hk : S.g = k) (hgo : S.go = true) (hlt : k < n) (hargs : AllSv S ys.toList (xs k)) (hd : d < S.n)
    {R : AS → Prop} (next : ∀ b : Bool, RunT P C ops true (fun _ S => R S) rest [] ((AS.mk S.n S.t S.b S.r (k + 1) b).set d (.sv (.v (.bool b))))) : RunT P C ops true (fun _ S => R S) (⟨some d, .call ⟨.value g, ys, at_⟩, ty, pos, aft, gd⟩ :: rest) acc S := by
  refine .inr ⟨rfl, fun S' => ∃ b : Bool, S' = (AS.mk S.n S.t S.b S.r (k + 1) b).set d (.sv (.v (.bool b))), ?_, ?_⟩
  · rintro i a w L Q ho ⟨E, h⟩ hL
    refine wpOp_of (C := C) ho (hg.wanted h (fun _ _ => rfl) rfl) ?_
    have hgf : a.eval g = .func (.yield l) #[] #[] := by have h1 := h.ev g; rw [hf] at h1; exact h1
    have hall := AllSv.vals h hargs (fun _ _ => rfl)
    have hj := h.jj
    rw [hk, hgo] at hj
    obtain ⟨fn, tmps, assign, body, hy, hround⟩ := hr k E.O E.M w _ hlt hj h.m0 h.inW hall
    have e2 : ys.map a.eval = ⟨ys.toList.map a.eval⟩ := by apply Array.ext'; simp
    have hrun : (execOp a.eval ⟨some d, .call ⟨.value g, ys, at_⟩, ty, pos, aft, gd⟩).run P w = .ok (.round l fn tmps assign body) w := by
      rw [← e2] at hy
      simp [execOp, resolve, hgf, Deferred.ofValue, invoke, hy]
    refine wpIn_of (C := C) (by intro c h; cases h) hrun ?_
    rw [hro]
    refine ⟨fun h => by simp at h, RoundIn.mono hround ?_⟩
    rintro e w' ⟨b, O', M', rfl, hj', hs⟩
    exact hL _ _ _ ⟨b, rfl⟩ ⟨_, (h.swap hs hbor hj').put (x := .sv (.v (.bool b))) rfl hd nomb⟩
  · rintro S' ⟨b, rfl⟩
    exact next b
end steps
end Go.Fw
