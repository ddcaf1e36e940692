/- The loop over an iterator. Over any program. -/
import Derived.Test.YtgkafblpckcekaaFwIter
namespace Go.Fw
open Go.RowKit

/-- What one round knows of the loop about it. -/
structure RD where
  W : World
  M : Mem
  bor : Nat → Prop
  β : Nat → Nat
  l : Nat
  o : Bool → Obj

theorem rctx_jf (D : RD) (h : Bool) (O : Nat → Prop) (w w' : World) (j : O D.l ∧ w.heap[D.l]? = some (D.o h)) (hs : ∀ b, (b < D.W.heap.size ∧ ¬ D.bor b) ∨ O b → w'.heap[b]? = w.heap[b]?) : O D.l ∧ w'.heap[D.l]? = some (D.o h) :=
  ⟨j.1, by rw [hs D.l (.inr j.1)]; exact j.2⟩
def pinF (pb : List Nat) (β : Nat → Nat) (p : Nat → Option Nat) (i : Nat) : Option Nat := bif pb.any (Nat.beq i) then some (β i) else p i
def rctx (C : Ctx) (D : RD) (pb : List Nat) : Ctx := { w0 := D.W, M0 := D.M, own := fun k => D.bor k ∨ k = D.l, bor := D.bor, pin := pinF pb D.β C.pin, pinr := C.pinr, ro := some D.l, J := fun _ go O _ w => O D.l ∧ w.heap[D.l]? = some (D.o go), hbo := fun _ h => .inl h, hpr := C.hpr, jf := fun _ h O _ _ w w' j _ _ _ hs _ _ _ _ => rctx_jf D h O w w' j hs }
/-- The caller, its boxes pinned. -/
def pctx (C : Ctx) (β : Nat → Nat) (pb : List Nat) : Ctx := { w0 := C.w0, M0 := C.M0, own := C.own, bor := C.bor, pin := pinF pb β C.pin, pinr := C.pinr, ro := C.ro, J := C.J, hbo := C.hbo, hpr := C.hpr, jf := C.jf }

theorem any_mem {pb : List Nat} {i : Nat} : pb.any (Nat.beq i) = true ↔ i ∈ pb := by
  rw [List.any_eq_true]
  exact ⟨fun ⟨x, h1, h2⟩ => by rw [Nat.eq_of_beq_eq_true h2]; exact h1, fun h => ⟨i, h, by simp⟩⟩

theorem HoldsAt.pinned {C : Ctx} {S : AS} {E : Env} {a : Act} {w : World} (h : HoldsAt C S E a w) (pb : List Nat) : HoldsAt (pctx C E.β pb) S E a w :=
  { wf := h.wf, marks := h.marks, size := h.size, os := h.os, tape := h.tape, output := h.output, grown := h.grown, frame := h.frame, m0 := h.m0, mnew := h.mnew, inW := h.inW, tm := h.tm, bx := h.bx, inj := h.inj, rx := h.rx, rinj := h.rinj, pinr := h.pinr, olt := h.olt, jj := h.jj,
    pin := fun i b e => by
      simp only [pctx, pinF] at e
      cases hh : pb.any (Nat.beq i) with
      | true => rw [hh] at e; cases e; rfl
      | false => rw [hh] at e; exact h.pin i b e }
theorem HoldsAt.unpinned {C : Ctx} {S : AS} {E : Env} {a : Act} {w : World} {β : Nat → Nat} {pb : List Nat} (h : HoldsAt (pctx C β pb) S E a w) (hβ : ∀ i b, C.pin i = some b → β i = b) : HoldsAt C S E a w :=
  { wf := h.wf, marks := h.marks, size := h.size, os := h.os, tape := h.tape, output := h.output, grown := h.grown, frame := h.frame, m0 := h.m0, mnew := h.mnew, inW := h.inW, tm := h.tm, bx := h.bx, inj := h.inj, rx := h.rx, rinj := h.rinj, pinr := h.pinr, olt := h.olt, jj := h.jj,
    pin := fun i b e => by
      cases hh : pb.any (Nat.beq i) with
      | true => rw [h.pin i (β i) (by simp [pctx, pinF, hh])]; exact hβ i b e
      | false => exact h.pin i b (by simpa [pctx, pinF, hh] using e) }

/-- The blocks that a state claims. -/
def Cl (S : AS) (E : Env) (k : Nat) : Prop := (∃ i B, S.b i = some B ∧ E.β i = k) ∨ (∃ i R, S.r i = .live R ∧ (E.ν i).ownBlock = some k)

theorem cl_cells {C : Ctx} {S : AS} {E : Env} {a : Act} {w : World} (h : HoldsAt C S E a w) {k : Nat} (hk : Cl S E k) : (C.w0.heap.size ≤ k ∨ C.bor k) ∧ (∀ o, E.M k o = none) ∧ ¬ E.O k ∧ ∃ c e, w.heap[k]? = some (Obj.cells c e (0, 0)) := by
  rcases hk with ⟨i, B, h1, rfl⟩ | ⟨i, R, h1, h2⟩
  · obtain ⟨h3, h4, h5, vs, h6, _⟩ := h.bx i B h1
    exact ⟨h3, h4, h5, _, _, h6⟩
  · obtain ⟨⟨us, h3, _⟩, h4⟩ := h.rx i R h1
    obtain ⟨h5, h6, h7, _⟩ := h4 k h2
    refine ⟨h5, h6, h7, ?_⟩
    rcases h3.2 with ⟨h8, _⟩ | ⟨g, cap, cur, h8, _, h9, _⟩
    · rw [h8] at h2; cases h2
    · rw [h8] at h2; cases h2; exact ⟨_, _, h9⟩

/-- The state in which the next round begins, or that behind the loop: the round's slots are gone. -/
def AS.reT (S T : AS) : AS := ⟨T.n, T.t, S.b, S.r, T.g, T.go⟩
def setPs : List Nat → List SV → AS → AS
  | p :: ps, s :: ss, S => setPs ps ss (S.set p (.sv s))
  | _, _, S => S
def AS.inR (S : AS) (ps : List Nat) (ss : List SV) : AS := setPs ps ss ⟨S.n, S.t, S.b, S.r, S.g, false⟩
def AS.goOn (S : AS) : AS := ⟨S.n, S.t, S.b, S.r, S.g, true⟩

/-- What a round's body must come to. -/
def RP (pb : List Nat) (T next : AS) (Q : Exit → AS → Prop) : Exit → AS → Prop
  | .normal, S => S.go = true ∧ (pb.all fun i => (S.b i).isSome) = true ∧ Weak (AS.mk T.n T.t S.b S.r S.g true) next
  | .ret, S => S.go = true ∧ (pb.all fun i => (S.b i).isSome) = true ∧ Q .ret (AS.mk T.n T.t S.b S.r S.g true)
  | .exit id, S => S.go = true ∧ (pb.all fun i => (S.b i).isSome) = true ∧ Q (.exit id) (AS.mk T.n T.t S.b S.r S.g true)
  | _, _ => False

/-- The record of the loop changes: nothing that the state speaks of. -/
theorem HoldsAt.putLoop {C : Ctx} {S : AS} {E : Env} {a : Act} {w : World} (h : HoldsAt C S E a w) {l : Nat} {o : Obj} (hO : E.O l) (hown : C.w0.heap.size ≤ l ∨ C.own l) {go : Bool} (hj : C.J S.g go E.O E.M (w.putObj l o)) :
    HoldsAt C ⟨S.n, S.t, S.b, S.r, S.g, go⟩ E a (w.putObj l o) := by
  have same : ∀ k, k ≠ l → (w.putObj l o).heap[k]? = w.heap[k]? := fun k hk => World.putObj_heap_other hk
  exact {
    wf := ⟨h.wf.tb, h.wf.tr, h.wf.bb, h.wf.br⟩
    marks := by
      obtain ⟨ds, h1, h2, h3⟩ := h.marks
      refine ⟨ds, h1, h2, fun r hr => ?_⟩
      obtain ⟨h4, h5, h6⟩ := h3 r hr
      exact ⟨h4, h5, by rw [same r (by rintro rfl; exact h5 hO)]; exact h6⟩
    size := h.size
    os := h.os
    tape := h.tape
    output := h.output
    grown := by rw [World.putObj_size]; exact h.grown
    frame := fun k hk hk' => by
      rw [same k (by
        rintro rfl
        rcases hown with e | e
        · omega
        · exact hk' e)]
      exact h.frame k hk hk'
    m0 := h.m0
    mnew := h.mnew
    inW := inW_of_same h.inW fun b ⟨o', v, e⟩ => same b (by rintro rfl; rw [(h.olt _ hO).2.1 o'] at e; cases e)
    tm := h.tm
    bx := fun i B hB => by
      obtain ⟨h1, h2, h3, vs, h4, h5⟩ := h.bx i B hB
      exact ⟨h1, h2, h3, vs, by rw [same _ (by intro e; rw [e] at h3; exact h3 hO)]; exact h4, h5⟩
    inj := h.inj
    rx := fun i R hR => by
      obtain ⟨⟨us, h1, h2⟩, h3⟩ := h.rx i R hR
      exact ⟨⟨us, ownsRow_same h1 fun g hg => same g (by rintro rfl; exact (h3 _ hg).2.2.1 hO), h2⟩, h3⟩
    rinj := h.rinj
    pin := h.pin
    pinr := h.pinr
    olt := fun b hb => by rw [World.putObj_size]; exact h.olt b hb
    jj := hj }

theorem setPs_holds {C : Ctx} {E : Env} {w : World} : ∀ (ps : List Nat) (ss : List SV) (S : AS) (vs : List Value) (tmps : Array Value), HoldsAt C S E ⟨tmps, []⟩ w → SV.All E.M ss vs → ps.length = ss.length → (∀ p ∈ ps, p < S.n) →
    HoldsAt C (setPs ps ss S) E ⟨(ps.zip vs).foldl (fun t (p, v) => t.setIfInBounds p v) tmps, []⟩ w
  | [], [], S, [], tmps, h, _, _, _ => h
  | p :: ps, s :: ss, S, v :: vs, tmps, h, hv, hl, hp => by
    have h1 := h.put (d := p) (x := .sv s) (v := v) hv.1 (hp p (by simp)) nomb
    exact setPs_holds ps ss _ vs _ h1 hv.2 (by simpa using hl) (fun q hq => hp q (List.mem_cons_of_mem _ hq))
  | [], _ :: _, _, _, _, _, _, hl, _ => by simp at hl
  | _ :: _, [], _, _, _, _, _, hl, _ => by simp at hl
  | [], [], _, _ :: _, _, _, h, _, _ => h.elim
  | _ :: _, _ :: _, _, [], _, _, h, _, _ => h.elim

/-- Into a round. -/
theorem HoldsAt.intoRound {C : Ctx} {S : AS} {E : Env} {a : Act} {w : World} {β : Nat → Nat} {pb : List Nat} (h : HoldsAt (pctx C β pb) S E a w) {l : Nat} {o : Bool → Obj} (hl : w.heap[l]? = some (o false)) (hlo : ∀ b c e, o b ≠ .cells c e (0, 0)) (hlm : ∀ o', E.M l o' = none) :
    HoldsAt (rctx C ⟨w, E.M, Cl S E, β, l, o⟩ pb) ⟨S.n, S.t, S.b, S.r, S.g, false⟩ { E with O := fun b => b = l } ⟨a.tmps, []⟩ w where
  wf := ⟨h.wf.tb, h.wf.tr, h.wf.bb, h.wf.br⟩
  marks := ⟨[], rfl, List.nodup_nil, by simp⟩
  size := h.size
  os := rfl
  tape := rfl
  output := rfl
  grown := Nat.le_refl _
  frame := fun _ _ _ => rfl
  m0 := Mem.le_refl _
  mnew := fun _ _ _ e => .inl e
  inW := h.inW
  tm := fun s => AV.holds_congr (E := E) (E' := { E with O := fun b => b = l }) (Mem.le_refl _) (fun _ _ => rfl) (fun _ _ => rfl) (h.tm s)
  bx := fun i B hB => by
    obtain ⟨h1, h2, h3, vs, h4, h5⟩ := h.bx i B hB
    refine ⟨.inr (.inl ⟨i, B, hB, rfl⟩), h2, ?_, vs, h4, h5.imp fun x _ v hv => AV.holds_congr (E := E) (E' := { E with O := fun b => b = l }) (Mem.le_refl _) (fun _ _ => rfl) (fun _ _ => rfl) hv⟩
    intro e
    rw [show E.β i = l from e, hl] at h4
    exact hlo _ _ _ (Option.some.inj h4)
  inj := h.inj
  rx := fun i R hR => by
    obtain ⟨⟨us, h1, h2⟩, h3⟩ := h.rx i R hR
    refine ⟨⟨us, h1, h2⟩, fun g hg => ?_⟩
    obtain ⟨h4, h5, h6, h7⟩ := h3 g hg
    refine ⟨.inr (.inr ⟨i, R, hR, hg⟩), h5, ?_, h7⟩
    intro e
    obtain ⟨_, _, _, c, e', hc⟩ := cl_cells h (.inr ⟨i, R, hR, hg⟩)
    rw [show g = l from e, hl] at hc
    exact hlo _ _ _ (Option.some.inj hc)
  rinj := h.rinj
  pin := h.pin
  pinr := h.pinr
  olt := fun b e => by
    obtain rfl : b = l := e
    exact ⟨(Array.getElem?_eq_some_iff.1 hl).1, hlm, .inl (.inr rfl)⟩
  jj := ⟨rfl, hl⟩

/-- The round's slots are dropped. -/
theorem HoldsAt.dropT {C : Ctx} {T S2 : AS} {E E2 : Env} {a a2 : Act} {W3 : World} {D : RD} {pb : List Nat} (h2 : HoldsAt (rctx C D pb) S2 E2 a2 W3)
    (hT : ∀ s, (∀ j, (T.t s).mb j → j ∈ pb) ∧ (∀ j, ¬ (T.t s).mr j)) (hpb : (pb.all fun i => (S2.b i).isSome) = true) (hn : a.tmps.size = T.n) (htm : ∀ s, (T.t s).holds E (a.tmps.getD s undef)) (hM : E.M.le E2.M) (hβ : ∀ i, i ∈ pb → E.β i = D.β i) :
    HoldsAt (rctx C D pb) ⟨T.n, T.t, S2.b, S2.r, S2.g, S2.go⟩ E2 ⟨a.tmps, []⟩ W3 :=
  { h2 with
    wf := ⟨fun s j hj => by
        have := List.all_eq_true.1 hpb j ((hT s).1 j hj)
        exact Option.isSome_iff_exists.1 this, fun s j hj => absurd hj ((hT s).2 j), h2.wf.bb, h2.wf.br⟩
    marks := ⟨[], rfl, List.nodup_nil, by simp⟩
    size := hn
    tm := fun s => AV.holds_congr hM (fun j hj => by
        have hj' := (hT s).1 j hj
        rw [hβ j hj']
        exact h2.pin j (D.β j) (by simp [rctx, pinF, any_mem.2 hj'])) (fun j hj => absurd hj ((hT s).2 j)) (htm s) }

/-- Out of a round. -/
theorem HoldsAt.outOfRound {C : Ctx} {S S2 : AS} {E E2 : Env} {a : Act} {w W3 : World} {β : Nat → Nat} {pb : List Nat} (hJ : ∀ g h O M w, C.J g h O M w) (h : HoldsAt (pctx C β pb) S E a w) {l : Nat} {o : Bool → Obj} (hl0 : C.w0.heap.size ≤ l) (hlm : ∀ r, a.defers ≠ [] → markOf r ∈ a.defers → r ≠ l)
    (h2 : HoldsAt (rctx C ⟨w, E.M, Cl S E, β, l, o⟩ pb) S2 E2 ⟨a.tmps, []⟩ W3) (o' : Obj) :
    HoldsAt (pctx C β pb) S2 { E2 with O := fun _ => False } a (W3.putObj l o') := by
  have hOl : E2.O l := h2.jj.1
  have same : ∀ k, k ≠ l → (W3.putObj l o').heap[k]? = W3.heap[k]? := fun k hk => World.putObj_heap_other hk
  have keep : ∀ x : AV, ∀ v, x.holds E2 v → x.holds { E2 with O := fun _ => False } v := fun x v hv => AV.holds_congr (E := E2) (E' := { E2 with O := fun _ => False }) (Mem.le_refl _) (fun _ _ => rfl) (fun _ _ => rfl) hv
  have bor : ∀ k, w.heap.size ≤ k ∨ Cl S E k → C.w0.heap.size ≤ k ∨ C.bor k := fun k hk => by
    rcases hk with e | e
    · exact .inl (Nat.le_trans h.grown e)
    · exact (cl_cells h e).1
  exact {
    wf := h2.wf
    marks := by
      obtain ⟨ds, h1, h3, h4⟩ := h.marks
      refine ⟨ds, h1, h3, fun r hr => ?_⟩
      obtain ⟨h5, _, h6⟩ := h4 r hr
      have hmem : markOf r ∈ a.defers := by rw [h1]; exact List.mem_map_of_mem hr
      refine ⟨h5, fun h => h, ?_⟩
      rw [same r (hlm r (List.ne_nil_of_mem hmem) hmem), h2.frame r (Array.getElem?_eq_some_iff.1 h6).1 (fun e => ?_)]
      · exact h6
      · rcases e with e | e
        · obtain ⟨_, _, _, c, e', hc⟩ := cl_cells h e
          rw [h6] at hc; cases hc
        · exact hlm r (List.ne_nil_of_mem hmem) hmem e
    size := h2.size
    os := h2.os.trans h.os
    tape := h2.tape.trans h.tape
    output := h2.output.trans h.output
    grown := by rw [World.putObj_size]; exact Nat.le_trans h.grown h2.grown
    frame := fun k hk hk' => by
      have hkl : k ≠ l := by have : k < C.w0.heap.size := hk; omega
      have hk1 : k < w.heap.size := by have : C.w0.heap.size ≤ w.heap.size := h.grown; have : k < C.w0.heap.size := hk; omega
      rw [same k hkl, h2.frame k hk1 (fun e => ?_)]
      · exact h.frame k hk hk'
      · rcases e with e | e
        · rcases (cl_cells h e).1 with e | e
          · have : k < C.w0.heap.size := hk
            have : C.w0.heap.size ≤ k := e
            omega
          · exact hk' (C.hbo _ e)
        · exact hkl e
    m0 := Mem.le_trans h.m0 h2.m0
    mnew := fun b o v e => by
      rcases h2.mnew b o v e with e | e | e
      · exact h.mnew b o v e
      · exact .inr (.inl (Nat.le_trans h.grown e))
      · rcases e with e | e
        · rcases (cl_cells h e).1 with e | e
          · exact .inr (.inl e)
          · exact .inr (.inr (C.hbo _ e))
        · exact .inr (.inl (by rw [show b = l from e]; exact hl0))
    inW := inW_of_same h2.inW fun b ⟨o', v, e⟩ => same b (by rintro rfl; rw [(h2.olt _ hOl).2.1 o'] at e; cases e)
    tm := fun s => keep _ _ (h2.tm s)
    bx := fun i B hB => by
      obtain ⟨q1, q2, q3, vs, q4, q5⟩ := h2.bx i B hB
      exact ⟨bor _ q1, q2, fun h => h, vs, by rw [same _ (by intro e; rw [e] at q3; exact q3 hOl)]; exact q4, q5.imp fun x _ v hv => keep x v hv⟩
    inj := h2.inj
    rx := fun i R hR => by
      obtain ⟨⟨us, q1, q2⟩, q3⟩ := h2.rx i R hR
      refine ⟨⟨us, ownsRow_same q1 fun g hg => same g (by rintro rfl; exact (q3 _ hg).2.2.1 hOl), q2⟩, fun g hg => ?_⟩
      obtain ⟨q4, q5, q6, q7⟩ := q3 g hg
      exact ⟨bor _ q4, q5, fun h => h, q7⟩
    rinj := h2.rinj
    pin := h2.pin
    pinr := h2.pinr
    olt := fun b e => e.elim
    jj := hJ _ _ _ _ _ }
/-- The loop's invariant, as its iterator sees it. -/
def JL (C : Ctx) (β : Nat → Nat) (pb : List Nat) (I : Nat → AS) (Q : Exit → AS → Prop) (a0 : Act) (l : Nat) (rec : LoopState → Option Code → Loop) : JT := fun g b O M w =>
  ∃ E S', HoldsAt (pctx C β pb) S' E a0 w ∧ E.M = M ∧ (∀ k, ¬ E.O k) ∧ (∀ k, O k ↔ k = l ∨ Cl S' E k) ∧
    ((b = true ∧ S' = I g ∧ w.heap[l]? = some (.loop (rec .ready none))) ∨ (b = false ∧ ∃ c, ((c = .ret ∧ Q .ret S') ∨ ∃ id, c = .exit id ∧ Q (.exit id) S') ∧ w.heap[l]? = some (.loop (rec .done (some c)))))

theorem JL_frame {C : Ctx} {β : Nat → Nat} {pb : List Nat} {I : Nat → AS} {Q : Exit → AS → Prop} {a0 : Act} {l : Nat} {rec : LoopState → Option Code → Loop} {W1 : World} (hJ : ∀ g h O M w, C.J g h O M w) (hmk : ∀ r, markOf r ∈ a0.defers → r < W1.heap.size) (hW : C.w0.heap.size ≤ W1.heap.size) : JFrame W1 (JL C β pb I Q a0 l rec) := by
  rintro g b O M M' w w' ⟨E, S', h, rfl, hO, hcl, hrec⟩ hM hin hn hs g1 g2 g3 g4
  have keep : ∀ x : AV, ∀ v, x.holds E v → x.holds { E with M := M' } v := fun x v hv => AV.holds_congr (E := E) (E' := { E with M := M' }) hM (fun _ _ => rfl) (fun _ _ => rfl) hv
  have none : ∀ b, O b → (∀ o, E.M b o = none) → ∀ o, M' b o = none := fun b hb h2 o => by
    cases e : M' b o with
    | none => rfl
    | some v =>
      rcases hn _ _ _ e with e' | e'
      · rw [h2 o] at e'; cases e'
      · exact absurd hb e'.2
  have ob : ∀ i B, S'.b i = some B → O (E.β i) := fun i B hB => (hcl _).2 (.inr (.inl ⟨i, B, hB, rfl⟩))
  have orr : ∀ i R, S'.r i = .live R → ∀ g, (E.ν i).ownBlock = some g → O g := fun i R hR g hg => (hcl _).2 (.inr (.inr ⟨i, R, hR, hg⟩))
  refine ⟨{ E with M := M' }, S', ?_, rfl, hO, hcl, ?_⟩
  · exact {
      wf := h.wf
      marks := by
        obtain ⟨ds, h1, h2, h3⟩ := h.marks
        refine ⟨ds, h1, h2, fun r hr => ?_⟩
        obtain ⟨h4, h5, h6⟩ := h3 r hr
        exact ⟨h4, h5, by rw [hs r (.inl (hmk r (by rw [h1]; exact List.mem_map_of_mem hr)))]; exact h6⟩
      size := h.size
      os := g1.trans h.os
      tape := g2.trans h.tape
      output := g3.trans h.output
      grown := Nat.le_trans h.grown g4
      frame := fun k hk hk' => by
        rw [hs k (.inl (Nat.lt_of_lt_of_le hk hW))]; exact h.frame k hk hk'
      m0 := Mem.le_trans h.m0 hM
      mnew := fun b o v e => by
        rcases hn b o v e with e | e
        · exact h.mnew b o v e
        · exact .inr (.inl (Nat.le_trans hW e.1))
      inW := hin
      tm := fun s => keep _ _ (h.tm s)
      bx := fun i B hB => by
        obtain ⟨h1, h2, h3, vs, h4, h5⟩ := h.bx i B hB
        exact ⟨h1, none _ (ob i B hB) h2, h3, vs, by rw [hs _ (.inr (ob i B hB))]; exact h4, h5.imp fun x _ v hv => keep x v hv⟩
      inj := h.inj
      rx := fun i R hR => by
        obtain ⟨⟨us, h1, h2⟩, h3⟩ := h.rx i R hR
        refine ⟨⟨us, ownsRow_same h1 fun g hg => hs g (.inr (orr i R hR g hg)), h2.mono hM⟩, fun g hg => ?_⟩
        obtain ⟨h4, h5, h6, h7⟩ := h3 g hg
        exact ⟨h4, none _ (orr i R hR g hg) h5, h6, h7⟩
      rinj := h.rinj
      pin := h.pin
      pinr := h.pinr
      olt := fun b hb => absurd hb (hO b)
      jj := hJ _ _ _ _ _ }
  · have hl : w'.heap[l]? = w.heap[l]? := hs l (.inr ((hcl l).2 (.inl rfl)))
    rcases hrec with ⟨e1, e2, e3⟩ | ⟨e1, c, e2, e3⟩
    · exact .inl ⟨e1, e2, by rw [hl]; exact e3⟩
    · exact .inr ⟨e1, c, e2, by rw [hl]; exact e3⟩

theorem loop_not_cells {r : Loop} (c : Array Value) (e : TypeId) : (Obj.loop r) ≠ .cells c e (0, 0) := by intro h; cases h

theorem ok_rangeFunc {P : Program} {C : Ctx} {S : AS} {Q : Exit → AS → Prop} {g : Operand} {ps : Array Tmp} {assign body : Code} {f : FuncId} [Ent P f] {caps : List SV} {n : Nat} {xs : Nat → List SV}
    (hit : Iter P f caps n xs) (hJ : ∀ g h O M w, C.J g h O M w) (hro : C.ro = none) (I : Nat → AS) (pb : List Nat) (hg : (I 0).ev g = .sv (cloS f caps)) (hI : ∀ k, (I k).n = (I 0).n ∧ (I k).t = (I 0).t)
    (hT : ∀ s, (∀ j, ((I 0).t s).mb j → j ∈ pb) ∧ ∀ j, ¬ ((I 0).t s).mr j) (hps : ∀ k, (xs k).length = ps.size) (hpn : ∀ p ∈ ps.toList, p < (I 0).n) (h0 : Weak S (I 0))
    (round : ∀ k, k < n → ∀ D : RD, Ok P (rctx C D pb) assign ((I k).inR ps.toList (xs k)) (AThen (fun S1 => S1.go = false ∧ Ok P (rctx C D pb) body S1.goOn (RP pb (I 0) (I (k + 1)) Q)) (fun _ _ => False)))
    (done : Q .normal (I n)) : Ok P C (.rangeFunc g ps assign body) S Q := by
  intro a w hs
  obtain ⟨E', h1⟩ := h0 C a w hs
  obtain ⟨cvs, hgv, hcvs⟩ : (cloS f caps).h E'.M (a.eval g) := by have := h1.ev g; rw [hg] at this; exact this
  rw [hro]
  refine wpIn_rangeFunc ?_
  intro fn _
  obtain ⟨rec, hrec⟩ : ∃ rec : LoopState → Option Code → Loop, rec = fun st pe => { state := st, pending := pe, fn, tmps := a.tmps, params := ps, assign, body, defers := w.heap.size } := ⟨_, rfl⟩
  obtain ⟨W1, hW1⟩ : ∃ W1, (w.alloc (.deferred (some []))).alloc (.loop (rec .ready none)) = W1 := ⟨_, rfl⟩
  have hL1 : W1.heap[w.heap.size + 1]? = some (.loop (rec .ready none)) := by
    rw [← hW1]; have := World.alloc_heap_new (w.alloc (.deferred (some []))) (.loop (rec .ready none)); rwa [World.size_alloc] at this
  have hK1 : W1.heap[w.heap.size]? = some (.deferred (some [])) := by
    rw [← hW1]; exact (Below.heap_alloc _ _ _ (by simp)).trans (World.alloc_heap_new w _)
  have hb1 : Below w.heap.size w W1 := by rw [← hW1]; exact (((Below.refl _ w).alloc (Nat.le_refl _) _).alloc (by simp) _)
  have hsz : W1.heap.size = w.heap.size + 2 := by rw [← hW1]; simp
  have h2 := h1.grow (M' := E'.M) (Mem.le_refl _) (fun _ _ _ e => .inl e) (inW_of_same h1.inW fun b ⟨o, v, e⟩ => hb1.block b (inW_lt h1.inW e)) hb1
  obtain ⟨a0, ha0⟩ : ∃ a0 : Act, a0 = { a with defers := markOf w.heap.size :: a.defers } := ⟨_, rfl⟩
  obtain ⟨ds, d1, d2, d3⟩ := h1.marks
  have dlt : ∀ r ∈ ds, r < w.heap.size := fun r hr => (Array.getElem?_eq_some_iff.1 (d3 r hr).2.2).1
  have markInj : ∀ r r', markOf r = markOf r' → r = r' := fun r r' e => by
    have := congrArg Deferred.target e
    simpa [markOf] using this
  have hmk : ∀ r, markOf r ∈ a0.defers → r < w.heap.size + 1 := fun r hr => by
    rw [ha0] at hr
    rcases List.mem_cons.1 hr with e | e
    · rw [markInj _ _ e]; omega
    · rw [d1] at e
      obtain ⟨r', hr', e⟩ := List.mem_map.1 e
      rw [← markInj _ _ e]
      have := dlt r' hr'; omega
  have h3 : HoldsAt C (I 0) { E' with O := fun _ => False } a0 W1 :=
    { h2 with
      marks := by
        refine ⟨w.heap.size :: ds, by rw [ha0, List.map_cons, d1], List.nodup_cons.2 ⟨fun hm => by have := dlt _ hm; omega, d2⟩, fun r hr => ?_⟩
        rcases List.mem_cons.1 hr with rfl | hr
        · exact ⟨h1.grown, fun h => h, hK1⟩
        · exact ⟨(d3 r hr).1, fun h => h, by rw [hb1.block r (dlt r hr)]; exact (d3 r hr).2.2⟩
      size := by rw [ha0]; exact h2.size
      tm := fun s => by rw [ha0]; exact AV.holds_congr (E := E') (E' := { E' with O := fun _ => False }) (Mem.le_refl _) (fun _ _ => rfl) (fun _ _ => rfl) (h2.tm s)
      bx := fun i B hB => by
        obtain ⟨q1, q2, q3, vs, q4, q5⟩ := h2.bx i B hB
        exact ⟨q1, q2, fun h => h, vs, q4, q5.imp fun x _ v hv => AV.holds_congr (E := { E' with M := E'.M }) (E' := { E' with O := fun _ => False }) (Mem.le_refl _) (fun _ _ => rfl) (fun _ _ => rfl) hv⟩
      rx := fun i R hR => by
        obtain ⟨q1, q2⟩ := h2.rx i R hR
        exact ⟨q1, fun g hg => ⟨(q2 g hg).1, (q2 g hg).2.1, fun h => h, (q2 g hg).2.2.2⟩⟩
      olt := fun b e => e.elim
      jj := hJ _ _ _ _ _ }
  have hpinβ : ∀ i b, C.pin i = some b → E'.β i = b := h1.pin
  have h4 := h3.pinned pb
  have hl0 : C.w0.heap.size ≤ w.heap.size + 1 := Nat.le_succ_of_le h1.grown
  refine ⟨w.heap.size + 1, [markOf w.heap.size], W1, { target := .fn (.func f) ⟨cvs⟩, args := #[.func (.yield (w.heap.size + 1)) #[] #[]] }, W1, f,
    ⟨.func (.yield (w.heap.size + 1)) #[] #[] :: cvs⟩, W1, ?_, ?_, fun _ _ => trivial, ?_, fun h => by simp at h, ?_⟩
  · rw [← hW1, hrec]; exact run_enterLoop_outer _ _ _ _ _
  · simp only [resolve, hgv]
    simp [Deferred.ofValue, Act.eval]
  · have := Ent.run (P := P) (f := f) (#[.func (.yield (w.heap.size + 1)) #[] #[]] ++ ⟨cvs⟩) W1
    have e : (#[.func (.yield (w.heap.size + 1)) #[] #[]] ++ ⟨cvs⟩ : Array Value) = ⟨.func (.yield (w.heap.size + 1)) #[] #[] :: cvs⟩ := by apply Array.ext'; simp
    rw [e] at this
    simp [invoke, e, this]
  have hinW1 : E'.M.inW W1 := h3.inW
  refine fr_calls ((hit (JL C E'.β pb I Q a0 (w.heap.size + 1) rec) (fun k => k = w.heap.size + 1 ∨ Cl (I 0) { E' with O := fun _ => False } k) E'.M W1 (w.heap.size + 1) cvs hinW1 hcvs
    (JL_frame hJ (fun r hr => by have := hmk r hr; omega) (by have := h3.grown; exact this)) ?_ ?_ ?_).mono ?_)
  · -- a round
    rintro k O M W args hk ⟨E, S', h, rfl, hO, hcl, hst⟩ _ hin hargs
    rcases hst with ⟨_, rfl, hl⟩ | ⟨e, _⟩
    case inr => cases e
    have hlM : ∀ o, E.M (w.heap.size + 1) o = none := fun o => by
      cases e : E.M (w.heap.size + 1) o with
      | none => rfl
      | some v => have := hin _ _ _ e; simp [World.cell?, hl] at this
    have hlen : args.length = ps.size := by rw [← hargs.length, hps k]
    have hy := run_yield (P := P) (args := ⟨args⟩) hl (by rw [hrec]; simpa using hlen)
    rw [hrec] at hy
    refine ⟨fn, _, assign, body, hy, ?_⟩
    simp only
    clear hy
    let o : Bool → Obj := fun b => bif b then .loop (rec .busy none) else .loop (rec .ready none)
    have hin1 := h.intoRound (l := w.heap.size + 1) (o := o) hl (fun b c e => by cases b <;> exact loop_not_cells c e) hlM
    have ha0t : a0.tmps = a.tmps := by rw [ha0]
    have hin2 := setPs_holds ps.toList (xs k) _ args a0.tmps hin1 hargs (by rw [hps k]; simp) (by
      intro p hp
      show p < (I k).n
      rw [(hI k).1]; exact hpn p hp)
    have htm : (ps.toList.zip args).foldl (fun t (p, v) => t.setIfInBounds p v) a0.tmps = (ps.zip ⟨args⟩).foldl (fun tmps (t, a) => tmps.setIfInBounds t a) a.tmps := by
      rw [ha0t, ← Array.foldl_toList, Array.toList_zip]
    rw [htm] at hin2
    have hr := round k hk ⟨W, E.M, Cl (I k) E, E'.β, w.heap.size + 1, o⟩ _ W ⟨_, hin2⟩
    refine roundIn_of_wpIn (F := Fr none) trivial (wpIn_mono hr ?_)
    rintro e a1 w1 ⟨S1, q, E1, hh1⟩
    cases e with
    | normal =>
      obtain ⟨hgo, hbody⟩ := q
      obtain ⟨hOl, hl1⟩ := hh1.jj
      rw [hgo] at hl1
      refine ⟨_, run_beginRound hl1 (by rw [hrec]), ?_⟩
      have hlt1 := (Array.getElem?_eq_some_iff.1 hl1).1
      have hb2 : Obj.loop { rec .ready none with state := .busy } = o true := by simp only [o, hrec]; rfl
      have hh2 := hh1.putLoop (l := w.heap.size + 1) (o := o true) hOl (.inr (.inr rfl)) (go := true) ⟨hOl, World.putObj_heap_same hlt1⟩
      rw [hb2]
      refine wpIn_mono (hbody a1 _ ⟨_, hh2⟩) ?_
      have hlm : ∀ r, a0.defers ≠ [] → markOf r ∈ a0.defers → r ≠ w.heap.size + 1 := fun r _ hr => by have := hmk r hr; omega
      -- the way out, whatever it is
      have out : ∀ (S2 : AS) (E2 : Env) (a2 : Act) (W3 : World), HoldsAt (rctx C ⟨W, E.M, Cl (I k) E, E'.β, w.heap.size + 1, o⟩ pb) S2 E2 a2 W3 → S2.go = true → (pb.all fun i => (S2.b i).isSome) = true →
          HoldsAt (rctx C ⟨W, E.M, Cl (I k) E, E'.β, w.heap.size + 1, o⟩ pb) ⟨(I 0).n, (I 0).t, S2.b, S2.r, S2.g, true⟩ E2 ⟨a0.tmps, []⟩ W3 := by
        intro S2 E2 a2 W3 hh hgo2 hpb
        have := hh.dropT (T := I 0) (E := E) (a := a0) hT hpb (by rw [h.size, (hI k).1]) (fun s => by have := h.tm s; rw [(hI k).2] at this; exact this) hh.m0 (fun i hi => h.pin i (E'.β i) (by simp [pctx, pinF, any_mem.2 hi]))
        rw [hgo2] at this
        exact this
      have fin : ∀ (S2 : AS) (E2 : Env) (W3 : World) (jump : Option Code), HoldsAt (rctx C ⟨W, E.M, Cl (I k) E, E'.β, w.heap.size + 1, o⟩ pb) S2 E2 ⟨a0.tmps, []⟩ W3 → S2.go = true →
          (Instr.endRound (w.heap.size + 1) jump).run P W3 = .ok (.bool jump.isNone) (W3.putObj (w.heap.size + 1) (.loop (rec (if jump.isNone then .ready else .done) jump))) ∧
          HoldsAt (pctx C E'.β pb) S2 { E2 with O := fun _ => False } a0 (W3.putObj (w.heap.size + 1) (.loop (rec (if jump.isNone then .ready else .done) jump))) ∧
          (W3.putObj (w.heap.size + 1) (.loop (rec (if jump.isNone then .ready else .done) jump))).heap[w.heap.size + 1]? = some (.loop (rec (if jump.isNone then .ready else .done) jump)) ∧
          Swap O E.M W (fun b => b = w.heap.size + 1 ∨ Cl S2 { E2 with O := fun _ => False } b) E2.M (W3.putObj (w.heap.size + 1) (.loop (rec (if jump.isNone then .ready else .done) jump))) := by
        intro S2 E2 W3 jump hh hgo2
        obtain ⟨hOl3, hl3⟩ := hh.jj
        rw [hgo2] at hl3
        have hlt3 := (Array.getElem?_eq_some_iff.1 hl3).1
        have hrun := run_endRound (P := P) jump hl3
        have hout := h.outOfRound hJ (l := w.heap.size + 1) (o := o) hl0 hlm hh (.loop (rec (if jump.isNone then .ready else .done) jump))
        refine ⟨?_, hout, World.putObj_heap_same hlt3, ?_⟩
        · rw [hrun, hrec]
        · refine ⟨hh.m0, hout.inW, fun b o v e => ?_, fun b hb => ?_, fun k' hk' hnO => ?_, hh.os, hh.tape, hh.output, by rw [World.putObj_size]; exact hh.grown⟩
          · rcases hh.mnew b o v e with e | e | e
            · exact .inl e
            · exact .inr (.inl e)
            · exact .inr (.inr ((hcl b).2 (e.symm)))
          · rw [World.putObj_size]
            rcases hb with hb | hb
            · subst hb
              exact ⟨.inl ((hcl _).2 (.inl rfl)), hlt3, (hh.olt _ hOl3).2.1⟩
            · obtain ⟨q1, q2, q3, c, e', q4⟩ := cl_cells hh (show Cl S2 E2 b from hb)
              refine ⟨?_, (Array.getElem?_eq_some_iff.1 q4).1, q2⟩
              rcases q1 with q1 | q1
              · exact .inr q1
              · exact .inl ((hcl b).2 (.inr q1))
          · have hne : k' ≠ w.heap.size + 1 := by rintro rfl; exact hnO ((hcl _).2 (.inl rfl))
            rw [World.putObj_heap_other hne]
            exact hh.frame k' hk' (fun e => hnO ((hcl k').2 e.symm))
      rintro e a2 W3 ⟨S2, hp, E2, hh3⟩
      cases e with
      | normal =>
        obtain ⟨p1, p2, p3⟩ := hp
        obtain ⟨E3, hh4⟩ := p3 _ _ _ ⟨_, out S2 E2 a2 W3 hh3 p1 p2⟩
        have hgo3 : (I (k + 1)).go = true ∨ (I (k + 1)).go = false := by cases (I (k + 1)).go <;> simp
        have hgo4 : (I (k + 1)).go = true := by
          rcases hgo3 with e | e
          · exact e
          · exfalso
            have h5 := hh4.jj.2
            have h6 := (out S2 E2 a2 W3 hh3 p1 p2).jj.2
            rw [e] at h5
            rw [show (AS.mk (I 0).n (I 0).t S2.b S2.r S2.g true).go = true from rfl] at h6
            rw [h5] at h6
            simp [o, hrec] at h6
        obtain ⟨f1, f2, f3, f4⟩ := fin _ E3 W3 none hh4 hgo4
        exact ⟨_, _, f1, true, _, _, rfl, ⟨_, _, f2, rfl, fun _ h => h, fun _ => Iff.rfl, .inl ⟨rfl, rfl, f3⟩⟩, f4⟩
      | ret =>
        obtain ⟨p1, p2, p3⟩ := hp
        obtain ⟨f1, f2, f3, f4⟩ := fin _ E2 W3 (some .ret) (out S2 E2 a2 W3 hh3 p1 p2) rfl
        exact ⟨_, _, f1, false, _, _, rfl, ⟨_, _, f2, rfl, fun _ h => h, fun _ => Iff.rfl, .inr ⟨rfl, .ret, .inl ⟨rfl, p3⟩, f3⟩⟩, f4⟩
      | exit id =>
        obtain ⟨p1, p2, p3⟩ := hp
        obtain ⟨f1, f2, f3, f4⟩ := fin _ E2 W3 (some (.exit id)) (out S2 E2 a2 W3 hh3 p1 p2) rfl
        exact ⟨_, _, f1, false, _, _, rfl, ⟨_, _, f2, rfl, fun _ h => h, fun _ => Iff.rfl, .inr ⟨rfl, .exit id, .inr ⟨id, rfl, p3⟩, f3⟩⟩, f4⟩
      | goto t => exact hp.elim
      | panic ch => exact hp.elim
      | outgrown => exact hp.elim
    | _ => exact q.elim
  · -- what is claimed
    rintro b (rfl | hb)
    · refine ⟨by omega, fun o => ?_⟩
      cases e : E'.M (w.heap.size + 1) o with
      | none => rfl
      | some v => have := hinW1 _ _ _ e; simp [World.cell?, hL1] at this
    · obtain ⟨_, q2, _, c, e, q3⟩ := cl_cells h4 hb
      exact ⟨(Array.getElem?_eq_some_iff.1 q3).1, q2⟩
  · exact ⟨_, _, h4, rfl, fun _ h => h, fun _ => Iff.rfl, .inl ⟨rfl, rfl, hL1⟩⟩
  · -- behind the iterator
    rintro e w' ⟨v, k, b, O', M', rfl, ⟨E, S', h, rfl, hO, hcl, hst⟩, hbn⟩
    have hnl : ∀ o', HoldsAt C S' E a0 (w'.putObj (w.heap.size + 1) o') := fun o' => by
      have hh := h.unpinned hpinβ
      have hlr : ∃ r, w'.heap[w.heap.size + 1]? = some (.loop r) := by
        rcases hst with ⟨_, _, h⟩ | ⟨_, c, _, h⟩ <;> exact ⟨_, h⟩
      obtain ⟨r, hlr⟩ := hlr
      have hlM : ∀ o, E.M (w.heap.size + 1) o = none := fun o => by
        cases e : E.M (w.heap.size + 1) o with
        | none => rfl
        | some v => have := h.inW _ _ _ e; simp [World.cell?, hlr] at this
      have hncl : ∀ b, Cl S' E b → b ≠ w.heap.size + 1 := by
        rintro b hb rfl
        obtain ⟨_, _, _, c, e, q⟩ := cl_cells hh hb
        rw [hlr] at q; cases q
      have same : ∀ k, k ≠ w.heap.size + 1 → (w'.putObj (w.heap.size + 1) o').heap[k]? = w'.heap[k]? := fun k hk => World.putObj_heap_other hk
      exact { hh with
        marks := by
          obtain ⟨ds', q1, q2, q3⟩ := hh.marks
          refine ⟨ds', q1, q2, fun r hr => ?_⟩
          obtain ⟨q4, q5, q6⟩ := q3 r hr
          exact ⟨q4, q5, by rw [same r (by have := hmk r (by rw [q1]; exact List.mem_map_of_mem hr); omega)]; exact q6⟩
        grown := by rw [World.putObj_size]; exact hh.grown
        frame := fun k hk hk' => by rw [same k (by omega)]; exact hh.frame k hk hk'
        inW := inW_of_same hh.inW fun b ⟨o, v, e⟩ => same b (by rintro rfl; rw [hlM o] at e; cases e)
        bx := fun i B hB => by
          obtain ⟨q1, q2, q3, vs, q4, q5⟩ := hh.bx i B hB
          exact ⟨q1, q2, q3, vs, by rw [same _ (hncl _ (.inl ⟨i, B, hB, rfl⟩))]; exact q4, q5⟩
        rx := fun i R hR => by
          obtain ⟨⟨us, q1, q2⟩, q3⟩ := hh.rx i R hR
          exact ⟨⟨us, ownsRow_same q1 fun g hg => same g (hncl g (.inr ⟨i, R, hR, hg⟩)), q2⟩, q3⟩
        olt := fun b hb => absurd hb (hO b)
        jj := hJ _ _ _ _ _ }
    rw [show ({ a with defers := [markOf w.heap.size] ++ a.defers } : Act) = a0 from by rw [ha0]; rfl]
    rcases hst with ⟨hb, rfl, hl⟩ | ⟨hb, c, hc, hl⟩
    · have hk := hbn hb
      subst hk
      refine ⟨none, _, by have := run_endLoop (P := P) hl (by rw [hrec]; simp); rw [hrec] at this; exact this, _, done, _, hnl _⟩
    · refine ⟨some c, _, by have := run_endLoop (P := P) hl (by rw [hrec]; simp); rw [hrec] at this; exact this, ?_⟩
      rcases hc with ⟨rfl, hq⟩ | ⟨id, rfl, hq⟩
      · exact wpIn_ret ⟨_, hq, _, hnl _⟩
      · exact wpIn_exit ⟨_, hq, _, hnl _⟩
end Go.Fw
