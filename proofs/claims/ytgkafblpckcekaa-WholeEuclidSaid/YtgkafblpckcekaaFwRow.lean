/- Struct and slice literals, rows that grow by append, arrays that a make lays; states that say less; what the call has made and no longer changes. Over any program. -/
import Derived.Test.YtgkafblpckcekaaFwCall
namespace Go.Fw
open Go.RowKit

/- STATES THAT SAY LESS -/
inductive AVI (σ : Nat → Nat) : AV → AV → Prop
  | sv {s s' : SV} (h : SV.imp s s') : AVI σ (.sv s) (.sv s')
  | ptr {i o : Nat} : AVI σ (.ptr i o) (.ptr i o)
  | bsl {i o l c : Nat} : AVI σ (.bsl i o l c) (.bsl i o l c)
  | row {i j : Nat} (h : j = σ i) : AVI σ (.row j) (.row i)
  | rsl {i j o l : Nat} (h : j = σ i) : AVI σ (.rsl j o l) (.rsl i o l)
  | clo {g : FuncId} {js : List Cap} : AVI σ (.clo g js) (.clo g js)
theorem SV.imp_refl (s : SV) : SV.imp s s := fun _ _ h => h
theorem SV.imp_v {x y : Value} (h : x = y) : SV.imp (.v x) (.v y) := by subst h; exact SV.imp_refl _
theorem SV.imp_int {k : IntKind} {p q : Int} (h : p = q) : SV.imp (.v (.int k p)) (.v (.int k q)) := by subst h; exact SV.imp_refl _
theorem SV.imp_bool {p q : Bool} (h : p = q) : SV.imp (.v (.bool p)) (.v (.bool q)) := by subst h; exact SV.imp_refl _
theorem SV.imp_eq {s s' : SV} (h : s = s') : SV.imp s s' := by subst h; exact SV.imp_refl _

theorem AVI.holds {σ : Nat → Nat} {x y : AV} (h : AVI σ x y) {E : Env} {v : Value} (hv : x.holds E v) : y.holds { E with ν := fun i => E.ν (σ i) } v := by
  cases h with
  | sv h => exact h _ _ hv
  | ptr => exact hv
  | bsl => exact hv
  | row h => subst h; exact hv
  | rsl h => subst h; exact hv
  | @clo g js =>
    obtain ⟨vs, rfl, h⟩ := hv
    refine ⟨vs, rfl, ?_⟩
    have key : ∀ (l : List Cap) (vs : List Value), AllC E l vs → AllC { E with ν := fun i => E.ν (σ i) } l vs := by
      intro l
      induction l with
      | nil => intro vs h; cases vs with | nil => trivial | cons _ _ => exact h.elim
      | cons c l ih =>
        intro vs h
        cases vs with
        | nil => exact h.elim
        | cons x xs => exact ⟨by have h1 := h.1; cases c <;> exact h1, ih xs h.2⟩
    exact key js vs h

def AVIs (σ : Nat → Nat) : List AV → List AV → Prop
  | [], [] => True
  | x :: l, y :: l' => AVI σ x y ∧ AVIs σ l l'
  | _, _ => False
theorem AVIs.holds {σ : Nat → Nat} {E : Env} : ∀ {l l' : List AV} {vs : List Value}, AVIs σ l l' → AllV E l vs → AllV { E with ν := fun i => E.ν (σ i) } l' vs
  | [], [], [], _, _ => trivial
  | _ :: _, _ :: _, _ :: _, h, hv => ⟨h.1.holds hv.1, AVIs.holds h.2 hv.2⟩
  | [], [], _ :: _, _, hv => hv.elim
  | _ :: _, _ :: _, [], _, hv => hv.elim
  | [], _ :: _, _, h, _ => h.elim
  | _ :: _, [], _, h, _ => h.elim
def SVIs : List SV → List SV → Prop
  | [], [] => True
  | x :: l, y :: l' => SV.imp x y ∧ SVIs l l'
  | _, _ => False
theorem SVIs.holds {M : Mem} : ∀ {l l' : List SV} {vs : List Value}, SVIs l l' → SV.All M l vs → SV.All M l' vs
  | [], [], [], _, _ => trivial
  | _ :: _, _ :: _, _ :: _, h, hv => ⟨h.1 _ _ hv.1, SVIs.holds h.2 hv.2⟩
  | [], [], _ :: _, _, hv => hv.elim
  | _ :: _, _ :: _, [], _, hv => hv.elim
  | [], _ :: _, _, h, _ => h.elim
  | _ :: _, [], _, h, _ => h.elim
theorem SVIs.refl : ∀ l : List SV, SVIs l l
  | [] => trivial
  | s :: l => ⟨SV.imp_refl s, SVIs.refl l⟩

def lkT : List (Nat × AV) → Nat → AV
  | [], _ => .sv .any
  | (k, x) :: l, s => bif Nat.beq s k then x else lkT l s
def lkB : List (Nat × Box) → Nat → Option Box
  | [], _ => none
  | (k, x) :: l, s => bif Nat.beq s k then some x else lkB l s
def lkR : List (Nat × Row) → Nat → Option Row
  | [], _ => none
  | (k, x) :: l, s => bif Nat.beq s k then some x else lkR l s
/-- A state by lists: of all else nothing is said. -/
def AS.mkL (n : Nat) (ts : List (Nat × AV)) (bs : List (Nat × Box)) (rs : List (Nat × Row)) (g : Nat := 0) (go : Bool := true) : AS :=
  ⟨n, lkT ts, lkB bs, fun i => match lkR rs i with | some R => .live R | none => .un, g, go⟩

def AV.liveIn (bs : List (Nat × Box)) (rs : List (Nat × Row)) : AV → Bool
  | .sv _ => true
  | .ptr i _ => (lkB bs i).isSome
  | .bsl i _ _ _ => (lkB bs i).isSome
  | .row i => (lkR rs i).isSome
  | .rptr i _ => (lkR rs i).isSome
  | .rsl i _ _ => (lkR rs i).isSome
  | .clo _ js => js.all fun c => match c with | .box i => (lkB bs i).isSome | .val _ => true

theorem lkT_mem {ts : List (Nat × AV)} {s : Nat} : lkT ts s = .sv .any ∨ ∃ p ∈ ts, p.1 = s ∧ lkT ts s = p.2 := by
  induction ts with
  | nil => exact .inl rfl
  | cons p ts ih =>
    obtain ⟨k, x⟩ := p
    by_cases h : s = k
    · subst h; exact .inr ⟨(s, x), by simp, rfl, by simp [lkT]⟩
    · simp only [lkT, beq_ne h, cond_false]
      rcases ih with ih | ⟨p, hp, h1, h2⟩
      · exact .inl ih
      · exact .inr ⟨p, List.mem_cons_of_mem _ hp, h1, h2⟩
theorem lkB_mem {bs : List (Nat × Box)} {s : Nat} {B : Box} (h : lkB bs s = some B) : (s, B) ∈ bs := by
  induction bs with
  | nil => cases h
  | cons p bs ih =>
    obtain ⟨k, x⟩ := p
    by_cases e : s = k
    · subst e; simp [lkB] at h; subst h; simp
    · simp only [lkB, beq_ne e, cond_false] at h; exact List.mem_cons_of_mem _ (ih h)
theorem lkR_mem {bs : List (Nat × Row)} {s : Nat} {B : Row} (h : lkR bs s = some B) : (s, B) ∈ bs := by
  induction bs with
  | nil => cases h
  | cons p bs ih =>
    obtain ⟨k, x⟩ := p
    by_cases e : s = k
    · subst e; simp [lkR] at h; subst h; simp
    · simp only [lkR, beq_ne e, cond_false] at h; exact List.mem_cons_of_mem _ (ih h)

theorem mkL_wf {n : Nat} {ts : List (Nat × AV)} {bs : List (Nat × Box)} {rs : List (Nat × Row)} {g : Nat} {go : Bool}
    (h : (ts.all fun p => p.2.liveIn bs rs) && (bs.all fun p => p.2.cells.all fun x => x.liveIn bs rs)) : (AS.mkL n ts bs rs g go).wf := by
  simp only [Bool.and_eq_true, List.all_eq_true] at h
  have kb : ∀ x : AV, x.liveIn bs rs = true → ∀ j, x.mb j → ∃ B, lkB bs j = some B := by
    intro x hx j hj
    cases x with
    | ptr i o => cases hj; exact Option.isSome_iff_exists.1 hx
    | bsl i o l c => cases hj; exact Option.isSome_iff_exists.1 hx
    | clo g js => exact Option.isSome_iff_exists.1 (List.all_eq_true.1 hx (.box j) hj)
    | _ => exact hj.elim
  have kr : ∀ x : AV, x.liveIn bs rs = true → ∀ j, x.mr j → (AS.mkL n ts bs rs g go).r j ≠ .un := by
    intro x hx j hj
    have hs : ∀ i, (lkR rs i).isSome = true → (AS.mkL n ts bs rs g go).r i ≠ .un := by
      intro i hi
      obtain ⟨R, hR⟩ := Option.isSome_iff_exists.1 hi
      simp [AS.mkL, hR]
    cases x with
    | row i => cases hj; exact hs _ hx
    | rptr i k => cases hj; exact hs _ hx
    | rsl i o l => cases hj; exact hs _ hx
    | _ => exact hj.elim
  refine ⟨fun s j hj => ?_, fun s j hj => ?_, fun i B hB x hx j hj => ?_, fun i B hB x hx j hj => ?_⟩
  · rcases lkT_mem (ts := ts) (s := s) with e | ⟨p, hp, _, e⟩
    · rw [show (AS.mkL n ts bs rs g go).t s = lkT ts s from rfl, e] at hj; exact hj.elim
    · rw [show (AS.mkL n ts bs rs g go).t s = lkT ts s from rfl, e] at hj; exact kb _ (h.1 p hp) j hj
  · rcases lkT_mem (ts := ts) (s := s) with e | ⟨p, hp, _, e⟩
    · rw [show (AS.mkL n ts bs rs g go).t s = lkT ts s from rfl, e] at hj; exact hj.elim
    · rw [show (AS.mkL n ts bs rs g go).t s = lkT ts s from rfl, e] at hj; exact kr _ (h.1 p hp) j hj
  · exact kb x (h.2 (i, B) (lkB_mem hB) x hx) j hj
  · exact kr x (h.2 (i, B) (lkB_mem hB) x hx) j hj

def TsI (σ : Nat → Nat) (S : AS) : List (Nat × AV) → Prop
  | [] => True
  | (k, x) :: l => AVI σ (S.t k) x ∧ TsI σ S l
def BsI (σ : Nat → Nat) (S : AS) : List (Nat × Box) → Prop
  | [] => True
  | (k, x) :: l => (∃ cs, S.b k = some ⟨x.T, cs⟩ ∧ AVIs σ cs x.cells) ∧ BsI σ S l
def RsI (σ : Nat → Nat) (S : AS) : List (Nat × Row) → Prop
  | [] => True
  | (k, x) :: l => (∃ cs, S.r (σ k) = .live ⟨x.E, x.sz, x.n, cs⟩ ∧ SVIs cs x.cells) ∧ RsI σ S l
theorem TsI.mem {σ : Nat → Nat} {S : AS} : ∀ {l : List (Nat × AV)}, TsI σ S l → ∀ p ∈ l, AVI σ (S.t p.1) p.2
  | _ :: _, h, p, hp => by
    rcases List.mem_cons.1 hp with rfl | hp
    · exact h.1
    · exact TsI.mem h.2 p hp
theorem BsI.mem {σ : Nat → Nat} {S : AS} : ∀ {l : List (Nat × Box)}, BsI σ S l → ∀ p ∈ l, ∃ cs, S.b p.1 = some ⟨p.2.T, cs⟩ ∧ AVIs σ cs p.2.cells
  | _ :: _, h, p, hp => by
    rcases List.mem_cons.1 hp with rfl | hp
    · exact h.1
    · exact BsI.mem h.2 p hp
theorem RsI.mem {σ : Nat → Nat} {S : AS} : ∀ {l : List (Nat × Row)}, RsI σ S l → ∀ p ∈ l, ∃ cs, S.r (σ p.1) = .live ⟨p.2.E, p.2.sz, p.2.n, cs⟩ ∧ SVIs cs p.2.cells
  | _ :: _, h, p, hp => by
    rcases List.mem_cons.1 hp with rfl | hp
    · exact h.1
    · exact RsI.mem h.2 p hp

theorem HoldsAt.weakL {C : Ctx} {S : AS} {E : Env} {a : Act} {w : World} (h : HoldsAt C S E a w) (σ : Nat → Nat) {n : Nat} {ts : List (Nat × AV)} {bs : List (Nat × Box)} {rs : List (Nat × Row)} {g : Nat} {go : Bool} (hn : S.n = n) (hg : S.g = g) (hgo : S.go = go)
    (hwf : ((ts.all fun p => p.2.liveIn bs rs) && (bs.all fun p => p.2.cells.all fun x => x.liveIn bs rs)) = true) (hσ : ((rs.all fun p => rs.all fun q => !(Nat.beq (σ p.1) (σ q.1)) || Nat.beq p.1 q.1)) = true)
    (ht : TsI σ S ts) (hb : BsI σ S bs) (hr : RsI σ S rs) (hp : ∀ i, 1000 ≤ i → σ i = i) : HoldsAt C (AS.mkL n ts bs rs g go) { E with ν := fun i => E.ν (σ i) } a w where
  wf := mkL_wf hwf
  marks := h.marks
  size := by rw [h.size, hn]; rfl
  os := h.os
  tape := h.tape
  output := h.output
  grown := h.grown
  frame := h.frame
  m0 := h.m0
  mnew := h.mnew
  inW := h.inW
  tm := fun s => by
    rcases lkT_mem (ts := ts) (s := s) with e | ⟨p, hp, rfl, e⟩
    · show (lkT ts s).holds _ _; rw [e]; exact trivial
    · show (lkT ts p.1).holds _ _; rw [e]; exact (ht.mem p hp).holds (h.tm p.1)
  bx := fun i B hB => by
    obtain ⟨cs, h1, h2⟩ := hb.mem (i, B) (lkB_mem hB)
    obtain ⟨h3, h4, h5, vs, h6, h7⟩ := h.bx i _ h1
    exact ⟨h3, h4, h5, vs, h6, h2.holds h7⟩
  inj := fun i j B B' hi hj e => by
    obtain ⟨cs, h1, _⟩ := hb.mem (i, B) (lkB_mem hi)
    obtain ⟨cs', h2, _⟩ := hb.mem (j, B') (lkB_mem hj)
    exact h.inj i j _ _ h1 h2 e
  rx := fun i R hR => by
    have hR' : lkR rs i = some R := by
      simp only [AS.mkL] at hR
      cases e : lkR rs i with
      | none => rw [e] at hR; cases hR
      | some R' => rw [e] at hR; cases hR; rfl
    obtain ⟨cs, h1, h2⟩ := hr.mem (i, R) (lkR_mem hR')
    obtain ⟨⟨vs, h3, h4⟩, h5⟩ := h.rx _ _ h1
    refine ⟨⟨vs, h3, h2.holds h4⟩, fun k hk => ?_⟩
    obtain ⟨h6, h7, h8, h9⟩ := h5 k hk
    refine ⟨h6, h7, h8, fun j B hB => ?_⟩
    obtain ⟨cs', h10, _⟩ := hb.mem (j, B) (lkB_mem hB)
    exact h9 j _ h10
  rinj := fun i j R R' hi hj k h1 h2 => by
    have f : ∀ i R, (AS.mkL n ts bs rs g go).r i = .live R → lkR rs i = some R := by
      intro i R hR
      simp only [AS.mkL] at hR
      cases e : lkR rs i with
      | none => rw [e] at hR; cases hR
      | some R' => rw [e] at hR; cases hR; rfl
    have mi := lkR_mem (f i R hi)
    have mj := lkR_mem (f j R' hj)
    obtain ⟨cs, g1, _⟩ := hr.mem _ mi
    obtain ⟨cs', g2, _⟩ := hr.mem _ mj
    have e := h.rinj _ _ _ _ g1 g2 k h1 h2
    have := List.all_eq_true.1 (List.all_eq_true.1 hσ _ mi) _ mj
    simp only [Bool.or_eq_true, Bool.not_eq_true'] at this
    rcases this with h3 | h3
    · rw [e] at h3; simp at h3
    · exact Nat.eq_of_beq_eq_true h3
  pin := h.pin
  pinr := fun i v e => by show E.ν (σ i) = v; rw [hp i (C.hpr i v e)]; exact h.pinr i v e
  olt := h.olt
  jj := by show C.J g go E.O E.M w; rw [← hg, ← hgo]; exact h.jj

/-- A state by lists says less than S. -/
theorem weakL {S : AS} (σ : Nat → Nat) {n : Nat} {ts : List (Nat × AV)} {bs : List (Nat × Box)} {rs : List (Nat × Row)} {g : Nat} {go : Bool} (hn : S.n = n) (hg : S.g = g) (hgo : S.go = go)
    (hwf : ((ts.all fun p => p.2.liveIn bs rs) && (bs.all fun p => p.2.cells.all fun x => x.liveIn bs rs)) = true) (hσ : ((rs.all fun p => rs.all fun q => !(Nat.beq (σ p.1) (σ q.1)) || Nat.beq p.1 q.1)) = true)
    (ht : TsI σ S ts) (hb : BsI σ S bs) (hr : RsI σ S rs) (hp : ∀ i, 1000 ≤ i → σ i = i) : Weak S (AS.mkL n ts bs rs g go) := fun _ _ _ ⟨_, h⟩ => ⟨_, h.weakL σ hn hg hgo hwf hσ ht hb hr hp⟩
end Go.Fw
