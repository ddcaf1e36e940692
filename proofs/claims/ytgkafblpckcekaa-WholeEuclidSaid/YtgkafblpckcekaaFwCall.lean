/- Stores, addresses, calls, literals, the entry into a function and the way out of it. Over any program. -/
import Derived.Test.YtgkafblpckcekaaFwMem
namespace Go.Fw
open Go.RowKit

/-- A list written over another from k on. -/
def spl {α : Type} : List α → Nat → List α → List α
  | l, _, [] => l
  | l, k, x :: xs => spl (l.set k x) (k + 1) xs

theorem spl_length {α : Type} : ∀ (xs l : List α) (k : Nat), (spl l k xs).length = l.length
  | [], _, _ => rfl
  | x :: xs, l, k => by rw [spl, spl_length xs]; simp
theorem spl_all {E : Env} : ∀ {xs : List AV} {us : List Value} {l : List AV} {vs : List Value} {k : Nat}, AllV E l vs → AllV E xs us → AllV E (spl l k xs) (spl vs k us)
  | [], [], _, _, _, h, _ => h
  | s :: xs, u :: us, l, vs, k, h, hx => by rw [spl, spl]; exact spl_all (h.set hx.1) hx.2
  | [], _ :: _, _, _, _, _, h => h.elim
  | _ :: _, [], _, _, _, _, h => h.elim
theorem spl_whole {α : Type} : ∀ (xs pre l : List α), l.length = xs.length → spl (pre ++ l) pre.length xs = pre ++ xs
  | [], pre, l, h => by simp at h; subst h; rfl
  | x :: xs, pre, [], h => by simp at h
  | x :: xs, pre, y :: l, h => by
    rw [spl]
    have : (pre ++ y :: l).set pre.length x = (pre ++ [x]) ++ l := by simp
    rw [this, show pre.length + 1 = (pre ++ [x]).length by simp, spl_whole xs (pre ++ [x]) l (by simpa using h)]
    simp

/-- A block of cells put in the place of another. -/
def putBlk (w : World) (b : Nat) (vs : List Value) (T : TypeId) : World := { w with heap := w.heap.setIfInBounds b (.cells ⟨vs⟩ T (0, 0)) }

theorem setCell_put {w : World} {b o : Nat} {vs : List Value} {T : TypeId} (hv : w.heap[b]? = some (.cells ⟨vs⟩ T (0, 0))) (u : Value) : w.setCell ⟨b, o, none⟩ u = putBlk w b (vs.set o u) T := by
  have hb := (Array.getElem?_eq_some_iff.1 hv)
  unfold World.setCell putBlk
  congr 1
  apply Array.ext_getElem?
  intro i
  rw [Array.getElem?_modify, Array.getElem?_setIfInBounds]
  by_cases h : b = i
  · subst h
    rw [if_pos rfl, if_pos rfl, if_pos hb.1, hv]
    simp
  · rw [if_neg h, if_neg h]

theorem putBlk_at {w : World} {b : Nat} {vs us : List Value} {T : TypeId} (hv : w.heap[b]? = some (.cells ⟨vs⟩ T (0, 0))) : (putBlk w b us T).heap[b]? = some (.cells ⟨us⟩ T (0, 0)) := by
  have hb := (Array.getElem?_eq_some_iff.1 hv)
  simp [putBlk, hb.1]
theorem putBlk_put {w : World} {b : Nat} {us vs : List Value} {T : TypeId} : putBlk (putBlk w b us T) b vs T = putBlk w b vs T := by
  simp [putBlk]
theorem putBlk_same {w : World} {b : Nat} {vs : List Value} {T : TypeId} (hv : w.heap[b]? = some (.cells ⟨vs⟩ T (0, 0))) : putBlk w b vs T = w := by
  have hb := (Array.getElem?_eq_some_iff.1 hv)
  unfold putBlk
  have : w.heap.setIfInBounds b (.cells ⟨vs⟩ T (0, 0)) = w.heap := by
    apply Array.ext_getElem?
    intro i
    rw [Array.getElem?_setIfInBounds]
    by_cases h : b = i
    · subst h; rw [if_pos rfl, if_pos hb.1, hv]
    · rw [if_neg h]
  rw [this]
theorem putBlk_other {w : World} {b k : Nat} {us : List Value} {T : TypeId} (h : k ≠ b) : (putBlk w b us T).heap[k]? = w.heap[k]? := by
  simp only [putBlk, Array.getElem?_setIfInBounds]
  rw [if_neg (Ne.symm h)]
theorem putBlk_size {w : World} {b : Nat} {us : List Value} {T : TypeId} : (putBlk w b us T).heap.size = w.heap.size := by simp [putBlk]

theorem run_storeCells_box {P : Program} {b : Nat} {T : TypeId} : ∀ (us : List Value) (i o : Nat) (w : World) (vs : List Value), (∀ u ∈ us, u.oneCell' = true) → w.heap[b]? = some (.cells ⟨vs⟩ T (0, 0)) → o + i + us.length ≤ vs.length →
    (storeCells ⟨b, o, none⟩ us i).run P w = .ok () (putBlk w b (spl vs (o + i) us) T)
  | [], i, o, w, vs, _, hv, _ => by
    rw [spl, putBlk_same hv]; rfl
  | u :: us, i, o, w, vs, h1, hv, hl => by
    have hu := h1 u (by simp)
    have hc : w.cell? ⟨b, o + i, none⟩ = some (vs[o + i]'(by simp at hl; omega)) := by
      simp [World.cell?, hv]
    have hf : w.frozen? ⟨b, o + i, none⟩ = false := by simp [World.frozen?, hv]
    have hs := run_store P w ⟨b, o + i, none⟩ u .plain hu
    rw [hc, hf] at hs
    have ih := run_storeCells_box (P := P) us (i + 1) o (putBlk w b (vs.set (o + i) u) T) (vs.set (o + i) u) (fun v hv => h1 v (List.mem_cons_of_mem _ hv)) (putBlk_at hv) (by simp at hl ⊢; omega)
    rw [storeCells, spl]
    simp only [Sem.run_bind, addr_add, hs]
    simp only [Bool.false_eq_true, if_false, Result.andThen_ok]
    rw [setCell_put hv, ih, putBlk_put]
    rfl

section steps
variable {P : Program} {C : Ctx} {ops : Array Oper} {S : AS} {nd : Bool} {K : List Ac → AS → Prop} {rest : List Oper} {acc : List Ac}
variable {gd : Option (Nat × Bool)} {rg : List Nat} {d : Nat} {ty : TypeId} {pos : String} {aft : Array Edge} {x y z : Operand} {T U E0 : TypeId}

/-- A block of the call's own whose cells change. -/
theorem HoldsAt.putBox {E : Env} {a : Act} {w : World} (h : HoldsAt C S E a w) {j : Nat} {B : Box} (hB : S.b j = some B) {cells : List AV} {vs : List Value} (hc : AllV E cells vs) (hl : ∀ x ∈ cells, (∀ j, x.mb j → ∃ B, S.b j = some B) ∧ (∀ j, x.mr j → S.r j ≠ .un)) :
    HoldsAt C (S.setB j ⟨B.T, cells⟩) E a (putBlk w (E.β j) vs B.T) := by
  have hbj := h.bx j B hB
  have liveB : ∀ k, (∃ B, S.b k = some B) → ∃ B', (S.setB j ⟨B.T, cells⟩).b k = some B' := fun k hk => by
    by_cases e : k = j
    · subst e; exact ⟨_, AS.setB_same _ _ _⟩
    · obtain ⟨B', hB'⟩ := hk; exact ⟨B', by rw [AS.setB_other _ _ _ _ e]; exact hB'⟩
  have hinW : E.M.inW (putBlk w (E.β j) vs B.T) := inW_of_same h.inW fun b ⟨o, v, e⟩ => putBlk_other (by
    rintro rfl
    rw [hbj.2.1 o] at e; cases e)
  exact {
    wf := by
      refine ⟨fun s k hk => liveB k (h.wf.tb s k hk), h.wf.tr, fun i B' hB' x hx k hk => ?_, fun i B' hB' x hx k hk => ?_⟩
      · by_cases hi : i = j
        · subst hi; rw [AS.setB_same] at hB'; cases hB'; exact liveB k ((hl x hx).1 k hk)
        · rw [AS.setB_other _ _ _ _ hi] at hB'; exact liveB k (h.wf.bb i B' hB' x hx k hk)
      · by_cases hi : i = j
        · subst hi; rw [AS.setB_same] at hB'; cases hB'; exact (hl x hx).2 k hk
        · rw [AS.setB_other _ _ _ _ hi] at hB'; exact h.wf.br i B' hB' x hx k hk
    marks := by
      obtain ⟨ds, h1, h2, h3⟩ := h.marks
      refine ⟨ds, h1, h2, fun r hr => ?_⟩
      obtain ⟨h4, h5, h6⟩ := h3 r hr
      refine ⟨h4, h5, ?_⟩
      rw [putBlk_other (by rintro rfl; obtain ⟨_, _, _, us, hu, _⟩ := hbj; rw [h6] at hu; cases hu)]; exact h6
    size := h.size
    os := h.os
    tape := h.tape
    output := h.output
    grown := by rw [putBlk_size]; exact h.grown
    frame := fun k hk hk' => by
      have hne : k ≠ E.β j := by
        rintro rfl
        rcases hbj.1 with h1 | h1
        · omega
        · exact hk' (C.hbo _ h1)
      rw [putBlk_other hne]; exact h.frame k hk hk'
    m0 := h.m0
    mnew := h.mnew
    inW := hinW
    tm := h.tm
    bx := fun i B' hB' => by
      by_cases hi : i = j
      · subst hi
        rw [AS.setB_same] at hB'
        cases hB'
        obtain ⟨h1, h2, h3, vs', h4, _⟩ := hbj
        exact ⟨h1, h2, h3, vs, putBlk_at h4, hc⟩
      · rw [AS.setB_other _ _ _ _ hi] at hB'
        obtain ⟨h1, h2, h3, vs', h4, h5⟩ := h.bx i B' hB'
        exact ⟨h1, h2, h3, vs', by rw [putBlk_other (fun e => hi (h.inj i j B' B hB' hB e))]; exact h4, h5⟩
    inj := fun i k B1 B2 h1 h2 e => by
      have f : ∀ i B1, (S.setB j ⟨B.T, cells⟩).b i = some B1 → ∃ B2, S.b i = some B2 := by
        intro i B1 h
        by_cases hi : i = j
        · subst hi; exact ⟨B, hB⟩
        · rw [AS.setB_other _ _ _ _ hi] at h; exact ⟨_, h⟩
      obtain ⟨_, g1⟩ := f i B1 h1
      obtain ⟨_, g2⟩ := f k B2 h2
      exact h.inj i k _ _ g1 g2 e
    rx := fun i R hR => by
      obtain ⟨⟨us, h1, h2⟩, h3⟩ := h.rx i R hR
      refine ⟨⟨us, ownsRow_same h1 fun g hg => putBlk_other (fun e => (h3 g hg).2.2.2 j B hB e.symm), h2⟩, fun g hg => ?_⟩
      obtain ⟨h4, h5, h6, h7⟩ := h3 g hg
      refine ⟨h4, h5, h6, fun k B' hB' => ?_⟩
      by_cases hk : k = j
      · subst hk; exact h7 k B hB
      · rw [AS.setB_other _ _ _ _ hk] at hB'; exact h7 k B' hB'
    rinj := h.rinj
    pin := h.pin
    pinr := h.pinr
    olt := fun b hb => by rw [putBlk_size]; exact h.olt b hb
    jj := C.jf _ _ _ _ _ _ _ h.jj (Mem.le_refl _) hinW (fun _ _ _ e => .inl e)
      (fun b hb => putBlk_other (by
        rintro rfl
        rcases hb with hb | hb
        · rcases hbj.1 with h1 | h1
          · omega
          · exact hb.2 h1
        · exact hbj.2.2.1 hb)) rfl rfl rfl (by rw [putBlk_size]; exact Nat.le_refl _) }

theorem RT.storeG (hg : Gd ops S gd rg) {n : Nat} {j off : Nat} {B : Box} {cs : List AV} (rr : List Nat) (hx : S.ev x = .ptr j off) (hB : S.b j = some B) (hy : ∀ (S' : AS) (E : Env) (a : Act) (w : World), HoldsAt C S' E a w → S'.ev y = S.ev y → (∀ i ∈ rr, S'.r i = S.r i) → ∃ us : List Value, (a.eval y).cells = ⟨us⟩ ∧ AllV E cs us ∧ (∀ u ∈ us, u.oneCell' = true) ∧ ∀ x ∈ cs, (∀ j, x.mb j → ∃ B, S'.b j = some B) ∧ (∀ j, x.mr j → S'.r j ≠ .un))
    (hs : ∀ w : World, (sizeOf T).run P w = .ok n w) (hcl : cs.length = n) (hn : off + n ≤ B.cells.length) {cells : List AV} (hcs : spl B.cells off cs = cells)
    (next : RunT P C ops nd K rest (⟨rg ++ (okeys x ++ okeys y), [j], rr, ⟨none, [(j, ⟨B.T, cells⟩)], []⟩⟩ :: acc) (S.setB j ⟨B.T, cells⟩)) : RunT P C ops nd K (⟨none, .store T x y, ty, pos, aft, gd⟩ :: rest) acc S := by
  refine .inl ⟨_, [j], rr, _, ?_, next⟩
  rintro S' hn' ht hb' hrr i a w L Q ho ⟨E, h⟩ hL
  refine wpOp_of (C := C) ho (hg.wanted h (fun s hs => ht s (List.mem_append_left _ hs)) rfl) ?_
  have h1 : a.eval x = .pointer (some ⟨E.β j, off, none⟩) := by
    have h1 := h.ev x; rw [ev_congr (fun _ h => List.mem_append_right _ (List.mem_append_left _ h)) ht, hx] at h1; exact h1
  obtain ⟨us, hu, hall, hone, hlv⟩ := hy S' E a w h (ev_congr (fun _ h => List.mem_append_right _ (List.mem_append_right _ h)) ht) hrr
  have hB' : S'.b j = some B := by rw [hb' j (by simp)]; exact hB
  obtain ⟨_, _, _, vs, hv, hvs⟩ := h.bx j B hB'
  have hl1 := hall.length
  have hl2 := hvs.length
  have hst := run_storeCells_box (P := P) us 0 off w vs hone hv (by omega)
  have hr : (execOp a.eval ⟨none, .store T x y, ty, pos, aft, gd⟩).run P w = .ok .skip (putBlk w (E.β j) (spl vs off us) B.T) := by
    simp only [execOp, h1, Instr.storeAt, Instr.sureAddr, storeVar, hu]
    simp only [Sem.run_bind, Sem.run_pure, Result.andThen_ok, hs]
    simp only [show ¬ (us.length ≠ n) from by omega, List.size_toArray, if_false]
    simp only [Nat.add_zero] at hst
    simp only [Result.andThen_ok, hst]
  refine wpIn_of (C := C) (by intro c h; cases h) hr (hL _ _ ⟨E, hcs ▸ h.putBox hB' (spl_all hvs hall) ?_⟩)
  have mem_spl : ∀ (xs l : List AV) (k : Nat) (x : AV), x ∈ spl l k xs → x ∈ l ∨ x ∈ xs := by
    intro xs
    induction xs with
    | nil => intro l k x hx; exact .inl hx
    | cons z xs ih =>
      intro l k x hx
      rw [spl] at hx
      rcases ih _ _ _ hx with h1 | h1
      · rcases List.mem_or_eq_of_mem_set h1 with h2 | h2
        · exact .inl h2
        · exact .inr (by simp [h2])
      · exact .inr (List.mem_cons_of_mem _ h1)
  intro x hx
  rcases mem_spl _ _ _ _ hx with hx | hx
  · exact ⟨h.wf.bb j B hB' x hx, h.wf.br j B hB' x hx⟩
  · exact hlv x hx

theorem all_sv_live {S : AS} {cs : List SV} : ∀ x ∈ cs.map AV.sv, (∀ j, x.mb j → ∃ B, S.b j = some B) ∧ (∀ j, x.mr j → S.r j ≠ .un) := fun x hx => by
  obtain ⟨s, _, rfl⟩ := List.mem_map.1 hx
  exact nomb

/-- A whole struct into its box. -/
theorem RT.store (hg : Gd ops S gd rg) {n : Nat} [tA : TyA P T n] {j : Nat} {B : Box} {cs : List SV} [o1 : Ones cs] (hx : S.ev x = .ptr j 0) (hB : S.b j = some B) (hy : S.ev y = .sv (.agg cs)) (hcl : cs.length = n) (hn : B.cells.length = n)
    (next : RunT P C ops nd K rest (⟨rg ++ (okeys x ++ okeys y), [j], [], ⟨none, [(j, ⟨B.T, cs.map AV.sv⟩)], []⟩⟩ :: acc) (S.setB j ⟨B.T, cs.map AV.sv⟩)) : RunT P C ops nd K (⟨none, .store T x y, ty, pos, aft, gd⟩ :: rest) acc S := by
  refine RT.storeG hg [] hx hB (cs := cs.map AV.sv) ?_ (fun w => tA.size w) (by simp [hcl]) (by omega) (cells := cs.map AV.sv) ?_ next
  · intro S' E a w h e _
    have h2 := h.ev y
    rw [e, hy] at h2
    obtain ⟨us, hu, hall⟩ := h2
    exact ⟨us, by rw [hu]; rfl, AllV.of_sv hall, o1.h E.M us hall, all_sv_live⟩
  · exact spl_whole (cs.map AV.sv) [] B.cells (by simp; omega)
/-- A part of a struct's box. -/
theorem RT.storeP (hg : Gd ops S gd rg) {n : Nat} [tA : TyA P T n] {j off : Nat} {B : Box} {cs : List SV} [o1 : Ones cs] (hx : S.ev x = .ptr j off) (hB : S.b j = some B) (hy : S.ev y = .sv (.agg cs)) (hcl : cs.length = n) (hn : off + n ≤ B.cells.length) {cells : List AV} (hcs : spl B.cells off (cs.map AV.sv) = cells)
    (next : RunT P C ops nd K rest (⟨rg ++ (okeys x ++ okeys y), [j], [], ⟨none, [(j, ⟨B.T, cells⟩)], []⟩⟩ :: acc) (S.setB j ⟨B.T, cells⟩)) : RunT P C ops nd K (⟨none, .store T x y, ty, pos, aft, gd⟩ :: rest) acc S := by
  refine RT.storeG hg [] hx hB (cs := cs.map AV.sv) ?_ (fun w => tA.size w) (by simp [hcl]) hn hcs next
  intro S' E a w h e _
  have h2 := h.ev y
  rw [e, hy] at h2
  obtain ⟨us, hu, hall⟩ := h2
  exact ⟨us, by rw [hu]; rfl, AllV.of_sv hall, o1.h E.M us hall, all_sv_live⟩
theorem RT.storeV (hg : Gd ops S gd rg) [tV : TyV P T] {j off : Nat} {B : Box} {s : AV} [o1 : OneA s] (hx : S.ev x = .ptr j off) (hB : S.b j = some B) (hy : S.ev y = s) (hn : off < B.cells.length) {cells : List AV} (hcs : B.cells.set off s = cells)
    (next : RunT P C ops nd K rest (⟨rg ++ (okeys x ++ okeys y), [j], [], ⟨none, [(j, ⟨B.T, cells⟩)], []⟩⟩ :: acc) (S.setB j ⟨B.T, cells⟩)) : RunT P C ops nd K (⟨none, .store T x y, ty, pos, aft, gd⟩ :: rest) acc S := by
  refine RT.storeG hg [] hx hB (cs := [s]) ?_ (fun w => tV.size w) rfl hn (cells := cells) (by rw [← hcs]; rfl) next
  intro S' E a w h e _
  have h2 := h.ev y
  rw [e, hy] at h2
  have := o1.h _ _ h2
  refine ⟨[a.eval y], oneCell_cells this, ⟨h2, trivial⟩, by simpa using this, fun z hz => ?_⟩
  obtain rfl : z = s := by simpa using hz
  exact ev_live h.wf (e.trans hy)
/-- The slice of a row into a variable. -/
theorem RT.storeR (hg : Gd ops S gd rg) [tV : TyV P T] {j off i : Nat} {B : Box} {R : Row} (hx : S.ev x = .ptr j off) (hB : S.b j = some B) (hy : S.ev y = .row i) (hR : S.r i = .live R) (hn : off < B.cells.length) {cells : List AV} (hcs : B.cells.set off (.row i) = cells)
    (next : RunT P C ops nd K rest (⟨rg ++ (okeys x ++ okeys y), [j], [i], ⟨none, [(j, ⟨B.T, cells⟩)], []⟩⟩ :: acc) (S.setB j ⟨B.T, cells⟩)) : RunT P C ops nd K (⟨none, .store T x y, ty, pos, aft, gd⟩ :: rest) acc S := by
  refine RT.storeG hg [i] hx hB (cs := [.row i]) ?_ (fun w => tV.size w) rfl hn (cells := cells) (by rw [← hcs]; rfl) next
  intro S' E a w h e hr
  have h2 := h.ev y
  rw [e, hy] at h2
  obtain ⟨⟨us, ho, _⟩, _⟩ := h.rx i R (by rw [hr i (by simp)]; exact hR)
  have hone : (a.eval y).oneCell' = true := by
    rw [show a.eval y = E.ν i from h2]
    rcases ho.2 with ⟨h3, _⟩ | ⟨g, cap, cur, h3, _⟩ <;> rw [h3] <;> rfl
  refine ⟨[a.eval y], oneCell_cells hone, ⟨h2, trivial⟩, by simpa using hone, fun z hz => ?_⟩
  obtain rfl : z = .row i := by simpa using hz
  exact ev_live h.wf (e.trans hy)

/- ADDRESSES -/
theorem run_fieldAt {f off : Nat} [hf : Fld P T f off U] (hU : ∀ w : World, ∃ n, (sizeOf U).run P w = .ok (n + 1) w) (b o : Nat) (w : World) : (Instr.fieldAt T (.pointer (some ⟨b, o, none⟩)) f).run P w = .ok (.pointer (some ⟨b, o + off, none⟩)) w := by
  have h := hf.h
  cases hu : P.underlying T with
  | none => rw [hu] at h; cases h
  | some u =>
    rw [hu] at h
    cases u with
    | struct fs =>
      simp only at h
      cases hF : fs[f]? with
      | none => rw [hF] at h; cases h
      | some F =>
        rw [hF] at h
        simp only [Option.map_some, Option.some.injEq, Prod.mk.injEq] at h
        obtain ⟨h1, h2⟩ := h
        obtain ⟨n, hn⟩ := hU w
        rw [← h2] at hn
        simp [Instr.fieldAt, underlying, hu, hF, Instr.sureAddr, fieldPlace, hn, addr_add, h1]
    | _ => cases h

/-- The type's values take up a cell or more. -/
class Sized (P : Program) (U : TypeId) : Prop where
  h : ∀ w : World, ∃ n, (sizeOf U).run P w = .ok (n + 1) w
instance [t : TyV P U] : Sized P U := ⟨fun w => ⟨0, t.size w⟩⟩
instance {n : Nat} [t : TyA P U (n + 1)] : Sized P U := ⟨fun w => ⟨n, t.size w⟩⟩

theorem RT.fieldAddr (hg : Gd ops S gd rg) {f off : Nat} [hf : Fld P T f off U] [sU : Sized P U] {j o : Nat} (hx : S.ev x = .ptr j o) (hd : d < S.n) {o' : Nat} (ho' : o + off = o')
    (next : RunT P C ops nd K rest (⟨rg ++ okeys x, [], [], ⟨some (d, .ptr j o'), [], []⟩⟩ :: acc) (S.set d (.ptr j o'))) : RunT P C ops nd K (⟨some d, .fieldAddr T x f, ty, pos, aft, gd⟩ :: rest) acc S :=
  RT.value hg (okeys x) [] [] (.ptr j o') hd (by intro c h; cases h) (fun S' ht _ _ E a w h => by
    have hx' : S'.ev x = .ptr j o := by rw [ev_congr (fun _ h => h) ht, hx]
    have h1 : a.eval x = .pointer (some ⟨E.β j, o, none⟩) := by have h1 := h.ev x; rw [hx'] at h1; exact h1
    have := run_fieldAt (P := P) (T := T) (f := f) (off := off) (U := U) sU.h (E.β j) o w
    refine ⟨.pointer (some ⟨E.β j, o', none⟩), by simp [execOp, h1, this, ho'], rfl, ?_⟩
    have hl := ev_live h.wf hx'
    exact ⟨fun k hk => hl.1 k hk, fun k hk => hk.elim⟩) next
theorem ref_drop {cells : List SV} {off : Nat} {M : Mem} {b o : Nat} (h : ∀ (k : Nat) (s : SV), cells[k]? = some s → ∃ y, M b (o + k) = some y ∧ s.h M y) : (ref (cells.drop off)).h M (.pointer (some ⟨b, o + off, none⟩)) :=
  ⟨b, o + off, rfl, fun k s hk => by
    rw [List.getElem?_drop] at hk
    have := h (off + k) s hk
    rwa [show o + (off + k) = o + off + k by omega] at this⟩
theorem RT.fieldAddrR (hg : Gd ops S gd rg) {f off : Nat} [hf : Fld P T f off U] [sU : Sized P U] {cells cs : List SV} (hx : S.ev x = .sv (ref cells)) (hd : d < S.n) (hcs : cells.drop off = cs)
    (next : RunT P C ops nd K rest (⟨rg ++ okeys x, [], [], ⟨some (d, .sv (ref cs)), [], []⟩⟩ :: acc) (S.set d (.sv (ref cs)))) : RunT P C ops nd K (⟨some d, .fieldAddr T x f, ty, pos, aft, gd⟩ :: rest) acc S :=
  RT.value hg (okeys x) [] [] (.sv (ref cs)) hd (by intro c h; cases h) (fun S' ht _ _ E a w h => by
    have h1 := h.ev x
    rw [ev_congr (fun _ h => h) ht, hx] at h1
    obtain ⟨b, o, e, hc⟩ := h1
    have := run_fieldAt (P := P) (T := T) (f := f) (off := off) (U := U) sU.h b o w
    exact ⟨_, by simp [execOp, e, this], hcs ▸ ref_drop hc, nomb⟩) next

/-- The address of an element of a slice that no longer changes. -/
theorem RT.indexAddr (hg : Gd ops S gd rg) {n : Nat} [tS : TySl P T E0 n] {s : SV} {rows : List (List SV)} [hs : Slc s n rows] {kk : IntKind} {i : Int} (row : List SV) (hx : S.ev x = .sv s) (hy : S.ev y = .sv (.v (.int kk i))) (hd : d < S.n) (h0 : 0 ≤ i) (hi : rows[i.toNat]? = some row)
    (next : RunT P C ops nd K rest (⟨rg ++ (okeys x ++ okeys y), [], [], ⟨some (d, .sv (ref row)), [], []⟩⟩ :: acc) (S.set d (.sv (ref row)))) : RunT P C ops nd K (⟨some d, .indexAddr T x y, ty, pos, aft, gd⟩ :: rest) acc S :=
  RT.value hg (okeys x ++ okeys y) [] [] (.sv (ref row)) hd (by intro c h; cases h) (fun S' ht _ _ E a w h => by
    have h1 := h.ev x
    rw [ev_congr (fun _ h => List.mem_append_left _ h) ht, hx] at h1
    have h2 : a.eval y = .int kk i := by have h2 := h.ev y; rw [ev_congr (fun _ h => List.mem_append_right _ h) ht, hy] at h2; exact h2
    have hlt : i.toNat < rows.length := (List.getElem?_eq_some_iff.1 hi).1
    rcases hs.h _ _ h1 with ⟨_, _, e⟩ | ⟨b, o, c, e, hc, hc2, hr⟩
    · subst e; simp at hlt
    · refine ⟨.pointer (some ⟨b, o + i.toNat * n, none⟩), ?_, ⟨b, _, rfl, fun k s hk => ?_⟩, nomb⟩
      · have hsz := tS.size w
        have hb : 0 ≤ i ∧ i < (rows.length : Int) := ⟨h0, by omega⟩
        simp [execOp, h2, e, Instr.indexAt, asIntOf, underlying, tS.u, hsz, addr_add, hb]
      · obtain ⟨y, h3, _, h4⟩ := (hr i.toNat row hi).2 k s hk
        exact ⟨y, h3, h4⟩) next

/-- The address of an element of a slice over a box. -/
theorem RT.indexAddrB (hg : Gd ops S gd rg) {n : Nat} [tS : TySl P T E0 n] {j o l c : Nat} {kk : IntKind} {i : Int} (hx : S.ev x = .bsl j o l c) (hy : S.ev y = .sv (.v (.int kk i))) (hd : d < S.n) (h0 : 0 ≤ i) (hi : i < l) {k : Nat} (hk : o + i.toNat * n = k)
    (next : RunT P C ops nd K rest (⟨rg ++ (okeys x ++ okeys y), [], [], ⟨some (d, .ptr j k), [], []⟩⟩ :: acc) (S.set d (.ptr j k))) : RunT P C ops nd K (⟨some d, .indexAddr T x y, ty, pos, aft, gd⟩ :: rest) acc S :=
  RT.value hg (okeys x ++ okeys y) [] [] (.ptr j k) hd (by intro c h; cases h) (fun S' ht _ _ E a w h => by
    have hx' : S'.ev x = .bsl j o l c := by rw [ev_congr (fun _ h => List.mem_append_left _ h) ht, hx]
    have h1 : a.eval x = .slice (some ⟨E.β j, o, none⟩) l c := by have h1 := h.ev x; rw [hx'] at h1; exact h1
    have h2 : a.eval y = .int kk i := by have h2 := h.ev y; rw [ev_congr (fun _ h => List.mem_append_right _ h) ht, hy] at h2; exact h2
    have hl := ev_live h.wf hx'
    refine ⟨.pointer (some ⟨E.β j, k, none⟩), ?_, rfl, fun k hk => hl.1 k hk, fun k hk => hk.elim⟩
    have hsz := tS.size w
    have hb : 0 ≤ i ∧ i < (l : Int) := ⟨h0, hi⟩
    simp [execOp, h2, h1, Instr.indexAt, asIntOf, underlying, tS.u, hsz, addr_add, hb, hk]) next

theorem RT.len (hg : Gd ops S gd rg) {n m : Nat} [tS : TySl P T E0 m] {s : SV} [hl : Len s n] (hx : S.ev x = .sv s) (hd : d < S.n)
    (next : RunT P C ops nd K rest (⟨rg ++ okeys x, [], [], ⟨some (d, .sv (.v (.int .i64 n))), [], []⟩⟩ :: acc) (S.set d (.sv (.v (.int .i64 n))))) : RunT P C ops nd K (⟨some d, .call ⟨.builtin .len, #[x], #[T]⟩, ty, pos, aft, gd⟩ :: rest) acc S :=
  RT.value hg (okeys x) [] [] (.sv (.v (.int .i64 n))) hd (by intro c h; cases h) (fun S' ht _ _ E a w h => by
    have h1 := h.ev x
    rw [ev_congr (fun _ h => h) ht, hx] at h1
    obtain ⟨b, c, e⟩ := hl.h _ _ h1
    exact ⟨_, by simp [execOp, resolve, invoke, builtin, Builtin.len_, underlying, tS.u, e, goInt], rfl, nomb⟩) next
theorem RT.lenB (hg : Gd ops S gd rg) {m : Nat} [tS : TySl P T E0 m] {j o l c : Nat} (hx : S.ev x = .bsl j o l c) (hd : d < S.n)
    (next : RunT P C ops nd K rest (⟨rg ++ okeys x, [], [], ⟨some (d, .sv (.v (.int .i64 l))), [], []⟩⟩ :: acc) (S.set d (.sv (.v (.int .i64 l))))) : RunT P C ops nd K (⟨some d, .call ⟨.builtin .len, #[x], #[T]⟩, ty, pos, aft, gd⟩ :: rest) acc S :=
  RT.value hg (okeys x) [] [] (.sv (.v (.int .i64 l))) hd (by intro c h; cases h) (fun S' ht _ _ E a w h => by
    have h1 : a.eval x = .slice (some ⟨E.β j, o, none⟩) l c := by have h1 := h.ev x; rw [ev_congr (fun _ h => h) ht, hx] at h1; exact h1
    exact ⟨_, by simp [execOp, resolve, invoke, builtin, Builtin.len_, underlying, tS.u, h1, goInt], rfl, nomb⟩) next
theorem RT.lenR (hg : Gd ops S gd rg) {m : Nat} [tS : TySl P T E0 m] {i : Nat} {R : Row} (hx : S.ev x = .row i) (hR : S.r i = .live R) (hd : d < S.n)
    (next : RunT P C ops nd K rest (⟨rg ++ okeys x, [], [i], ⟨some (d, .sv (.v (.int .i64 R.n))), [], []⟩⟩ :: acc) (S.set d (.sv (.v (.int .i64 R.n))))) : RunT P C ops nd K (⟨some d, .call ⟨.builtin .len, #[x], #[T]⟩, ty, pos, aft, gd⟩ :: rest) acc S :=
  RT.value hg (okeys x) [] [i] (.sv (.v (.int .i64 R.n))) hd (by intro c h; cases h) (fun S' ht _ hr E a w h => by
    have h1 : a.eval x = E.ν i := by have h1 := h.ev x; rw [ev_congr (fun _ h => h) ht, hx] at h1; exact h1
    obtain ⟨⟨us, ho, _⟩, _⟩ := h.rx i R (by rw [hr i (by simp)]; exact hR)
    obtain ⟨b, c, e⟩ : ∃ b c, E.ν i = .slice b R.n c := by
      rcases ho.2 with ⟨h3, h4⟩ | ⟨g, cap, cur, h3, _⟩
      · exact ⟨none, 0, by rw [h3, h4]⟩
      · exact ⟨_, _, h3⟩
    rw [e] at h1
    exact ⟨_, by simp [execOp, resolve, invoke, builtin, Builtin.len_, underlying, tS.u, h1, goInt], rfl, nomb⟩) next
theorem RT.lenS (hg : Gd ops S gd rg) [tS : TyStr P T] {s : ByteArray} (hx : S.ev x = .sv (.v (.string s))) (hd : d < S.n)
    (next : RunT P C ops nd K rest (⟨rg ++ okeys x, [], [], ⟨some (d, .sv (.v (.int .i64 s.size))), [], []⟩⟩ :: acc) (S.set d (.sv (.v (.int .i64 s.size))))) : RunT P C ops nd K (⟨some d, .call ⟨.builtin .len, #[x], #[T]⟩, ty, pos, aft, gd⟩ :: rest) acc S :=
  RT.op1 hg (by intro c h; cases h) hx hd (fun ρ w h1 => by simp [execOp, resolve, invoke, builtin, Builtin.len_, underlying, tS.h, h1, goInt]) next
theorem RT.max (hg : Gd ops S gd rg) {k k' : IntKind} {p q : Int} {at_ : Array TypeId} (c : Int) (hx : S.ev x = .sv (.v (.int k p))) (hy : S.ev y = .sv (.v (.int k' q))) (hd : d < S.n) (hc : (if q > p then q else p) = c)
    (next : RunT P C ops nd K rest (⟨rg ++ (okeys x ++ okeys y), [], [], ⟨some (d, .sv (.v (.int k c))), [], []⟩⟩ :: acc) (S.set d (.sv (.v (.int k c))))) : RunT P C ops nd K (⟨some d, .call ⟨.builtin .max, #[x, y], at_⟩, ty, pos, aft, gd⟩ :: rest) acc S :=
  RT.op2 hg (by intro c h; cases h) hx hy hd (fun ρ w h1 h2 => by simp [execOp, resolve, invoke, builtin, Builtin.max_, Builtin.max2, h1, h2, ← hc]) next
theorem RT.min (hg : Gd ops S gd rg) {k k' : IntKind} {p q : Int} {at_ : Array TypeId} (c : Int) (hx : S.ev x = .sv (.v (.int k p))) (hy : S.ev y = .sv (.v (.int k' q))) (hd : d < S.n) (hc : (if q < p then q else p) = c)
    (next : RunT P C ops nd K rest (⟨rg ++ (okeys x ++ okeys y), [], [], ⟨some (d, .sv (.v (.int k c))), [], []⟩⟩ :: acc) (S.set d (.sv (.v (.int k c))))) : RunT P C ops nd K (⟨some d, .call ⟨.builtin .min, #[x, y], at_⟩, ty, pos, aft, gd⟩ :: rest) acc S :=
  RT.op2 hg (by intro c h; cases h) hx hy hd (fun ρ w h1 h2 => by simp [execOp, resolve, invoke, builtin, Builtin.min_, Builtin.min2, h1, h2, ← hc]) next

/- CALLS -/
def AllSv (S : AS) : List Operand → List SV → Prop
  | [], [] => True
  | x :: xs, s :: ss => S.ev x = .sv s ∧ AllSv S xs ss
  | _, _ => False

theorem AllSv.vals {E : Env} {a : Act} {w : World} {S' : AS} (h : HoldsAt C S' E a w) : ∀ {xs : List Operand} {ss : List SV}, AllSv S xs ss → (∀ s ∈ xs.flatMap okeys, S'.t s = S.t s) → SV.All E.M ss (xs.map a.eval)
  | [], [], _, _ => trivial
  | x :: xs, s :: ss, hs, ht => by
    have h1 := h.ev x
    rw [ev_congr (fun t h => List.mem_flatMap.2 ⟨x, by simp, h⟩) ht, hs.1] at h1
    refine ⟨h1, AllSv.vals (xs := xs) (ss := ss) h hs.2 (fun t h => ht t ?_)⟩
    rw [List.flatMap_cons]; exact List.mem_append_right _ h
  | [], _ :: _, h, _ => h.elim
  | _ :: _, [], h, _ => h.elim

theorem RT.call (hg : Gd ops S gd rg) {f : FuncId} [Ent P f] {g : Operand} {xs : Array Operand} {at_ : Array TypeId} {args : List SV} {r : SV} (hp : Pure P f args r) (hf : S.ev g = .sv (.v (.func (.func f) #[] #[]))) (hargs : AllSv S xs.toList args) (hd : d < S.n)
    (next : RunT P C ops nd K rest (⟨rg ++ (okeys g ++ xs.toList.flatMap okeys), [], [], ⟨some (d, .sv r), [], []⟩⟩ :: acc) (S.set d (.sv r))) : RunT P C ops nd K (⟨some d, .call ⟨.value g, xs, at_⟩, ty, pos, aft, gd⟩ :: rest) acc S := by
  refine .inl ⟨_, [], [], _, ?_, next⟩
  rintro S' hn ht _ _ i a w L Q ho ⟨E, h⟩ hL
  refine wpOp_of (C := C) ho (hg.wanted h (fun s hs => ht s (List.mem_append_left _ hs)) rfl) ?_
  have hgf : a.eval g = .func (.func f) #[] #[] := by
    have h1 := h.ev g; rw [ev_congr (fun _ h => List.mem_append_right _ (List.mem_append_left _ h)) ht, hf] at h1; exact h1
  have hall := AllSv.vals h hargs (fun s hs => ht s (List.mem_append_right _ (List.mem_append_right _ hs)))
  have hr : (execOp a.eval ⟨some d, .call ⟨.value g, xs, at_⟩, ty, pos, aft, gd⟩).run P w = .ok (.enter f ⟨xs.toList.map a.eval⟩) w := by
    have e2 : xs.map a.eval = ⟨xs.toList.map a.eval⟩ := by apply Array.ext'; simp
    have e1 := Ent.run (P := P) (f := f) (xs.map a.eval) w
    rw [← e2]
    simp [execOp, resolve, hgf, Deferred.ofValue, invoke, e1]
  refine wpIn_of (C := C) (by intro c h; cases h) hr ?_
  refine ⟨fun h => by simp at h, fr_calls ((hp E.M w _ h.inW hall).mono ?_)⟩
  rintro e w' ⟨v, M', rfl, hM, hnew, hin, hv, hb⟩
  exact hL _ _ ⟨_, (h.grow hM hnew hin hb).put (x := .sv r) hv (by show d < S'.n; omega) nomb⟩

theorem RT.extract (hg : Gd ops S gd rg) {i : Nat} {ss : List SV} {s : SV} (hx : S.ev x = .sv (.tup ss)) (hi : ss[i]? = some s) (hd : d < S.n)
    (next : RunT P C ops nd K rest (⟨rg ++ okeys x, [], [], ⟨some (d, .sv s), [], []⟩⟩ :: acc) (S.set d (.sv s))) : RunT P C ops nd K (⟨some d, .extract x i, ty, pos, aft, gd⟩ :: rest) acc S :=
  RT.value hg (okeys x) [] [] (.sv s) hd (by intro c h; cases h) (fun S' ht _ _ E a w h => by
    have h1 := h.ev x
    rw [ev_congr (fun _ h => h) ht, hx] at h1
    obtain ⟨vs, hv, hall⟩ := h1
    obtain ⟨u, hu, hs⟩ := hall.get hi
    exact ⟨u, by simp [execOp, hv, Instr.extract, hu], hs, nomb⟩) next
end steps

/- THE WAY IN AND OUT -/
def argAt : List SV → Nat → AV
  | [], _ => .sv .any
  | s :: _, 0 => .sv s
  | _ :: l, n + 1 => argAt l n
def AS.init (n : Nat) (args : List SV) : AS := ⟨n, argAt args, fun _ => none, fun _ => .un, 0, true⟩

theorem argAt_sv : ∀ (l : List SV) (k : Nat), ∃ s, argAt l k = .sv s
  | [], _ => ⟨_, rfl⟩
  | s :: _, 0 => ⟨s, rfl⟩
  | _ :: l, n + 1 => argAt_sv l n
theorem argAt_holds {E : Env} : ∀ {args : List SV} {vs : List Value} {k : Nat} (rest : List Value), SV.All E.M args vs → (argAt args k).holds E ((vs ++ rest)[k]?.getD undef)
  | [], [], _, _, _ => trivial
  | s :: args, v :: vs, 0, _, h => h.1
  | s :: args, v :: vs, k + 1, rest, h => by
    have := argAt_holds (E := E) (k := k) rest (show SV.All E.M args vs from h.2)
    simpa [argAt] using this
  | [], _ :: _, _, _, h => h.elim
  | _ :: _, [], _, _, h => h.elim

/-- What a function hands back, read off the abstract state. -/
def ResVar (P : Program) (S : AS) : ResultVar → SV → Prop
  | .tmp t, s => S.t t = .sv s
  | .cell t T, s => ∃ i B, S.t t = .ptr i 0 ∧ S.b i = some B ∧ ((∃ n cs, TyA P T n ∧ Seg B.cells 0 cs ∧ cs.length = n ∧ s = .agg cs) ∨ (TyV P T ∧ B.cells = [.sv s]))
def ResVars (P : Program) (S : AS) : List ResultVar → List SV → Prop
  | [], [] => True
  | r :: rs, s :: ss => ResVar P S r s ∧ ResVars P S rs ss
  | _, _ => False
def Res (P : Program) (S : AS) (rs : List ResultVar) (r : SV) : Prop := ∃ ss, ResVars P S rs ss ∧ SV.imp (match ss with | [s] => s | ss => .tup ss) r

theorem resVar_run {P : Program} {C : Ctx} {S : AS} {E : Env} {a : Act} {w : World} (h : HoldsAt C S E a w) {rv : ResultVar} {s : SV} (hr : ResVar P S rv s) :
    ∃ v, (match rv with | .tmp t => pure (a.tmps.getD t undef) | .cell b t => do loadVar t (← asAddr (a.tmps.getD b undef)) : Sem Value).run P w = .ok v w ∧ s.h E.M v := by
  cases rv with
  | tmp t =>
    have := h.tm t
    rw [show S.t t = .sv s from hr] at this
    exact ⟨_, rfl, this⟩
  | cell t T =>
    obtain ⟨i, B, h1, h2, h3⟩ := hr
    have ht : a.tmps.getD t undef = .pointer (some ⟨E.β i, 0, none⟩) := by have := h.tm t; rw [h1] at this; exact this
    obtain ⟨_, _, _, vs, hv, hall⟩ := h.bx i B h2
    rcases h3 with ⟨n, cs, tA, hseg, hn, rfl⟩ | ⟨tV, hc⟩
    · obtain ⟨us, hus, hget⟩ := hseg.vals hall
      have hl := hus.length
      refine ⟨.agg ⟨us⟩, ?_, us, rfl, hus⟩
      have := run_loadAgg (P := P) (T := T) (n := n) (w := w) (b := E.β i) (o := 0) (vs := us) (by omega) (fun j v e => by simp [World.cell?, hv]; simpa using hget j v e)
      simp [ht, asAddr, this]
    · rw [hc] at hall
      cases vs with
      | nil => exact hall.elim
      | cons u us =>
        cases us with
        | cons _ _ => exact hall.2.elim
        | nil =>
          refine ⟨u, ?_, hall.1⟩
          have hcc : w.cell? ⟨E.β i, 0, none⟩ = some u := by simp [World.cell?, hv]
          simp [ht, asAddr, loadVar, tV.isAgg, hcc]

theorem resVars_run {P : Program} {C : Ctx} {S : AS} {E : Env} {a : Act} {w : World} (h : HoldsAt C S E a w) : ∀ {rs : List ResultVar} {ss : List SV}, ResVars P S rs ss →
    ∃ vs : List Value, (rs.mapM (fun (rv : ResultVar) => (match rv with | .tmp t => pure (a.tmps.getD t undef) | .cell b t => do loadVar t (← asAddr (a.tmps.getD b undef)) : Sem Value))).run P w = .ok vs w ∧ SV.All E.M ss vs
  | [], [], _ => ⟨[], rfl, trivial⟩
  | r :: rs, s :: ss, hr => by
    obtain ⟨v, h1, h2⟩ := resVar_run h hr.1
    obtain ⟨vs, h3, h4⟩ := resVars_run h hr.2
    refine ⟨v :: vs, ?_, h2, h4⟩
    rw [List.mapM_cons]
    simp only [Sem.run_bind, h1, Result.andThen_ok, h3, Sem.run_pure]
  | [], _ :: _, h => h.elim
  | _ :: _, [], h => h.elim

theorem res_run {P : Program} {C : Ctx} {S : AS} {E : Env} {a : Act} {w : World} (h : HoldsAt C S E a w) {fn : Func} {ss : List SV} (hss : ResVars P S fn.results.toList ss) :
    ∃ v, (results fn a.tmps).run P w = .ok v w ∧ (match ss with | [s] => s | ss => SV.tup ss).h E.M v := by
  obtain ⟨us, hus, hall⟩ := resVars_run h hss
  unfold results
  rw [← Array.toArray_toList (xs := fn.results), List.mapM_toArray]
  simp only [Sem.run_bind, Sem.run_map]
  generalize hm : List.mapM (m := Sem) (β := Value) _ fn.results.toList = m
  have hus' : m.run P w = .ok us w := by rw [← hm]; exact hus
  rw [hus']
  simp only [Result.andThen_ok, Sem.run_pure]
  refine ⟨_, rfl, ?_⟩
  cases us with
  | nil => cases ss with
    | nil => exact ⟨[], by simp, trivial⟩
    | cons _ _ => exact hall.elim
  | cons u us =>
    cases ss with
    | nil => exact hall.elim
    | cons s ss =>
      cases us with
      | nil => cases ss with
        | nil => simpa using hall.1
        | cons _ _ => exact hall.2.elim
      | cons u' us =>
        cases ss with
        | nil => exact hall.2.elim
        | cons s' ss => exact ⟨u :: u' :: us, by simp, hall⟩

/-- The marks of range-over-func loops are taken up one by one; nothing that the state speaks of changes. -/
theorem leaves_marks {P : Program} {fn : Func} {tmps : Array Value} {R : Ending → World → Prop} : ∀ (ds : List Nat) (w : World), ds.Nodup → (∀ r ∈ ds, w.heap[r]? = some (.deferred (some []))) →
    (∀ w' : World, w'.os = w.os → w'.tape = w.tape → w'.output = w.output → w'.heap.size = w.heap.size → (∀ k, k ∉ ds → w'.heap[k]? = w.heap[k]?) → ∃ v, (results fn tmps).run P w' = .ok v w' ∧ R (.returned v) w') →
    LeavesInM (Fr none) 0 P fn tmps R (ds.map markOf) .returning w
  | [], w, _, _, h => by
    obtain ⟨v, h1, h2⟩ := h w rfl rfl rfl rfl (fun _ _ => rfl)
    exact ⟨v, h1, h2⟩
  | r :: ds, w, hnd, hr, h => by
    have hr0 := hr r (by simp)
    obtain ⟨hnr, hnd'⟩ := List.nodup_cons.1 hnd
    have hsz := (Array.getElem?_eq_some_iff.1 hr0).1
    refine ⟨by simp, .inl ⟨r, { w with heap := w.heap.setIfInBounds r (.deferred none) }, rfl, ?_, ?_⟩⟩
    · simp [Instr.takeDeferred, getObj, setObj, Sem.run, hr0, bind, Sem.bind, pure]
    · refine leaves_marks ds _ hnd' (fun r' hr' => ?_) (fun w' h1 h2 h3 h4 h5 => ?_)
      · have hne : r ≠ r' := by rintro rfl; exact hnr hr'
        rw [Array.getElem?_setIfInBounds, if_neg hne]
        exact hr r' (List.mem_cons_of_mem _ hr')
      · refine h w' h1 h2 h3 (by rw [h4]; simp) (fun k hk => ?_)
        rw [List.mem_cons, not_or] at hk
        rw [h5 k hk.2, Array.getElem?_setIfInBounds, if_neg (Ne.symm hk.1)]

/-- A world that differs at the marks alone. -/
theorem HoldsAt.unmarked {C : Ctx} {S : AS} {E : Env} {a : Act} {w w' : World} (h : HoldsAt C S E a w) {ds : List Nat} (hds : ∀ r ∈ ds, C.w0.heap.size ≤ r ∧ ¬ E.O r ∧ w.heap[r]? = some (.deferred (some [])))
    (h1 : w'.os = w.os) (h2 : w'.tape = w.tape) (h3 : w'.output = w.output) (h4 : w'.heap.size = w.heap.size) (h5 : ∀ k, k ∉ ds → w'.heap[k]? = w.heap[k]?) : HoldsAt C S E { a with defers := [] } w' := by
  have cell : ∀ (k : Nat) (vs : Array Value) (T : TypeId), w.heap[k]? = some (Obj.cells vs T (0, 0)) → w'.heap[k]? = w.heap[k]? := fun k vs T hk => h5 k (fun hm => by rw [(hds k hm).2.2] at hk; cases hk)
  have hin : E.M.inW w' := inW_of_same h.inW fun b ⟨o, v, e⟩ => h5 b (fun hm => by
    have := h.inW b o v e
    simp [World.cell?, (hds b hm).2.2] at this)
  exact {
    wf := h.wf
    marks := ⟨[], rfl, List.nodup_nil, by simp⟩
    size := h.size
    os := h1.trans h.os
    tape := h2.trans h.tape
    output := h3.trans h.output
    grown := by rw [h4]; exact h.grown
    frame := fun k hk hk' => by rw [h5 k (fun hm => by have := (hds k hm).1; omega)]; exact h.frame k hk hk'
    m0 := h.m0
    mnew := h.mnew
    inW := hin
    tm := h.tm
    bx := fun i B hB => by
      obtain ⟨h6, h7, h8, vs, h9, h10⟩ := h.bx i B hB
      exact ⟨h6, h7, h8, vs, by rw [cell _ _ _ h9]; exact h9, h10⟩
    inj := h.inj
    rx := fun i R hR => by
      obtain ⟨⟨us, h6, h7⟩, h8⟩ := h.rx i R hR
      refine ⟨⟨us, ownsRow_same h6 fun g hg => ?_, h7⟩, h8⟩
      rcases h6.2 with ⟨h9, _⟩ | ⟨g', cap, cur, h9, _, h10, _⟩
      · rw [h9] at hg; cases hg
      · rw [h9] at hg; cases hg; exact cell _ _ _ h10
    rinj := h.rinj
    pin := h.pin
    pinr := h.pinr
    olt := fun b hb => by rw [h4]; exact h.olt b hb
    jj := C.jf _ _ _ _ _ _ _ h.jj (Mem.le_refl _) hin (fun _ _ _ e => .inl e) (fun b hb => h5 b (fun hm => by
      rcases hb with hb | hb
      · have := (hds b hm).1; omega
      · exact (hds b hm).2.1 hb)) h1 h2 h3 (by rw [h4]; exact Nat.le_refl _) }

def ctx0 (w : World) (M : Mem) : Ctx := { w0 := w, M0 := M, own := fun _ => False, bor := fun _ => False, pin := fun _ => none, pinr := fun _ => none, ro := none, J := fun _ _ _ _ _ => True, hbo := fun _ h => h, hpr := fun _ _ h => (by cases h), jf := fun _ _ _ _ _ _ _ _ _ _ _ _ _ _ _ _ => trivial }

theorem init_holds {n : Nat} {args : List SV} {vs : List Value} {w : World} {M : Mem} (hM : M.inW w) (hvs : SV.All M args vs) (hn : args.length ≤ n) :
    HoldsAt (ctx0 w M) (AS.init n args) ⟨fun _ => 0, fun _ => .nilIface, fun _ => False, M⟩ { tmps := ⟨vs⟩ ++ Array.replicate (n - (⟨vs⟩ : Array Value).size) undef, defers := [] } w := by
  have hl := hvs.length
  refine ⟨⟨fun s j hj => ?_, fun s j hj => ?_, fun i B e => (by cases e), fun i B e => (by cases e)⟩, ⟨[], rfl, List.nodup_nil, by simp⟩, by simp [AS.init]; omega, rfl, rfl, rfl, Nat.le_refl _, fun _ _ _ => rfl, Mem.le_refl _, fun _ _ _ e => .inl e, hM, fun s => ?_, fun i B e => (by cases e), fun i j B B' e => (by cases e), fun i R e => (by cases e), fun i j R R' e => (by cases e), fun i b e => (by cases e), fun i b e => (by cases e), fun b e => e.elim, trivial⟩
  · obtain ⟨s', hs'⟩ := argAt_sv args s
    rw [show (AS.init n args).t s = argAt args s from rfl, hs'] at hj; exact hj.elim
  · obtain ⟨s', hs'⟩ := argAt_sv args s
    rw [show (AS.init n args).t s = argAt args s from rfl, hs'] at hj; exact hj.elim
  · have := argAt_holds (E := ⟨fun _ => 0, fun _ => .nilIface, fun _ => False, M⟩) (k := s) (List.replicate (n - vs.length) undef) hvs
    rw [Array.getD_eq_getD_getElem?]
    simpa [AS.init, List.getElem?_toArray, Array.getElem?_append, List.getElem?_append, List.getElem?_replicate, Array.getElem?_replicate] using this

/-- A contract out of the body followed from its arguments to its results. -/
theorem pure_of_ok {P : Program} {f : FuncId} {fn : Func} {code : Code} {args : List SV} {r : SV} (hf : P.funcs[f]? = some fn) (hb : fn.body = some code) (hn : args.length ≤ fn.ntmps)
    (h : ∀ (w : World) (M : Mem) (vs : List Value), SV.All M args vs → Ok P (ctx0 w M) code (AS.init fn.ntmps args) (fun e S => (e = .normal ∨ e = .ret) ∧ Res P S fn.results.toList r)) : Pure P f args r := by
  intro M w vs hM hvs
  refine (callsIn_wide (n := 0)).1 (callsIn_of_wp_marks (F := Fence.wide) hf hb trivial ?_)
  refine wpIn_mono (h w M vs hvs _ w ⟨_, init_holds hM hvs hn⟩) ?_
  rintro e a' w' ⟨S', ⟨he, ss, hss, himp⟩, E, hh⟩
  have key : LeavesInM Fence.wide 0 P fn a'.tmps (fun e w' => ∃ v M', e = .returned v ∧ M.le M' ∧ (∀ b o x, M' b o = some x → M b o = some x ∨ w.heap.size ≤ b) ∧ M'.inW w' ∧ r.h M' v ∧ Below w.heap.size w w') a'.defers .returning w' := by
    obtain ⟨ds, h1, h2, h3⟩ := hh.marks
    rw [h1]
    refine leaves_marks ds w' h2 (fun r hr => (h3 r hr).2.2) (fun w2 g1 g2 g3 g4 g5 => ?_)
    have hh2 := hh.unmarked h3 g1 g2 g3 g4 g5
    obtain ⟨v, hv, hs⟩ := res_run hh2 hss
    refine ⟨v, hv, v, E.M, rfl, hh2.m0, fun b o x e => ?_, hh2.inW, himp _ _ hs, hh2.os, hh2.tape, hh2.output, hh2.grown, fun k hk => hh2.frame k hk (fun h => h)⟩
    rcases hh2.mnew b o x e with h | h | h
    · exact .inl h
    · exact .inr h
    · exact h.elim
  rcases he with rfl | rfl
  · exact key
  · exact key
end Go.Fw
