/- Boxes, loads, stores, calls, slices that no longer change: the steps of straight code that touch memory. Over any program. -/
import Derived.Test.YtgkafblpckcekaaFwOps
namespace Go.Fw
open Go.RowKit

/-- A value of one cell. -/
class One (s : SV) : Prop where
  h : ∀ M v, s.h M v → v.oneCell' = true
class Ones (l : List SV) : Prop where
  h : ∀ M vs, SV.All M l vs → ∀ v ∈ vs, v.oneCell' = true
instance : Ones [] := ⟨fun _ vs h => by cases vs with | nil => simp | cons _ _ => exact h.elim⟩
instance {s : SV} {l : List SV} [o : One s] [os : Ones l] : Ones (s :: l) := ⟨fun M vs h => by
  cases vs with
  | nil => exact h.elim
  | cons x xs => intro v hv; rcases List.mem_cons.1 hv with rfl | hv
                 · exact o.h M _ h.1
                 · exact os.h M xs h.2 v hv⟩
instance {b : Bool} : One (.v (.bool b)) := ⟨fun _ _ h => by cases h; rfl⟩
instance {k : IntKind} {n : Int} : One (.v (.int k n)) := ⟨fun _ _ h => by cases h; rfl⟩
instance {b : ByteArray} : One (.v (.string b)) := ⟨fun _ _ h => by cases h; rfl⟩
instance {a : Option Addr} {l c : Nat} : One (.v (.slice a l c)) := ⟨fun _ _ h => by cases h; rfl⟩
instance {a : Option Addr} : One (.v (.pointer a)) := ⟨fun _ _ h => by cases h; rfl⟩
instance {f : Fn} {a b : Array Value} : One (.v (.func f a b)) := ⟨fun _ _ h => by cases h; rfl⟩
instance : One (.v .nilFunc) := ⟨fun _ _ h => by cases h; rfl⟩
instance {m : Option Nat} : One (.v (.map m)) := ⟨fun _ _ h => by cases h; rfl⟩

/-- The same of what a slot may hold. -/
class OneA (x : AV) : Prop where
  h : ∀ E v, x.holds E v → v.oneCell' = true
instance {s : SV} [o : One s] : OneA (.sv s) := ⟨fun E v h => o.h E.M v h⟩
instance {i o : Nat} : OneA (.ptr i o) := ⟨fun _ _ h => by cases h; rfl⟩
instance {i o l c : Nat} : OneA (.bsl i o l c) := ⟨fun _ _ h => by cases h; rfl⟩
instance {i o l : Nat} : OneA (.rsl i o l) := ⟨fun _ _ h => by obtain ⟨g, _, c, rfl, _⟩ := h; rfl⟩
instance {g : FuncId} {js : List Cap} : OneA (.clo g js) := ⟨fun _ _ h => by obtain ⟨vs, rfl, _⟩ := h; rfl⟩

theorem oneCell_cells {v : Value} (h : v.oneCell' = true) : v.cells = #[v] := by cases v <;> first | rfl | simp [Value.oneCell'] at h

/-- A slice whose elements no longer change: each element a row of sz cells. -/
def slc (sz : Nat) (rows : List (List SV)) : SV where
  h M v := (∃ a, v = .slice a 0 0 ∧ rows = []) ∨ ∃ b o c, v = .slice (some ⟨b, o, none⟩) rows.length c ∧ rows.length ≤ c ∧ rows.length ≤ 9223372036854775807 ∧
    ∀ (i : Nat) (row : List SV), rows[i]? = some row → row.length = sz ∧ ∀ (k : Nat) (s : SV), row[k]? = some s → ∃ y, M b (o + i * sz + k) = some y ∧ y.oneCell' = true ∧ s.h M y
  mono hM h := by
    rcases h with h | ⟨b, o, c, e, h1, h2, h3⟩
    · exact .inl h
    · refine .inr ⟨b, o, c, e, h1, h2, fun i row hr => ⟨(h3 i row hr).1, fun k s hs => ?_⟩⟩
      obtain ⟨y, hy, h1, hs'⟩ := (h3 i row hr).2 k s hs
      exact ⟨y, hM _ _ _ hy, h1, s.mono hM hs'⟩

/-- A pointer to cells that no longer change. -/
def ref (cells : List SV) : SV where
  h M v := ∃ b o, v = .pointer (some ⟨b, o, none⟩) ∧ ∀ (k : Nat) (s : SV), cells[k]? = some s → ∃ y, M b (o + k) = some y ∧ s.h M y
  mono hM h := by
    obtain ⟨b, o, e, h⟩ := h
    refine ⟨b, o, e, fun k s hs => ?_⟩
    obtain ⟨y, hy, hs'⟩ := h k s hs
    exact ⟨y, hM _ _ _ hy, s.mono hM hs'⟩

class Slc (s : SV) (sz : outParam Nat) (rows : outParam (List (List SV))) : Prop where
  h : SV.imp s (slc sz rows)
class Len (s : SV) (n : outParam Nat) : Prop where
  h : ∀ M v, s.h M v → ∃ a c, v = .slice a n c
instance {sz : Nat} {rows : List (List SV)} : Slc (slc sz rows) sz rows := ⟨fun _ _ h => h⟩
instance {sz : Nat} {rows : List (List SV)} : Len (slc sz rows) rows.length := ⟨fun M v h => by
  rcases h with ⟨a, rfl, rfl⟩ | ⟨b, o, c, rfl, _⟩
  · exact ⟨a, 0, rfl⟩
  · exact ⟨_, _, rfl⟩⟩
instance {a : Option Addr} {n c : Nat} : Len (.v (.slice a n c)) n := ⟨fun _ _ h => ⟨a, c, h⟩⟩
instance {sz : Nat} {rows : List (List SV)} : One (slc sz rows) := ⟨fun M v h => by
  rcases h with ⟨a, rfl, rfl⟩ | ⟨b, o, c, rfl, _⟩ <;> rfl⟩

/-- Words of 32 bits. -/
def U32 (ws : List Nat) : SV where
  h M v := (∀ x ∈ ws, x < 4294967296) ∧ (slc 1 (ws.map fun x => [.v (.int .u32 (x : Nat))])).h M v
  mono hM h := ⟨h.1, (slc 1 _).mono hM h.2⟩
instance {ws : List Nat} : Slc (U32 ws) 1 (ws.map fun x => [.v (.int .u32 (x : Nat))]) := ⟨fun _ _ h => h.2⟩
instance {ws : List Nat} : Len (U32 ws) ws.length := ⟨fun M v h => by
  have := (inferInstance : Len (slc 1 (ws.map fun x => [SV.v (.int .u32 (x : Nat))])) _).h M v h.2
  simpa using this⟩
instance {ws : List Nat} : One (U32 ws) := ⟨fun M v h => (inferInstance : One (slc 1 (ws.map fun x => [SV.v (.int .u32 (x : Nat))]))).h M v h.2⟩
/-- An integer as the program holds it: a sign and words. -/
abbrev Zv (n : Bool) (ws : List Nat) : SV := .agg [.v (.bool n), U32 ws]

/-- Integers of the kind int. -/
def Ints (xs : List Int) : SV where
  h M v := (∀ x ∈ xs, -9223372036854775808 ≤ x ∧ x ≤ 9223372036854775807) ∧ (slc 1 (xs.map fun x => [.v (.int .i64 x)])).h M v
  mono hM h := ⟨h.1, (slc 1 _).mono hM h.2⟩
instance {xs : List Int} : Slc (Ints xs) 1 (xs.map fun x => [.v (.int .i64 x)]) := ⟨fun _ _ h => h.2⟩
instance {xs : List Int} : Len (Ints xs) xs.length := ⟨fun M v h => by
  have := (inferInstance : Len (slc 1 (xs.map fun x => [SV.v (.int .i64 x)])) _).h M v h.2
  simpa using this⟩
instance {xs : List Int} : One (Ints xs) := ⟨fun M v h => (inferInstance : One (slc 1 (xs.map fun x => [SV.v (.int .i64 x)]))).h M v h.2⟩

section steps
variable {P : Program} {C : Ctx} {ops : Array Oper} {S : AS} {nd : Bool} {K : List Ac → AS → Prop} {rest : List Oper} {acc : List Ac}
variable {gd : Option (Nat × Bool)} {rg : List Nat} {d : Nat} {ty : TypeId} {pos : String} {aft : Array Edge} {x y z : Operand} {T U E0 : TypeId}

theorem box_lt {E : Env} {a : Act} {w : World} (h : HoldsAt C S E a w) {i : Nat} {B : Box} (hi : S.b i = some B) : E.β i < w.heap.size := by
  obtain ⟨_, _, _, vs, hv, _⟩ := h.bx i B hi
  exact (Array.getElem?_eq_some_iff.1 hv).1
theorem row_lt {E : Env} {a : Act} {w : World} (h : HoldsAt C S E a w) {i : Nat} {R : Row} (hi : S.r i = .live R) {g : Nat} (hg : (E.ν i).ownBlock = some g) : g < w.heap.size := by
  obtain ⟨⟨vs, ho, _⟩, _⟩ := h.rx i R hi
  exact (ho.lt g hg).2

theorem ownsRow_same {w w' : World} {base : Nat} {e : TypeId} {size : Nat} {v : Value} {n : Nat} {xs : List Value} (h : w.ownsRow base e size v n xs) (hs : ∀ g, v.ownBlock = some g → w'.heap[g]? = w.heap[g]?) : w'.ownsRow base e size v n xs := by
  obtain ⟨h1, h2⟩ := h
  refine ⟨h1, ?_⟩
  rcases h2 with h2 | ⟨g, cap, cur, rfl, hb, hh, r⟩
  · exact .inl h2
  · exact .inr ⟨g, cap, cur, rfl, hb, by rw [hs g rfl]; exact hh, r⟩

/-- A new block that becomes a box. -/
theorem HoldsAt.newBox {E : Env} {a : Act} {w : World} (h : HoldsAt C S E a w) {i : Nat} (hi : S.b i = none) (hp : C.pin i = none) {cells : List AV} {vs : List Value} (hc : AllV E cells vs) (hl : ∀ x ∈ cells, (∀ j, x.mb j → ∃ B, S.b j = some B) ∧ (∀ j, x.mr j → S.r j ≠ .un)) :
    HoldsAt C (S.setB i ⟨T, cells⟩) { E with β := fun j => if j = i then w.heap.size else E.β j } a (w.alloc (.cells ⟨vs⟩ T)) := by
  have ne : ∀ j, (∃ B, S.b j = some B) → j ≠ i := by rintro j ⟨B, hB⟩ rfl; rw [hi] at hB; cases hB
  have keep : ∀ x : AV, (∀ j, x.mb j → ∃ B, S.b j = some B) → ∀ v, x.holds E v → x.holds { E with β := fun j => if j = i then w.heap.size else E.β j } v := fun x hx v hv =>
    AV.holds_congr (E := E) (E' := { E with β := fun j => if j = i then w.heap.size else E.β j }) (Mem.le_refl _) (fun j hj => if_neg (ne j (hx j hj))) (fun _ _ => rfl) hv
  have liveB : ∀ j, (∃ B, S.b j = some B) → ∃ B, (S.setB i ⟨T, cells⟩).b j = some B := fun j hj => by
    obtain ⟨B, hB⟩ := hj
    exact ⟨B, by rw [AS.setB_other _ _ _ _ (ne j ⟨B, hB⟩)]; exact hB⟩
  have old : ∀ k, k < w.heap.size → (w.alloc (.cells ⟨vs⟩ T)).heap[k]? = w.heap[k]? := fun k hk => Below.heap_alloc _ _ _ hk
  exact {
    wf := by
      refine ⟨fun s j hj => liveB j (h.wf.tb s j hj), h.wf.tr, fun j B hB x hx k hk => ?_, fun j B hB x hx k hk => ?_⟩
      · by_cases hj : j = i
        · subst hj; rw [AS.setB_same] at hB; cases hB; exact liveB k ((hl x hx).1 k hk)
        · rw [AS.setB_other _ _ _ _ hj] at hB; exact liveB k (h.wf.bb j B hB x hx k hk)
      · by_cases hj : j = i
        · subst hj; rw [AS.setB_same] at hB; cases hB; exact (hl x hx).2 k hk
        · rw [AS.setB_other _ _ _ _ hj] at hB; exact h.wf.br j B hB x hx k hk
    marks := by
      obtain ⟨ds, h1, h2, h3⟩ := h.marks
      refine ⟨ds, h1, h2, fun r hr => ?_⟩
      obtain ⟨h4, h5, h6⟩ := h3 r hr
      exact ⟨h4, h5, by rw [old r (Array.getElem?_eq_some_iff.1 h6).1]; exact h6⟩
    size := h.size
    os := h.os
    tape := h.tape
    output := h.output
    grown := by have := h.grown; simp; omega
    frame := fun k hk hk' => by rw [old k (by have := h.grown; omega)]; exact h.frame k hk hk'
    m0 := h.m0
    mnew := h.mnew
    inW := inW_of_same h.inW fun b ⟨o, v, e⟩ => old b (inW_lt h.inW e)
    tm := fun s => keep _ (h.wf.tb s) _ (h.tm s)
    bx := fun j B hB => by
      by_cases hj : j = i
      · subst hj
        rw [AS.setB_same] at hB
        cases hB
        refine ⟨.inl (by simp; exact h.grown), fun o => ?_, fun ho => ?_, vs, ?_, hc.imp fun x hx v hv => keep x (hl x hx).1 v hv⟩
        · simp only [if_true]
          cases e : E.M w.heap.size o with
          | none => rfl
          | some v => have := inW_lt h.inW e; omega
        · simp only [if_true] at ho
          have := (h.olt _ ho).1; omega
        · show (w.heap.push _)[if j = j then w.heap.size else E.β j]? = _
          rw [if_pos rfl]; exact Array.getElem?_push_size
      · rw [AS.setB_other _ _ _ _ hj] at hB
        obtain ⟨h1, h2, h3, vs', h4, h5⟩ := h.bx j B hB
        simp only [if_neg hj]
        exact ⟨h1, h2, h3, vs', by rw [old _ (box_lt h hB)]; exact h4, h5.imp fun x hx v hv => keep x (h.wf.bb j B hB x hx) v hv⟩
    inj := fun j k B B' hj hk e => by
      by_cases h1 : j = i
      · subst h1
        by_cases h2 : k = j
        · exact h2.symm
        · rw [AS.setB_other _ _ _ _ h2] at hk
          have := box_lt h hk
          simp only [if_true, if_neg h2] at e; omega
      · rw [AS.setB_other _ _ _ _ h1] at hj
        by_cases h2 : k = i
        · subst h2
          have := box_lt h hj
          simp only [if_true, if_neg h1] at e; omega
        · rw [AS.setB_other _ _ _ _ h2] at hk
          simp only [if_neg h1, if_neg h2] at e
          exact h.inj j k B B' hj hk e
    rx := fun j R hR => by
      obtain ⟨⟨us, h1, h2⟩, h3⟩ := h.rx j R hR
      refine ⟨⟨us, ownsRow_same h1 fun g hg => old g (row_lt h hR hg), h2⟩, fun g hg => ?_⟩
      obtain ⟨h4, h5, h6, h7⟩ := h3 g hg
      refine ⟨h4, h5, h6, fun k B hB => ?_⟩
      by_cases hk : k = i
      · subst hk
        simp only [if_true]
        have := row_lt h hR hg; omega
      · rw [AS.setB_other _ _ _ _ hk] at hB
        simp only [if_neg hk]
        exact h7 k B hB
    rinj := h.rinj
    pin := fun j b hj => by
      have hne : j ≠ i := by rintro rfl; rw [hp] at hj; cases hj
      simp only [if_neg hne]; exact h.pin j b hj
    pinr := h.pinr
    olt := fun b hb => by
      obtain ⟨h1, h2⟩ := h.olt b hb
      exact ⟨by simp; omega, h2⟩
    jj := C.jf _ _ _ _ _ _ _ h.jj (Mem.le_refl _) (inW_of_same h.inW fun b ⟨o, v, e⟩ => old b (inW_lt h.inW e)) (fun _ _ _ e => .inl e)
      (fun b hb => old b (by rcases hb with hb | hb
                             · have := h.grown; omega
                             · exact (h.olt b hb).1)) rfl rfl rfl (by simp) }

/-- Knowledge of memory that grows by new blocks, the world with it. -/
theorem HoldsAt.grow {E : Env} {M' : Mem} {a : Act} {w w' : World} (h : HoldsAt C S E a w) (hM : E.M.le M') (hn : ∀ b o v, M' b o = some v → E.M b o = some v ∨ w.heap.size ≤ b) (hw : M'.inW w') (hb : Below w.heap.size w w') :
    HoldsAt C S { E with M := M' } a w' := by
  have keep : ∀ x : AV, ∀ v, x.holds E v → x.holds { E with M := M' } v := fun x v hv => AV.holds_congr (E := E) (E' := { E with M := M' }) hM (fun _ _ => rfl) (fun _ _ => rfl) hv
  have none : ∀ b, b < w.heap.size → (∀ o, E.M b o = none) → ∀ o, M' b o = none := fun b hb h2 o => by
    cases e : M' b o with
    | none => rfl
    | some v =>
      rcases hn _ _ _ e with e' | e'
      · rw [h2 o] at e'; cases e'
      · omega
  exact {
    wf := h.wf
    marks := by
      obtain ⟨ds, h1, h2, h3⟩ := h.marks
      refine ⟨ds, h1, h2, fun r hr => ?_⟩
      obtain ⟨h4, h5, h6⟩ := h3 r hr
      exact ⟨h4, h5, by rw [hb.block r (Array.getElem?_eq_some_iff.1 h6).1]; exact h6⟩
    size := h.size
    os := hb.os.trans h.os
    tape := hb.tape.trans h.tape
    output := hb.output.trans h.output
    grown := Nat.le_trans h.grown hb.size
    frame := fun k hk hk' => by rw [hb.block k (by have := h.grown; omega)]; exact h.frame k hk hk'
    m0 := Mem.le_trans h.m0 hM
    mnew := fun b o v e => by
      rcases hn b o v e with e' | e'
      · exact h.mnew b o v e'
      · exact .inr (.inl (Nat.le_trans h.grown e'))
    inW := hw
    tm := fun s => keep _ _ (h.tm s)
    bx := fun i B hB => by
      obtain ⟨h1, h2, h3, vs, h4, h5⟩ := h.bx i B hB
      exact ⟨h1, none _ (box_lt h hB) h2, h3, vs, by rw [hb.block _ (box_lt h hB)]; exact h4, h5.imp fun x _ v hv => keep x v hv⟩
    inj := h.inj
    rx := fun i R hR => by
      obtain ⟨⟨us, h1, h2⟩, h3⟩ := h.rx i R hR
      refine ⟨⟨us, ownsRow_same h1 fun g hg => hb.block g (row_lt h hR hg), h2.mono hM⟩, fun g hg => ?_⟩
      obtain ⟨h4, h5, h6, h7⟩ := h3 g hg
      exact ⟨h4, none _ (row_lt h hR hg) h5, h6, h7⟩
    rinj := h.rinj
    pin := h.pin
    pinr := h.pinr
    olt := fun b hO => by
      obtain ⟨h1, h2, h3⟩ := h.olt b hO
      exact ⟨Nat.lt_of_lt_of_le h1 hb.size, none b h1 h2, h3⟩
    jj := C.jf _ _ _ _ _ _ _ h.jj hM hw (fun b o v e => by
        rcases hn b o v e with e' | e'
        · exact .inl e'
        · exact .inr ⟨.inl (Nat.le_trans h.grown e'), fun hO => by have := (h.olt b hO).1; omega⟩)
      (fun b hh => hb.block b (by
        rcases hh with hh | hh
        · have := h.grown; omega
        · exact (h.olt b hh).1)) hb.os hb.tape hb.output hb.size }

/-- An operation that makes a box. -/
theorem RT.mkBox (hg : Gd ops S gd rg) {op : Op} (hnd : ∀ c, op ≠ .defer c) (rs : List Nat) {cells : List AV} (hd : d < S.n) (hb : S.b d = none) (hp : C.pin d = none)
    (hv : ∀ S' : AS, (∀ s ∈ rs, S'.t s = S.t s) → ∀ E a w, HoldsAt C S' E a w → ∃ vs : List Value, (execOp a.eval ⟨some d, op, ty, pos, aft, gd⟩).run P w = .ok (.value (.pointer (some ⟨w.heap.size, 0, none⟩))) (w.alloc (.cells ⟨vs⟩ T)) ∧ AllV E cells vs ∧
      ∀ x ∈ cells, (∀ j, x.mb j → ∃ B, S'.b j = some B) ∧ (∀ j, x.mr j → S'.r j ≠ .un))
    (next : RunT P C ops nd K rest (⟨rg ++ rs, [d], [], ⟨some (d, .ptr d 0), [(d, ⟨T, cells⟩)], []⟩⟩ :: acc) ((S.setB d ⟨T, cells⟩).set d (.ptr d 0))) : RunT P C ops nd K (⟨some d, op, ty, pos, aft, gd⟩ :: rest) acc S := by
  refine .inl ⟨rg ++ rs, [d], [], ⟨some (d, .ptr d 0), [(d, ⟨T, cells⟩)], []⟩, ?_, next⟩
  rintro S' hn ht hb' _ i a w L Q ho ⟨E, h⟩ hL
  refine wpOp_of (C := C) ho (hg.wanted h (fun s hs => ht s (List.mem_append_left _ hs)) rfl) ?_
  obtain ⟨vs, hr, hvs, hl⟩ := hv S' (fun s hs => ht s (List.mem_append_right _ hs)) E a w h
  have hb0 : S'.b d = none := by rw [hb' d (by simp)]; exact hb
  have h2 := h.newBox (T := T) hb0 hp hvs hl
  exact wpIn_of (C := C) hnd hr (hL _ _ ⟨_, h2.put (x := .ptr d 0) (by simp [AV.holds]) (by show d < S'.n; omega) ⟨fun j e => (by cases e; exact ⟨_, AS.setB_same _ _ _⟩), fun _ e => e.elim⟩⟩)

theorem RT.box (hg : Gd ops S gd rg) {cells : List SV} (hx : S.ev x = .sv (.agg cells)) (hd : d < S.n) (hb : S.b d = none) (hp : C.pin d = none)
    (next : RunT P C ops nd K rest (⟨rg ++ okeys x, [d], [], ⟨some (d, .ptr d 0), [(d, ⟨T, cells.map AV.sv⟩)], []⟩⟩ :: acc) ((S.setB d ⟨T, cells.map AV.sv⟩).set d (.ptr d 0))) : RunT P C ops nd K (⟨some d, .box T x, ty, pos, aft, gd⟩ :: rest) acc S :=
  RT.mkBox hg (by intro c h; cases h) (okeys x) hd hb hp (fun S' ht E a w h => by
    have h1 := h.ev x
    rw [ev_congr (fun _ h => h) ht, hx] at h1
    obtain ⟨vs, hv, hvs⟩ := h1
    refine ⟨vs, by simp [execOp, Instr.box, newVar, newRow, hv, Value.cells], AllV.of_sv hvs, fun y hy => ?_⟩
    obtain ⟨s, _, rfl⟩ := List.mem_map.1 hy
    exact nomb) next
/-- A variable of one cell. -/
theorem RT.boxV (hg : Gd ops S gd rg) {s : AV} [o1 : OneA s] (hx : S.ev x = s) (hd : d < S.n) (hb : S.b d = none) (hp : C.pin d = none)
    (next : RunT P C ops nd K rest (⟨rg ++ okeys x, [d], [], ⟨some (d, .ptr d 0), [(d, ⟨T, [s]⟩)], []⟩⟩ :: acc) ((S.setB d ⟨T, [s]⟩).set d (.ptr d 0))) : RunT P C ops nd K (⟨some d, .box T x, ty, pos, aft, gd⟩ :: rest) acc S :=
  RT.mkBox hg (by intro c h; cases h) (okeys x) (cells := [s]) hd hb hp (fun S' ht E a w h => by
    have hx' : S'.ev x = s := by rw [ev_congr (fun _ h => h) ht, hx]
    have h1 := h.ev x
    rw [hx'] at h1
    refine ⟨[a.eval x], by simp [execOp, Instr.box, newVar, newRow, oneCell_cells (o1.h _ _ h1)], ⟨h1, trivial⟩, fun y hy => ?_⟩
    obtain rfl : y = s := by simpa using hy
    exact ev_live h.wf hx') next

theorem all_v (E : Env) : ∀ l : List Value, AllV E (l.map fun v => AV.sv (SV.v v)) l
  | [] => trivial
  | _ :: l => ⟨rfl, all_v E l⟩

theorem RT.alloc (hg : Gd ops S gd rg) {zv : Value} [tz : TyZero P T zv] (hd : d < S.n) (hb : S.b d = none) (hp : C.pin d = none)
    (next : RunT P C ops nd K rest (⟨rg ++ [], [d], [], ⟨some (d, .ptr d 0), [(d, ⟨T, zv.cells.toList.map fun v => AV.sv (SV.v v)⟩)], []⟩⟩ :: acc) ((S.setB d ⟨T, zv.cells.toList.map fun v => AV.sv (SV.v v)⟩).set d (.ptr d 0))) : RunT P C ops nd K (⟨some d, .alloc T, ty, pos, aft, gd⟩ :: rest) acc S :=
  RT.mkBox hg (by intro c h; cases h) [] hd hb hp (fun S' _ E a w h => ⟨zv.cells.toList, by simp [execOp, Instr.alloc, newVar, newRow, tz.run], all_v E _, fun y hy => by
    obtain ⟨s, _, rfl⟩ := List.mem_map.1 hy
    exact nomb⟩) next

/- LOADS -/
theorem addr_add (b o n : Nat) : (⟨b, o, none⟩ : Addr).add n = ⟨b, o + n, none⟩ := by
  unfold Addr.add; split
  · subst_vars; rfl
  · rfl

theorem run_loadAgg {n : Nat} [TyA P T n] {w : World} {b o : Nat} {vs : List Value} (hlen : vs.length = n) (hv : ∀ (j : Nat) (v : Value), vs[j]? = some v → w.cell? ⟨b, o + j, none⟩ = some v) :
    (loadVar T ⟨b, o, none⟩).run P w = .ok (.agg ⟨vs⟩) w := by
  have h1 := run_loadCells_list (P := P) (w := w) ⟨b, o, none⟩ vs (fun j v e => by rw [addr_add]; exact hv j v e)
  rw [hlen] at h1
  simp [loadVar, TyA.isAgg, TyA.size (T := T) (n := n), h1]

/-- Cells of a box that are all of the kind 'sv', from off on. -/
inductive Seg : List AV → Nat → List SV → Prop
  | nil {l : List AV} {off : Nat} : Seg l off []
  | cons {l : List AV} {off : Nat} {s : SV} {cs : List SV} (h : l[off]? = some (.sv s)) (t : Seg l (off + 1) cs) : Seg l off (s :: cs)

theorem Seg.vals {E : Env} {l : List AV} {vs : List Value} (h : AllV E l vs) : ∀ {off : Nat} {cs : List SV}, Seg l off cs → ∃ us : List Value, SV.All E.M cs us ∧ ∀ (j : Nat) (v : Value), us[j]? = some v → vs[off + j]? = some v := by
  intro off cs hs
  induction hs with
  | nil => exact ⟨[], trivial, by simp⟩
  | @cons off s cs h1 _ ih =>
    obtain ⟨us, h2, h3⟩ := ih
    obtain ⟨x, hx, hs⟩ := h.get h1
    refine ⟨x :: us, ⟨hs, h2⟩, fun j v hj => ?_⟩
    cases j with
    | zero => simp at hj; subst hj; exact hx
    | succ j => rw [show off + (j + 1) = off + 1 + j by omega]; exact h3 j v (by simpa using hj)

theorem RT.load (hg : Gd ops S gd rg) {n : Nat} [tA : TyA P T n] {j off : Nat} {B : Box} {cs : List SV} (hx : S.ev x = .ptr j off) (hB : S.b j = some B) (hcs : Seg B.cells off cs) (hn : cs.length = n) (hd : d < S.n)
    (next : RunT P C ops nd K rest (⟨rg ++ okeys x, [j], [], ⟨some (d, .sv (.agg cs)), [], []⟩⟩ :: acc) (S.set d (.sv (.agg cs)))) : RunT P C ops nd K (⟨some d, .load T x, ty, pos, aft, gd⟩ :: rest) acc S :=
  RT.value hg (okeys x) [j] [] (.sv (.agg cs)) hd (by intro c h; cases h) (fun S' ht hb _ E a w h => by
    have h1 : a.eval x = .pointer (some ⟨E.β j, off, none⟩) := by have h1 := h.ev x; rw [ev_congr (fun _ h => h) ht, hx] at h1; exact h1
    obtain ⟨_, _, _, vs, hv, hall⟩ := h.bx j B (by rw [hb j (by simp)]; exact hB)
    obtain ⟨us, hus, hget⟩ := hcs.vals hall
    have hl := hus.length
    refine ⟨.agg ⟨us⟩, ?_, ⟨us, rfl, hus⟩, nomb⟩
    have := run_loadAgg (P := P) (T := T) (n := n) (w := w) (b := E.β j) (o := off) (vs := us) (by omega) (fun i v e => by
      simp [World.cell?, hv, hget i v e])
    simp [execOp, h1, Instr.loadAt, Instr.sureAddr, this]) next

theorem RT.loadV (hg : Gd ops S gd rg) [tV : TyV P T] {j off : Nat} {B : Box} {s : AV} (hx : S.ev x = .ptr j off) (hB : S.b j = some B) (hn : B.cells[off]? = some s) (hd : d < S.n)
    (next : RunT P C ops nd K rest (⟨rg ++ okeys x, [j], [], ⟨some (d, s), [], []⟩⟩ :: acc) (S.set d s)) : RunT P C ops nd K (⟨some d, .load T x, ty, pos, aft, gd⟩ :: rest) acc S :=
  RT.value hg (okeys x) [j] [] s hd (by intro c h; cases h) (fun S' ht hb _ E a w h => by
    have h1 : a.eval x = .pointer (some ⟨E.β j, off, none⟩) := by have h1 := h.ev x; rw [ev_congr (fun _ h => h) ht, hx] at h1; exact h1
    have hB' : S'.b j = some B := by rw [hb j (by simp)]; exact hB
    obtain ⟨_, _, _, vs, hv, hall⟩ := h.bx j B hB'
    obtain ⟨u, hu, hs⟩ := hall.get hn
    have hm : s ∈ B.cells := List.mem_of_getElem? hn
    refine ⟨u, ?_, hs, h.wf.bb j B hB' s hm, h.wf.br j B hB' s hm⟩
    have hc : w.cell? ⟨E.β j, off, none⟩ = some u := by simp [World.cell?, hv, hu]
    simp [execOp, h1, Instr.loadAt, Instr.sureAddr, loadVar, tV.isAgg, hc]) next

theorem ref_vals {M : Mem} {b : Nat} : ∀ (l : List SV) (o : Nat), (∀ (k : Nat) (s : SV), l[k]? = some s → ∃ y, M b (o + k) = some y ∧ s.h M y) → ∃ vs : List Value, SV.All M l vs ∧ ∀ (k : Nat) (v : Value), vs[k]? = some v → M b (o + k) = some v
  | [], _, _ => ⟨[], trivial, by simp⟩
  | s :: l, o, hl => by
    obtain ⟨y, hy, hs⟩ := hl 0 s rfl
    obtain ⟨vs, h1, h2⟩ := ref_vals (M := M) (b := b) l (o + 1) (fun k s hk => by
      have := hl (k + 1) s (by simpa using hk)
      rwa [show o + (k + 1) = o + 1 + k by omega] at this)
    refine ⟨y :: vs, ⟨hs, h1⟩, fun k v hk => ?_⟩
    cases k with
    | zero => simp at hk; subst hk; exact hy
    | succ k => rw [show o + (k + 1) = o + 1 + k by omega]; exact h2 k v (by simpa using hk)

theorem RT.loadR (hg : Gd ops S gd rg) {n : Nat} [tA : TyA P T n] {cells : List SV} (hx : S.ev x = .sv (ref cells)) (hd : d < S.n) {cs : List SV} (hcs : cells.take n = cs) (hn : cs.length = n)
    (next : RunT P C ops nd K rest (⟨rg ++ okeys x, [], [], ⟨some (d, .sv (.agg cs)), [], []⟩⟩ :: acc) (S.set d (.sv (.agg cs)))) : RunT P C ops nd K (⟨some d, .load T x, ty, pos, aft, gd⟩ :: rest) acc S :=
  RT.value hg (okeys x) [] [] (.sv (.agg cs)) hd (by intro c h; cases h) (fun S' ht _ _ E a w h => by
    have h1 := h.ev x
    rw [ev_congr (fun _ h => h) ht, hx] at h1
    obtain ⟨b, o, e, hc⟩ := h1
    obtain ⟨vs, hall, hget⟩ := ref_vals (M := E.M) (b := b) cs o (fun k s hk => by
      refine hc k s ?_
      rw [← hcs, List.getElem?_take] at hk
      split at hk
      · exact hk
      · cases hk)
    refine ⟨.agg ⟨vs⟩, ?_, ⟨vs, rfl, hall⟩, nomb⟩
    have hl := hall.length
    have := run_loadAgg (P := P) (T := T) (n := n) (w := w) (b := b) (o := o) (vs := vs) (by omega) (fun i v e => h.inW _ _ _ (hget i v e))
    simp [execOp, e, Instr.loadAt, Instr.sureAddr, this]) next

theorem RT.loadRV (hg : Gd ops S gd rg) [tV : TyV P T] {cells : List SV} {s : SV} (hx : S.ev x = .sv (ref cells)) (hn : cells[0]? = some s) (hd : d < S.n)
    (next : RunT P C ops nd K rest (⟨rg ++ okeys x, [], [], ⟨some (d, .sv s), [], []⟩⟩ :: acc) (S.set d (.sv s))) : RunT P C ops nd K (⟨some d, .load T x, ty, pos, aft, gd⟩ :: rest) acc S :=
  RT.value hg (okeys x) [] [] (.sv s) hd (by intro c h; cases h) (fun S' ht hb _ E a w h => by
    have h1 := h.ev x
    rw [ev_congr (fun _ h => h) ht, hx] at h1
    obtain ⟨b, o, e, hc⟩ := h1
    obtain ⟨u, hu, hs⟩ := hc 0 s hn
    refine ⟨u, ?_, hs, nomb⟩
    have hcc : w.cell? ⟨b, o, none⟩ = some u := h.inW _ _ _ hu
    simp [execOp, e, Instr.loadAt, Instr.sureAddr, loadVar, tV.isAgg, hcc]) next
end steps
end Go.Fw
