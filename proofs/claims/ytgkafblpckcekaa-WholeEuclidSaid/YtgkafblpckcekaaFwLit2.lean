/- Struct and slice literals, slices of slices, functions as values, ghost steps inside a region. Over any program. -/
import Derived.Test.YtgkafblpckcekaaFwLit
namespace Go.Fw
open Go.RowKit

theorem runT_acc {P : Program} {C : Ctx} {ops : Array Oper} {R : AS → Prop} : ∀ {rest : List Oper} {acc acc' : List Ac} {S : AS}, RunT P C ops true (fun _ S => R S) rest acc S → RunT P C ops true (fun _ S => R S) rest acc' S
  | [], _, _, _, h => h
  | _ :: _, _, _, _, h => by
    rcases h with ⟨rs, rb, rr, e, ho, hr⟩ | ⟨h1, Post, ho, hr⟩
    · exact .inl ⟨rs, rb, rr, e, ho, runT_acc hr⟩
    · exact .inr ⟨h1, Post, ho, hr⟩

/-- A state that says less, between two operations of a region whose order is that of the text. -/
theorem RT.weak {P : Program} {C : Ctx} {ops : Array Oper} {R : AS → Prop} {o : Oper} {rest : List Oper} {acc : List Ac} {S S' : AS} (hw : Weak S S') (next : RunT P C ops true (fun _ S => R S) (o :: rest) [] S') : RunT P C ops true (fun _ S => R S) (o :: rest) acc S := by
  rcases next with ⟨rs, rb, rr, e, ho, hr⟩ | ⟨h1, Post, ho, hr⟩
  · refine .inr ⟨rfl, fun S2 => S2 = S'.app e, fun i a w L Q hi hs hL => ?_, fun S2 h2 => by subst h2; exact runT_acc hr⟩
    exact ho S' rfl (fun _ _ => rfl) (fun _ _ => rfl) (fun _ _ => rfl) i a w L Q hi (hw C a w hs) (fun a' w' h' => hL _ a' w' rfl h')
  · exact .inr ⟨rfl, Post, fun i a w L Q hi hs hL => ho i a w L Q hi (hw C a w hs) hL, hr⟩

section lits
variable {P : Program} {C : Ctx} {ops : Array Oper} {S : AS} {nd : Bool} {K : List Ac → AS → Prop} {rest : List Oper} {acc : List Ac}
variable {gd : Option (Nat × Bool)} {rg : List Nat} {d : Nat} {ty : TypeId} {pos : String} {aft : Array Edge} {x y z : Operand} {T U E0 : TypeId}

/- LITERALS -/
/-- What the parts of a literal come to, cell by cell. -/
inductive Parts (S : AS) : List (Nat × Operand) → List (Nat × List SV) → Prop
  | nil : Parts S [] []
  | agg {i : Nat} {x : Operand} {l : List SV} {ps : List (Nat × Operand)} {qs : List (Nat × List SV)} [o : Ones l] (h : S.ev x = .sv (.agg l)) (t : Parts S ps qs) : Parts S ((i, x) :: ps) ((i, l) :: qs)
  | one {i : Nat} {x : Operand} {s : SV} {ps : List (Nat × Operand)} {qs : List (Nat × List SV)} [o : One s] (h : S.ev x = .sv s) (t : Parts S ps qs) : Parts S ((i, x) :: ps) ((i, [s]) :: qs)

def fillS (place : Nat → Option (Nat × Nat)) (cells : List SV) : List (Nat × List SV) → Option (List SV)
  | [] => some cells
  | (i, v) :: rest => match place i with
    | none => none
    | some (off, size) => bif Nat.beq v.length size && Nat.ble (off + v.length) cells.length then fillS place (spl cells off v) rest else none

def pkeys (ps : List (Nat × Operand)) : List Nat := ps.flatMap fun p => okeys p.2

theorem fold_spl : ∀ (us : List Value) (cs : Array Value) (off k : Nat), (us.zipIdx k).foldl (fun cs (p : Value × Nat) => cs.setIfInBounds (off + p.2) p.1) cs = ⟨spl cs.toList (off + k) us⟩
  | [], cs, off, k => by simp [spl]
  | u :: us, cs, off, k => by
    rw [List.zipIdx_cons, List.foldl_cons, fold_spl us, spl]
    simp [Nat.add_assoc]

theorem spl_allS {M : Mem} : ∀ {xs : List SV} {us : List Value} {l : List SV} {vs : List Value} {k : Nat}, SV.All M l vs → SV.All M xs us → SV.All M (spl l k xs) (spl vs k us) := by
  have set : ∀ {l : List SV} {xs : List Value} {i : Nat} {s : SV} {x : Value}, SV.All M l xs → s.h M x → SV.All M (l.set i s) (xs.set i x) := by
    intro l
    induction l with
    | nil => intro xs i s x h hs; cases xs with | nil => exact h | cons _ _ => exact h.elim
    | cons t l ih =>
      intro xs i s x h hs
      cases xs with
      | nil => exact h.elim
      | cons u xs =>
        cases i with
        | zero => exact ⟨hs, h.2⟩
        | succ i => exact ⟨h.1, ih h.2 hs⟩
  intro xs
  induction xs with
  | nil => intro us l vs k h hx; cases us with | nil => exact h | cons _ _ => exact hx.elim
  | cons s xs ih =>
    intro us l vs k h hx
    cases us with
    | nil => exact hx.elim
    | cons u us => rw [spl, spl]; exact ih (set h hx.1) hx.2

theorem fill_run {E : Env} {a : Act} {w : World} {S' : AS} (h : HoldsAt C S' E a w) (place : Nat → Option (Nat × Nat)) : ∀ {ps : List (Nat × Operand)} {qs : List (Nat × List SV)}, Parts S ps qs → (∀ s ∈ pkeys ps, S'.t s = S.t s) → ∀ {cells : List SV} {vs : List Value} {cs : List SV},
    SV.All E.M cells vs → (∀ v ∈ vs, v.oneCell' = true) → fillS place cells qs = some cs → ∃ us : List Value, Instr.fill place ⟨vs⟩ (ps.map fun p => (p.1, a.eval p.2)) = some ⟨us⟩ ∧ SV.All E.M cs us ∧ (∀ v ∈ us, v.oneCell' = true) := by
  intro ps qs hp
  induction hp with
  | nil => intro _ cells vs cs hv h1 hf; cases hf; exact ⟨vs, rfl, hv, h1⟩
  | @agg i x l ps qs o hx _ ih =>
    intro ht cells vs cs hv h1 hf
    have hx' := h.ev x
    rw [ev_congr (rs := pkeys ((i, x) :: ps)) (fun s hs => by simp only [pkeys, List.flatMap_cons]; exact List.mem_append_left _ hs) ht, hx] at hx'
    obtain ⟨us, hu, hus⟩ := hx'
    have hl := hus.length
    have hvl := hv.length
    rw [fillS] at hf
    rw [List.map_cons, Instr.fill]
    simp only [hu]
    cases hpl : place i with
    | none => rw [hpl] at hf; cases hf
    | some q =>
      obtain ⟨off, size⟩ := q
      rw [hpl] at hf
      simp only at hf ⊢
      cases hc : (Nat.beq l.length size && Nat.ble (off + l.length) cells.length) with
      | false => rw [hc] at hf; cases hf
      | true =>
        rw [hc] at hf
        simp only [cond_true] at hf
        rw [Bool.and_eq_true] at hc
        have e1 := Nat.eq_of_beq_eq_true hc.1
        have e2 := Nat.le_of_ble_eq_true hc.2
        have hc2 : ((Value.agg ⟨us⟩).cells.size ≠ size || off + (Value.agg ⟨us⟩).cells.size > (⟨vs⟩ : Array Value).size) = false := by
          simp [Value.cells]; omega
        rw [if_neg (by rw [hc2]; simp)]
        have hfs : (Value.agg ⟨us⟩).cells.zipIdx.foldl (fun (cs : Array Value) (p : Value × Nat) => cs.setIfInBounds (off + p.2) p.1) (⟨vs⟩ : Array Value) = (⟨spl vs off us⟩ : Array Value) := by
          have := fold_spl us ⟨vs⟩ off 0
          rw [← Array.foldl_toList]
          simpa [Value.cells] using this
        have hone : ∀ v ∈ spl vs off us, v.oneCell' = true := by
          have mem_spl : ∀ (xs l : List Value) (k : Nat) (x : Value), x ∈ spl l k xs → x ∈ l ∨ x ∈ xs := by
            intro xs
            induction xs with
            | nil => intro l k x hx; exact .inl hx
            | cons z xs ih =>
              intro l k x hx
              rw [spl] at hx
              rcases ih _ _ _ hx with h1 | h1
              · rcases List.mem_or_eq_of_mem_set h1 with h2 | h2
                · exact .inl h2
                · exact .inr (by simp [h2])
              · exact .inr (List.mem_cons_of_mem _ h1)
          intro v hv'
          rcases mem_spl _ _ _ _ hv' with h2 | h2
          · exact h1 v h2
          · exact o.h _ _ hus v h2
        obtain ⟨us2, g1, g2, g3⟩ := ih (fun s hs => ht s (by simp only [pkeys, List.flatMap_cons]; exact List.mem_append_right _ hs)) (spl_allS hv hus) hone hf
        refine ⟨us2, ?_, g2, g3⟩
        rw [← g1]
        congr 1
  | @one i x s ps qs o hx _ ih =>
    intro ht cells vs cs hv h1 hf
    have hx' := h.ev x
    rw [ev_congr (rs := pkeys ((i, x) :: ps)) (fun s hs => by simp only [pkeys, List.flatMap_cons]; exact List.mem_append_left _ hs) ht, hx] at hx'
    have hone1 := o.h _ _ hx'
    have hvl := hv.length
    rw [fillS] at hf
    rw [List.map_cons, Instr.fill]
    simp only [oneCell_cells hone1]
    cases hpl : place i with
    | none => rw [hpl] at hf; cases hf
    | some q =>
      obtain ⟨off, size⟩ := q
      rw [hpl] at hf
      simp only at hf ⊢
      cases hc : (Nat.beq [s].length size && Nat.ble (off + [s].length) cells.length) with
      | false => rw [hc] at hf; cases hf
      | true =>
        rw [hc] at hf
        simp only [cond_true] at hf
        rw [Bool.and_eq_true] at hc
        have e1 := Nat.eq_of_beq_eq_true hc.1
        have e2 := Nat.le_of_ble_eq_true hc.2
        simp only [List.length_cons, List.length_nil] at e1 e2
        have hc2 : ((#[a.eval x] : Array Value).size ≠ size || off + (#[a.eval x] : Array Value).size > (⟨vs⟩ : Array Value).size) = false := by
          simp; omega
        rw [if_neg (by rw [hc2]; simp)]
        obtain ⟨us2, g1, g2, g3⟩ := ih (fun s hs => ht s (by simp only [pkeys, List.flatMap_cons]; exact List.mem_append_right _ hs)) (spl_allS (xs := [s]) (us := [a.eval x]) hv ⟨hx', trivial⟩) (fun v hv' => by
          rw [spl, spl] at hv'
          rcases List.mem_or_eq_of_mem_set hv' with h2 | h2
          · exact h1 v h2
          · rw [h2]; exact hone1) hf
        refine ⟨us2, ?_, g2, g3⟩
        rw [← g1]
        congr 1
        simp [spl]

class StructPl (P : Program) (T : TypeId) (pl : outParam (List (Nat × Nat))) (z : outParam (List Value)) : Prop where
  h : (match P.underlying T with | some (.struct fs) => fs.toList.mapM (fun f => (P.info? f.type).map fun i => (f.offset, i.size)) | _ => none) = some pl
  hz : (P.info? T).bind (·.zero) = some (.agg ⟨z⟩)
  o : z.all (fun v => v.oneCell') = true

theorem mapM_places {fs : List Field} {pl : List (Nat × Nat)} {w : World} (h : fs.mapM (fun f => (P.info? f.type).map fun i => (f.offset, i.size)) = some pl) :
    (fs.mapM (fun f => do pure (f.offset, ← sizeOf f.type) : Field → Sem (Nat × Nat))).run P w = .ok pl w := by
  induction fs generalizing pl with
  | nil => simp at h; subst h; rfl
  | cons f fs ih =>
    rw [List.mapM_cons] at h ⊢
    cases hi : P.info? f.type with
    | none => rw [hi] at h; simp at h
    | some i =>
      rw [hi] at h
      cases hr : fs.mapM (fun f => (P.info? f.type).map fun i => (f.offset, i.size)) with
      | none => rw [hr] at h; simp at h
      | some pl' =>
        rw [hr] at h
        simp at h
        have hs : (sizeOf f.type).run P w = .ok i.size w := by simp [sizeOf, typeInfo, hi]
        simp only [Sem.run_bind, hs, Result.andThen_ok, Sem.run_pure, ih hr]
        rw [← h]

theorem RT.build (hg : Gd ops S gd rg) {pl : List (Nat × Nat)} {zc : List Value} [tP : StructPl P T pl zc] {parts : Array (Nat × Operand)} {qs : List (Nat × List SV)} (hp : Parts S parts.toList qs) {cs : List SV} (hf : fillS (fun i => pl[i]?) (zc.map SV.v) qs = some cs) (hd : d < S.n)
    (next : RunT P C ops nd K rest (⟨rg ++ pkeys parts.toList, [], [], ⟨some (d, .sv (.agg cs)), [], []⟩⟩ :: acc) (S.set d (.sv (.agg cs)))) : RunT P C ops nd K (⟨some d, .build T parts, ty, pos, aft, gd⟩ :: rest) acc S :=
  RT.value hg (pkeys parts.toList) [] [] (.sv (.agg cs)) hd (by intro c h; cases h) (fun S' ht _ _ E a w h => by
    have hu := tP.h
    cases hT : P.underlying T with
    | none => rw [hT] at hu; cases hu
    | some u =>
      rw [hT] at hu
      cases u with
      | struct fs =>
        simp only at hu
        have hz : (zeroValue T).run P w = .ok (.agg ⟨zc⟩) w := TyZero.run (t := ⟨tP.hz⟩) w
        obtain ⟨us, h1, h2, _⟩ := fill_run h (fun i => pl[i]?) hp ht (cells := zc.map SV.v) (vs := zc) (by
          clear hf
          have : ∀ l : List Value, SV.All E.M (l.map SV.v) l := by
            intro l; induction l with
            | nil => trivial
            | cons v l ih => exact ⟨rfl, ih⟩
          exact this zc) (List.all_eq_true.1 tP.o) hf
        refine ⟨.agg ⟨us⟩, ?_, ⟨us, rfl, h2⟩, nomb⟩
        have hm : (fs.mapM (fun f => do pure (f.offset, ← sizeOf f.type) : Field → Sem (Nat × Nat))).run P w = .ok pl.toArray w := by
          have := mapM_places (P := P) (w := w) hu
          rw [← Array.toArray_toList (xs := fs), List.mapM_toArray]
          rw [Sem.run_map, this]; rfl
        have e3 : (parts.map fun p => (p.1, a.eval p.2)).toList = parts.toList.map fun p => (p.1, a.eval p.2) := by simp
        have h1' : Instr.fill (fun i => pl.toArray[i]?) ⟨zc⟩ (parts.toList.map fun p => (p.1, a.eval p.2)) = some ⟨us⟩ := by simpa using h1
        simp only [execOp, Instr.build, underlying]
        simp only [Sem.run_bind, hz, Result.andThen_ok, run_program, hT, Sem.run_pure, Value.cells]
        have hm' : (Array.mapM (fun f => do
            let __do_lift ← sizeOf f.type
            pure (f.offset, __do_lift)) fs : Sem _).run P w = .ok pl.toArray w := hm
        simp only [hm', Result.andThen_ok]
        have e4 : (Array.map (fun x => match x with | (i, x) => (i, a.eval x)) parts).toList = parts.toList.map fun p => (p.1, a.eval p.2) := by simp
        simp only [e4, h1', Sem.run_pure, Result.andThen_ok]
      | _ => cases hu) next

/-- Knowledge of a block that was just made. -/
def Mem.add (M : Mem) (g : Nat) (vs : List Value) : Mem := fun b o => if b = g then vs[o]? else M b o

theorem HoldsAt.newImm {E : Env} {a : Act} {w : World} (h : HoldsAt C S E a w) (vs : List Value) (T : TypeId) : HoldsAt C S { E with M := E.M.add w.heap.size vs } a (w.alloc (.cells ⟨vs⟩ T)) := by
  have hno : ∀ o, E.M w.heap.size o = none := fun o => by
    cases e : E.M w.heap.size o with
    | none => rfl
    | some v => have := inW_lt h.inW e; omega
  refine h.grow (fun b o v e => ?_) (fun b o v e => ?_) (fun b o v e => ?_) (((Below.refl _ _).alloc (Nat.le_refl _) _))
  · have : b ≠ w.heap.size := by rintro rfl; rw [hno o] at e; cases e
    simp [Mem.add, this, e]
  · by_cases hb : b = w.heap.size
    · exact .inr (by omega)
    · simp only [Mem.add, if_neg hb] at e; exact .inl e
  · by_cases hb : b = w.heap.size
    · subst hb
      simp only [Mem.add, if_true] at e
      rw [World.cell?_alloc_new]; simpa using e
    · simp only [Mem.add, if_neg hb] at e
      rw [World.cell?_alloc_old _ _ _ (by simpa using hb)]; exact h.inW b o v e

/-- The rows of a slice literal: all its elements are given, in order. -/
def consec : Nat → List (Nat × List SV) → Bool
  | _, [] => true
  | k, (i, _) :: l => Nat.beq i k && consec (k + 1) l

theorem fill_consec {sz : Nat} : ∀ (qs : List (Nat × List SV)) (pre zs : List SV) (k : Nat), consec k qs = true → (∀ q ∈ qs, q.2.length = sz) → pre.length = k * sz → zs.length = qs.length * sz →
    fillS (fun i => some (i * sz, sz)) (pre ++ zs) qs = some (pre ++ (qs.map (·.2)).flatten)
  | [], pre, zs, k, _, _, _, hz => by
    have : zs = [] := List.length_eq_zero_iff.1 (by simpa using hz)
    simp [fillS, this]
  | (i, v) :: qs, pre, zs, k, hc, hl, hp, hz => by
    simp only [consec, Bool.and_eq_true] at hc
    have hi := Nat.eq_of_beq_eq_true hc.1
    subst hi
    have hv := hl (i, v) (by simp)
    simp only at hv
    have hz' : zs.length = qs.length * sz + sz := by rw [hz, List.length_cons, Nat.add_mul]; omega
    rw [fillS]
    simp only
    have hcond : (Nat.beq v.length sz && Nat.ble (i * sz + v.length) (pre ++ zs).length) = true := by
      rw [Bool.and_eq_true]
      refine ⟨by rw [hv]; simp, ?_⟩
      rw [List.length_append, hp, hv]
      exact Nat.ble_eq_true_of_le (by omega)
    rw [hcond, cond_true]
    have hs : spl (pre ++ zs) (i * sz) v = (pre ++ v) ++ zs.drop sz := by
      have e : pre ++ zs = pre ++ (zs.take sz ++ zs.drop sz) := by rw [List.take_append_drop]
      have gen : ∀ (xs pre l post : List SV), l.length = xs.length → spl (pre ++ (l ++ post)) pre.length xs = pre ++ (xs ++ post) := by
        intro xs
        induction xs with
        | nil => intro pre l post h; simp at h; subst h; rfl
        | cons x xs ih =>
          intro pre l post h
          cases l with
          | nil => simp at h
          | cons y l =>
            rw [spl]
            have : (pre ++ (y :: l ++ post)).set pre.length x = (pre ++ [x]) ++ (l ++ post) := by simp
            rw [this, show pre.length + 1 = (pre ++ [x]).length by simp, ih (pre ++ [x]) l post (by simpa using h)]
            simp
      rw [e, ← hp, gen v pre (zs.take sz) (zs.drop sz) (by rw [hv]; simp; omega)]
      simp
    rw [hs, fill_consec qs (pre ++ v) (zs.drop sz) (i + 1) hc.2 (fun q hq => hl q (List.mem_cons_of_mem _ hq)) (by rw [List.length_append, hp, hv, Nat.add_mul]; omega) (by simp; omega)]
    simp

theorem run_buildSlice {E : Env} {a : Act} {w : World} {S' : AS} (h : HoldsAt C S' E a w) {n by_ : Nat} {zv : Value} [tS : TySl P T E0 n] [tE : TyEl P E0 n by_ zv] {len : Nat} {parts : Array (Nat × Operand)} {qs : List (Nat × List SV)} (hp : Parts S parts.toList qs) (ht : ∀ s ∈ pkeys parts.toList, S'.t s = S.t s)
    (hc : consec 0 qs = true) (hl : qs.length = len) (hsz : (qs.all fun q => Nat.beq q.2.length n) = true) (hlen : len * n ≤ 16777216) (hz1 : ∀ v ∈ zv.cells.toList, v.oneCell' = true) :
    ∃ vs : List Value, (execOp a.eval ⟨some d, .buildSlice T len parts, ty, pos, aft, gd⟩).run P w = .ok (.value (.slice (some ⟨w.heap.size, 0, none⟩) len len)) (w.alloc (.cells ⟨vs⟩ E0)) ∧ SV.All E.M (qs.map (·.2)).flatten vs ∧ (∀ v ∈ vs, v.oneCell' = true) := by
  obtain ⟨info, hi, hs1, hb1, hz⟩ := TyEl.info (P := P) (E := E0) (n := n) (by_ := by_) (z := zv)
  have hzr : (zeroValue E0).run P w = .ok zv w := by simp [zeroValue, typeInfo, hi, hz]
  have hsr := tS.size w
  have hq : ∀ q ∈ qs, q.2.length = n := fun q hq => Nat.eq_of_beq_eq_true (List.all_eq_true.1 hsz q hq)
  have hlen2 : ¬ (len * n > 2 ^ 24) := by omega
  let zero : Array Value := if len * n = 0 then #[] else zv.cells
  have hz0 : ((if len * n = 0 then pure #[] else do pure (← zeroValue E0).cells) : Sem (Array Value)).run P w = .ok zero w := by
    by_cases e : len * n = 0
    · simp [zero, e]
    · simp [zero, e, hzr]
  let vs0 : List Value := ((Array.range (len * n)).map (zero[· % zero.size]!)).toList
  have hv0l : vs0.length = len * n := by simp [vs0]
  have hv0 : ∀ v ∈ vs0, v.oneCell' = true := by
    intro v hv
    simp only [vs0, Array.toList_map, List.mem_map, Array.mem_toList_iff, Array.mem_range] at hv
    obtain ⟨k, hk, rfl⟩ := hv
    have hne : len * n ≠ 0 := by omega
    have hzz : zero = zv.cells := by simp [zero, hne]
    rw [hzz]
    have hcs := tE.z
    have hpos : k % zv.cells.size < zv.cells.size := Nat.mod_lt _ (by rw [hcs]; exact tE.p)
    rw [getElem!_pos zv.cells _ hpos]
    exact hz1 _ (Array.getElem_mem_toList hpos)
  have hall0 : SV.All E.M (vs0.map SV.v) vs0 := by
    have : ∀ l : List Value, SV.All E.M (l.map SV.v) l := by
      intro l; induction l with
      | nil => trivial
      | cons v l ih => exact ⟨rfl, ih⟩
    exact this vs0
  have hfill := fill_consec (sz := n) qs [] (vs0.map SV.v) 0 hc hq (by simp) (by simp [hv0l, hl])
  simp only [List.nil_append] at hfill
  obtain ⟨us, h1, h2, h3⟩ := fill_run h (fun i => some (i * n, n)) hp ht hall0 hv0 hfill
  refine ⟨us, ?_, h2, h3⟩
  have e4 : (Array.map (fun x => match x with | (i, x) => (i, a.eval x)) parts).toList = parts.toList.map fun p => (p.1, a.eval p.2) := by simp
  simp only [execOp, Instr.buildSlice, underlying]
  simp only [Sem.run_bind, run_program, Result.andThen_ok, tS.u, Sem.run_pure, hsr, if_neg hlen2]
  have h1' : Instr.fill (fun i => some (i * n, n)) (Array.map (fun x => zero[x % zero.size]!) (Array.range (len * n))) (parts.toList.map fun p => (p.1, a.eval p.2)) = some ⟨us⟩ := h1
  by_cases e : len * n = 0
  · have hz2 : zero = #[] := by simp [zero, e]
    rw [hz2] at h1'
    simp only [if_pos e, e4, Sem.run_bind, Sem.run_pure, Result.andThen_ok, h1', newRow, run_newObj]
    rfl
  · have hz2 : zero = zv.cells := by simp [zero, e]
    rw [hz2] at h1'
    simp only [if_neg e, e4, Sem.run_bind, Sem.run_pure, Result.andThen_ok, hzr, h1', newRow, run_newObj]
    rfl

theorem RT.buildSlice (hg : Gd ops S gd rg) {n by_ : Nat} {zv : Value} [tS : TySl P T E0 n] [tE : TyEl P E0 n by_ zv] {len : Nat} {parts : Array (Nat × Operand)} {qs : List (Nat × List SV)} (hp : Parts S parts.toList qs) (hd : d < S.n)
    (hc : consec 0 qs = true) (hl : qs.length = len) (hsz : (qs.all fun q => Nat.beq q.2.length n) = true) (hlen : len * n ≤ 16777216) (hz1 : ∀ v ∈ zv.cells.toList, v.oneCell' = true) {rows : List (List SV)} (hrows : qs.map (·.2) = rows)
    (next : RunT P C ops nd K rest (⟨rg ++ pkeys parts.toList, [], [], ⟨some (d, .sv (slc n rows)), [], []⟩⟩ :: acc) (S.set d (.sv (slc n rows)))) : RunT P C ops nd K (⟨some d, .buildSlice T len parts, ty, pos, aft, gd⟩ :: rest) acc S := by
  subst hrows
  refine .inl ⟨_, [], [], _, ?_, next⟩
  rintro S' hn ht _ _ i a w L Q ho ⟨E, h⟩ hL
  refine wpOp_of (C := C) ho (hg.wanted h (fun s hs => ht s (List.mem_append_left _ hs)) rfl) ?_
  obtain ⟨vs, hr, hall, hone⟩ := run_buildSlice (P := P) (T := T) (E0 := E0) (n := n) (by_ := by_) (zv := zv) (d := d) (ty := ty) (pos := pos) (aft := aft) (gd := gd) h hp (fun s hs => ht s (List.mem_append_right _ hs)) hc hl hsz hlen hz1
  refine wpIn_of (C := C) (by intro c h; cases h) hr (hL _ _ ⟨_, (h.newImm vs E0).put (d := d) (x := .sv (slc n (qs.map fun (q : Nat × List SV) => q.2))) (v := .slice (some ⟨w.heap.size, 0, none⟩) len len) ?_ (by show d < S'.n; omega) nomb⟩)
  have hrw : Rows n (qs.map (·.2)) (qs.map (·.2)).flatten := ⟨rfl, fun r hr => by
    obtain ⟨q, hq, rfl⟩ := List.mem_map.1 hr
    exact Nat.eq_of_beq_eq_true (List.all_eq_true.1 hsz q hq)⟩
  have hpn := tE.p
  have hlb : len ≤ 16777216 := Nat.le_trans (Nat.le_mul_of_pos_right _ hpn) hlen
  refine .inr ⟨w.heap.size, 0, len, by rw [List.length_map, hl], by rw [List.length_map, hl]; exact Nat.le_refl _, by rw [List.length_map, hl]; omega, fun k row hk => ?_⟩
  obtain ⟨q1, q2⟩ := rows_get hrw k row hk
  refine ⟨q1, fun j s hs => ?_⟩
  obtain ⟨y, hy, hys⟩ := hall.get (q2 j s hs)
  refine ⟨y, by simp [Mem.add, hy], hone y (List.mem_of_getElem? hy), s.mono (fun b o v e => ?_) hys⟩
  have : b ≠ w.heap.size := by rintro rfl; have := inW_lt h.inW e; omega
  simp [Mem.add, this, e]

/-- A slice literal that will be grown. -/
theorem RT.buildSliceR (hg : Gd ops S gd rg) {n by_ : Nat} {zv : Value} [tS : TySl P T E0 n] [tE : TyEl P E0 n by_ zv] {len : Nat} {parts : Array (Nat × Operand)} {qs : List (Nat × List SV)} (hp : Parts S parts.toList qs) (hd : d < S.n) (hdr : S.r d = .un) (hd1 : d < 1000)
    (hc : consec 0 qs = true) (hl : qs.length = len) (hsz : (qs.all fun q => Nat.beq q.2.length n) = true) (hlen : len * n ≤ 16777216) (hz1 : ∀ v ∈ zv.cells.toList, v.oneCell' = true) {cells : List SV} (hcells : (qs.map (·.2)).flatten = cells)
    (next : RunT P C ops nd K rest (⟨rg ++ pkeys parts.toList, [], [d], ⟨some (d, .row d), [], [(d, .live ⟨E0, n, len, cells⟩)]⟩⟩ :: acc) ((AS.setRs [(d, .live ⟨E0, n, len, cells⟩)] S).set d (.row d))) : RunT P C ops nd K (⟨some d, .buildSlice T len parts, ty, pos, aft, gd⟩ :: rest) acc S := by
  subst hcells
  refine .inl ⟨_, [], [d], _, ?_, next⟩
  rintro S' hn ht _ hrr i a w L Q ho ⟨E, h⟩ hL
  refine wpOp_of (C := C) ho (hg.wanted h (fun s hs => ht s (List.mem_append_left _ hs)) rfl) ?_
  obtain ⟨vs, hr, hall, hone⟩ := run_buildSlice (P := P) (T := T) (E0 := E0) (n := n) (by_ := by_) (zv := zv) (d := d) (ty := ty) (pos := pos) (aft := aft) (gd := gd) h hp (fun s hs => ht s (List.mem_append_right _ hs)) hc hl hsz hlen hz1
  have hpn := tE.p
  have hlb : len ≤ 16777216 := Nat.le_trans (Nat.le_mul_of_pos_right _ hpn) hlen
  have hrw : Rows n (qs.map (·.2)) (qs.map (·.2)).flatten := ⟨rfl, fun r hr => by
    obtain ⟨q, hq, rfl⟩ := List.mem_map.1 hr
    exact Nat.eq_of_beq_eq_true (List.all_eq_true.1 hsz q hq)⟩
  have hvl : vs.length = len * n := by rw [← hall.length, rows_len hrw, List.length_map, hl]
  have hdu : S'.r d = .un := by rw [hrr d (by simp)]; exact hdr
  have hown : (w.alloc (.cells ⟨vs⟩ E0)).ownsRow 0 E0 n (.slice (some ⟨w.heap.size, 0, none⟩) len len) len vs := World.ownsRow_lit w ⟨vs⟩ len (Nat.zero_le _) (by unfold maxLen; omega) (by simpa using hvl)
  refine wpIn_of (C := C) (by intro c h; cases h) hr (hL _ _ ⟨_, (h.newRow hdu hd1 [] none (.inl ⟨rfl, rfl⟩) (R' := ⟨E0, n, len, (qs.map fun (q : Nat × List SV) => q.2).flatten⟩) hown hall (.inr (.inl rfl)) (World.grownBy_alloc w _ none)).put (d := d) (x := .row d) (v := .slice (some ⟨w.heap.size, 0, none⟩) len len) (by simp [AV.holds]) (by show d < S'.n; omega) ⟨fun _ e => e.elim, fun j e => ?_⟩⟩)
  cases e
  show (AS.setR S' d _).r d ≠ _
  rw [AS.setR_same]; simp

/- SLICES OF SLICES -/
/-- What a[lo:hi] of such a slice is. -/
class Sub (s : SV) (n : outParam Nat) (sz : outParam Nat) (f : outParam (Nat → Nat → SV)) : Prop where
  h : ∀ M v, s.h M v → ∃ a c, v = .slice a n c ∧ n ≤ c ∧ ∀ lo hi, lo ≤ hi → hi ≤ n → (f lo hi).h M (.slice (if c = lo then a else a.map (·.add (lo * sz))) (hi - lo) (c - lo))

def cut {α : Type} (l : List α) (lo hi : Nat) : List α := (l.drop lo).take (hi - lo)

theorem slc_sub {sz : Nat} {rows : List (List SV)} {M : Mem} {v : Value} (h : (slc sz rows).h M v) : ∃ a c, v = .slice a rows.length c ∧ rows.length ≤ c ∧ ∀ lo hi, lo ≤ hi → hi ≤ rows.length → (slc sz (cut rows lo hi)).h M (.slice (if c = lo then a else a.map (·.add (lo * sz))) (hi - lo) (c - lo)) := by
  rcases h with ⟨a, rfl, rfl⟩ | ⟨b, o, c, rfl, hc, hc2, hr⟩
  · refine ⟨a, 0, rfl, Nat.le_refl _, fun lo hi h1 h2 => .inl ⟨a, ?_, by simp [cut]⟩⟩
    simp at h2
    have : lo = 0 := by omega
    subst this; subst h2; simp
  · refine ⟨some ⟨b, o, none⟩, c, rfl, hc, fun lo hi h1 h2 => ?_⟩
    have hl : (cut rows lo hi).length = hi - lo := by simp [cut]; omega
    by_cases e : c = lo
    · have : hi - lo = 0 := by omega
      rw [if_pos e]
      refine .inr ⟨b, o, c - lo, by rw [hl], by omega, by omega, fun i row hi' => ?_⟩
      have := (List.getElem?_eq_some_iff.1 hi').1
      omega
    · rw [if_neg e]
      refine .inr ⟨b, o + lo * sz, c - lo, by rw [hl]; simp [addr_add], by omega, by omega, fun i row hi' => ?_⟩
      have hi2 : rows[lo + i]? = some row := by
        simp only [cut, List.getElem?_take, List.getElem?_drop] at hi'
        split at hi'
        · exact hi'
        · cases hi'
      obtain ⟨q1, q2⟩ := hr _ row hi2
      refine ⟨q1, fun k s hk => ?_⟩
      have := q2 k s hk
      rwa [show o + (lo + i) * sz + k = o + lo * sz + i * sz + k by rw [Nat.add_mul]; omega] at this

instance {sz : Nat} {rows : List (List SV)} : Sub (slc sz rows) rows.length sz (fun lo hi => slc sz (cut rows lo hi)) := ⟨fun _ _ h => slc_sub h⟩
theorem cut_map {α β : Type} (l : List α) (f : α → β) (lo hi : Nat) : cut (l.map f) lo hi = (cut l lo hi).map f := by simp [cut, List.map_take, List.map_drop]
theorem mem_cut {α : Type} {l : List α} {lo hi : Nat} {x : α} (h : x ∈ cut l lo hi) : x ∈ l := List.mem_of_mem_drop (List.mem_of_mem_take h)
instance {ws : List Nat} : Sub (U32 ws) ws.length 1 (fun lo hi => U32 (cut ws lo hi)) := ⟨fun M v h => by
  obtain ⟨a, c, h1, h2, h3⟩ := slc_sub h.2
  rw [List.length_map] at h1 h2 h3
  exact ⟨a, c, h1, h2, fun lo hi g1 g2 => ⟨fun x hx => h.1 x (mem_cut hx), by rw [← cut_map]; exact h3 lo hi g1 g2⟩⟩⟩
instance {xs : List Int} : Sub (Ints xs) xs.length 1 (fun lo hi => Ints (cut xs lo hi)) := ⟨fun M v h => by
  obtain ⟨a, c, h1, h2, h3⟩ := slc_sub h.2
  rw [List.length_map] at h1 h2 h3
  exact ⟨a, c, h1, h2, fun lo hi g1 g2 => ⟨fun x hx => h.1 x (mem_cut hx), by rw [← cut_map]; exact h3 lo hi g1 g2⟩⟩⟩

/-- An optional bound of a slice expression. -/
def bndS (S : AS) (dflt : Nat) : Option Operand → Int → Prop
  | none, i => i = dflt
  | some x, i => ∃ k, S.ev x = .sv (.v (.int k i))
def bkeys : Option Operand → List Nat
  | none => []
  | some x => okeys x

theorem bnd_val {E : Env} {a : Act} {w : World} {S' : AS} (h : HoldsAt C S' E a w) {df : Nat} {ox : Option Operand} {i : Int} (hb : bndS S df ox i) (ht : ∀ s ∈ bkeys ox, S'.t s = S.t s) : (ox = none ∧ i = df) ∨ ∃ x k, ox = some x ∧ a.eval x = .int k i := by
  cases ox with
  | none => exact .inl ⟨rfl, hb⟩
  | some x =>
    obtain ⟨k, hk⟩ := hb
    have h1 := h.ev x
    rw [ev_congr (rs := bkeys (some x)) (fun s hs => hs) ht, hk] at h1
    exact .inr ⟨x, k, rfl, h1⟩

theorem RT.slice (hg : Gd ops S gd rg) {n sz : Nat} [tS : TySl P T E0 sz] {s : SV} {f : Nat → Nat → SV} [hs : Sub s n sz f] (hx : S.ev x = .sv s) {lo hi : Option Operand} (l h' : Int) (hlo : bndS S 0 lo l) (hhi : bndS S n hi h') (hd : d < S.n) (h0 : 0 ≤ l) (h1 : l ≤ h') (h2 : h' ≤ n) (X : SV) (hX : f l.toNat h'.toNat = X)
    (next : RunT P C ops nd K rest (⟨rg ++ (okeys x ++ (bkeys lo ++ bkeys hi)), [], [], ⟨some (d, .sv X), [], []⟩⟩ :: acc) (S.set d (.sv X))) : RunT P C ops nd K (⟨some d, .slice T x lo hi none, ty, pos, aft, gd⟩ :: rest) acc S :=
  RT.value hg (okeys x ++ (bkeys lo ++ bkeys hi)) [] [] (.sv X) hd (by intro c h; cases h) (fun S' ht _ _ E a w h => by
    have hv := h.ev x
    rw [ev_congr (fun _ h => List.mem_append_left _ h) ht, hx] at hv
    obtain ⟨b, c, e, hc, hsub⟩ := hs.h _ _ hv
    have g1 := bnd_val h hlo (fun s hs => ht s (List.mem_append_right _ (List.mem_append_left _ hs)))
    have g2 := bnd_val h hhi (fun s hs => ht s (List.mem_append_right _ (List.mem_append_right _ hs)))
    obtain ⟨kl, hkl⟩ := Int.eq_ofNat_of_zero_le h0
    obtain ⟨kh, hkh⟩ := Int.eq_ofNat_of_zero_le (show 0 ≤ h' by omega)
    have hkm : kl ≤ kh := by omega
    have hmn : kh ≤ n := by omega
    have hmc : kh ≤ c := by omega
    have hres := hsub l.toNat h'.toNat (by omega) (by omega)
    rw [hX] at hres
    refine ⟨_, ?_, hres, nomb⟩
    have hsz := tS.size w
    rcases g1 with ⟨rfl, q1⟩ | ⟨x1, k1, rfl, q1⟩ <;> rcases g2 with ⟨rfl, q2⟩ | ⟨x2, k2, rfl, q2⟩
    · have e1 : kl = 0 := by omega
      have e2 : kh = n := by omega
      simp [execOp, e, Instr.sliceAt, Instr.slice, underlying, tS.u, Instr.sliceBounds, hsz, hkl, hkh, e1, e2]
    · have e1 : kl = 0 := by omega
      simp [execOp, e, Instr.sliceAt, Instr.slice, underlying, tS.u, Instr.sliceBounds, Instr.sliceBound, asIntOf, q2, hsz, hkl, hkh, e1, hmc]
    · have e2 : kh = n := by omega
      have e3 : kl ≤ n := by omega
      simp [execOp, e, Instr.sliceAt, Instr.slice, underlying, tS.u, Instr.sliceBounds, Instr.sliceBound, asIntOf, q1, hsz, hkl, hkh, e2, e3]
    · simp [execOp, e, Instr.sliceAt, Instr.slice, underlying, tS.u, Instr.sliceBounds, Instr.sliceBound, asIntOf, q1, q2, hsz, hkl, hkh, hmc, hkm]) next

/- FUNCTIONS AS VALUES -/
inductive Caps (S : AS) : List Operand → List Cap → Prop
  | nil : Caps S [] []
  | box {x : Operand} {i : Nat} {xs : List Operand} {cs : List Cap} (h : S.ev x = .ptr i 0) (t : Caps S xs cs) : Caps S (x :: xs) (.box i :: cs)
  | val {x : Operand} {s : SV} {xs : List Operand} {cs : List Cap} (h : S.ev x = .sv s) (t : Caps S xs cs) : Caps S (x :: xs) (.val s :: cs)

theorem Caps.vals {E : Env} {a : Act} {w : World} {S' : AS} (h : HoldsAt C S' E a w) {xs : List Operand} {cs : List Cap} (hc : Caps S xs cs) (ht : ∀ s ∈ xs.flatMap okeys, S'.t s = S.t s) : AllC E cs (xs.map a.eval) ∧ ∀ j, Cap.box j ∈ cs → ∃ B, S'.b j = some B := by
  induction hc with
  | nil => exact ⟨trivial, by simp⟩
  | @box x i xs cs hx _ ih =>
    have hx' : S'.ev x = .ptr i 0 := by rw [ev_congr (rs := (x :: xs).flatMap okeys) (fun s hs => by rw [List.flatMap_cons]; exact List.mem_append_left _ hs) ht, hx]
    have h1 := h.ev x
    rw [hx'] at h1
    obtain ⟨i1, i2⟩ := ih (fun s hs => ht s (by rw [List.flatMap_cons]; exact List.mem_append_right _ hs))
    refine ⟨⟨h1, i1⟩, fun j hj => ?_⟩
    rcases List.mem_cons.1 hj with e | hj
    · cases e; exact (ev_live h.wf hx').1 i rfl
    · exact i2 j hj
  | @val x s xs cs hx _ ih =>
    have hx' : S'.ev x = .sv s := by rw [ev_congr (rs := (x :: xs).flatMap okeys) (fun s hs => by rw [List.flatMap_cons]; exact List.mem_append_left _ hs) ht, hx]
    have h1 := h.ev x
    rw [hx'] at h1
    obtain ⟨i1, i2⟩ := ih (fun s hs => ht s (by rw [List.flatMap_cons]; exact List.mem_append_right _ hs))
    refine ⟨⟨h1, i1⟩, fun j hj => ?_⟩
    rcases List.mem_cons.1 hj with e | hj
    · cases e
    · exact i2 j hj

theorem RT.makeFunc (hg : Gd ops S gd rg) {g : FuncId} {xs : Array Operand} {cs : List Cap} (hc : Caps S xs.toList cs) (hd : d < S.n)
    (next : RunT P C ops nd K rest (⟨rg ++ xs.toList.flatMap okeys, [], [], ⟨some (d, .clo g cs), [], []⟩⟩ :: acc) (S.set d (.clo g cs))) : RunT P C ops nd K (⟨some d, .makeFunc (.func g) #[] xs, ty, pos, aft, gd⟩ :: rest) acc S :=
  RT.value hg (xs.toList.flatMap okeys) [] [] (.clo g cs) hd (by intro c h; cases h) (fun S' ht _ _ E a w h => by
    obtain ⟨h1, h2⟩ := hc.vals h ht
    refine ⟨.func (.func g) #[] ⟨xs.toList.map a.eval⟩, ?_, ⟨_, rfl, h1⟩, fun j hj => h2 j hj, fun _ h => h.elim⟩
    have e2 : xs.map a.eval = ⟨xs.toList.map a.eval⟩ := by apply Array.ext'; simp
    simp [execOp, Instr.makeFunc, e2]) next
/-- A function value that captures nothing is known to the sign. -/
theorem RT.makeFunc0 (hg : Gd ops S gd rg) {g : FuncId} (hd : d < S.n)
    (next : RunT P C ops nd K rest (⟨rg ++ [], [], [], ⟨some (d, .sv (.v (.func (.func g) #[] #[]))), [], []⟩⟩ :: acc) (S.set d (.sv (.v (.func (.func g) #[] #[]))))) : RunT P C ops nd K (⟨some d, .makeFunc (.func g) #[] #[], ty, pos, aft, gd⟩ :: rest) acc S :=
  RT.value hg [] [] [] (.sv (.v (.func (.func g) #[] #[]))) hd (by intro c h; cases h) (fun S' ht _ _ E a w h => ⟨.func (.func g) #[] #[], by simp [execOp, Instr.makeFunc], rfl, nomb⟩) next
end lits
end Go.Fw
