/- The rules in the words of plain functions. Over any program. -/
import Derived.Test.YtgkafblpckcekaaFwDen
namespace Go.Fw
open Go.RowKit

section steps
variable {P : Program} {C : Ctx} {ops : Array Oper} {S : AS} {nd : Bool} {K : List Ac → AS → Prop} {rest : List Oper} {acc : List Ac}
variable {gd : Option (Nat × Bool)} {rg : List Nat} {d : Nat} {ty : TypeId} {pos : String} {aft : Array Edge} {x y z : Operand} {T U E0 : TypeId}
variable {α : Type} {l l' k : List α} {e : α → List SV} {n by_ : Nat} {zv : Value}

theorem RT.mvI (hg : Gd ops S gd rg) {s X : SV} (hx : S.ev x = .sv s) (hi : SV.imp s X) (hd : d < S.n)
    (next : RunT P C ops nd K rest (⟨rg ++ okeys x, [], [], ⟨some (d, .sv X), [], []⟩⟩ :: acc) (S.set d (.sv X))) : RunT P C ops nd K (⟨some d, .move x, ty, pos, aft, gd⟩ :: rest) acc S :=
  RT.value hg (okeys x) [] [] (.sv X) hd (by intro c h; cases h) (fun S' ht _ _ E a w h => by
    have hx' : S'.ev x = .sv s := by rw [ev_congr (fun _ h => h) ht, hx]
    exact ⟨a.eval x, rfl, by have := h.ev x; rw [hx'] at this; exact hi _ _ this, nomb⟩) next
theorem RT.asgI (hg : Gd ops S gd rg) {s X : SV} (hx : S.ev x = .sv s) (hi : SV.imp s X) (hd : d < S.n)
    (next : RunT P C ops nd K rest (⟨rg ++ okeys x, [], [], ⟨some (d, .sv X), [], []⟩⟩ :: acc) (S.set d (.sv X))) : RunT P C ops nd K (⟨some d, .assign x, ty, pos, aft, gd⟩ :: rest) acc S :=
  RT.value hg (okeys x) [] [] (.sv X) hd (by intro c h; cases h) (fun S' ht _ _ E a w h => by
    have hx' : S'.ev x = .sv s := by rw [ev_congr (fun _ h => h) ht, hx]
    exact ⟨a.eval x, rfl, by have := h.ev x; rw [hx'] at this; exact hi _ _ this, nomb⟩) next
theorem RT.boxI (hg : Gd ops S gd rg) {s X : SV} [o1 : One X] (hx : S.ev x = .sv s) (hi : SV.imp s X) (hd : d < S.n) (hb : S.b d = none) (hp : C.pin d = none)
    (next : RunT P C ops nd K rest (⟨rg ++ okeys x, [d], [], ⟨some (d, .ptr d 0), [(d, ⟨T, [.sv X]⟩)], []⟩⟩ :: acc) ((S.setB d ⟨T, [.sv X]⟩).set d (.ptr d 0))) : RunT P C ops nd K (⟨some d, .box T x, ty, pos, aft, gd⟩ :: rest) acc S :=
  RT.mkBox hg (by intro c h; cases h) (okeys x) (cells := [.sv X]) hd hb hp (fun S' ht E a w h => by
    have hx' : S'.ev x = .sv s := by rw [ev_congr (fun _ h => h) ht, hx]
    have h1 := h.ev x
    rw [hx'] at h1
    have h2 := hi _ _ h1
    refine ⟨[a.eval x], by simp [execOp, Instr.box, newVar, newRow, oneCell_cells (o1.h _ _ h2)], ⟨h2, trivial⟩, fun y hy => ?_⟩
    obtain rfl : y = .sv X := by simpa using hy
    exact nomb) next
theorem allv_svis {E : Env} : ∀ {l l' : List SV} {vs : List Value}, SVIs l l' → SV.All E.M l vs → AllV E (l'.map AV.sv) vs := fun hi h => AllV.of_sv (hi.holds h)
theorem all_vv (M : Mem) : ∀ l : List Value, SV.All M (l.map SV.v) l
  | [] => trivial
  | _ :: l => ⟨rfl, all_vv M l⟩
theorem RT.allocI (hg : Gd ops S gd rg) [tz : TyZero P T zv] {cs : List SV} (hi : SVIs (zv.cells.toList.map SV.v) cs) {av : List AV} (hav : cs.map AV.sv = av) (hd : d < S.n) (hb : S.b d = none) (hp : C.pin d = none)
    (next : RunT P C ops nd K rest (⟨rg ++ [], [d], [], ⟨some (d, .ptr d 0), [(d, ⟨T, av⟩)], []⟩⟩ :: acc) ((S.setB d ⟨T, av⟩).set d (.ptr d 0))) : RunT P C ops nd K (⟨some d, .alloc T, ty, pos, aft, gd⟩ :: rest) acc S := by
  subst hav
  exact RT.mkBox hg (by intro c h; cases h) [] hd hb hp (fun S' _ E a w h => ⟨zv.cells.toList, by simp [execOp, Instr.alloc, newVar, newRow, tz.run], allv_svis hi (all_vv _ _), fun y hy => by
    obtain ⟨s, _, rfl⟩ := List.mem_map.1 hy
    exact nomb⟩) next
theorem RT.buildI (hg : Gd ops S gd rg) {pl : List (Nat × Nat)} {zc : List Value} [tP : StructPl P T pl zc] {parts : Array (Nat × Operand)} {qs : List (Nat × List SV)} (hp : Parts S parts.toList qs) {cs cs' : List SV} (hf : fillS (fun i => pl[i]?) (zc.map SV.v) qs = some cs) (hi : SVIs cs cs') (hd : d < S.n)
    (next : RunT P C ops nd K rest (⟨rg ++ pkeys parts.toList, [], [], ⟨some (d, .sv (.agg cs')), [], []⟩⟩ :: acc) (S.set d (.sv (.agg cs')))) : RunT P C ops nd K (⟨some d, .build T parts, ty, pos, aft, gd⟩ :: rest) acc S := by
  refine RT.value hg (pkeys parts.toList) [] [] (.sv (.agg cs')) hd (by intro c h; cases h) (fun S' ht _ _ E a w h => ?_) next
  have hu := tP.h
  cases hT : P.underlying T with
  | none => rw [hT] at hu; cases hu
  | some u =>
    rw [hT] at hu
    cases u with
    | struct fs =>
      simp only at hu
      have hz : (zeroValue T).run P w = .ok (.agg ⟨zc⟩) w := TyZero.run (t := ⟨tP.hz⟩) w
      obtain ⟨us, h1, h2, _⟩ := fill_run h (fun i => pl[i]?) hp ht (cells := zc.map SV.v) (vs := zc) (all_vv _ zc) (List.all_eq_true.1 tP.o) hf
      refine ⟨.agg ⟨us⟩, ?_, ⟨us, rfl, hi.holds h2⟩, nomb⟩
      have hm : (fs.mapM (fun f => do pure (f.offset, ← sizeOf f.type) : Field → Sem (Nat × Nat))).run P w = .ok pl.toArray w := by
        have := mapM_places (P := P) (w := w) hu
        rw [← Array.toArray_toList (xs := fs), List.mapM_toArray]
        rw [Sem.run_map, this]; rfl
      have h1' : Instr.fill (fun i => pl.toArray[i]?) ⟨zc⟩ (parts.toList.map fun p => (p.1, a.eval p.2)) = some ⟨us⟩ := by simpa using h1
      simp only [execOp, Instr.build, underlying]
      simp only [Sem.run_bind, hz, Result.andThen_ok, run_program, hT, Sem.run_pure, Value.cells]
      have hm' : (Array.mapM (fun f => do
          let __do_lift ← sizeOf f.type
          pure (f.offset, __do_lift)) fs : Sem _).run P w = .ok pl.toArray w := hm
      simp only [hm', Result.andThen_ok]
      have e4 : (Array.map (fun x => match x with | (i, x) => (i, a.eval x)) parts).toList = parts.toList.map fun p => (p.1, a.eval p.2) := by simp
      simp only [e4, h1', Sem.run_pure, Result.andThen_ok]
    | _ => cases hu

/- calls -/
theorem Pure.w {f : FuncId} {args args' : List SV} {r : SV} (h : Pure P f args r) (hi : SVIs args' args) : Pure P f args' r := fun M w vs hM hv => h M w vs hM (hi.holds hv)
theorem Pure.r {f : FuncId} {args : List SV} {r r' : SV} (h : Pure P f args r) (hi : SV.imp r r') : Pure P f args r' := fun M w vs hM hv => (h M w vs hM hv).mono fun _ _ ⟨v, M', h1, h2, h3, h4, h5, h6⟩ => ⟨v, M', h1, h2, h3, h4, hi _ _ h5, h6⟩
theorem NewC.w {f : FuncId} {args args' : List SV} {R : Row} (h : NewC P f args R) (hi : SVIs args' args) : NewC P f args' R := fun M w vs hM hv => h M w vs hM (hi.holds hv)

/- slices -/
theorem RT.lenM (hg : Gd ops S gd rg) {m : Nat} [tS : TySl P T E0 m] {c : Int} (hx : S.ev x = .sv (slc n (l.map e))) (hd : d < S.n) (hc : (l.length : Int) = c)
    (next : RunT P C ops nd K rest (⟨rg ++ okeys x, [], [], ⟨some (d, .sv (.v (.int .i64 c))), [], []⟩⟩ :: acc) (S.set d (.sv (.v (.int .i64 c))))) : RunT P C ops nd K (⟨some d, .call ⟨.builtin .len, #[x], #[T]⟩, ty, pos, aft, gd⟩ :: rest) acc S :=
  RT.len hg hx hd (by rw [List.length_map, hc]; exact next)
theorem RT.lenN (hg : Gd ops S gd rg) {m : Nat} [tS : TySl P T E0 m] {c : Int} (hx : S.ev x = .sv (.v (.slice none 0 0))) (hd : d < S.n) (hc : 0 = c)
    (next : RunT P C ops nd K rest (⟨rg ++ okeys x, [], [], ⟨some (d, .sv (.v (.int .i64 c))), [], []⟩⟩ :: acc) (S.set d (.sv (.v (.int .i64 c))))) : RunT P C ops nd K (⟨some d, .call ⟨.builtin .len, #[x], #[T]⟩, ty, pos, aft, gd⟩ :: rest) acc S :=
  RT.len hg hx hd (by rw [← hc] at next; exact next)
theorem RT.lenRM (hg : Gd ops S gd rg) {m : Nat} [tS : TySl P T E0 m] {i : Nat} {E1 : TypeId} {c : Int} (hx : S.ev x = .row i) (hR : S.r i = .live (TR E1 n e l)) (hd : d < S.n) (hc : (l.length : Int) = c)
    (next : RunT P C ops nd K rest (⟨rg ++ okeys x, [], [i], ⟨some (d, .sv (.v (.int .i64 c))), [], []⟩⟩ :: acc) (S.set d (.sv (.v (.int .i64 c))))) : RunT P C ops nd K (⟨some d, .call ⟨.builtin .len, #[x], #[T]⟩, ty, pos, aft, gd⟩ :: rest) acc S :=
  RT.lenR hg hx hR hd (by show RunT _ _ _ _ _ _ (⟨_, _, _, ⟨some (d, .sv (.v (.int .i64 (l.length : Int)))), _, _⟩⟩ :: _) (S.set d (.sv (.v (.int .i64 (l.length : Int))))); rw [hc]; exact next)
theorem RT.ixM (hg : Gd ops S gd rg) [tS : TySl P T E0 n] {kk : IntKind} {i : Int} {a : α} (hx : S.ev x = .sv (slc n (l.map e))) (hy : S.ev y = .sv (.v (.int kk i))) (hd : d < S.n) (ha : geti l i = some a)
    (next : RunT P C ops nd K rest (⟨rg ++ (okeys x ++ okeys y), [], [], ⟨some (d, .sv (ref (e a))), [], []⟩⟩ :: acc) (S.set d (.sv (ref (e a))))) : RunT P C ops nd K (⟨some d, .indexAddr T x y, ty, pos, aft, gd⟩ :: rest) acc S :=
  RT.indexAddr hg (e a) hx hy hd (geti_some ha).1 (by rw [List.getElem?_map, (geti_some ha).2]; rfl) next
theorem RT.sliceM (hg : Gd ops S gd rg) [tS : TySl P T E0 n] {lo hi : Option Operand} (a b : Int) (hx : S.ev x = .sv (slc n (l.map e))) (hlo : bndS S 0 lo a) (hhi : bndS S l.length hi b) (hd : d < S.n) (h : subM l a b = some l')
    (next : RunT P C ops nd K rest (⟨rg ++ (okeys x ++ (bkeys lo ++ bkeys hi)), [], [], ⟨some (d, .sv (slc n (l'.map e))), [], []⟩⟩ :: acc) (S.set d (.sv (slc n (l'.map e))))) : RunT P C ops nd K (⟨some d, .slice T x lo hi none, ty, pos, aft, gd⟩ :: rest) acc S := by
  obtain ⟨h0, h1, h2, h3⟩ := subM_some h
  exact RT.slice hg hx a b hlo (by rw [List.length_map]; exact hhi) hd h0 h1 (by rw [List.length_map]; exact h2) _ (by rw [cut_map, h3]) next
theorem RT.buildSl (hg : Gd ops S gd rg) [tS : TySl P T E0 n] [tE : TyEl P E0 n by_ zv] {len : Nat} {parts : Array (Nat × Operand)} {qs : List (Nat × List SV)} (hp : Parts S parts.toList qs) (hd : d < S.n)
    (hc : consec 0 qs = true) (hl : qs.length = len) (hsz : (qs.all fun q => Nat.beq q.2.length n) = true) (hlen : Nat.ble (len * n) 16777216 = true) (hz1 : (zv.cells.toList.all fun v => v.oneCell') = true) (hrows : qs.map (·.2) = l.map e)
    (next : RunT P C ops nd K rest (⟨rg ++ pkeys parts.toList, [], [], ⟨some (d, .sv (slc n (l.map e))), [], []⟩⟩ :: acc) (S.set d (.sv (slc n (l.map e))))) : RunT P C ops nd K (⟨some d, .buildSlice T len parts, ty, pos, aft, gd⟩ :: rest) acc S :=
  RT.buildSlice hg hp hd hc hl hsz (Nat.le_of_ble_eq_true hlen) (List.all_eq_true.1 hz1) hrows next
theorem RT.buildRw (hg : Gd ops S gd rg) [tS : TySl P T E0 n] [tE : TyEl P E0 n by_ zv] {len : Nat} {parts : Array (Nat × Operand)} {qs : List (Nat × List SV)} (hp : Parts S parts.toList qs) (hd : d < S.n) (hdr : S.r d = .un) (hd1 : d < 1000)
    (hc : consec 0 qs = true) (hl : qs.length = len) (hsz : (qs.all fun q => Nat.beq q.2.length n) = true) (hlen : Nat.ble (len * n) 16777216 = true) (hz1 : (zv.cells.toList.all fun v => v.oneCell') = true) (hrows : qs.map (·.2) = l.map e)
    (next : RunT P C ops nd K rest (⟨rg ++ pkeys parts.toList, [], [d], ⟨some (d, .row d), [], [(d, .live (TR E0 n e l))]⟩⟩ :: acc) ((AS.setRs [(d, .live (TR E0 n e l))] S).set d (.row d))) : RunT P C ops nd K (⟨some d, .buildSlice T len parts, ty, pos, aft, gd⟩ :: rest) acc S := by
  refine RT.buildSliceR hg hp hd hdr hd1 hc hl hsz (Nat.le_of_ble_eq_true hlen) (List.all_eq_true.1 hz1) (cells := l.flatMap e) (by rw [hrows, flat_map]) ?_
  have : len = l.length := by rw [← hl, ← List.length_map (f := (·.2)) (as := qs), hrows, List.length_map]
  rw [this]; exact next

/- append -/
theorem RT.apN (hg : Gd ops S gd rg) [tS : TySl P T E0 n] [tE : TyEl P E0 n by_ zv] (hx : S.ev x = .sv (.v (.slice none 0 0))) (hy : S.ev y = .sv (slc n (k.map e))) (hd : d < S.n) (hdr : S.r d = .un) (hd1 : d < 1000) (h : apM by_ [] k = some l')
    (next : RunT P C ops nd K rest (⟨rg ++ (okeys x ++ okeys y), [], [d], ⟨some (d, .row d), [], [(d, .live (TR E0 n e l'))]⟩⟩ :: acc) ((AS.setRs [(d, .live (TR E0 n e l'))] S).set d (.row d))) : RunT P C ops nd K (⟨some d, .call ⟨.builtin .append, #[x, y], #[T, T]⟩, ty, pos, aft, gd⟩ :: rest) acc S := by
  obtain ⟨h1, h2, rfl⟩ := apM_some h
  exact RT.appendN hg hx hy hd hdr hd1 (by simpa using h1) (by simpa using h2) _ (by simp [flat_map]) next
theorem RT.apR (hg : Gd ops S gd rg) [tS : TySl P T E0 n] [tE : TyEl P E0 n by_ zv] {i : Nat} (hx : S.ev x = .row i) (hR : S.r i = .live (TR E0 n e l)) (hy : S.ev y = .sv (slc n (k.map e))) (hd : d < S.n) (hdr : S.r d = .un) (hd1 : d < 1000) (h : apM by_ l k = some l')
    (next : RunT P C ops nd K rest (⟨rg ++ (okeys x ++ okeys y), [], [i, d], ⟨some (d, .row d), [], [(i, .dead), (d, .live (TR E0 n e l'))]⟩⟩ :: acc) ((AS.setRs [(i, .dead), (d, .live (TR E0 n e l'))] S).set d (.row d))) : RunT P C ops nd K (⟨some d, .call ⟨.builtin .append, #[x, y], #[T, T]⟩, ty, pos, aft, gd⟩ :: rest) acc S := by
  obtain ⟨h1, h2, rfl⟩ := apM_some h
  exact RT.appendR hg hx hR hy hd hdr hd1 (by simpa using h1) (by simpa using h2) _ (by simp [flat_map]) next
theorem RT.apIR (hg : Gd ops S gd rg) [tS : TySl P T E0 n] [tE : TyEl P E0 n by_ zv] [el : EL e n] {i : Nat} (hx : S.ev x = .row i) (hR : S.r i = .live (TR E0 n e l)) (hy : S.ev y = .sv (slc n (k.map e))) (hd : d < S.n) (hdr : S.r d = .un) (hd1 : d < 1000) (h : apM by_ l k = some l')
    (next : RunT P C ops nd K rest (⟨rg ++ (okeys x ++ okeys y), [], [d, i], ⟨some (d, .sv (slc n (l'.map e))), [], [(i, .dead), (d, .dead)]⟩⟩ :: acc) ((AS.setRs [(i, .dead), (d, .dead)] S).set d (.sv (slc n (l'.map e))))) : RunT P C ops nd K (⟨some d, .call ⟨.builtin .append, #[x, y], #[T, T]⟩, ty, pos, aft, gd⟩ :: rest) acc S := by
  obtain ⟨h1, h2, rfl⟩ := apM_some h
  have hf : l.flatMap e ++ (k.map e).flatten = (l ++ k).flatMap e := by simp [flat_map]
  exact RT.appendI hg (.row hx hR) hy hd hdr hd1 (by simpa using h1) (by simpa using h2) _ (rows' := (l ++ k).map e) (fun _ _ h => h) (by rw [hf]; exact rows_map _) (by simp) (by rw [hf]; exact ones_flat _) next
theorem RT.apIN (hg : Gd ops S gd rg) [tS : TySl P T E0 n] [tE : TyEl P E0 n by_ zv] [el : EL e n] (hx : S.ev x = .sv (.v (.slice none 0 0))) (hy : S.ev y = .sv (slc n (k.map e))) (hd : d < S.n) (hdr : S.r d = .un) (hd1 : d < 1000) (h : apM by_ [] k = some l')
    (next : RunT P C ops nd K rest (⟨rg ++ (okeys x ++ okeys y), [], [d], ⟨some (d, .sv (slc n (l'.map e))), [], [(d, .dead)]⟩⟩ :: acc) ((AS.setRs [(d, .dead)] S).set d (.sv (slc n (l'.map e))))) : RunT P C ops nd K (⟨some d, .call ⟨.builtin .append, #[x, y], #[T, T]⟩, ty, pos, aft, gd⟩ :: rest) acc S := by
  obtain ⟨h1, h2, rfl⟩ := apM_some h
  have hf : ([] : List SV) ++ (k.map e).flatten = ([] ++ k).flatMap e := by simp [flat_map]
  exact RT.appendI hg (.nil hx) hy hd hdr hd1 (by simpa using h1) (by simpa using h2) _ (rows' := ([] ++ k).map e) (fun _ _ h => h) (by rw [hf]; exact rows_map _) (by simp) (by rw [hf]; exact ones_flat _) next

/- make -/
theorem made_flat (zc : Array Value) (n : Nat) (hz : zc.size = n) (hn : 0 < n) : ∀ m : Nat, (madeCells zc (m * n)).toList = (List.replicate m zc.toList).flatten
  | 0 => by simp [madeCells]
  | m + 1 => by
    have ih := made_flat zc n hz hn m
    rw [List.replicate_succ', List.flatten_append, ← ih]
    simp only [madeCells, Array.toList_map, Array.toList_range, List.flatten_cons, List.flatten_nil, List.append_nil]
    rw [show (m + 1) * n = m * n + n by rw [Nat.add_mul]; omega, List.range_add, List.map_append, List.map_map]
    congr 1
    apply List.ext_getElem?
    intro i
    rw [List.getElem?_map]
    rcases Nat.lt_or_ge i n with hi | hi
    · rw [List.getElem?_range hi]
      simp only [Option.map_some, Function.comp]
      rw [hz, Nat.mul_comm m n, Nat.mul_add_mod, Nat.mod_eq_of_lt hi]
      rw [getElem!_pos zc i (by omega), Array.getElem?_toList, Array.getElem?_eq_getElem (by omega)]
    · rw [List.getElem?_eq_none (by simpa using hi), List.getElem?_eq_none (by simp; omega)]; rfl
theorem svis_app : ∀ {a b c d : List SV}, SVIs a c → SVIs b d → SVIs (a ++ b) (c ++ d)
  | [], _, [], _, _, h => h
  | _ :: _, _, _ :: _, _, h, h' => ⟨h.1, svis_app h.2 h'⟩
  | [], _, _ :: _, _, h, _ => h.elim
  | _ :: _, _, [], _, h, _ => h.elim
theorem svis_rep {zl : List Value} {zz : α} (hi : SVIs (zl.map SV.v) (e zz)) : ∀ m : Nat, SVIs ((List.replicate m zl).flatten.map SV.v) ((List.replicate m zz).flatMap e)
  | 0 => trivial
  | m + 1 => by
    rw [List.replicate_succ, List.replicate_succ, List.flatten_cons, List.map_append, List.flatMap_cons]
    exact svis_app hi (svis_rep hi m)
theorem RT.mkRow (hg : Gd ops S gd rg) [tS : TySl P T E0 n] [tE : TyEl P E0 n by_ zv] {kl kc : IntKind} {c : Int} {zz : α} (hx : S.ev x = .sv (.v (.int kl c))) (hy : S.ev y = .sv (.v (.int kc c))) (hd : d < S.n) (hdr : S.r d = .un) (hd1 : d < 1000) (hz : zv.cells.size = n) (hn : 0 < n) (hi : SVIs (zv.cells.toList.map SV.v) (e zz)) (hm : mkM by_ c zz = some l')
    (next : RunT P C ops nd K rest (⟨rg ++ (okeys x ++ okeys y), [], [d], ⟨some (d, .row d), [], [(d, .live (TR E0 n e l'))]⟩⟩ :: acc) ((AS.setRs [(d, .live (TR E0 n e l'))] S).set d (.row d))) : RunT P C ops nd K (⟨some d, .makeSlice T x y, ty, pos, aft, gd⟩ :: rest) acc S := by
  obtain ⟨h0, hroom, hroom2, rfl⟩ := mkM_some hm
  refine .inl ⟨_, [], [d], _, ?_, next⟩
  rintro S' hn' ht _ hr i a w L Q ho ⟨E, h⟩ hL
  refine wpOp_of (C := C) ho (hg.wanted h (fun s hs => ht s (List.mem_append_left _ hs)) rfl) ?_
  have h1 : a.eval x = .int kl c := by have h1 := h.ev x; rw [ev_congr (fun _ h => List.mem_append_right _ (List.mem_append_left _ h)) ht, hx] at h1; exact h1
  have h2 : a.eval y = .int kc c := by have h2 := h.ev y; rw [ev_congr (fun _ h => List.mem_append_right _ (List.mem_append_right _ h)) ht, hy] at h2; exact h2
  obtain ⟨info, hii, hsz, hby, hzz⟩ := TyEl.info (P := P) (E := E0) (n := n) (by_ := by_) (z := zv)
  obtain ⟨m, rfl⟩ := Int.eq_ofNat_of_zero_le h0
  have hb' : info.bytes * m ≤ 281474976710656 := by
    rw [hby]
    have : ((by_ * m : Nat) : Int) ≤ 281474976710656 := by rw [Int.natCast_mul]; exact hroom
    omega
  obtain ⟨w', q1, q2, q3⟩ := run_make_full (P := P) w 0 T E0 info zv n tS.u hii hzz hsz kl kc m hb' (by unfold maxLen; omega) (Nat.zero_le _)
  have hr' : (execOp a.eval ⟨some d, .makeSlice T x y, ty, pos, aft, gd⟩).run P w = .ok (.value (.slice (some ⟨w.heap.size, 0, none⟩) m m)) w' := by
    simp only [execOp, h1, h2]
    simp [q1]
  have hdu : S'.r d = .un := by rw [hr d (by simp)]; exact hdr
  have e0 : (m : Int).toNat = m := by simp
  have hall : SV.All E.M ((List.replicate m zz).flatMap e) (madeCells zv.cells (m * n)).toList := by
    rw [made_flat zv.cells n hz hn]
    exact SVIs.holds (l := ((List.replicate m zv.cells.toList).flatten.map SV.v)) (svis_rep hi m) (all_vv _ _)
  have hlen : (List.replicate (m : Int).toNat zz).length = m := by simp
  refine wpIn_of (C := C) (by intro c h; cases h) hr' (hL _ _ ⟨_, (h.newRow hdu hd1 [] none (.inl ⟨rfl, rfl⟩) (R' := TR E0 n e (List.replicate (m : Int).toNat zz)) (by show w'.ownsRow 0 E0 n _ (List.replicate (m : Int).toNat zz).length _; rw [hlen]; exact q2) (by rw [e0]; exact hall) (.inr (.inl rfl)) q3).put (d := d) (x := .row d) (v := .slice (some ⟨w.heap.size, 0, none⟩) m m) (by simp [AV.holds]) (by show d < S'.n; omega) ⟨fun _ e => e.elim, fun j e => ?_⟩⟩)
  cases e
  show (AS.setR S' d _).r d ≠ _
  rw [AS.setR_same]; simp
theorem RT.mkEmp (hg : Gd ops S gd rg) [tS : TySl P T E0 n] [tE : TyEl P E0 n by_ zv] {kl kc : IntKind} {c : Int} (hx : S.ev x = .sv (.v (.int kl 0))) (hy : S.ev y = .sv (.v (.int kc c))) (hd : d < S.n) (hdr : S.r d = .un) (hd1 : d < 1000) (h : mkE (α := α) by_ c = some l')
    (next : RunT P C ops nd K rest (⟨rg ++ (okeys x ++ okeys y), [], [d], ⟨some (d, .row d), [], [(d, .live (TR E0 n e l'))]⟩⟩ :: acc) ((AS.setRs [(d, .live (TR E0 n e l'))] S).set d (.row d))) : RunT P C ops nd K (⟨some d, .makeSlice T x y, ty, pos, aft, gd⟩ :: rest) acc S := by
  obtain ⟨h0, h1, h2, rfl⟩ := mkE_some h
  exact RT.make0 hg hx hy hd hdr hd1 h0 h1 h2 next

/- rows -/
theorem RT.ixRM (hg : Gd ops S gd rg) [tS : TySl P T E0 n] {i j : Nat} {E1 : TypeId} {kk : IntKind} {v : Int} (hx : S.ev x = .row i) (hR : S.r i = .live (TR E1 n e l)) (hy : S.ev y = .sv (.v (.int kk v))) (hd : d < S.n) (h : cki l v = some j)
    (next : RunT P C ops nd K rest (⟨rg ++ (okeys x ++ okeys y), [], [i], ⟨some (d, .rptr i (j * n)), [], []⟩⟩ :: acc) (S.set d (.rptr i (j * n)))) : RunT P C ops nd K (⟨some d, .indexAddr T x y, ty, pos, aft, gd⟩ :: rest) acc S := by
  obtain ⟨h0, h1, h2⟩ := cki_some h
  exact RT.ixR hg (.row hx hR) hy hd h0 h1 (j * n) (by rw [h2]; omega) next
theorem RT.ldRM (hg : Gd ops S gd rg) [tV : TyV P T] [el : EL e 1] {i j : Nat} {E1 : TypeId} {a : α} {s : SV} (hx : S.ev x = .rptr i (j * 1)) (hR : S.r i = .live (TR E1 1 e l)) (ha : l[j]? = some a) (hs : e a = [s]) (hd : d < S.n)
    (next : RunT P C ops nd K rest (⟨rg ++ okeys x, [], [i], ⟨some (d, .sv s), [], []⟩⟩ :: acc) (S.set d (.sv s))) : RunT P C ops nd K (⟨some d, .load T x, ty, pos, aft, gd⟩ :: rest) acc S := by
  refine RT.ldR hg hx hR (s := s) ?_ hd next
  have := flat_get (e := e) ha
  rw [hs] at this
  have h2 := congrArg (·[0]?) this
  simpa [List.getElem?_take] using h2
theorem RT.ldRMA (hg : Gd ops S gd rg) [tA : TyA P T n] [el : EL e n] {i j : Nat} {E1 : TypeId} {a : α} (hx : S.ev x = .rptr i (j * n)) (hR : S.r i = .live (TR E1 n e l)) (ha : l[j]? = some a) (hd : d < S.n)
    (next : RunT P C ops nd K rest (⟨rg ++ okeys x, [], [i], ⟨some (d, .sv (.agg (e a))), [], []⟩⟩ :: acc) (S.set d (.sv (.agg (e a))))) : RunT P C ops nd K (⟨some d, .load T x, ty, pos, aft, gd⟩ :: rest) acc S :=
  RT.ldRA hg hx hR (flat_get ha) (el.len a) hd next
theorem set_spl (a : List SV) (k : Nat) (s : SV) : a.set k s = spl a k [s] := rfl
theorem RT.stRM (hg : Gd ops S gd rg) [tV : TyV P T] [el : EL e 1] {i j : Nat} {E1 : TypeId} {s : SV} [o1 : One s] (a : α) (hs : e a = [s]) (hx : S.ev x = .rptr i (j * 1)) (hR : S.r i = .live (TR E1 1 e l)) (hy : S.ev y = .sv s) (h : stM l j a = some l')
    (next : RunT P C ops nd K rest (⟨rg ++ (okeys x ++ okeys y), [], [i], ⟨none, [], [(i, .live (TR E1 1 e l'))]⟩⟩ :: acc) (AS.setRs [(i, .live (TR E1 1 e l'))] S)) : RunT P C ops nd K (⟨none, .store T x y, ty, pos, aft, gd⟩ :: rest) acc S := by
  obtain ⟨h1, rfl⟩ := stM_some h
  refine RT.stR hg hx hR hy (by show j * 1 + 1 ≤ l.length * 1; omega) ((l.set j a).flatMap e) (by rw [set_spl, ← hs]; exact flat_set h1) ?_
  have : (TR E1 1 e (l.set j a)) = ⟨E1, 1, l.length, (l.set j a).flatMap e⟩ := by show Row.mk _ _ _ _ = _; rw [List.length_set]
  rw [← this]; exact next
theorem RT.stRMA (hg : Gd ops S gd rg) [tA : TyA P T n] [el : EL e n] {i j : Nat} {E1 : TypeId} (a : α) (hx : S.ev x = .rptr i (j * n)) (hR : S.r i = .live (TR E1 n e l)) (hy : S.ev y = .sv (.agg (e a))) (h : stM l j a = some l')
    (next : RunT P C ops nd K rest (⟨rg ++ (okeys x ++ okeys y), [], [i], ⟨none, [], [(i, .live (TR E1 n e l'))]⟩⟩ :: acc) (AS.setRs [(i, .live (TR E1 n e l'))] S)) : RunT P C ops nd K (⟨none, .store T x y, ty, pos, aft, gd⟩ :: rest) acc S := by
  obtain ⟨h1, rfl⟩ := stM_some h
  have o1 := el.one a
  refine RT.stRA hg hx hR hy (el.len a) (by show j * n + n ≤ l.length * n; have := Nat.mul_le_mul_right n h1; rw [Nat.succ_mul] at this; exact this) ((l.set j a).flatMap e) (flat_set h1) ?_
  have : (TR E1 n e (l.set j a)) = ⟨E1, n, l.length, (l.set j a).flatMap e⟩ := by show Row.mk _ _ _ _ = _; rw [List.length_set]
  rw [← this]; exact next
end steps

theorem weak_frzM {S : AS} {i n : Nat} {E1 : TypeId} {α : Type} {e : α → List SV} {l : List α} [el : EL e n] (hR : S.r i = .live (TR E1 n e l)) : Weak S (S.frz i (slc n (l.map e))) := by
  rintro C a w ⟨E, h⟩
  have hlen : l.length ≤ 9223372036854775807 := by
    obtain ⟨⟨vs, ho, hv⟩, _⟩ := h.rx i _ hR
    rcases ho.2 with ⟨_, q2⟩ | ⟨g', cap, cur, q1, _, q2, q3, q4, q5, q6⟩
    · have q2 : l.length = 0 := q2
      omega
    · have q3 : l.length ≤ cap := q3
      have : maxLen = 9223372036854775807 := by decide
      omega
  exact h.frz hR (rows_map l) (by rw [List.length_map]) hlen (ones_flat l) (fun _ _ h => h)

/- ways that meet again; loops -/
section control
variable {P : Program} {C : Ctx} {S : AS} {Q : Exit → AS → Prop}

theorem ok_tailJ {A : Code} {J R : Type} {kB : J → Option R} {fA : (J → Option R) → Option R} {r : R} (h : letJ kB fA = some r) (I : J → AS)
    (hA : fA kB = some r → Ok P C A S (AThen (fun S' => ∃ j, kB j = some r ∧ Weak S' (I j)) Q)) (hQ : ∀ j, kB j = some r → Q .normal (I j)) : Ok P C A S Q := fun a w hs => by
  refine wpIn_mono (hA h a w hs) ?_
  rintro e a' w' ⟨S', q, hh⟩
  cases e with
  | normal => obtain ⟨j, h1, h2⟩ := q; exact ⟨_, hQ j h1, h2 C a' w' hh⟩
  | _ => exact ⟨S', q, hh⟩
theorem ok_tailP {A : Code} {X : Type} (I : X → AS) (p : X → Prop) (hA : Ok P C A S (AThen (fun S' => ∃ j, p j ∧ Weak S' (I j)) Q)) (hQ : ∀ j, p j → Q .normal (I j)) : Ok P C A S Q := fun a w hs => by
  refine wpIn_mono (hA a w hs) ?_
  rintro e a' w' ⟨S', q, hh⟩
  cases e with
  | normal => obtain ⟨j, h1, h2⟩ := q; exact ⟨_, hQ j h1, h2 C a' w' hh⟩
  | _ => exact ⟨S', q, hh⟩

theorem ok_loopM {c : Code} {T E : Type} {body : T → Option (T ⊕ E)} {s0 : T} {e : E} (h : loopM body s0 = some e) (I : T → AS) (h0 : Weak S (I s0))
    (round : ∀ (s : T) (y : T ⊕ E) (G : T → Prop), body s = some y → (∀ s', y = .inl s' → G s') → (∀ e', y = .inr e' → e' = e) → Ok P C c (I s) (AThen (fun S' => ∃ s', G s' ∧ Weak S' (I s')) Q)) : Ok P C (.loop c) S Q := by
  obtain ⟨n, hn⟩ := loopM_some h
  refine ok_loop (ι := { x : T × Nat // runsN body x.2 x.1 = some e }) (fun x => I x.1.1) (fun x => x.1.2) ⟨(s0, n), hn⟩ h0 ?_
  rintro ⟨⟨s, m⟩, hm⟩
  cases m with
  | zero => cases hm
  | succ m =>
    cases hb : body s with
    | none => simp only [runsN, hb] at hm; cases hm
    | some y =>
      refine ok_mono (round s y (fun s' => runsN body m s' = some e) hb ?_ ?_) ?_
      · rintro s' rfl; simpa only [runsN, hb] using hm
      · rintro e' rfl; simp only [runsN, hb] at hm; exact Option.some.inj hm
      · intro ex S' q
        cases ex with
        | normal => obtain ⟨s', h1, h2⟩ := q; exact ⟨⟨(s', m), h1⟩, Nat.lt_succ_self m, h2⟩
        | _ => exact q
end control
end Go.Fw
