/- Strings; rows cut short; functions that change a row. Over any program. -/
import Derived.Test.YtgkafblpckcekaaFwDen2
import Derived.Laws.BytesArg
import Derived.Laws.Strings
namespace Go.Fw
open Go.RowKit

abbrev Str := List UInt8
def bs (l : Str) : ByteArray := ⟨⟨l⟩⟩
abbrev eStr (s : Str) : List SV := [.v (.string (bs s))]
instance : EL eStr 1 := ⟨fun _ => rfl, fun _ => inferInstance⟩
def sgeti (l : Str) (i : Int) : Option Nat := (geti l i).map UInt8.toNat
def catM (l k : Str) : Option Str := if l.length + k.length ≤ 9223372036854775807 then some (l ++ k) else none
theorem bs_size (l : Str) : (bs l).size = l.length := rfl
theorem bs_toList (l : Str) : (bs l).toList = l := by
  have key : ∀ (n i : Nat) (r : List UInt8), l.length - i = n → ByteArray.toList.loop (bs l) i r = r.reverse ++ l.drop i := by
    intro n
    induction n with
    | zero =>
      intro i r h
      unfold ByteArray.toList.loop
      rw [if_neg (by rw [bs_size]; omega), List.drop_eq_nil_of_le (by omega)]; simp
    | succ n ih =>
      intro i r h
      have hi : i < l.length := by omega
      unfold ByteArray.toList.loop
      rw [if_pos (by rw [bs_size]; exact hi), ih (i + 1) _ (by omega), List.drop_eq_getElem_cons hi]
      have : (bs l).get! i = l[i] := by
        show (⟨l⟩ : Array UInt8)[i]! = _
        rw [getElem!_pos _ i (by simpa using hi)]; rfl
      rw [this]; simp
  have := key l.length 0 [] rfl
  rw [ByteArray.toList, this]; simp
theorem bs_of (b : ByteArray) : bs b.data.toList = b := by cases b; rfl
theorem bs_get (l : Str) (i : Nat) : (bs l)[i]? = l[i]? := by
  rcases Nat.lt_or_ge i l.length with h | h
  · rw [getElem?_pos (bs l) i h, List.getElem?_eq_getElem h]; rfl
  · rw [getElem?_neg (bs l) i (by rw [bs_size]; omega), List.getElem?_eq_none h]
theorem bs_app (l k : Str) : bs l ++ bs k = bs (l ++ k) := by
  apply ByteArray.ext
  show (bs l ++ bs k).data = _
  rw [ByteArray.data_append]
  apply Array.ext'; simp [bs]
theorem bs_cut (l : Str) (a b : Nat) : (bs l).extract a b = bs (cut l a b) := by
  apply ByteArray.ext
  rw [ByteArray.data_extract]
  apply Array.ext'
  simp [bs, cut, List.extract]
theorem bs_inj {l k : Str} (h : bs l = bs k) : l = k := by
  have := congrArg (fun b : ByteArray => b.data.toList) h
  exact this

section steps
variable {P : Program} {C : Ctx} {ops : Array Oper} {S : AS} {nd : Bool} {K : List Ac → AS → Prop} {rest : List Oper} {acc : List Ac}
variable {gd : Option (Nat × Bool)} {rg : List Nat} {d : Nat} {ty : TypeId} {pos : String} {aft : Array Edge} {x y z : Operand} {T U E0 : TypeId}
variable {l l' k : Str}

/-- An operation that the guard passes over. -/
theorem RT.skV {op : Op} {j g : Nat} {b want : Bool} (h1 : (ops[j]?).bind (·.dst) = some g) (h2 : S.t g = .sv (.v (.bool b))) (hb : b ≠ want) (hd : d < S.n)
    (next : RunT P C ops nd K rest (⟨[g], [], [], ⟨some (d, .sv (.v undef)), [], []⟩⟩ :: acc) (S.set d (.sv (.v undef)))) : RunT P C ops nd K (⟨some d, op, ty, pos, aft, some (j, want)⟩ :: rest) acc S := by
  refine .inl ⟨[g], [], [], ⟨some (d, .sv (.v undef)), [], []⟩, ?_, next⟩
  rintro S' hn ht _ _ i a w L Q ho ⟨E, h⟩ hL
  have hv := h.tm g
  rw [ht g (by simp), h2] at hv
  have hv : a.tmps.getD g undef = .bool b := hv
  have hgv : a.tmps[g]? = some (.bool b) := by
    rw [Array.getD_eq_getD_getElem?] at hv
    cases e : a.tmps[g]? with
    | none => rw [e] at hv; simp [undef] at hv
    | some x => rw [e] at hv; simp at hv; rw [hv]
  have hw : Region.wanted ⟨some d, op, ty, pos, aft, some (j, want)⟩ (yielded ops a.tmps) = false := by
    simp [Region.wanted, yielded, h1, hgv, hb]
  simp only [wpOpIn, ho, hw]
  exact ⟨fun _ _ => trivial, hL _ _ ⟨E, h.put (x := .sv (.v undef)) (v := undef) rfl (by omega) ⟨fun _ h => h.elim, fun _ h => h.elim⟩⟩⟩

/-- The same, of an operation that writes no slot. -/
theorem RT.skV0 {op : Op} {j g : Nat} {b want : Bool} (h1 : (ops[j]?).bind (·.dst) = some g) (h2 : S.t g = .sv (.v (.bool b))) (hb : b ≠ want)
    (next : RunT P C ops nd K rest (⟨[g], [], [], ⟨none, [], []⟩⟩ :: acc) S) : RunT P C ops nd K (⟨none, op, ty, pos, aft, some (j, want)⟩ :: rest) acc S := by
  refine .inl ⟨[g], [], [], ⟨none, [], []⟩, ?_, next⟩
  rintro S' hn ht _ _ i a w L Q ho ⟨E, h⟩ hL
  have hv := h.tm g
  rw [ht g (by simp), h2] at hv
  have hv : a.tmps.getD g undef = .bool b := hv
  have hgv : a.tmps[g]? = some (.bool b) := by
    rw [Array.getD_eq_getD_getElem?] at hv
    cases e : a.tmps[g]? with
    | none => rw [e] at hv; simp [undef] at hv
    | some x => rw [e] at hv; simp at hv; rw [hv]
  have hw : Region.wanted ⟨none, op, ty, pos, aft, some (j, want)⟩ (yielded ops a.tmps) = false := by
    simp [Region.wanted, yielded, h1, hgv, hb]
  simp only [wpOpIn, ho, hw]
  exact ⟨fun _ _ => trivial, hL _ _ ⟨E, h⟩⟩

/-- An operation that the guard passes over. -/
theorem RT.skipU {op : Op} {j g : Nat} {want : Bool} (h1 : (ops[j]?).bind (·.dst) = some g) (h2 : S.t g = .sv (.v undef)) (hd : d < S.n)
    (next : RunT P C ops nd K rest (⟨[g], [], [], ⟨some (d, .sv (.v undef)), [], []⟩⟩ :: acc) (S.set d (.sv (.v undef)))) : RunT P C ops nd K (⟨some d, op, ty, pos, aft, some (j, want)⟩ :: rest) acc S := by
  refine .inl ⟨[g], [], [], ⟨some (d, .sv (.v undef)), [], []⟩, ?_, next⟩
  rintro S' hn ht _ _ i a w L Q ho ⟨E, h⟩ hL
  have hv := h.tm g
  rw [ht g (by simp), h2] at hv
  have hv : a.tmps.getD g undef = undef := hv
  rw [Array.getD_eq_getD_getElem?] at hv
  have hw : Region.wanted ⟨some d, op, ty, pos, aft, some (j, want)⟩ (yielded ops a.tmps) = false := by
    cases e : a.tmps[g]? with
    | none => simp [Region.wanted, yielded, h1, e]
    | some x =>
      rw [e] at hv
      simp only [Option.getD_some] at hv
      subst hv
      simp [Region.wanted, yielded, h1, e, undef]
  simp only [wpOpIn, ho, hw]
  exact ⟨fun _ _ => trivial, hL _ _ ⟨E, h.put (x := .sv (.v undef)) (v := undef) rfl (by omega) ⟨fun _ h => h.elim, fun _ h => h.elim⟩⟩⟩

/-- The same, of an operation that writes no slot. -/
theorem RT.skipU0 {op : Op} {j g : Nat} {want : Bool} (h1 : (ops[j]?).bind (·.dst) = some g) (h2 : S.t g = .sv (.v undef))
    (next : RunT P C ops nd K rest (⟨[g], [], [], ⟨none, [], []⟩⟩ :: acc) S) : RunT P C ops nd K (⟨none, op, ty, pos, aft, some (j, want)⟩ :: rest) acc S := by
  refine .inl ⟨[g], [], [], ⟨none, [], []⟩, ?_, next⟩
  rintro S' hn ht _ _ i a w L Q ho ⟨E, h⟩ hL
  have hv := h.tm g
  rw [ht g (by simp), h2] at hv
  have hv : a.tmps.getD g undef = undef := hv
  rw [Array.getD_eq_getD_getElem?] at hv
  have hw : Region.wanted ⟨none, op, ty, pos, aft, some (j, want)⟩ (yielded ops a.tmps) = false := by
    cases e : a.tmps[g]? with
    | none => simp [Region.wanted, yielded, h1, e]
    | some x =>
      rw [e] at hv
      simp only [Option.getD_some] at hv
      subst hv
      simp [Region.wanted, yielded, h1, e, undef]
  simp only [wpOpIn, ho, hw]
  exact ⟨fun _ _ => trivial, hL _ _ ⟨E, h⟩⟩

theorem RT.slen (hg : Gd ops S gd rg) [tS : TyStr P T] {c : Int} (hx : S.ev x = .sv (.v (.string (bs l)))) (hd : d < S.n) (hc : (l.length : Int) = c)
    (next : RunT P C ops nd K rest (⟨rg ++ okeys x, [], [], ⟨some (d, .sv (.v (.int .i64 c))), [], []⟩⟩ :: acc) (S.set d (.sv (.v (.int .i64 c))))) : RunT P C ops nd K (⟨some d, .call ⟨.builtin .len, #[x], #[T]⟩, ty, pos, aft, gd⟩ :: rest) acc S :=
  RT.lenS hg hx hd (by rw [bs_size, hc]; exact next)
theorem RT.six (hg : Gd ops S gd rg) [tS : TyStr P T] {kk : IntKind} {i : Int} {c : Nat} (hx : S.ev x = .sv (.v (.string (bs l)))) (hy : S.ev y = .sv (.v (.int kk i))) (hd : d < S.n) (h : sgeti l i = some c)
    (next : RunT P C ops nd K rest (⟨rg ++ (okeys x ++ okeys y), [], [], ⟨some (d, .sv (.v (.int .u8 (c : Nat)))), [], []⟩⟩ :: acc) (S.set d (.sv (.v (.int .u8 (c : Nat)))))) : RunT P C ops nd K (⟨some d, .index T x y, ty, pos, aft, gd⟩ :: rest) acc S :=
  RT.op2 hg (by intro c h; cases h) hx hy hd (fun ρ w h1 h2 => by
    unfold sgeti at h
    cases hh : geti l i with
    | none => rw [hh] at h; cases h
    | some b =>
      rw [hh] at h
      obtain ⟨q1, q2⟩ := geti_some hh
      have q3 : b.toNat = c := Option.some.inj h
      have q4 : (bs l)[i.toNat]? = some b := by rw [bs_get]; exact q2
      simp [execOp, h1, h2, Instr.index, asIntOf, underlying, tS.h, q1, q4, q3]) next
theorem RT.ssl (hg : Gd ops S gd rg) [tS : TyStr P T] {lo hi : Option Operand} (a b : Int) (hx : S.ev x = .sv (.v (.string (bs l)))) (hlo : bndS S 0 lo a) (hhi : bndS S l.length hi b) (hd : d < S.n) (h : subM l a b = some l')
    (next : RunT P C ops nd K rest (⟨rg ++ (okeys x ++ (bkeys lo ++ bkeys hi)), [], [], ⟨some (d, .sv (.v (.string (bs l')))), [], []⟩⟩ :: acc) (S.set d (.sv (.v (.string (bs l')))))) : RunT P C ops nd K (⟨some d, .slice T x lo hi none, ty, pos, aft, gd⟩ :: rest) acc S := by
  obtain ⟨h0, h1, h2, rfl⟩ := subM_some h
  refine RT.value hg (okeys x ++ (bkeys lo ++ bkeys hi)) [] [] (.sv (.v (.string (bs (cut l a.toNat b.toNat))))) hd (by intro c h; cases h) (fun S' ht _ _ E ac w hh => ?_) next
  have hv : ac.eval x = .string (bs l) := by
    have hv := hh.ev x
    rw [ev_congr (fun _ h => List.mem_append_left _ h) ht, hx] at hv
    exact hv
  have g1 := bnd_val hh hlo (fun s hs => ht s (List.mem_append_right _ (List.mem_append_left _ hs)))
  have g2 := bnd_val hh hhi (fun s hs => ht s (List.mem_append_right _ (List.mem_append_right _ hs)))
  obtain ⟨ka, hka⟩ := Int.eq_ofNat_of_zero_le h0
  obtain ⟨kb, hkb⟩ := Int.eq_ofNat_of_zero_le (show 0 ≤ b by omega)
  subst hka; subst hkb
  have e1 : ka ≤ kb := by omega
  have e2 : kb ≤ l.length := by omega
  have e3 := bs_cut l ka kb
  refine ⟨_, ?_, rfl, nomb⟩
  rcases g1 with ⟨rfl, q1⟩ | ⟨x1, k1, rfl, q1⟩ <;> rcases g2 with ⟨rfl, q2⟩ | ⟨x2, k2, rfl, q2⟩
  · have e4 : ka = 0 := by omega
    have e5 : kb = l.length := by omega
    subst e4; subst e5
    simp [execOp, hv, Instr.sliceAt, Instr.slice, underlying, tS.h, Instr.sliceBounds]
    simp [cut]
  · have e4 : ka = 0 := by omega
    subst e4
    simp [execOp, hv, Instr.sliceAt, Instr.slice, underlying, tS.h, Instr.sliceBounds, Instr.sliceBound, asIntOf, q2, bs_size, e2, e3]
  · have e5 : kb = l.length := by omega
    subst e5
    simp [execOp, hv, Instr.sliceAt, Instr.slice, underlying, tS.h, Instr.sliceBounds, Instr.sliceBound, asIntOf, q1, bs_size, e1, e3]
  · simp [execOp, hv, Instr.sliceAt, Instr.slice, underlying, tS.h, Instr.sliceBounds, Instr.sliceBound, asIntOf, q1, q2, bs_size, e1, e2, e3]
theorem RT.seql (hg : Gd ops S gd rg) {c : Bool} (hx : S.ev x = .sv (.v (.string (bs l)))) (hy : S.ev y = .sv (.v (.string (bs k)))) (hd : d < S.n) (hc : decide (l = k) = c)
    (next : RunT P C ops nd K rest (⟨rg ++ (okeys x ++ okeys y), [], [], ⟨some (d, .sv (.v (.bool c))), [], []⟩⟩ :: acc) (S.set d (.sv (.v (.bool c))))) : RunT P C ops nd K (⟨some d, .binOp .eql T x y U, ty, pos, aft, gd⟩ :: rest) acc S :=
  RT.op2 hg (by intro c h; cases h) hx hy hd (fun ρ w h1 h2 => by
    have : (l == k) = c := by rw [← hc]; exact Bool.beq_eq_decide_eq l k
    simp [execOp, h1, h2, eqGuard, binOp, Op.stringOp, bs_toList, this]) next
theorem RT.sneq (hg : Gd ops S gd rg) {c : Bool} (hx : S.ev x = .sv (.v (.string (bs l)))) (hy : S.ev y = .sv (.v (.string (bs k)))) (hd : d < S.n) (hc : decide (l ≠ k) = c)
    (next : RunT P C ops nd K rest (⟨rg ++ (okeys x ++ okeys y), [], [], ⟨some (d, .sv (.v (.bool c))), [], []⟩⟩ :: acc) (S.set d (.sv (.v (.bool c))))) : RunT P C ops nd K (⟨some d, .binOp .neq T x y U, ty, pos, aft, gd⟩ :: rest) acc S :=
  RT.op2 hg (by intro c h; cases h) hx hy hd (fun ρ w h1 h2 => by
    have : (!(l == k)) = c := by rw [← hc, Bool.beq_eq_decide_eq l k]; simp
    simp [execOp, h1, h2, eqGuard, binOp, Op.stringOp, bs_toList, this]) next
theorem RT.sadd (hg : Gd ops S gd rg) (hx : S.ev x = .sv (.v (.string (bs l)))) (hy : S.ev y = .sv (.v (.string (bs k)))) (hd : d < S.n) (h : catM l k = some l')
    (next : RunT P C ops nd K rest (⟨rg ++ (okeys x ++ okeys y), [], [], ⟨some (d, .sv (.v (.string (bs l')))), [], []⟩⟩ :: acc) (S.set d (.sv (.v (.string (bs l')))))) : RunT P C ops nd K (⟨some d, .binOp .add T x y U, ty, pos, aft, gd⟩ :: rest) acc S :=
  RT.op2 hg (by intro c h; cases h) hx hy hd (fun ρ w h1 h2 => by
    unfold catM at h
    split at h
    · rename_i hh
      have e := bs_app l k
      rw [Option.some.inj h] at e
      have e2 : ¬ ((l.length : Int) + (k.length : Int) > IntKind.i64.max) := by
        have : IntKind.i64.max = 9223372036854775807 := by decide
        omega
      have e3 : (l.length : Int) + (k.length : Int) ≤ IntKind.i64.max := by omega
      simp only [execOp, h1, h2, eqGuard, binOp, Op.stringOp, bs_size, e]
      simp only [Int.natCast_add, gt_iff_lt, Int.not_lt.2 e3, if_false, Sem.run_bind, Sem.run_pure]
      simp
    · cases h) next
theorem RT.toStr (hg : Gd ops S gd rg) [tS : TySl P T E0 1] [tE : TyInt P E0 .u8] [tU : TyStr P U] {w : List Nat} (hx : S.ev x = .sv (slc 1 (w.map eU8))) (hd : d < S.n) (h : w.map UInt8.ofNat = l)
    (next : RunT P C ops nd K rest (⟨rg ++ okeys x, [], [], ⟨some (d, .sv (.v (.string (bs l)))), [], []⟩⟩ :: acc) (S.set d (.sv (.v (.string (bs l)))))) : RunT P C ops nd K (⟨some d, .convert T U x, ty, pos, aft, gd⟩ :: rest) acc S := by
  refine RT.value hg (okeys x) [] [] (.sv (.v (.string (bs l)))) hd (by intro c h; cases h) (fun S' ht _ _ E a wd hh => ?_) next
  have h1 := hh.ev x
  rw [ev_congr (fun _ h => h) ht, hx] at h1
  subst h
  refine ⟨_, ?_, rfl, nomb⟩
  rcases h1 with ⟨a0, e, e2⟩ | ⟨b, o, c, e, hc, hc2, hrow⟩
  · have : w = [] := by simpa using e2
    subst this
    cases a0 with
    | none =>
      simp [execOp, e, convert, underlying, tS.u, tE.h, tU.h, Conv.bytesToString]
      rfl
    | some a0 =>
      simp [execOp, e, convert, underlying, tS.u, tE.h, tU.h, Conv.bytesToString, loadCells]
      rfl
  · rw [List.length_map] at e
    have hcell : ∀ i, i < w.length → wd.cell? ⟨b, o + i, none⟩ = some (.int .u8 ((w.map fun x => ((x : Nat) : Int)).getD i 0)) := by
      intro i hi
      obtain ⟨_, q⟩ := hrow i (eU8 w[i]) (by rw [List.getElem?_map, List.getElem?_eq_getElem hi]; rfl)
      obtain ⟨y, q1, _, q2⟩ := q 0 _ rfl
      have q3 := hh.inW _ _ _ q1
      rw [show y = .int .u8 ((w[i] : Nat) : Int) from q2] at q3
      simpa [List.getD, hi] using q3
    have := run_convert_bytes_arg (P := P) wd T E0 tS.u tE.h b o w.length c (w.map fun x => ((x : Nat) : Int)) (by simp) hcell U tU.h
    simp [execOp, e, this, strOfNums, bs, Function.comp_def]
end steps

section rows
variable {P : Program} {C : Ctx} {ops : Array Oper} {S : AS} {nd : Bool} {K : List Ac → AS → Prop} {rest : List Oper} {acc : List Ac}
variable {gd : Option (Nat × Bool)} {rg : List Nat} {d : Nat} {ty : TypeId} {pos : String} {aft : Array Edge} {x y z : Operand} {T U E0 : TypeId}
variable {α : Type} {l l' k : List α} {e : α → List SV} {n by_ : Nat} {zv : Value}
theorem RT.truncM (hg : Gd ops S gd rg) [tS : TySl P T E0 n] [el : EL e n] {i : Nat} {E1 : TypeId} {hi : Operand} {kk : IntKind} {b : Int} (hx : S.ev x = .row i) (hR : S.r i = .live (TR E1 n e l)) (hhi : S.ev hi = .sv (.v (.int kk b))) (hd : d < S.n) (hdr : S.r d = .un) (hd1 : d < 1000) (h : subM l 0 b = some l')
    (next : RunT P C ops nd K rest (⟨rg ++ (okeys x ++ okeys hi), [], [i, d], ⟨some (d, .row d), [], [(i, .dead), (d, .live (TR E1 n e l'))]⟩⟩ :: acc) ((AS.setRs [(i, .dead), (d, .live (TR E1 n e l'))] S).set d (.row d))) : RunT P C ops nd K (⟨some d, .slice T x none (some hi) none, ty, pos, aft, gd⟩ :: rest) acc S := by
  obtain ⟨h0, h1, h2, rfl⟩ := subM_some h
  refine RT.truncR hg hx hR hhi hd hdr hd1 (by omega) h2 (TR E1 n e (cut l 0 b.toNat)) ?_ next
  have e1 : cut l 0 b.toNat = l.take b.toNat := by simp [cut]
  show Row.mk E1 n _ _ = Row.mk E1 n b.toNat ((l.flatMap e).take (b.toNat * n))
  rw [e1, List.length_take, Nat.min_eq_left (by omega)]
  congr 1
  have key : ∀ (l : List α) (m : Nat), (l.take m).flatMap e = (l.flatMap e).take (m * n) := by
    intro l
    induction l with
    | nil => intro m; simp
    | cons a l ih =>
      intro m
      cases m with
      | zero => simp
      | succ m =>
        have t1 : List.take (m * n + n) (e a) = e a := List.take_of_length_le (by rw [el.len]; omega)
        rw [List.take_succ_cons, List.flatMap_cons, List.flatMap_cons, ih, List.take_append, show (m + 1) * n = m * n + n by rw [Nat.add_mul]; omega, el.len, t1, show m * n + n - n = m * n by omega]
  exact key l b.toNat
end rows
end Go.Fw
