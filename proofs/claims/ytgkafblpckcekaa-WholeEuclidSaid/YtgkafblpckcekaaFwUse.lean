/- Short forms of the rules, as the followed functions use them. Over any program. -/
import Derived.Test.YtgkafblpckcekaaFwLit2
import Derived.KernelRfl
namespace Go.Fw
open Go.RowKit

theorem tl {a b : Nat} (h : Nat.ble (a + 1) b = true) : a < b := Nat.le_of_ble_eq_true h
theorem nw_i64 {x : Int} (h : -9223372036854775808 ≤ x ∧ x ≤ 9223372036854775807) : IntKind.i64.wrap x = x := IntWalk.i64_in x h
theorem nw_u64 {x : Int} (h : 0 ≤ x ∧ x ≤ 18446744073709551615) : IntKind.u64.wrap x = x := by
  simp [IntKind.wrap, IntKind.signed, IntKind.bits]; omega
theorem nw_u32 {x : Int} (h : 0 ≤ x ∧ x ≤ 4294967295) : IntKind.u32.wrap x = x := by
  simp [IntKind.wrap, IntKind.signed, IntKind.bits]; omega
theorem nw_u8 {x : Int} (h : 0 ≤ x ∧ x ≤ 255) : IntKind.u8.wrap x = x := by
  simp [IntKind.wrap, IntKind.signed, IntKind.bits]; omega
theorem nw_i32 {x : Int} (h : -2147483648 ≤ x ∧ x ≤ 2147483647) : IntKind.i32.wrap x = x := by
  simp [IntKind.wrap, IntKind.signed, IntKind.bits]; omega

section steps
variable {P : Program} {C : Ctx} {ops : Array Oper} {S : AS} {nd : Bool} {K : List Ac → AS → Prop} {rest : List Oper} {acc : List Ac}
variable {gd : Option (Nat × Bool)} {rg : List Nat} {d : Nat} {ty : TypeId} {pos : String} {aft : Array Edge} {x y z : Operand} {T U E0 : TypeId}

theorem RT.done (h : K acc S) : RunT P C ops nd K [] acc S := h
theorem RT.mv (hg : Gd ops S gd rg) {s : SV} (hx : S.ev x = .sv s) (hd : d < S.n)
    (next : RunT P C ops nd K rest (⟨rg ++ okeys x, [], [], ⟨some (d, .sv s), [], []⟩⟩ :: acc) (S.set d (.sv s))) : RunT P C ops nd K (⟨some d, .move x, ty, pos, aft, gd⟩ :: rest) acc S := RT.move hg hx hd next
theorem RT.asg (hg : Gd ops S gd rg) {s : SV} (hx : S.ev x = .sv s) (hd : d < S.n)
    (next : RunT P C ops nd K rest (⟨rg ++ okeys x, [], [], ⟨some (d, .sv s), [], []⟩⟩ :: acc) (S.set d (.sv s))) : RunT P C ops nd K (⟨some d, .assign x, ty, pos, aft, gd⟩ :: rest) acc S := RT.assign hg hx hd next
theorem RT.ldV (hg : Gd ops S gd rg) [tV : TyV P T] {j off : Nat} {B : Box} {s : SV} (hx : S.ev x = .ptr j off) (hB : S.b j = some B) (hn : B.cells[off]? = some (.sv s)) (hd : d < S.n)
    (next : RunT P C ops nd K rest (⟨rg ++ okeys x, [j], [], ⟨some (d, .sv s), [], []⟩⟩ :: acc) (S.set d (.sv s))) : RunT P C ops nd K (⟨some d, .load T x, ty, pos, aft, gd⟩ :: rest) acc S := RT.loadV hg hx hB hn hd next
theorem RT.ixA (hg : Gd ops S gd rg) {n : Nat} [tS : TySl P T E0 n] {s : SV} {rows : List (List SV)} [hs : Slc s n rows] {kk : IntKind} {i : Int} (row : List SV) (h0 : 0 ≤ i) (hi : rows[i.toNat]? = some row) (hx : S.ev x = .sv s) (hy : S.ev y = .sv (.v (.int kk i))) (hd : d < S.n)
    (next : RunT P C ops nd K rest (⟨rg ++ (okeys x ++ okeys y), [], [], ⟨some (d, .sv (ref row)), [], []⟩⟩ :: acc) (S.set d (.sv (ref row)))) : RunT P C ops nd K (⟨some d, .indexAddr T x y, ty, pos, aft, gd⟩ :: rest) acc S := RT.indexAddr hg row hx hy hd h0 hi next
end steps

/-- The results of a function, one by one. -/
inductive RVs (P : Program) (S : AS) : List ResultVar → List SV → Prop
  | nil : RVs P S [] []
  | tmp {t : Nat} {s : SV} {rs : List ResultVar} {ss : List SV} (h : S.t t = .sv s) (r : RVs P S rs ss) : RVs P S (.tmp t :: rs) (s :: ss)
  | agg {t : Nat} {T : TypeId} {n i : Nat} {B : Box} {cs : List SV} {rs : List ResultVar} {ss : List SV} [tA : TyA P T n] (h : S.t t = .ptr i 0) (hB : S.b i = some B) (hs : Seg B.cells 0 cs) (hn : cs.length = n) (r : RVs P S rs ss) : RVs P S (.cell t T :: rs) (.agg cs :: ss)
  | one {t : Nat} {T : TypeId} {i : Nat} {B : Box} {s : SV} {rs : List ResultVar} {ss : List SV} [tV : TyV P T] (h : S.t t = .ptr i 0) (hB : S.b i = some B) (hs : B.cells = [.sv s]) (r : RVs P S rs ss) : RVs P S (.cell t T :: rs) (s :: ss)
theorem RVs.all {P : Program} {S : AS} {rs : List ResultVar} {ss : List SV} (h : RVs P S rs ss) : ResVars P S rs ss := by
  induction h with
  | nil => trivial
  | tmp h _ ih => exact ⟨h, ih⟩
  | @agg t T n i B cs rs ss tA h hB hs hn _ ih => exact ⟨⟨i, B, h, hB, .inl ⟨n, cs, tA, hs, hn, rfl⟩⟩, ih⟩
  | @one t T i B s rs ss tV h hB hs _ ih => exact ⟨⟨i, B, h, hB, .inr ⟨tV, hs⟩⟩, ih⟩
def packS : List SV → SV
  | [s] => s
  | ss => .tup ss
theorem res_imp {P : Program} {S : AS} {rs : List ResultVar} {ss : List SV} {r : SV} (h : RVs P S rs ss) (e : SV.imp (packS ss) r) : Res P S rs r := ⟨ss, h.all, fun M v hv => e M v (by cases ss with | nil => exact hv | cons s l => cases l <;> exact hv)⟩
theorem res_of {P : Program} {S : AS} {rs : List ResultVar} {ss : List SV} {r : SV} (h : RVs P S rs ss) (e : r = packS ss) : Res P S rs r := res_imp h (by rw [e]; exact fun _ _ h => h)
theorem SV.imp_agg {l l' : List SV} (h : SVIs l l') : SV.imp (.agg l) (.agg l') := fun _ _ ⟨vs, e, hv⟩ => ⟨vs, e, h.holds hv⟩
theorem SV.imp_tup {l l' : List SV} (h : SVIs l l') : SV.imp (.tup l) (.tup l') := fun _ _ ⟨vs, e, hv⟩ => ⟨vs, e, h.holds hv⟩
theorem SV.imp_nilU : SV.imp (.v (.slice none 0 0)) (U32 []) := fun _ _ h => ⟨by simp, .inl ⟨none, h, rfl⟩⟩
theorem SV.imp_nilI : SV.imp (.v (.slice none 0 0)) (Ints []) := fun _ _ h => ⟨by simp, .inl ⟨none, h, rfl⟩⟩
theorem SV.imp_trans {a b c : SV} (h : SV.imp a b) (k : SV.imp b c) : SV.imp a c := fun M v x => k M v (h M v x)
end Go.Fw
