/- A part of the proof: the framework, the plain functions, the followed functions, the plain laws. -/
import Derived.Test.YtfoldppidpmchaaGreatPPC2
set_option linter.unusedVariables false
set_option linter.unusedSimpArgs false
namespace Go.Fw.Z
open Go.Fw
theorem T {d n : Nat} (h : Nat.ble (d + 1) n = true := by exact rfl) : d < n := tl h
theorem bE {α β : Type} {x : Option α} {f : α → Option β} {r : β} {G : Prop} (h : Option.bind x f = some r) (k : ∀ a, x = some a → f a = some r → G) : G := by obtain ⟨a, h1, h2⟩ := bind_some h; exact k a h1 h2
theorem lE {α β : Type} {v : α} {f : α → Option β} {r : β} {G : Prop} (h : Option.bind (some v) f = some r) (k : ∀ a, v = a → f a = some r → G) : G := k v rfl h
theorem bS {α β : Type} {x : Option α} {f : α → Option β} {r : β} (h : Option.bind x f = some r) : ∃ a, x = some a ∧ f a = some r := bind_some h
theorem F {α : Type} {x y : Option α} {r : α} (h : (bif false then x else y) = some r) : y = some r := h
theorem V {α : Type} {x y : Option α} {r : α} (h : (bif true then x else y) = some r) : x = some r := h
theorem O {α : Type} {a b : α} (h : some a = some b) : a = b := Option.some.inj h
def ren (l : List (Nat × Nat)) (i : Nat) : Nat := ((l.find? fun p => Nat.beq p.1 i).map (·.2)).getD i
def rnA (l : List (Nat × Nat)) : AV → AV
  | .row i => .row (ren l i)
  | .rsl i o n => .rsl (ren l i) o n
  | x => x
def noR : AV → Bool
  | .rptr _ _ => false
  | .cmp _ _ => false
  | _ => true
theorem avi (l : List (Nat × Nat)) {x : AV} (h : noR x = true) : AVI (ren l) (rnA l x) x := by
  cases x with
  | sv s => exact .sv (SV.imp_refl _)
  | ptr i o => exact .ptr
  | bsl i o n c => exact .bsl
  | row i => exact .row rfl
  | rptr i k => cases h
  | rsl i o n => exact .rsl rfl
  | clo g js => exact .clo
  | cmp t js => cases h
theorem avis (l : List (Nat × Nat)) : ∀ {xs : List AV}, (xs.all noR) = true → AVIs (ren l) (xs.map (rnA l)) xs
  | [], _ => trivial
  | x :: xs, h => by simp only [List.all_cons, Bool.and_eq_true] at h; exact ⟨avi l h.1, avis l h.2⟩
theorem wR (l : List (Nat × Nat)) {S : AS} {n : Nat} {ts : List (Nat × AV)} {bs : List (Nat × Box)} {rs : List (Nat × Row)} {g : Nat} {go : Bool}
    (ht : ts.map (fun p => S.t p.1) = ts.map (fun p => rnA l p.2) := by exact rfl) (hb : bs.map (fun p => S.b p.1) = bs.map (fun p => some ⟨p.2.T, p.2.cells.map (rnA l)⟩) := by exact rfl) (hr : rs.map (fun p => S.r (ren l p.1)) = rs.map (fun p => .live p.2) := by exact rfl)
    (hn : S.n = n := by exact rfl) (hg : S.g = g := by exact rfl) (hgo : S.go = go := by exact rfl)
    (hwf : ((ts.all fun p => p.2.liveIn bs rs) && (bs.all fun p => p.2.cells.all fun x => x.liveIn bs rs)) = true := by exact rfl) (hσ : ((rs.all fun p => rs.all fun q => !(Nat.beq (ren l p.1) (ren l q.1)) || Nat.beq p.1 q.1)) = true := by exact rfl)
    (hno : ((ts.all fun p => noR p.2) && (bs.all fun p => p.2.cells.all noR)) = true := by exact rfl) (hl : (l.all fun p => Nat.ble (p.1 + 1) 1000) = true := by exact rfl) : Weak S (AS.mkL n ts bs rs g go) := by
  simp only [Bool.and_eq_true, List.all_eq_true] at hno
  refine weakL (ren l) hn hg hgo hwf hσ ?_ ?_ ?_ ?_
  · clear hwf hb hr
    obtain ⟨h, -⟩ := hno
    induction ts with
    | nil => trivial
    | cons p ts ih =>
      obtain ⟨k, x⟩ := p
      simp only [List.map_cons, List.cons.injEq] at ht
      refine ⟨?_, ih ht.2 (fun q hq => h q (by simp [hq]))⟩
      show AVI _ (S.t k) x
      rw [ht.1]; exact avi l (h (k, x) (by simp))
  · clear hwf ht hr
    obtain ⟨-, h⟩ := hno
    induction bs with
    | nil => trivial
    | cons p bs ih =>
      obtain ⟨k, x⟩ := p
      simp only [List.map_cons, List.cons.injEq] at hb
      exact ⟨⟨_, hb.1, avis l (List.all_eq_true.2 (h (k, x) (by simp)))⟩, ih hb.2 (fun q hq => h q (by simp [hq]))⟩
  · clear hwf ht hb hσ
    induction rs with
    | nil => trivial
    | cons p rs ih =>
      obtain ⟨k, x⟩ := p
      simp only [List.map_cons, List.cons.injEq] at hr
      exact ⟨⟨_, hr.1, SVIs.refl _⟩, ih hr.2⟩
  · intro i hi
    unfold ren
    have : l.find? (fun p => Nat.beq p.1 i) = none := by
      rw [List.find?_eq_none]
      intro p hp e
      have h1 := Nat.le_of_ble_eq_true (List.all_eq_true.1 hl p hp)
      have h2 := Nat.eq_of_beq_eq_true e
      omega
    rw [this]; rfl
section
variable {P : Program} {C : Ctx} {S : AS} {Q : Exit → AS → Prop}
theorem qq {x y : Code} (h : Ok P C x S (AThen (fun S' => Ok P C y S' Q) Q)) : Ok P C (.seq x y) S Q := ok_seq h
theorem sr {id : Nat} {ops : Array Oper} {y : Code} (h : RunT P C ops true (fun _ S => AThen (fun S' => Ok P C y S' Q) Q .normal S) ops.toList [] S) : Ok P C (.seq (.region id ops false) y) S Q := ok_seq (ok_region h)
theorem dn {ops : Array Oper} {acc : List Ac} {next : AS → Prop} (h : next S) : RunT P C ops true (fun _ S => AThen next Q .normal S) [] acc S := h
theorem cF {c : Operand} {x y : Code} (hf : Ok P C y S Q) (hc : S.ev c = .sv (.v (.bool false)) := by exact rfl) : Ok P C (.cond c x y) S Q := ok_condF hc hf
theorem cT {c : Operand} {x y : Code} (ht : Ok P C x S Q) (hc : S.ev c = .sv (.v (.bool true)) := by exact rfl) : Ok P C (.cond c x y) S Q := ok_condT hc ht
theorem fs {c : Operand} {x : Code} {next : AS → Prop} (h : next S) (hc : S.ev c = .sv (.v (.bool false)) := by exact rfl) : Ok P C (.cond c x .skip) S (AThen next Q) := ok_condF hc (ok_skip h)
theorem R1 {A : Prop} {e : Exit} {t : Nat} {s : SV} (h : S.t t = .sv s) : (A ∨ e = e) ∧ Res P S [.tmp t] s := ⟨.inr rfl, res_imp (.tmp h .nil) (SV.imp_refl _)⟩
theorem R2 {A : Prop} {e : Exit} {t u : Nat} {s s' : SV} (h : S.t t = .sv s) (h' : S.t u = .sv s') : (A ∨ e = e) ∧ Res P S [.tmp t, .tmp u] (.tup [s, s']) := ⟨.inr rfl, res_imp (.tmp h (.tmp h' .nil)) (SV.imp_refl _)⟩
theorem RZ {A : Prop} {e : Exit} {rs : List ResultVar} {ss : List SV} {r : SV} (h : RVs P S rs ss) (h' : SV.imp (packS ss) r := by exact SV.imp_refl _) : (A ∨ e = e) ∧ Res P S rs r := ⟨.inr rfl, res_imp h h'⟩
end
section
variable {P : Program} {C : Ctx} {ops : Array Oper} {S : AS} {nd : Bool} {K : List Ac → AS → Prop} {rest : List Oper} {acc : List Ac}
variable {gd : Option (Nat × Bool)} {rg : List Nat} {d : Nat} {ty : TypeId} {pos : String} {aft : Array Edge} {x y z : Operand} {T U : TypeId} {k : IntKind} {p q : Int}
theorem pF {s : SV} (hz : S.ev z = .sv s) (next : RunT P C ops nd K rest (⟨[] ++ (okeys x ++ okeys z), [], [], ⟨some (d, .sv s), [], []⟩⟩ :: acc) (S.set d (.sv s))) (hx : S.ev x = .sv (.v (.bool false)) := by exact rfl) (hd : d < S.n := by exact tl rfl) : RunT P C ops nd K (⟨some d, .pick x y z, ty, pos, aft, none⟩ :: rest) acc S :=
  RT.pickF .none hx hz hd next
theorem pT {s : SV} (hy : S.ev y = .sv s) (next : RunT P C ops nd K rest (⟨[] ++ (okeys x ++ okeys y), [], [], ⟨some (d, .sv s), [], []⟩⟩ :: acc) (S.set d (.sv s))) (hx : S.ev x = .sv (.v (.bool true)) := by exact rfl) (hd : d < S.n := by exact tl rfl) : RunT P C ops nd K (⟨some d, .pick x y z, ty, pos, aft, none⟩ :: rest) acc S :=
  RT.pickT .none hx hy hd next
theorem mo {s : AV} (hx : S.ev x = s) (next : RunT P C ops nd K rest (⟨[] ++ okeys x, [], [], ⟨some (d, s), [], []⟩⟩ :: acc) (S.set d s)) (hd : d < S.n := by exact tl rfl) : RunT P C ops nd K (⟨some d, .move x, ty, pos, aft, none⟩ :: rest) acc S :=
  RT.move .none hx hd next
theorem ad (c : Int) (hx : S.ev x = .sv (.v (.int k p))) (hy : S.ev y = .sv (.v (.int k q))) (hc : k.wrap (p + q) = c) (next : RunT P C ops nd K rest (⟨[] ++ (okeys x ++ okeys y), [], [], ⟨some (d, .sv (.v (.int k c))), [], []⟩⟩ :: acc) (S.set d (.sv (.v (.int k c))))) (hd : d < S.n := by exact tl rfl) : RunT P C ops nd K (⟨some d, .binOp .add T x y U, ty, pos, aft, none⟩ :: rest) acc S :=
  RT.add .none c hx hy hd hc next
theorem cv {j : IntKind} [tT : TyInt P T j] [tU : TyInt P U k] (c : Int) {k' : IntKind} (hx : S.ev x = .sv (.v (.int k' p))) (hc : k.wrap p = c) (next : RunT P C ops nd K rest (⟨[] ++ okeys x, [], [], ⟨some (d, .sv (.v (.int k c))), [], []⟩⟩ :: acc) (S.set d (.sv (.v (.int k c))))) (hd : d < S.n := by exact tl rfl) : RunT P C ops nd K (⟨some d, .convert T U x, ty, pos, aft, none⟩ :: rest) acc S :=
  RT.conv .none c hx hd hc next
theorem ls (c : Bool) (hx : S.ev x = .sv (.v (.int k p))) (hy : S.ev y = .sv (.v (.int k q))) (hc : decide (p < q) = c) (next : RunT P C ops nd K rest (⟨[] ++ (okeys x ++ okeys y), [], [], ⟨some (d, .sv (.v (.bool c))), [], []⟩⟩ :: acc) (S.set d (.sv (.v (.bool c))))) (hd : d < S.n := by exact tl rfl) : RunT P C ops nd K (⟨some d, .binOp .lss T x y U, ty, pos, aft, none⟩ :: rest) acc S :=
  RT.lss .none c hx hy hd hc next
theorem sb (c : Int) (hx : S.ev x = .sv (.v (.int k p))) (hy : S.ev y = .sv (.v (.int k q))) (hc : k.wrap (p - q) = c) (next : RunT P C ops nd K rest (⟨[] ++ (okeys x ++ okeys y), [], [], ⟨some (d, .sv (.v (.int k c))), [], []⟩⟩ :: acc) (S.set d (.sv (.v (.int k c))))) (hd : d < S.n := by exact tl rfl) : RunT P C ops nd K (⟨some d, .binOp .sub T x y U, ty, pos, aft, none⟩ :: rest) acc S :=
  RT.sub .none c hx hy hd hc next
theorem an {s : AV} (hx : S.ev x = s) (next : RunT P C ops nd K rest (⟨[] ++ okeys x, [], [], ⟨some (d, s), [], []⟩⟩ :: acc) (S.set d s)) (hd : d < S.n := by exact tl rfl) : RunT P C ops nd K (⟨some d, .assign x, ty, pos, aft, none⟩ :: rest) acc S :=
  RT.assign .none hx hd next
theorem gt (c : Bool) (hx : S.ev x = .sv (.v (.int k p))) (hy : S.ev y = .sv (.v (.int k q))) (hc : decide (q < p) = c) (next : RunT P C ops nd K rest (⟨[] ++ (okeys x ++ okeys y), [], [], ⟨some (d, .sv (.v (.bool c))), [], []⟩⟩ :: acc) (S.set d (.sv (.v (.bool c))))) (hd : d < S.n := by exact tl rfl) : RunT P C ops nd K (⟨some d, .binOp .gtr T x y U, ty, pos, aft, none⟩ :: rest) acc S :=
  RT.gtr .none c hx hy hd hc next
theorem eq (c : Bool) (hx : S.ev x = .sv (.v (.int k p))) (hy : S.ev y = .sv (.v (.int k q))) (hc : (p == q) = c) (next : RunT P C ops nd K rest (⟨[] ++ (okeys x ++ okeys y), [], [], ⟨some (d, .sv (.v (.bool c))), [], []⟩⟩ :: acc) (S.set d (.sv (.v (.bool c))))) (hd : d < S.n := by exact tl rfl) : RunT P C ops nd K (⟨some d, .binOp .eql T x y U, ty, pos, aft, none⟩ :: rest) acc S :=
  RT.eql .none c hx hy hd hc next
theorem ne (c : Bool) (hx : S.ev x = .sv (.v (.int k p))) (hy : S.ev y = .sv (.v (.int k q))) (hc : (p != q) = c) (next : RunT P C ops nd K rest (⟨[] ++ (okeys x ++ okeys y), [], [], ⟨some (d, .sv (.v (.bool c))), [], []⟩⟩ :: acc) (S.set d (.sv (.v (.bool c))))) (hd : d < S.n := by exact tl rfl) : RunT P C ops nd K (⟨some d, .binOp .neq T x y U, ty, pos, aft, none⟩ :: rest) acc S :=
  RT.neq .none c hx hy hd hc next
theorem ge (c : Bool) (hx : S.ev x = .sv (.v (.int k p))) (hy : S.ev y = .sv (.v (.int k q))) (hc : decide (q ≤ p) = c) (next : RunT P C ops nd K rest (⟨[] ++ (okeys x ++ okeys y), [], [], ⟨some (d, .sv (.v (.bool c))), [], []⟩⟩ :: acc) (S.set d (.sv (.v (.bool c))))) (hd : d < S.n := by exact tl rfl) : RunT P C ops nd K (⟨some d, .binOp .geq T x y U, ty, pos, aft, none⟩ :: rest) acc S :=
  RT.geq .none c hx hy hd hc next
theorem nt {b : Bool} (hx : S.ev x = .sv (.v (.bool b))) (c : Bool) (hc : (!b) = c) (next : RunT P C ops nd K rest (⟨[] ++ okeys x, [], [], ⟨some (d, .sv (.v (.bool c))), [], []⟩⟩ :: acc) (S.set d (.sv (.v (.bool c))))) (hd : d < S.n := by exact tl rfl) : RunT P C ops nd K (⟨some d, .unOp .not T x, ty, pos, aft, none⟩ :: rest) acc S :=
  RT.not .none hx hd c hc next
theorem gF {j_ g_ : Nat} {want_ : Bool} {s : SV} (hz : S.ev z = .sv s) (next : RunT P C ops nd K rest (⟨[g_] ++ (okeys x ++ okeys z), [], [], ⟨some (d, .sv s), [], []⟩⟩ :: acc) (S.set d (.sv s))) (h1_ : (ops[j_]?).bind (·.dst) = some g_ := by exact rfl) (h2_ : S.t g_ = .sv (.v (.bool want_)) := by exact rfl) (hx : S.ev x = .sv (.v (.bool false)) := by exact rfl) (hd : d < S.n := by exact tl rfl) : RunT P C ops nd K (⟨some d, .pick x y z, ty, pos, aft, some (j_, want_)⟩ :: rest) acc S :=
  RT.pickF (.some h1_ h2_) hx hz hd next
theorem gT {j_ g_ : Nat} {want_ : Bool} {s : SV} (hy : S.ev y = .sv s) (next : RunT P C ops nd K rest (⟨[g_] ++ (okeys x ++ okeys y), [], [], ⟨some (d, .sv s), [], []⟩⟩ :: acc) (S.set d (.sv s))) (h1_ : (ops[j_]?).bind (·.dst) = some g_ := by exact rfl) (h2_ : S.t g_ = .sv (.v (.bool want_)) := by exact rfl) (hx : S.ev x = .sv (.v (.bool true)) := by exact rfl) (hd : d < S.n := by exact tl rfl) : RunT P C ops nd K (⟨some d, .pick x y z, ty, pos, aft, some (j_, want_)⟩ :: rest) acc S :=
  RT.pickT (.some h1_ h2_) hx hy hd next
theorem gq {j_ g_ : Nat} {want_ : Bool} (c : Bool) (hx : S.ev x = .sv (.v (.int k p))) (hy : S.ev y = .sv (.v (.int k q))) (hc : (p != q) = c) (next : RunT P C ops nd K rest (⟨[g_] ++ (okeys x ++ okeys y), [], [], ⟨some (d, .sv (.v (.bool c))), [], []⟩⟩ :: acc) (S.set d (.sv (.v (.bool c))))) (h1_ : (ops[j_]?).bind (·.dst) = some g_ := by exact rfl) (h2_ : S.t g_ = .sv (.v (.bool want_)) := by exact rfl) (hd : d < S.n := by exact tl rfl) : RunT P C ops nd K (⟨some d, .binOp .neq T x y U, ty, pos, aft, some (j_, want_)⟩ :: rest) acc S :=
  RT.neq (.some h1_ h2_) c hx hy hd hc next
theorem gg {j_ g_ : Nat} {want_ : Bool} (c : Bool) (hx : S.ev x = .sv (.v (.int k p))) (hy : S.ev y = .sv (.v (.int k q))) (hc : decide (q < p) = c) (next : RunT P C ops nd K rest (⟨[g_] ++ (okeys x ++ okeys y), [], [], ⟨some (d, .sv (.v (.bool c))), [], []⟩⟩ :: acc) (S.set d (.sv (.v (.bool c))))) (h1_ : (ops[j_]?).bind (·.dst) = some g_ := by exact rfl) (h2_ : S.t g_ = .sv (.v (.bool want_)) := by exact rfl) (hd : d < S.n := by exact tl rfl) : RunT P C ops nd K (⟨some d, .binOp .gtr T x y U, ty, pos, aft, some (j_, want_)⟩ :: rest) acc S :=
  RT.gtr (.some h1_ h2_) c hx hy hd hc next
theorem ge_ {j_ g_ : Nat} {want_ : Bool} (c : Bool) (hx : S.ev x = .sv (.v (.int k p))) (hy : S.ev y = .sv (.v (.int k q))) (hc : (p == q) = c) (next : RunT P C ops nd K rest (⟨[g_] ++ (okeys x ++ okeys y), [], [], ⟨some (d, .sv (.v (.bool c))), [], []⟩⟩ :: acc) (S.set d (.sv (.v (.bool c))))) (h1_ : (ops[j_]?).bind (·.dst) = some g_ := by exact rfl) (h2_ : S.t g_ = .sv (.v (.bool want_)) := by exact rfl) (hd : d < S.n := by exact tl rfl) : RunT P C ops nd K (⟨some d, .binOp .eql T x y U, ty, pos, aft, some (j_, want_)⟩ :: rest) acc S :=
  RT.eql (.some h1_ h2_) c hx hy hd hc next
theorem gt_ {j_ g_ : Nat} {want_ : Bool} {b : Bool} (hx : S.ev x = .sv (.v (.bool b))) (c : Bool) (hc : (!b) = c) (next : RunT P C ops nd K rest (⟨[g_] ++ okeys x, [], [], ⟨some (d, .sv (.v (.bool c))), [], []⟩⟩ :: acc) (S.set d (.sv (.v (.bool c))))) (h1_ : (ops[j_]?).bind (·.dst) = some g_ := by exact rfl) (h2_ : S.t g_ = .sv (.v (.bool want_)) := by exact rfl) (hd : d < S.n := by exact tl rfl) : RunT P C ops nd K (⟨some d, .unOp .not T x, ty, pos, aft, some (j_, want_)⟩ :: rest) acc S :=
  RT.not (.some h1_ h2_) hx hd c hc next
end
section
variable {P : Program} {C : Ctx} {ops : Array Oper} {S : AS} {nd : Bool} {K : List Ac → AS → Prop} {rest : List Oper} {acc : List Ac}
variable {gd : Option (Nat × Bool)} {rg : List Nat} {d : Nat} {ty : TypeId} {pos : String} {aft : Array Edge} {x y z : Operand} {T U E0 : TypeId}
theorem mv {s : SV} (hx : S.ev x = .sv s) (next : RunT P C ops nd K rest (⟨[] ++ okeys x, [], [], ⟨some (d, .sv s), [], []⟩⟩ :: acc) (S.set d (.sv s))) (hd : d < S.n := by exact tl rfl) : RunT P C ops nd K (⟨some d, .move x, ty, pos, aft, none⟩ :: rest) acc S :=
  RT.mv .none hx hd next
theorem ag {s : SV} (hx : S.ev x = .sv s) (next : RunT P C ops nd K rest (⟨[] ++ okeys x, [], [], ⟨some (d, .sv s), [], []⟩⟩ :: acc) (S.set d (.sv s))) (hd : d < S.n := by exact tl rfl) : RunT P C ops nd K (⟨some d, .assign x, ty, pos, aft, none⟩ :: rest) acc S :=
  RT.asg .none hx hd next
theorem cl {f : FuncId} [Ent P f] {g : Operand} {xs : Array Operand} {at_ : Array TypeId} {args : List SV} {r : SV} (hp : Pure P f args r) (hargs : AllSv S xs.toList args) (next : RunT P C ops nd K rest (⟨[] ++ (okeys g ++ xs.toList.flatMap okeys), [], [], ⟨some (d, .sv r), [], []⟩⟩ :: acc) (S.set d (.sv r))) (hf : S.ev g = .sv (.v (.func (.func f) #[] #[])) := by exact rfl) (hd : d < S.n := by exact tl rfl) : RunT P C ops nd K (⟨some d, .call ⟨.value g, xs, at_⟩, ty, pos, aft, none⟩ :: rest) acc S :=
  RT.call .none hp hf hargs hd next
theorem ld {n : Nat} [tA : TyA P T n] {j off : Nat} {B : Box} {cs : List SV} (hx : S.ev x = .ptr j off) (hB : S.b j = some B) (hcs : Seg B.cells off cs) (next : RunT P C ops nd K rest (⟨[] ++ okeys x, [j], [], ⟨some (d, .sv (.agg cs)), [], []⟩⟩ :: acc) (S.set d (.sv (.agg cs)))) (hn : cs.length = n := by exact rfl) (hd : d < S.n := by exact tl rfl) : RunT P C ops nd K (⟨some d, .load T x, ty, pos, aft, none⟩ :: rest) acc S :=
  RT.load .none hx hB hcs hn hd next
theorem lV [tV : TyV P T] {j off : Nat} {B : Box} {s : SV} (hx : S.ev x = .ptr j off) (hB : S.b j = some B) (hn : B.cells[off]? = some (.sv s)) (next : RunT P C ops nd K rest (⟨[] ++ okeys x, [j], [], ⟨some (d, .sv s), [], []⟩⟩ :: acc) (S.set d (.sv s))) (hd : d < S.n := by exact tl rfl) : RunT P C ops nd K (⟨some d, .load T x, ty, pos, aft, none⟩ :: rest) acc S :=
  RT.ldV .none hx hB hn hd next
theorem fa {f off : Nat} [hf : Fld P T f off U] [sU : Sized P U] {j o : Nat} (hx : S.ev x = .ptr j o) {o' : Nat} (ho' : o + off = o') (next : RunT P C ops nd K rest (⟨[] ++ okeys x, [], [], ⟨some (d, .ptr j o'), [], []⟩⟩ :: acc) (S.set d (.ptr j o'))) (hd : d < S.n := by exact tl rfl) : RunT P C ops nd K (⟨some d, .fieldAddr T x f, ty, pos, aft, none⟩ :: rest) acc S :=
  RT.fieldAddr .none hx hd ho' next
theorem so {n : Nat} [tA : TyA P T n] {j : Nat} {B : Box} {cs : List SV} [o1 : Ones cs] (hx : S.ev x = .ptr j 0) (hB : S.b j = some B) (hy : S.ev y = .sv (.agg cs)) (next : RunT P C ops nd K rest (⟨[] ++ (okeys x ++ okeys y), [j], [], ⟨none, [(j, ⟨B.T, cs.map AV.sv⟩)], []⟩⟩ :: acc) (S.setB j ⟨B.T, cs.map AV.sv⟩)) (hcl : cs.length = n := by exact rfl) (hn : B.cells.length = n := by exact rfl) : RunT P C ops nd K (⟨none, .store T x y, ty, pos, aft, none⟩ :: rest) acc S :=
  RT.store .none hx hB hy hcl hn next
theorem ex {i : Nat} {ss : List SV} {s : SV} (hx : S.ev x = .sv (.tup ss)) (hi : ss[i]? = some s) (next : RunT P C ops nd K rest (⟨[] ++ okeys x, [], [], ⟨some (d, .sv s), [], []⟩⟩ :: acc) (S.set d (.sv s))) (hd : d < S.n := by exact tl rfl) : RunT P C ops nd K (⟨some d, .extract x i, ty, pos, aft, none⟩ :: rest) acc S :=
  RT.extract .none hx hi hd next
theorem bx {cells : List SV} (hx : S.ev x = .sv (.agg cells)) (next : RunT P C ops nd K rest (⟨[] ++ okeys x, [d], [], ⟨some (d, .ptr d 0), [(d, ⟨T, cells.map AV.sv⟩)], []⟩⟩ :: acc) ((S.setB d ⟨T, cells.map AV.sv⟩).set d (.ptr d 0))) (hd : d < S.n := by exact tl rfl) (hb : S.b d = none := by exact rfl) (hp : C.pin d = none := by exact rfl) : RunT P C ops nd K (⟨some d, .box T x, ty, pos, aft, none⟩ :: rest) acc S :=
  RT.box .none hx hd hb hp next
theorem lr [tV : TyV P T] {cells : List SV} {s : SV} (hx : S.ev x = .sv (ref cells)) (hn : cells[0]? = some s) (next : RunT P C ops nd K rest (⟨[] ++ okeys x, [], [], ⟨some (d, .sv s), [], []⟩⟩ :: acc) (S.set d (.sv s))) (hd : d < S.n := by exact tl rfl) : RunT P C ops nd K (⟨some d, .load T x, ty, pos, aft, none⟩ :: rest) acc S :=
  RT.loadRV .none hx hn hd next
theorem cB {f : FuncId} [Ent P f] {g : Operand} {xs : Array Operand} {at_ : Array TypeId} {args : List SV} {T : TypeId} {c0 c1 : List SV} {res : SV} (hp : BoxC P f args T c0 res c1) (j : Nat) (hB : S.b j = some ⟨T, c0.map AV.sv⟩) (hargs : AllSv S xs.toList args) (next : RunT P C ops nd K rest (⟨[] ++ (okeys g ++ xs.toList.flatMap okeys), [j], [], ⟨some (d, .sv res), [(j, ⟨T, c1.map AV.sv⟩)], []⟩⟩ :: acc) ((AS.setBs [(j, ⟨T, c1.map AV.sv⟩)] S).set d (.sv res))) (hf : S.ev g = .clo f [.box j] := by exact rfl) (hd : d < S.n := by exact tl rfl) : RunT P C ops nd K (⟨some d, .call ⟨.value g, xs, at_⟩, ty, pos, aft, none⟩ :: rest) acc S :=
  RT.callB .none hp j hB hf hargs hd next
theorem cN {f : FuncId} [Ent P f] {g : Operand} {xs : Array Operand} {at_ : Array TypeId} {args : List SV} {R : Row} (hp : NewC P f args R) (hargs : AllSv S xs.toList args) (next : RunT P C ops nd K rest (⟨[] ++ (okeys g ++ xs.toList.flatMap okeys), [], [d], ⟨some (d, .row d), [], [(d, .live R)]⟩⟩ :: acc) ((AS.setRs [(d, .live R)] S).set d (.row d))) (hf : S.ev g = .sv (.v (.func (.func f) #[] #[])) := by exact rfl) (hd : d < S.n := by exact tl rfl) (hdr : S.r d = .un := by exact rfl) (hd1 : d < 1000 := by exact tl rfl) : RunT P C ops nd K (⟨some d, .call ⟨.value g, xs, at_⟩, ty, pos, aft, none⟩ :: rest) acc S :=
  RT.callN .none hp hf hargs hd hdr hd1 next
theorem gm {j_ g_ : Nat} {want_ : Bool} {s : SV} (hx : S.ev x = .sv s) (next : RunT P C ops nd K rest (⟨[g_] ++ okeys x, [], [], ⟨some (d, .sv s), [], []⟩⟩ :: acc) (S.set d (.sv s))) (h1_ : (ops[j_]?).bind (·.dst) = some g_ := by exact rfl) (h2_ : S.t g_ = .sv (.v (.bool want_)) := by exact rfl) (hd : d < S.n := by exact tl rfl) : RunT P C ops nd K (⟨some d, .move x, ty, pos, aft, some (j_, want_)⟩ :: rest) acc S :=
  RT.mv (.some h1_ h2_) hx hd next
theorem gl {j_ g_ : Nat} {want_ : Bool} {n : Nat} [tA : TyA P T n] {j off : Nat} {B : Box} {cs : List SV} (hx : S.ev x = .ptr j off) (hB : S.b j = some B) (hcs : Seg B.cells off cs) (next : RunT P C ops nd K rest (⟨[g_] ++ okeys x, [j], [], ⟨some (d, .sv (.agg cs)), [], []⟩⟩ :: acc) (S.set d (.sv (.agg cs)))) (h1_ : (ops[j_]?).bind (·.dst) = some g_ := by exact rfl) (h2_ : S.t g_ = .sv (.v (.bool want_)) := by exact rfl) (hn : cs.length = n := by exact rfl) (hd : d < S.n := by exact tl rfl) : RunT P C ops nd K (⟨some d, .load T x, ty, pos, aft, some (j_, want_)⟩ :: rest) acc S :=
  RT.load (.some h1_ h2_) hx hB hcs hn hd next
theorem gc {j_ g_ : Nat} {want_ : Bool} {f : FuncId} [Ent P f] {g : Operand} {xs : Array Operand} {at_ : Array TypeId} {args : List SV} {r : SV} (hp : Pure P f args r) (hargs : AllSv S xs.toList args) (next : RunT P C ops nd K rest (⟨[g_] ++ (okeys g ++ xs.toList.flatMap okeys), [], [], ⟨some (d, .sv r), [], []⟩⟩ :: acc) (S.set d (.sv r))) (h1_ : (ops[j_]?).bind (·.dst) = some g_ := by exact rfl) (h2_ : S.t g_ = .sv (.v (.bool want_)) := by exact rfl) (hf : S.ev g = .sv (.v (.func (.func f) #[] #[])) := by exact rfl) (hd : d < S.n := by exact tl rfl) : RunT P C ops nd K (⟨some d, .call ⟨.value g, xs, at_⟩, ty, pos, aft, some (j_, want_)⟩ :: rest) acc S :=
  RT.call (.some h1_ h2_) hp hf hargs hd next
theorem gr {j_ g_ : Nat} {want_ : Bool} [tV : TyV P T] {cells : List SV} {s : SV} (hx : S.ev x = .sv (ref cells)) (hn : cells[0]? = some s) (next : RunT P C ops nd K rest (⟨[g_] ++ okeys x, [], [], ⟨some (d, .sv s), [], []⟩⟩ :: acc) (S.set d (.sv s))) (h1_ : (ops[j_]?).bind (·.dst) = some g_ := by exact rfl) (h2_ : S.t g_ = .sv (.v (.bool want_)) := by exact rfl) (hd : d < S.n := by exact tl rfl) : RunT P C ops nd K (⟨some d, .load T x, ty, pos, aft, some (j_, want_)⟩ :: rest) acc S :=
  RT.loadRV (.some h1_ h2_) hx hn hd next
end
section
variable {P : Program} {C : Ctx} {ops : Array Oper} {S : AS} {nd : Bool} {K : List Ac → AS → Prop} {rest : List Oper} {acc : List Ac}
variable {gd : Option (Nat × Bool)} {rg : List Nat} {d : Nat} {ty : TypeId} {pos : String} {aft : Array Edge} {x y z : Operand} {T U E0 : TypeId}
variable {l l' k : Str}
theorem ww {op : Op} {j g : Nat} {b want : Bool} (next : RunT P C ops nd K rest (⟨[g], [], [], ⟨some (d, .sv (.v undef)), [], []⟩⟩ :: acc) (S.set d (.sv (.v undef)))) (h1 : (ops[j]?).bind (·.dst) = some g := by exact rfl) (h2 : S.t g = .sv (.v (.bool b)) := by exact rfl) (hb : b ≠ want := by exact sk rfl) (hd : d < S.n := by exact tl rfl) : RunT P C ops nd K (⟨some d, op, ty, pos, aft, some (j, want)⟩ :: rest) acc S :=
  RT.skV h1 h2 hb hd next
theorem wu {op : Op} {j g : Nat} {want : Bool} (next : RunT P C ops nd K rest (⟨[g], [], [], ⟨some (d, .sv (.v undef)), [], []⟩⟩ :: acc) (S.set d (.sv (.v undef)))) (h1 : (ops[j]?).bind (·.dst) = some g := by exact rfl) (h2 : S.t g = .sv (.v undef) := by exact rfl) (hd : d < S.n := by exact tl rfl) : RunT P C ops nd K (⟨some d, op, ty, pos, aft, some (j, want)⟩ :: rest) acc S :=
  RT.skipU h1 h2 hd next
end
section
variable {P : Program} {C : Ctx} {ops : Array Oper} {S : AS} {nd : Bool} {K : List Ac → AS → Prop} {rest : List Oper} {acc : List Ac}
variable {gd : Option (Nat × Bool)} {rg : List Nat} {d : Nat} {ty : TypeId} {pos : String} {aft : Array Edge} {x y z : Operand} {T U E0 : TypeId}
variable {α : Type} {l l' k : List α} {e : α → List SV} {n by_ : Nat} {zv : Value}
theorem ln {m : Nat} [tS : TySl P T E0 m] {c : Int} (hx : S.ev x = .sv (slc n (l.map e))) (hc : (l.length : Int) = c) (next : RunT P C ops nd K rest (⟨[] ++ okeys x, [], [], ⟨some (d, .sv (.v (.int .i64 c))), [], []⟩⟩ :: acc) (S.set d (.sv (.v (.int .i64 c))))) (hd : d < S.n := by exact tl rfl) : RunT P C ops nd K (⟨some d, .call ⟨.builtin .len, #[x], #[T]⟩, ty, pos, aft, none⟩ :: rest) acc S :=
  RT.lenM .none hx hd hc next
theorem al [tz : TyZero P T zv] {cs : List SV} (hi : SVIs (zv.cells.toList.map SV.v) cs) {av : List AV} (hav : cs.map AV.sv = av) (next : RunT P C ops nd K rest (⟨[] ++ [], [d], [], ⟨some (d, .ptr d 0), [(d, ⟨T, av⟩)], []⟩⟩ :: acc) ((S.setB d ⟨T, av⟩).set d (.ptr d 0))) (hd : d < S.n := by exact tl rfl) (hb : S.b d = none := by exact rfl) (hp : C.pin d = none := by exact rfl) : RunT P C ops nd K (⟨some d, .alloc T, ty, pos, aft, none⟩ :: rest) acc S :=
  RT.allocI .none hi hav hd hb hp next
theorem ix [tS : TySl P T E0 n] {kk : IntKind} {i : Int} {a : α} (hx : S.ev x = .sv (slc n (l.map e))) (hy : S.ev y = .sv (.v (.int kk i))) (ha : geti l i = some a) (next : RunT P C ops nd K rest (⟨[] ++ (okeys x ++ okeys y), [], [], ⟨some (d, .sv (ref (e a))), [], []⟩⟩ :: acc) (S.set d (.sv (ref (e a))))) (hd : d < S.n := by exact tl rfl) : RunT P C ops nd K (⟨some d, .indexAddr T x y, ty, pos, aft, none⟩ :: rest) acc S :=
  RT.ixM .none hx hy hd ha next
theorem bl [tS : TySl P T E0 n] [tE : TyEl P E0 n by_ zv] {len : Nat} {parts : Array (Nat × Operand)} {qs : List (Nat × List SV)} (hp : Parts S parts.toList qs) (hc : consec 0 qs = true) (hl : qs.length = len) (hsz : (qs.all fun q => Nat.beq q.2.length n) = true) (hlen : Nat.ble (len * n) 16777216 = true) (hz1 : (zv.cells.toList.all fun v => v.oneCell') = true) (hrows : qs.map (·.2) = l.map e) (next : RunT P C ops nd K rest (⟨[] ++ pkeys parts.toList, [], [], ⟨some (d, .sv (slc n (l.map e))), [], []⟩⟩ :: acc) (S.set d (.sv (slc n (l.map e))))) (hd : d < S.n := by exact tl rfl) : RunT P C ops nd K (⟨some d, .buildSlice T len parts, ty, pos, aft, none⟩ :: rest) acc S :=
  RT.buildSl .none hp hd hc hl hsz hlen hz1 hrows next
theorem iR [tS : TySl P T E0 n] {i j : Nat} {E1 : TypeId} {kk : IntKind} {v : Int} (hx : S.ev x = .row i) (hR : S.r i = .live (TR E1 n e l)) (hy : S.ev y = .sv (.v (.int kk v))) (h : cki l v = some j) (next : RunT P C ops nd K rest (⟨[] ++ (okeys x ++ okeys y), [], [i], ⟨some (d, .rptr i (j * n)), [], []⟩⟩ :: acc) (S.set d (.rptr i (j * n)))) (hd : d < S.n := by exact tl rfl) : RunT P C ops nd K (⟨some d, .indexAddr T x y, ty, pos, aft, none⟩ :: rest) acc S :=
  RT.ixRM .none hx hR hy hd h next
theorem aI {s X : SV} (hx : S.ev x = .sv s) (hi : SV.imp s X) (next : RunT P C ops nd K rest (⟨[] ++ okeys x, [], [], ⟨some (d, .sv X), [], []⟩⟩ :: acc) (S.set d (.sv X))) (hd : d < S.n := by exact tl rfl) : RunT P C ops nd K (⟨some d, .assign x, ty, pos, aft, none⟩ :: rest) acc S :=
  RT.asgI .none hx hi hd next
theorem bI {pl : List (Nat × Nat)} {zc : List Value} [tP : StructPl P T pl zc] {parts : Array (Nat × Operand)} {qs : List (Nat × List SV)} (hp : Parts S parts.toList qs) {cs cs' : List SV} (hi : SVIs cs cs') (next : RunT P C ops nd K rest (⟨[] ++ pkeys parts.toList, [], [], ⟨some (d, .sv (.agg cs')), [], []⟩⟩ :: acc) (S.set d (.sv (.agg cs')))) (hf : fillS (fun i => pl[i]?) (zc.map SV.v) qs = some cs := by exact rfl) (hd : d < S.n := by exact tl rfl) : RunT P C ops nd K (⟨some d, .build T parts, ty, pos, aft, none⟩ :: rest) acc S :=
  RT.buildI .none hp hf hi hd next
theorem lR [tV : TyV P T] [el : EL e 1] {i j : Nat} {E1 : TypeId} {a : α} {s : SV} (hx : S.ev x = .rptr i (j * 1)) (hR : S.r i = .live (TR E1 1 e l)) (ha : l[j]? = some a) (hs : e a = [s]) (next : RunT P C ops nd K rest (⟨[] ++ okeys x, [], [i], ⟨some (d, .sv s), [], []⟩⟩ :: acc) (S.set d (.sv s))) (hd : d < S.n := by exact tl rfl) : RunT P C ops nd K (⟨some d, .load T x, ty, pos, aft, none⟩ :: rest) acc S :=
  RT.ldRM .none hx hR ha hs hd next
theorem aR [tS : TySl P T E0 n] [tE : TyEl P E0 n by_ zv] {i : Nat} (hx : S.ev x = .row i) (hR : S.r i = .live (TR E0 n e l)) (hy : S.ev y = .sv (slc n (k.map e))) (h : apM by_ l k = some l') (next : RunT P C ops nd K rest (⟨[] ++ (okeys x ++ okeys y), [], [i, d], ⟨some (d, .row d), [], [(i, .dead), (d, .live (TR E0 n e l'))]⟩⟩ :: acc) ((AS.setRs [(i, .dead), (d, .live (TR E0 n e l'))] S).set d (.row d))) (hd : d < S.n := by exact tl rfl) (hdr : S.r d = .un := by exact rfl) (hd1 : d < 1000 := by exact tl rfl) : RunT P C ops nd K (⟨some d, .call ⟨.builtin .append, #[x, y], #[T, T]⟩, ty, pos, aft, none⟩ :: rest) acc S :=
  RT.apR .none hx hR hy hd hdr hd1 h next
theorem sR [tV : TyV P T] [el : EL e 1] {i j : Nat} {E1 : TypeId} {s : SV} [o1 : One s] (a : α) (hs : e a = [s]) (hx : S.ev x = .rptr i (j * 1)) (hR : S.r i = .live (TR E1 1 e l)) (hy : S.ev y = .sv s) (h : stM l j a = some l') (next : RunT P C ops nd K rest (⟨[] ++ (okeys x ++ okeys y), [], [i], ⟨none, [], [(i, .live (TR E1 1 e l'))]⟩⟩ :: acc) (AS.setRs [(i, .live (TR E1 1 e l'))] S)) : RunT P C ops nd K (⟨none, .store T x y, ty, pos, aft, none⟩ :: rest) acc S :=
  RT.stRM .none a hs hx hR hy h next
theorem sA [tA : TyA P T n] [el : EL e n] {i j : Nat} {E1 : TypeId} (a : α) (hx : S.ev x = .rptr i (j * n)) (hR : S.r i = .live (TR E1 n e l)) (hy : S.ev y = .sv (.agg (e a))) (h : stM l j a = some l') (next : RunT P C ops nd K rest (⟨[] ++ (okeys x ++ okeys y), [], [i], ⟨none, [], [(i, .live (TR E1 n e l'))]⟩⟩ :: acc) (AS.setRs [(i, .live (TR E1 n e l'))] S)) : RunT P C ops nd K (⟨none, .store T x y, ty, pos, aft, none⟩ :: rest) acc S :=
  RT.stRMA .none a hx hR hy h next
theorem lL {m : Nat} [tS : TySl P T E0 m] {i : Nat} {E1 : TypeId} {c : Int} (hx : S.ev x = .row i) (hR : S.r i = .live (TR E1 n e l)) (hc : (l.length : Int) = c) (next : RunT P C ops nd K rest (⟨[] ++ okeys x, [], [i], ⟨some (d, .sv (.v (.int .i64 c))), [], []⟩⟩ :: acc) (S.set d (.sv (.v (.int .i64 c))))) (hd : d < S.n := by exact tl rfl) : RunT P C ops nd K (⟨some d, .call ⟨.builtin .len, #[x], #[T]⟩, ty, pos, aft, none⟩ :: rest) acc S :=
  RT.lenRM .none hx hR hd hc next
theorem cR {f : FuncId} [Ent P f] {g : Operand} {xs : Array Operand} {at_ : Array TypeId} {args : List AV} {E1 : TypeId} {res : AV} (hp : RowC P f args (TR E1 n e l) res (l'.flatMap e)) (hlen : l'.length = l.length) (i : Nat) (hR : S.r i = .live (TR E1 n e l)) (hargs : Args S xs.toList (args.map (AV.ren i))) (next : RunT P C ops nd K rest (⟨[] ++ (okeys g ++ xs.toList.flatMap okeys), [], [i], ⟨some (d, res.ren i), [], [(i, .live (TR E1 n e l'))]⟩⟩ :: acc) ((AS.setRs [(i, .live (TR E1 n e l'))] S).set d (res.ren i))) (hrow : args.all AV.rowy = true := by exact rfl) (hres : res.rowy = true := by exact rfl) (hf : S.ev g = .sv (.v (.func (.func f) #[] #[])) := by exact rfl) (hd : d < S.n := by exact tl rfl) : RunT P C ops nd K (⟨some d, .call ⟨.value g, xs, at_⟩, ty, pos, aft, none⟩ :: rest) acc S :=
  RT.callRM .none hp hlen i hR hrow hres hf hargs hd next
theorem gn {j_ g_ : Nat} {want_ : Bool} {m : Nat} [tS : TySl P T E0 m] {c : Int} (hx : S.ev x = .sv (slc n (l.map e))) (hc : (l.length : Int) = c) (next : RunT P C ops nd K rest (⟨[g_] ++ okeys x, [], [], ⟨some (d, .sv (.v (.int .i64 c))), [], []⟩⟩ :: acc) (S.set d (.sv (.v (.int .i64 c))))) (h1_ : (ops[j_]?).bind (·.dst) = some g_ := by exact rfl) (h2_ : S.t g_ = .sv (.v (.bool want_)) := by exact rfl) (hd : d < S.n := by exact tl rfl) : RunT P C ops nd K (⟨some d, .call ⟨.builtin .len, #[x], #[T]⟩, ty, pos, aft, some (j_, want_)⟩ :: rest) acc S :=
  RT.lenM (.some h1_ h2_) hx hd hc next
end
section
variable {P : Program} {C : Ctx} {ops : Array Oper} {S : AS} {nd : Bool} {K : List Ac → AS → Prop} {rest : List Oper} {acc : List Ac}
variable {gd : Option (Nat × Bool)} {rg : List Nat} {d : Nat} {ty : TypeId} {pos : String} {aft : Array Edge} {x y z : Operand} {T U E0 E1 : TypeId}
theorem fl {f off : Nat} [hf : Fld P T f off U] [tV : TyV P U] {cs : List SV} {s : SV} (hx : S.ev x = .sv (.agg cs)) (hs : cs[off]? = some s) (next : RunT P C ops nd K rest (⟨[] ++ okeys x, [], [], ⟨some (d, .sv s), [], []⟩⟩ :: acc) (S.set d (.sv s))) (hd : d < S.n := by exact tl rfl) : RunT P C ops nd K (⟨some d, .field T x f, ty, pos, aft, none⟩ :: rest) acc S :=
  RT.field .none hx hs hd next
end
end Go.Fw.Z
namespace Go.Proofs.YtfoldppidpmchaaGreat
open Go.Fw
noncomputable def slices_Clone_m (x0 : List Nat) : Option (List Nat) := apM 4 [] x0
noncomputable def whole_carrier_1_m (x0 : Nat) (c0 : Nat) : Option (Nat × Nat) := (some ((x0 + c0) % 18446744073709551616)).bind fun x6 => (some (x6 / 2 ^ 32)).bind fun x8 => (some (x6 % 4294967296)).bind fun x10 => some (x10, x8)
noncomputable def whole_trim_m (x0 : List Nat) : Option (List Nat) := (loopM (fun (y0l5 : (List Nat)) => (show Option (((List Nat)) ⊕ ((List Nat))) from letJ (fun (y14j12 : Bool) => (bif y14j12 then (some (y0l5.length : Int)).bind fun x17 => (some (IntKind.i64.wrap (x17 - 1))).bind fun x18 => (subM y0l5 0 x18).bind fun x19 => some (.inl x19) else some (.inr y0l5))) fun K13 => (some (y0l5.length : Int)).bind fun x4 => (some (decide ((0 : Int) < x4))).bind fun x5 => (bif x5 then (some (y0l5.length : Int)).bind fun x9 => (some (IntKind.i64.wrap (x9 - 1))).bind fun x10 => (geti y0l5 x10).bind fun x11 => (some (decide ((x11 : Nat) = 0))).bind fun x13 => some x13 else some false).bind fun c14_14 => K13 c14_14)) x0).bind fun y0e9 => some y0e9
noncomputable def whole_build_m (x0 : Bool) (x1 : List Nat) : Option (Zr) := (whole_trim_m x1).bind fun x6 => (some (x6.length : Int)).bind fun x8 => (some (decide ((x8 : Int) = 0))).bind fun x9 => (bif x9 then some ⟨false, []⟩ else some ⟨x0, x6⟩)
noncomputable def whole_small_m (x0 : Bool) (x1 : Nat) : Option (Zr) := (some (decide ((x1 : Nat) = 0))).bind fun x7 => (bif x7 then some ⟨false, []⟩ else (some (x1 / 2 ^ 32)).bind fun x11 => (some (decide ((x11 : Nat) = 0))).bind fun x12 => (bif x12 then (some (x1 % 4294967296)).bind fun x15 => some ⟨x0, [x15]⟩ else (some (x1 % 4294967296)).bind fun x20 => (some (x1 / 2 ^ 32)).bind fun x22 => (some (x22 % 4294967296)).bind fun x23 => some ⟨x0, [x20, x23]⟩))
noncomputable def whole_low_m (x0 : List Nat) : Option (Nat) := (some (x0.length : Int)).bind fun x4 => (some (decide ((x4 : Int) = 0))).bind fun x6 => (bif x6 then some 0 else (some (decide ((x4 : Int) = 1))).bind fun x8 => (bif x8 then (geti x0 0).bind fun x10 => (some (x10 % 18446744073709551616)).bind fun x12 => some x12 else (geti x0 0).bind fun x14 => (some (x14 % 18446744073709551616)).bind fun x16 => (geti x0 1).bind fun x18 => (some (x18 % 18446744073709551616)).bind fun x20 => (some (x20 * 2 ^ 32 % 18446744073709551616)).bind fun x21 => (some ((x16 ||| x21) % 18446744073709551616)).bind fun x22 => some x22))
noncomputable def whole_compareWords_m (x0 : List Nat) (x1 : List Nat) : Option (Int) := (some (x0.length : Int)).bind fun x7 => (some (x1.length : Int)).bind fun x9 => (some (decide ((x7 : Int) ≠ x9))).bind fun x10 => (bif x10 then (some (x0.length : Int)).bind fun x12 => (some (x1.length : Int)).bind fun x14 => (some (decide ((x12 : Int) < x14))).bind fun x15 => (bif x15 then some (-1) else some 1) else (some (x0.length : Int)).bind fun x17 => (some (IntKind.i64.wrap (x17 - 1))).bind fun x18 => (loopM (fun (y5l3 : Int) => (show Option ((Int) ⊕ ((Unit) ⊕ (Int))) from (some (decide ((0 : Int) ≤ y5l3))).bind fun x20 => (bif x20 then (geti x0 y5l3).bind fun x25 => (geti x1 y5l3).bind fun x29 => (some (decide ((x25 : Nat) ≠ x29))).bind fun x31 => (bif x31 then (geti x0 y5l3).bind fun x34 => (geti x1 y5l3).bind fun x38 => (some (decide ((x34 : Nat) < x38))).bind fun x40 => (bif x40 then some (.inr (.inr (-1))) else some (.inr (.inr 1))) else (some (IntKind.i64.wrap (y5l3 - 1))).bind fun x22 => some (.inl x22)) else some (.inr (.inl ()))))) x18).bind fun e6 => match e6 with | .inr v6 => some v6 | .inl _ => some 0)
noncomputable def whole_addWords_m (x0 : List Nat) (x1 : List Nat) : Option (List Nat) := (some (x0.length : Int)).bind fun x10 => (some (x1.length : Int)).bind fun x12 => (some (max (x10 : Int) x12)).bind fun x13 => (some (IntKind.i64.wrap (x13 + 1))).bind fun x14 => (mkE (α := Nat) 4 x14).bind fun x15 => (rangeM (fun (k : Nat) (s7 : Nat × (List Nat)) => match s7 with | ⟨b16_0l4, r302l4⟩ => (show Option (Nat × (List Nat)) from (some (x0.getD k 0 % 18446744073709551616)).bind fun p20 => (some (x1.getD k 0 % 18446744073709551616)).bind fun p21 => (some ((p20 + p21) % 18446744073709551616)).bind fun x26 => (whole_carrier_1_m x26 b16_0l4).bind fun ⟨x27, k9⟩ => (apM 4 r302l4 [x27]).bind fun x29 => some (k9, x29))) (max x0.length x1.length) (0, x15)).bind fun e7 => match e7 with | ⟨b16_0l4, r302l4⟩ => (whole_carrier_1_m 0 b16_0l4).bind fun ⟨x32, k11⟩ => (apM 4 r302l4 [x32]).bind fun x34 => some x34
noncomputable def whole_subWords_m (x0 : List Nat) (x1 : List Nat) : Option (List Nat) := (some (x0.length : Int)).bind fun x10 => (mkE (α := Nat) 4 x10).bind fun x11 => (rangeM (fun (k : Nat) (s7 : Nat × (List Nat)) => match s7 with | ⟨b12_0l4, r302l4⟩ => (show Option (Nat × (List Nat)) from (some (x0.getD k 0 % 18446744073709551616)).bind fun p16 => (some (x1.getD k 0 % 18446744073709551616)).bind fun p17 => (some (usub 18446744073709551616 4294967295 p17)).bind fun x22 => (some ((p16 + x22) % 18446744073709551616)).bind fun x23 => (whole_carrier_1_m x23 b12_0l4).bind fun ⟨x24, k9⟩ => (apM 4 r302l4 [x24]).bind fun x26 => some (k9, x26))) (max x0.length x1.length) (1, x11)).bind fun e7 => match e7 with | ⟨b12_0l4, r302l4⟩ => some r302l4
noncomputable def whole_mulWords_m (x0 : List Nat) (x1 : List Nat) : Option (List Nat) := (some (x0.length : Int)).bind fun x12 => (some (x1.length : Int)).bind fun x14 => (some (IntKind.i64.wrap (x12 + x14))).bind fun x15 => (mkM 4 x15 (0 : Nat)).bind fun x16 => (some (x0.length : Int)).bind fun x18 => (loopM (fun (s28 : Int × (List Nat)) => match s28 with | ⟨y19l14, r16l14⟩ => (show Option ((Int × (List Nat)) ⊕ ((List Nat))) from (some (decide ((y19l14 : Int) < x18))).bind fun x20 => (bif x20 then (geti x0 y19l14).bind fun x22 => (some (x1.length : Int)).bind fun x26 => (loopM (fun (s38 : Int × Nat × (List Nat)) => match s38 with | ⟨y27l33, b24_0l33, r16l33⟩ => (show Option ((Int × Nat × (List Nat)) ⊕ (Nat × (List Nat))) from (some (decide ((y27l33 : Int) < x26))).bind fun x28 => (bif x28 then (geti x1 y27l33).bind fun x30 => (some (IntKind.i64.wrap (y19l14 + y27l33))).bind fun x35 => (some (IntKind.i64.wrap (y19l14 + y27l33))).bind fun x40 => (cki r16l33 x40).bind fun x41 => (r16l33[x41]?).bind fun x42 => (some (x42 % 18446744073709551616)).bind fun x43 => (some (x22 % 18446744073709551616)).bind fun x45 => (some (x30 % 18446744073709551616)).bind fun x47 => (some ((x45 * x47) % 18446744073709551616)).bind fun x48 => (some ((x43 + x48) % 18446744073709551616)).bind fun x49 => (whole_carrier_1_m x49 b24_0l33).bind fun ⟨x50, k41⟩ => (cki r16l33 x35).bind fun x51 => (stM r16l33 x51 x50).bind fun l42 => (some (IntKind.i64.wrap (y27l33 + 1))).bind fun x52 => some (.inl (x52, k41, l42)) else some (.inr (b24_0l33, r16l33))))) (0, 0, r16l14)).bind fun e38 => match e38 with | ⟨b24_0e37, r16e37⟩ => (some (x1.length : Int)).bind fun x56 => (some (IntKind.i64.wrap (y19l14 + x56))).bind fun x57 => (whole_carrier_1_m 0 b24_0e37).bind fun ⟨x59, k45⟩ => (cki r16e37 x57).bind fun x60 => (stM r16e37 x60 x59).bind fun l46 => (some (IntKind.i64.wrap (y19l14 + 1))).bind fun x61 => some (.inl (x61, l46)) else some (.inr r16l14)))) (0, x16)).bind fun r16e27 => some r16e27
noncomputable def whole_shortDiv_m (x0 : List Nat) (x1 : Nat) : Option (Nat × List Nat) := (some (x0.length : Int)).bind fun x9 => (some (IntKind.i64.wrap (x9 - 1))).bind fun x10 => (loopM (fun (s8 : Nat × Int × (List Nat)) => match s8 with | ⟨y5l4, y6l4, r1000l4⟩ => (show Option ((Nat × Int × (List Nat)) ⊕ (Nat × (List Nat))) from (some (decide ((0 : Int) ≤ y6l4))).bind fun x12 => (bif x12 then (some (y5l4 * 2 ^ 32 % 18446744073709551616)).bind fun x16 => (cki r1000l4 y6l4).bind fun x19 => (r1000l4[x19]?).bind fun x20 => (some (x20 % 18446744073709551616)).bind fun x21 => (some ((x16 ||| x21) % 18446744073709551616)).bind fun x22 => (uquo 18446744073709551616 x22 x1).bind fun x27 => (some (x27 % 4294967296)).bind fun x28 => (cki r1000l4 y6l4).bind fun x29 => (stM r1000l4 x29 x28).bind fun l10 => (urem x22 x1).bind fun x32 => (some (IntKind.i64.wrap (y6l4 - 1))).bind fun x14 => some (.inl (x32, x14, l10)) else some (.inr (y5l4, r1000l4))))) (0, x10, x0)).bind fun e8 => match e8 with | ⟨y5e7, r1000e7⟩ => (eqLen x0 r1000e7).bind fun _ => some (y5e7, r1000e7)
noncomputable def whole_shiftLeft_m (x0 : List Nat) (x1 : Nat) : Option (List Nat) := (some (x0.length : Int)).bind fun x11 => (some (IntKind.i64.wrap (x11 + 1))).bind fun x12 => (mkE (α := Nat) 4 x12).bind fun x13 => (some (x0.length : Int)).bind fun x15 => (loopM (fun (s8 : Int × Nat × (List Nat)) => match s8 with | ⟨y16l4, b9_0l4, r302l4⟩ => (show Option ((Int × Nat × (List Nat)) ⊕ (Nat × (List Nat))) from (some (decide ((y16l4 : Int) < x15))).bind fun x17 => (bif x17 then (geti x0 y16l4).bind fun x18 => (some (x18 % 18446744073709551616)).bind fun x23 => (some (x23 * 2 ^ (min x1 64) % 18446744073709551616)).bind fun x25 => (whole_carrier_1_m x25 b9_0l4).bind fun ⟨x26, k10⟩ => (apM 4 r302l4 [x26]).bind fun x28 => (some (IntKind.i64.wrap (y16l4 + 1))).bind fun x29 => some (.inl (x29, k10, x28)) else some (.inr (b9_0l4, r302l4))))) (0, 0, x13)).bind fun e8 => match e8 with | ⟨b9_0e7, r302e7⟩ => (whole_carrier_1_m 0 b9_0e7).bind fun ⟨x32, k12⟩ => (apM 4 r302e7 [x32]).bind fun x34 => some x34
noncomputable def whole_shiftLeftN_m (x0 : List Nat) (x1 : Nat) : Option (List Nat) := (some (x0.length : Int)).bind fun x11 => (some (IntKind.i64.wrap (x11 + 1))).bind fun x12 => (mkE (α := Nat) 4 x12).bind fun x13 => (some (x0.length : Int)).bind fun x15 => (loopM (fun (s8 : Int × Nat × (List Nat)) => match s8 with | ⟨y16l4, b9_0l4, r306l4⟩ => (show Option ((Int × Nat × (List Nat)) ⊕ (Nat × (List Nat))) from (some (decide ((y16l4 : Int) < x15))).bind fun x17 => (bif x17 then (geti x0 y16l4).bind fun x18 => (some (x18 % 18446744073709551616)).bind fun x23 => (some (x23 * 2 ^ (min x1 64) % 18446744073709551616)).bind fun x25 => (whole_carrier_1_m x25 b9_0l4).bind fun ⟨x26, k10⟩ => (apM 4 r306l4 [x26]).bind fun x28 => (some (IntKind.i64.wrap (y16l4 + 1))).bind fun x29 => some (.inl (x29, k10, x28)) else some (.inr (b9_0l4, r306l4))))) (0, 0, x13)).bind fun e8 => match e8 with | ⟨b9_0e7, r306e7⟩ => (whole_carrier_1_m 0 b9_0e7).bind fun ⟨x32, k12⟩ => (apM 4 r306e7 [x32]).bind fun x34 => some x34
noncomputable def math_bits_Len32_m (x0 : Nat) : Option (Int) := (some (decide ((65536 : Nat) ≤ x0))).bind fun x4 => letJ (fun (j2 : Nat × Int) => match j2 with | ⟨y0j1, y2j1⟩ => (some (decide ((256 : Nat) ≤ y0j1))).bind fun x8 => letJ (fun (j4 : Nat × Int) => match j4 with | ⟨y0j3, y2j3⟩ => (some (y0j3 % 256)).bind fun x15 => (sgeti [0, 1, 2, 2, 3, 3, 3, 3, 4, 4, 4, 4, 4, 4, 4, 4, 5, 5, 5, 5, 5, 5, 5, 5, 5, 5, 5, 5, 5, 5, 5, 5, 6, 6, 6, 6, 6, 6, 6, 6, 6, 6, 6, 6, 6, 6, 6, 6, 6, 6, 6, 6, 6, 6, 6, 6, 6, 6, 6, 6, 6, 6, 6, 6, 7, 7, 7, 7, 7, 7, 7, 7, 7, 7, 7, 7, 7, 7, 7, 7, 7, 7, 7, 7, 7, 7, 7, 7, 7, 7, 7, 7, 7, 7, 7, 7, 7, 7, 7, 7, 7, 7, 7, 7, 7, 7, 7, 7, 7, 7, 7, 7, 7, 7, 7, 7, 7, 7, 7, 7, 7, 7, 7, 7, 7, 7, 7, 7, 8, 8, 8, 8, 8, 8, 8, 8, 8, 8, 8, 8, 8, 8, 8, 8, 8, 8, 8, 8, 8, 8, 8, 8, 8, 8, 8, 8, 8, 8, 8, 8, 8, 8, 8, 8, 8, 8, 8, 8, 8, 8, 8, 8, 8, 8, 8, 8, 8, 8, 8, 8, 8, 8, 8, 8, 8, 8, 8, 8, 8, 8, 8, 8, 8, 8, 8, 8, 8, 8, 8, 8, 8, 8, 8, 8, 8, 8, 8, 8, 8, 8, 8, 8, 8, 8, 8, 8, 8, 8, 8, 8, 8, 8, 8, 8, 8, 8, 8, 8, 8, 8, 8, 8, 8, 8, 8, 8, 8, 8, 8, 8, 8, 8, 8, 8, 8, 8, 8, 8, 8, 8, 8, 8, 8, 8, 8, 8] ((x15 : Nat) : Int)).bind fun x16 => (some (IntKind.i64.wrap (x16 : Int))).bind fun x17 => (some (IntKind.i64.wrap (y2j3 + x17))).bind fun x18 => some x18) fun K4 => (bif x8 then (some (y0j1 / 2 ^ 8)).bind fun x10 => (some (IntKind.i64.wrap (y2j1 + 8))).bind fun x12 => K4 (x10, x12) else K4 (y0j1, y2j1))) fun K2 => (bif x4 then (some (x0 / 2 ^ 16)).bind fun x6 => K2 (x6, 16) else K2 (x0, 0))
noncomputable def math_bits_LeadingZeros32_m (x0 : Nat) : Option (Int) := (math_bits_Len32_m x0).bind fun x4 => (some (IntKind.i64.wrap (32 - x4))).bind fun x5 => some x5
noncomputable def whole_estimate_m (x0 : List Nat) (o0 : Nat) (n0 : Nat) (x1 : List Nat) : Option (Nat × List Nat) := (some (x1.length : Int)).bind fun x12 => (ckR o0 n0 x12).bind fun x15 => (x0[x15]?).bind fun x16 => (some (x16 % 18446744073709551616)).bind fun x17 => (some (x17 * 2 ^ 32 % 18446744073709551616)).bind fun x18 => (some (IntKind.i64.wrap (x12 - 1))).bind fun x21 => (ckR o0 n0 x21).bind fun x22 => (x0[x22]?).bind fun x23 => (some (x23 % 18446744073709551616)).bind fun x24 => (some ((x18 ||| x24) % 18446744073709551616)).bind fun x25 => (some (IntKind.i64.wrap (x12 - 1))).bind fun x28 => (geti x1 x28).bind fun x29 => (some (x29 % 18446744073709551616)).bind fun x31 => (some (IntKind.i64.wrap (x12 - 2))).bind fun x34 => (geti x1 x34).bind fun x35 => (some (x35 % 18446744073709551616)).bind fun x37 => (uquo 18446744073709551616 x25 x31).bind fun x40 => (urem x25 x31).bind fun x43 => (loopM (fun (s10 : Nat × Nat) => match s10 with | ⟨y9l5, y10l5⟩ => (show Option ((Nat × Nat) ⊕ (Nat)) from letJ (fun (y61j12 : Bool) => (bif y61j12 then (some (usub 18446744073709551616 y9l5 1)).bind fun x63 => (some ((y10l5 + x31) % 18446744073709551616)).bind fun x66 => (some (x66 / 2 ^ 32)).bind fun x68 => (some (decide ((x68 : Nat) ≠ 0))).bind fun x69 => (bif x69 then some (.inr x63) else some (.inl (x63, x66))) else some (.inr y9l5))) fun K13 => (some (y9l5 / 2 ^ 32)).bind fun x45 => (some (decide ((x45 : Nat) ≠ 0))).bind fun x46 => (bif x46 then some true else (some ((y9l5 * x37) % 18446744073709551616)).bind fun x50 => (some (y10l5 * 2 ^ 32 % 18446744073709551616)).bind fun x52 => (some (IntKind.i64.wrap (x12 - 2))).bind fun x55 => (ckR o0 n0 x55).bind fun x56 => (x0[x56]?).bind fun x57 => (some (x57 % 18446744073709551616)).bind fun x58 => (some ((x52 ||| x58) % 18446744073709551616)).bind fun x59 => (some (decide ((x59 : Nat) < x50))).bind fun x60 => some x60).bind fun c61_14 => K13 c61_14)) (x40, x43)).bind fun y9e9 => (eqLen x0 x0).bind fun _ => some (y9e9, x0)
noncomputable def whole_subtractMultiple_m (x0 : List Nat) (o0 : Nat) (n0 : Nat) (x1 : List Nat) (x2 : Nat) : Option (Bool × List Nat) := (some (n0 : Int)).bind fun x14 => (loopM (fun (s12 : Nat × Int × Nat × (List Nat)) => match s12 with | ⟨y7l6, y15l6, b12_0l6, r1000l6⟩ => (show Option ((Nat × Int × Nat × (List Nat)) ⊕ (Nat × (List Nat))) from (some (decide ((y15l6 : Int) < x14))).bind fun x16 => (bif x16 then (some (x1.length : Int)).bind fun x20 => (some (decide ((y15l6 : Int) < x20))).bind fun x21 => letJ (fun (y10j13 : Nat) => (ckR o0 n0 y15l6).bind fun x31 => (r1000l6[x31]?).bind fun x32 => (some (x32 % 18446744073709551616)).bind fun x33 => (whole_carrier_1_m y10j13 b12_0l6).bind fun ⟨x36, k16⟩ => (some (x36 % 18446744073709551616)).bind fun x37 => (some (usub 18446744073709551616 x33 x37)).bind fun x38 => (some (usub 18446744073709551616 x38 y7l6)).bind fun x40 => (some (x40 % 4294967296)).bind fun x44 => (ckR o0 n0 y15l6).bind fun x45 => (stM r1000l6 x45 x44).bind fun l18 => (some (x40 / 2 ^ 63)).bind fun x47 => (some (IntKind.i64.wrap (y15l6 + 1))).bind fun x48 => some (.inl (x47, x48, k16, l18))) fun K14 => (bif x21 then (geti x1 y15l6).bind fun x24 => (some (x24 % 18446744073709551616)).bind fun x26 => (some ((x26 * x2) % 18446744073709551616)).bind fun x28 => K14 x28 else K14 0) else some (.inr (y7l6, r1000l6))))) (0, 0, 0, x0)).bind fun e12 => match e12 with | ⟨y7e11, r1000e11⟩ => (some (decide ((y7e11 : Nat) ≠ 0))).bind fun x50 => (eqLen x0 r1000e11).bind fun _ => some (x50, r1000e11)
noncomputable def whole_longDiv_m (x0 : List Nat) (x1 : List Nat) : Option ((List Nat) × (List Nat)) := (some (x1.length : Int)).bind fun x17 => (some (IntKind.i64.wrap (x17 - 1))).bind fun x20 => (geti x1 x20).bind fun x21 => (math_bits_LeadingZeros32_m x21).bind fun x23 => (some ((x23 % 18446744073709551616).toNat)).bind fun x24 => (whole_shiftLeftN_m x0 x24).bind fun x27 => (whole_shiftLeft_m x1 x24).bind fun x30 => (subM x30 0 x17).bind fun x32 => (some (x0.length : Int)).bind fun x34 => (some (IntKind.i64.wrap (x34 - x17))).bind fun x36 => (some (IntKind.i64.wrap (x36 + 1))).bind fun x37 => (mkM 4 x37 (0 : Nat)).bind fun x38 => (some (x0.length : Int)).bind fun x40 => (some (IntKind.i64.wrap (x40 - x17))).bind fun x42 => (loopM (fun (s36 : Int × (List Nat) × (List Nat)) => match s36 with | ⟨y10l18, r38l18, r27l18⟩ => (show Option ((Int × (List Nat) × (List Nat)) ⊕ ((List Nat) × (List Nat))) from (some (decide ((0 : Int) ≤ y10l18))).bind fun x44 => (bif x44 then (some (IntKind.i64.wrap (y10l18 + x17))).bind fun x51 => (some (IntKind.i64.wrap (x51 + 1))).bind fun x52 => (ckS r27l18 y10l18 x52).bind fun ⟨o53, n53⟩ => (whole_estimate_m r27l18 o53 n53 x32).bind fun ⟨x55, l38⟩ => (eqLen r27l18 l38).bind fun _ => (some (IntKind.i64.wrap (y10l18 + x17))).bind fun x60 => (some (IntKind.i64.wrap (x60 + 1))).bind fun x61 => (ckS l38 y10l18 x61).bind fun ⟨o62, n62⟩ => (whole_subtractMultiple_m l38 o62 n62 x32 x55).bind fun ⟨x65, l40⟩ => (eqLen l38 l40).bind fun _ => letJ (fun (j53 : Nat × (List Nat)) => match j53 with | ⟨y11j52, r27j52⟩ => (some (y11j52 % 4294967296)).bind fun x111 => (cki r38l18 y10l18).bind fun x112 => (stM r38l18 x112 x111).bind fun l55 => (some (IntKind.i64.wrap (y10l18 - 1))).bind fun x46 => some (.inl (x46, l55, r27j52))) fun K53 => (bif x65 then (some (usub 18446744073709551616 x55 1)).bind fun x67 => (some (x32.length : Int)).bind fun x70 => (loopM (fun (s65 : Int × Nat × (List Nat)) => match s65 with | ⟨y71l60, b68_0l60, r27l60⟩ => (show Option ((Int × Nat × (List Nat)) ⊕ (Nat × (List Nat))) from (some (decide ((y71l60 : Int) < x70))).bind fun x72 => (bif x72 then (geti x32 y71l60).bind fun x74 => (some (IntKind.i64.wrap (y10l18 + y71l60))).bind fun x79 => (some (IntKind.i64.wrap (y10l18 + y71l60))).bind fun x84 => (cki r27l60 x84).bind fun x85 => (r27l60[x85]?).bind fun x86 => (some (x86 % 18446744073709551616)).bind fun x87 => (some (x74 % 18446744073709551616)).bind fun x89 => (some ((x87 + x89) % 18446744073709551616)).bind fun x90 => (whole_carrier_1_m x90 b68_0l60).bind fun ⟨x91, k68⟩ => (cki r27l60 x79).bind fun x92 => (stM r27l60 x92 x91).bind fun l69 => (some (IntKind.i64.wrap (y71l60 + 1))).bind fun x93 => some (.inl (x93, k68, l69)) else some (.inr (b68_0l60, r27l60))))) (0, 0, l40)).bind fun e65 => match e65 with | ⟨b68_0e64, r27e64⟩ => (some (IntKind.i64.wrap (y10l18 + x17))).bind fun x97 => (some (IntKind.i64.wrap (y10l18 + x17))).bind fun x102 => (cki r27e64 x102).bind fun x103 => (r27e64[x103]?).bind fun x104 => (some (x104 % 18446744073709551616)).bind fun x105 => (whole_carrier_1_m x105 b68_0e64).bind fun ⟨x106, k72⟩ => (cki r27e64 x97).bind fun x107 => (stM r27e64 x107 x106).bind fun l73 => K53 (x67, l73) else K53 (x55, l40)) else some (.inr (r38l18, r27l18))))) (x42, x38, x27)).bind fun e36 => match e36 with | ⟨r38e35, r27e35⟩ => (mkM 4 x17 (0 : Nat)).bind fun x114 => (loopM (fun (s81 : Int × (List Nat)) => match s81 with | ⟨y116l77, r114l77⟩ => (show Option ((Int × (List Nat)) ⊕ ((List Nat))) from (some (decide ((y116l77 : Int) < x17))).bind fun x117 => (bif x117 then (cki r27e35 y116l77).bind fun x123 => (r27e35[x123]?).bind fun x124 => (some (x124 % 18446744073709551616)).bind fun x125 => (some (IntKind.i64.wrap (y116l77 + 1))).bind fun x128 => (cki r27e35 x128).bind fun x129 => (r27e35[x129]?).bind fun x130 => (some (x130 % 18446744073709551616)).bind fun x131 => (some (x131 * 2 ^ 32 % 18446744073709551616)).bind fun x132 => (some ((x125 ||| x132) % 18446744073709551616)).bind fun x133 => (some (x133 / 2 ^ (min x24 64))).bind fun x135 => (some (x135 % 4294967296)).bind fun x136 => (cki r114l77 y116l77).bind fun x137 => (stM r114l77 x137 x136).bind fun l83 => (some (IntKind.i64.wrap (y116l77 + 1))).bind fun x138 => some (.inl (x138, l83)) else some (.inr r114l77)))) (0, x114)).bind fun r114e80 => some (r38e35, r114e80)
noncomputable def whole_divWords_m (x0 : List Nat) (x1 : List Nat) : Option ((List Nat) × (List Nat)) := (whole_compareWords_m x0 x1).bind fun x12 => (some (decide ((x12 : Int) < 0))).bind fun x13 => (bif x13 then (slices_Clone_m x0).bind fun x15 => some ([], x15) else (some (x0.length : Int)).bind fun x18 => (some (decide ((x18 : Int) ≤ 2))).bind fun x19 => (bif x19 then (whole_low_m x0).bind fun x21 => (whole_low_m x1).bind fun x23 => (uquo 18446744073709551616 x21 x23).bind fun x26 => (whole_small_m false x26).bind fun ⟨x27_0, x27_1⟩ => (urem x21 x23).bind fun x31 => (whole_small_m false x31).bind fun ⟨x32_0, x32_1⟩ => some (x27_1, x32_1) else (some (x1.length : Int)).bind fun x36 => (some (decide ((x36 : Int) = 1))).bind fun x37 => (bif x37 then (slices_Clone_m x0).bind fun x39 => (geti x1 0).bind fun x42 => (some (x42 % 18446744073709551616)).bind fun x44 => (whole_shortDiv_m x39 x44).bind fun ⟨x45, l5⟩ => (eqLen x39 l5).bind fun _ => (some (x45 % 4294967296)).bind fun x48 => some (l5, [x48]) else (whole_longDiv_m x0 x1).bind fun ⟨x52a, x52b⟩ => some (x52a, x52b))))
noncomputable def whole_FromInt64_m (x0 : Int) : Option (Zr) := (some ((x0 % 18446744073709551616).toNat)).bind fun x5 => (some (decide ((x0 : Int) < 0))).bind fun x7 => letJ (fun (y3j1 : Nat) => (some (decide ((x0 : Int) < 0))).bind fun x11 => (whole_small_m x11 y3j1).bind fun ⟨x13_0, x13_1⟩ => some ⟨x13_0, x13_1⟩) fun K2 => (bif x7 then (some (usub 18446744073709551616 0 x5)).bind fun x9 => K2 x9 else K2 x5)
noncomputable def whole_Int64_m (x0 : Zr) : Option (Int × Bool) := match x0 with | ⟨x0_0, x0_1⟩ => (whole_trim_m x0_1).bind fun x8 => (some (x8.length : Int)).bind fun x10 => (some (decide ((2 : Int) < x10))).bind fun x11 => (bif x11 then some (0, false) else (whole_low_m x8).bind fun x13 => (bif x0_0 then (some (decide ((9223372036854775808 : Nat) < x13))).bind fun x17 => (bif x17 then some (0, false) else (some (usub 18446744073709551616 0 x13)).bind fun x19 => (some (IntKind.i64.wrap (x19 : Int))).bind fun x20 => some (x20, true)) else (some (decide ((9223372036854775808 : Nat) ≤ x13))).bind fun x22 => (bif x22 then some (0, false) else (some (IntKind.i64.wrap (x13 : Int))).bind fun x24 => some (x24, true))))
noncomputable def whole_signedSum_m (x0 : Bool) (x1 : List Nat) (x2 : Bool) (x3 : List Nat) : Option (Zr) := (some (x0 == x2)).bind fun x11 => (bif x11 then (whole_addWords_m x1 x3).bind fun x15 => (whole_build_m x0 x15).bind fun ⟨x16_0, x16_1⟩ => some ⟨x16_0, x16_1⟩ else (whole_compareWords_m x1 x3).bind fun x19 => (some (decide ((x19 : Int) < 0))).bind fun x20 => (bif x20 then (whole_subWords_m x3 x1).bind fun x24 => (whole_build_m x2 x24).bind fun ⟨x25_0, x25_1⟩ => some ⟨x25_0, x25_1⟩ else (whole_subWords_m x1 x3).bind fun x29 => (whole_build_m x0 x29).bind fun ⟨x30_0, x30_1⟩ => some ⟨x30_0, x30_1⟩))
noncomputable def whole_Add_m (x0 : Zr) (x1 : Zr) : Option (Zr) := match x0 with | ⟨x0_0, x0_1⟩ => match x1 with | ⟨x1_0, x1_1⟩ => (whole_Int64_m ⟨x0_0, x0_1⟩).bind fun ⟨x12a, x12b⟩ => (whole_Int64_m ⟨x1_0, x1_1⟩).bind fun ⟨x17a, x17b⟩ => letJ (fun (y23j2 : Bool) => letJ (fun (j5 : Unit) => (whole_trim_m x0_1).bind fun x41 => (whole_trim_m x1_1).bind fun x46 => (whole_signedSum_m x0_0 x41 x1_0 x46).bind fun ⟨x47_0, x47_1⟩ => some ⟨x47_0, x47_1⟩) fun K5 => (bif y23j2 then (some (IntKind.i64.wrap (x12a + x17a))).bind fun x26 => (some (IntKind.i64.wrap ((BitVec.ofInt 64 x12a ^^^ BitVec.ofInt 64 x26).toNat))).bind fun x29 => (some (IntKind.i64.wrap ((BitVec.ofInt 64 x17a ^^^ BitVec.ofInt 64 x26).toNat))).bind fun x32 => (some (IntKind.i64.wrap ((BitVec.ofInt 64 x29 &&& BitVec.ofInt 64 x32).toNat))).bind fun x33 => (some (decide ((0 : Int) ≤ x33))).bind fun x34 => (bif x34 then (whole_FromInt64_m x26).bind fun ⟨x36_0, x36_1⟩ => some ⟨x36_0, x36_1⟩ else K5 ()) else K5 ())) fun K3 => (bif x12b then some x17b else some false).bind fun c23_6 => K3 c23_6
noncomputable def whole_Sub_m (x0 : Zr) (x1 : Zr) : Option (Zr) := match x0 with | ⟨x0_0, x0_1⟩ => match x1 with | ⟨x1_0, x1_1⟩ => (whole_Int64_m ⟨x0_0, x0_1⟩).bind fun ⟨x12a, x12b⟩ => (whole_Int64_m ⟨x1_0, x1_1⟩).bind fun ⟨x17a, x17b⟩ => letJ (fun (y23j2 : Bool) => letJ (fun (j5 : Unit) => (whole_trim_m x0_1).bind fun x41 => (some (!x1_0)).bind fun x44 => (whole_trim_m x1_1).bind fun x47 => (whole_signedSum_m x0_0 x41 x44 x47).bind fun ⟨x48_0, x48_1⟩ => some ⟨x48_0, x48_1⟩) fun K5 => (bif y23j2 then (some (IntKind.i64.wrap (x12a - x17a))).bind fun x26 => (some (IntKind.i64.wrap ((BitVec.ofInt 64 x12a ^^^ BitVec.ofInt 64 x17a).toNat))).bind fun x29 => (some (IntKind.i64.wrap ((BitVec.ofInt 64 x12a ^^^ BitVec.ofInt 64 x26).toNat))).bind fun x32 => (some (IntKind.i64.wrap ((BitVec.ofInt 64 x29 &&& BitVec.ofInt 64 x32).toNat))).bind fun x33 => (some (decide ((0 : Int) ≤ x33))).bind fun x34 => (bif x34 then (whole_FromInt64_m x26).bind fun ⟨x36_0, x36_1⟩ => some ⟨x36_0, x36_1⟩ else K5 ()) else K5 ())) fun K3 => (bif x12b then some x17b else some false).bind fun c23_6 => K3 c23_6
noncomputable def whole_Mul_m (x0 : Zr) (x1 : Zr) : Option (Zr) := match x0 with | ⟨x0_0, x0_1⟩ => match x1 with | ⟨x1_0, x1_1⟩ => (whole_trim_m x0_1).bind fun x9 => (whole_trim_m x1_1).bind fun x12 => letJ (fun (y20j2 : Bool) => (bif y20j2 then (some (!(x0_0 == x1_0))).bind fun x25 => (whole_low_m x9).bind fun x27 => (whole_low_m x12).bind fun x29 => (some ((x27 * x29) % 18446744073709551616)).bind fun x30 => (whole_small_m x25 x30).bind fun ⟨x31_0, x31_1⟩ => some ⟨x31_0, x31_1⟩ else (some (!(x0_0 == x1_0))).bind fun x36 => (whole_mulWords_m x9 x12).bind fun x39 => (whole_build_m x36 x39).bind fun ⟨x40_0, x40_1⟩ => some ⟨x40_0, x40_1⟩)) fun K3 => (some (x9.length : Int)).bind fun x14 => (some (decide ((x14 : Int) ≤ 1))).bind fun x15 => (bif x15 then (some (x12.length : Int)).bind fun x18 => (some (decide ((x18 : Int) ≤ 1))).bind fun x19 => some x19 else some false).bind fun c20_4 => K3 c20_4
noncomputable def whole_Neg_m (x0 : Zr) : Option (Zr) := match x0 with | ⟨x0_0, x0_1⟩ => (some (!x0_0)).bind fun x5 => (whole_trim_m x0_1).bind fun x8 => (slices_Clone_m x8).bind fun x9 => (whole_build_m x5 x9).bind fun ⟨x10_0, x10_1⟩ => some ⟨x10_0, x10_1⟩
noncomputable def whole_Sign_m (x0 : Zr) : Option (Int) := match x0 with | ⟨x0_0, x0_1⟩ => (whole_trim_m x0_1).bind fun x6 => (some (x6.length : Int)).bind fun x7 => (some (decide ((x7 : Int) = 0))).bind fun x8 => (bif x8 then some 0 else (bif x0_0 then some (-1) else some 1))
noncomputable def whole_Cmp_m (x0 : Zr) (x1 : Zr) : Option (Int) := match x0 with | ⟨x0_0, x0_1⟩ => match x1 with | ⟨x1_0, x1_1⟩ => (whole_Sign_m ⟨x0_0, x0_1⟩).bind fun x8 => (whole_Sign_m ⟨x1_0, x1_1⟩).bind fun x10 => (some (decide ((x8 : Int) < x10))).bind fun x14 => (bif x14 then some (-1) else (some (decide ((x10 : Int) < x8))).bind fun x18 => (bif x18 then some 1 else (some (decide ((x8 : Int) < 0))).bind fun x21 => (bif x21 then (whole_trim_m x1_1).bind fun x24 => (whole_trim_m x0_1).bind fun x27 => (whole_compareWords_m x24 x27).bind fun x28 => some x28 else (whole_trim_m x0_1).bind fun x31 => (whole_trim_m x1_1).bind fun x34 => (whole_compareWords_m x31 x34).bind fun x35 => some x35)))
noncomputable def whole_DivMod_m (x0 : Zr) (x1 : Zr) : Option (Zr × Zr × Int) := match x0 with | ⟨x0_0, x0_1⟩ => match x1 with | ⟨x1_0, x1_1⟩ => (whole_trim_m x0_1).bind fun x13 => (whole_trim_m x1_1).bind fun x16 => (some (x16.length : Int)).bind fun x18 => (some (decide ((x18 : Int) = 0))).bind fun x19 => (bif x19 then some (⟨false, []⟩, ⟨false, []⟩, 7) else (whole_divWords_m x13 x16).bind fun ⟨x25a, x25b⟩ => (whole_trim_m x25b).bind fun x29 => letJ (fun (j3 : Bool × Bool) => match j3 with | ⟨y36j2, b2_0j2⟩ => letJ (fun (j5 : (List Nat) × (List Nat)) => match j5 with | ⟨y9j4, y10j4⟩ => (some (!(b2_0j2 == x1_0))).bind fun x47 => (whole_build_m x47 y9j4).bind fun ⟨x49_0, x49_1⟩ => (whole_build_m false y10j4).bind fun ⟨x51_0, x51_1⟩ => some (⟨x49_0, x49_1⟩, ⟨x51_0, x51_1⟩, 0)) fun K5 => (bif y36j2 then (whole_addWords_m x25a [1]).bind fun x39 => (whole_subWords_m x16 x29).bind fun x42 => K5 (x39, x42) else K5 (x25a, x29))) fun K3 => (bif x0_0 then (some (x29.length : Int)).bind fun x34 => (some (decide ((0 : Int) < x34))).bind fun x35 => some x35 else some false).bind fun c36_6 => K3 (c36_6, x0_0))
noncomputable def whole_GCD_m (x0 : Zr) (x1 : Zr) : Option (Zr) := match x0 with | ⟨x0_0, x0_1⟩ => match x1 with | ⟨x1_0, x1_1⟩ => (whole_trim_m x0_1).bind fun x13 => (whole_trim_m x1_1).bind fun x16 => (loopM (fun (s12 : (List Nat) × (List Nat)) => match s12 with | ⟨y5l6, y6l6⟩ => (show Option (((List Nat) × (List Nat)) ⊕ ((List Nat) × (List Nat))) from letJ (fun (y29j15 : Bool) => (bif y29j15 then (whole_divWords_m y5l6 y6l6).bind fun ⟨x33a, x33b⟩ => (whole_trim_m x33b).bind fun x38 => some (.inl (y6l6, x38)) else some (.inr (y5l6, y6l6)))) fun K16 => (some (y6l6.length : Int)).bind fun x18 => (some (decide ((0 : Int) < x18))).bind fun x19 => (bif x19 then (some (y5l6.length : Int)).bind fun x22 => (some (decide ((2 : Int) < x22))).bind fun x23 => (bif x23 then some true else (some (y6l6.length : Int)).bind fun x26 => (some (decide ((2 : Int) < x26))).bind fun x27 => some x27).bind fun c28_18 => some c28_18 else some false).bind fun c29_17 => K16 c29_17)) (x13, x16)).bind fun e12 => match e12 with | ⟨y5e11, y6e11⟩ => (some (y6e11.length : Int)).bind fun x40 => (some (decide ((x40 : Int) = 0))).bind fun x41 => (bif x41 then (slices_Clone_m y5e11).bind fun x43 => (whole_build_m false x43).bind fun ⟨x44_0, x44_1⟩ => some ⟨x44_0, x44_1⟩ else (whole_low_m y5e11).bind fun x46 => (whole_low_m y6e11).bind fun x48 => (loopM (fun (s24 : Nat × Nat) => match s24 with | ⟨y9l21, y10l21⟩ => (show Option ((Nat × Nat) ⊕ (Nat)) from (some (decide ((0 : Nat) < y10l21))).bind fun x50 => (bif x50 then (urem y9l21 y10l21).bind fun x54 => some (.inl (y10l21, x54)) else some (.inr y9l21)))) (x46, x48)).bind fun y9e23 => (whole_small_m false y9e23).bind fun ⟨x56_0, x56_1⟩ => some ⟨x56_0, x56_1⟩)
end Go.Proofs.YtfoldppidpmchaaGreat
namespace Go.Proofs.YtfoldppidpmchaaGreat
open Go.Fw Go.Fw.Z Go.RowKit
theorem whole_carrier_ok (c : Nat) : CloC Tryz.prog 143 [.v (.int .u64 (c : Nat))] 157 104 [.v (.int .u64 (c : Nat))] := by
 refine cloC_of_ok Tryz.func143 rfl (Nat.le_of_ble_eq_true rfl) (fun wld M vs hvs => ?_)
 exact sr <| RT.boxV .none (s := .sv _) rfl T rfl rfl <| ag rfl <| dn <| sr <| RT.makeFunc .none (.box rfl (.nil)) T <| an (s := .clo _ _) rfl <| dn <| ok_ret <| ⟨.inr rfl, _, .tmp rfl, rfl⟩
theorem whole_pairs_ok (a b : List Nat) : Pure Tryz.prog 160 [(slc 1 (List.map eU32 a)), (slc 1 (List.map eU32 b))] (cloS 169 [ref [(slc 1 (List.map eU32 a))], ref [(slc 1 (List.map eU32 b))]]) := by
 refine pure_of_ok Tryz.func160 rfl (Nat.le_of_ble_eq_true rfl) (fun wld M vs hvs => ?_)
 refine sr <| RT.boxV .none (s := .sv _) rfl T rfl rfl <| RT.boxV .none (s := .sv _) rfl T rfl rfl <| ag rfl <| dn <| sr <| RT.makeFunc .none (.box rfl (.box rfl (.nil))) T <| an (s := .clo _ _) rfl <| dn <| ok_weak (weak_frzB (i := 2) rfl [(slc 1 (List.map eU32 a))] (.cons rfl .nil) .any 0 [(4, .clo 169 [.val (ref [(slc 1 (List.map eU32 a))]), .box 3])] (fun _ _ _ => trivial) (Ones.h (l := [(slc 1 (List.map eU32 a))])) ⟨@FT.clo _ _ _ _ _ 4 169 [.box 2, .box 3] rfl, trivial⟩) ?_
 exact ok_weak (weak_frzB (i := 3) rfl [(slc 1 (List.map eU32 b))] (.cons rfl .nil) .any 0 [(4, .clo 169 [.val (ref [(slc 1 (List.map eU32 a))]), .val (ref [(slc 1 (List.map eU32 b))])])] (fun _ _ _ => trivial) (Ones.h (l := [(slc 1 (List.map eU32 b))])) ⟨@FT.clo _ _ _ _ _ 4 169 [.val (ref [(slc 1 (List.map eU32 a))]), .box 3] rfl, trivial⟩) <| ok_weak (weak_t 4 (cloS 169 [ref [(slc 1 (List.map eU32 a))], ref [(slc 1 (List.map eU32 b))]]) (fun _ _ h => clo_sv h)) <| ok_ret <| ⟨.inr rfl, res_of (.tmp rfl (.nil)) rfl⟩
theorem whole_pairs_it (a b : List Nat) : Iter Tryz.prog 169 [ref [(slc 1 (List.map eU32 a))], ref [(slc 1 (List.map eU32 b))]] (max a.length b.length) (fun k => [.v (.int .u64 ((a.getD k 0 % 18446744073709551616 : Nat) : Int)), .v (.int .u64 ((b.getD k 0 % 18446744073709551616 : Nat) : Int))]) := by
  refine iter_of_ok Tryz.func169 rfl rfl (Nat.le_of_ble_eq_true rfl) (fun wld M O l J hJ hcv hr => ?_)
  obtain ⟨cvs, hcv⟩ := hcv
  have hla : a.length ≤ 9223372036854775807 := by cases cvs with | nil => exact hcv.elim | cons _ cvs => exact ref_len hcv.1
  have hlb : b.length ≤ 9223372036854775807 := by cases cvs with | nil => exact hcv.elim | cons _ cvs => cases cvs with | nil => exact hcv.2.elim | cons _ _ => exact ref_len hcv.2.1
  refine ok_seq ?_
  refine ok_region ?_
  refine RT.loadRV .none rfl rfl (tl rfl) ?_
  refine RT.len .none rfl (tl rfl) ?_
  refine RT.loadRV .none rfl rfl (tl rfl) ?_
  refine RT.len .none rfl (tl rfl) ?_
  refine RT.max .none (((max a.length b.length : Nat) : Int)) rfl rfl (tl rfl) (by simp only [List.length_map]; split <;> omega) ?_
  refine RT.mv .none rfl (tl rfl) ?_
  refine RT.done ?_
  refine AThen.n ?_
  refine ok_block ?_
  refine ok_loop (I := fun x : { i : Nat // i ≤ max a.length b.length } => AS.mkL 39 [(0, .sv (.v (.func (.yield l) #[] #[]))), (1, .sv (ref [(slc 1 (List.map eU32 a))])), (2, .sv (ref [(slc 1 (List.map eU32 b))])), (11, .sv (.v (.int .i64 ((max a.length b.length : Nat) : Int)))), (12, .sv (.v (.int .i64 ((x.1 : Nat) : Int))))] [] [] (x.1)) (μ := fun x => max a.length b.length - x.1) ⟨0, by omega⟩ (by (try dsimp only); exact weakL id rfl rfl rfl rfl rfl ⟨.sv (by first | exact SV.imp_refl _ | exact SV.imp_int (by omega) | exact SV.imp_int (by push_cast; omega) | exact SV.imp_int (by dsimp only; omega) | exact SV.imp_eq (by simp)), .sv (by first | exact SV.imp_refl _ | exact SV.imp_int (by omega) | exact SV.imp_int (by push_cast; omega) | exact SV.imp_int (by dsimp only; omega) | exact SV.imp_eq (by simp)), .sv (by first | exact SV.imp_refl _ | exact SV.imp_int (by omega) | exact SV.imp_int (by push_cast; omega) | exact SV.imp_int (by dsimp only; omega) | exact SV.imp_eq (by simp)), .sv (by first | exact SV.imp_refl _ | exact SV.imp_int (by omega) | exact SV.imp_int (by push_cast; omega) | exact SV.imp_int (by dsimp only; omega) | exact SV.imp_eq (by simp)), .sv (by first | exact SV.imp_refl _ | exact SV.imp_int (by omega) | exact SV.imp_int (by push_cast; omega) | exact SV.imp_int (by dsimp only; omega) | exact SV.imp_eq (by simp)), trivial⟩ trivial trivial (fun _ _ => rfl)) ?_
  rintro ⟨i, hi0⟩
  try dsimp only
  rcases pair_cases a b i hi0 with ⟨hi, hb1, hb2⟩ | ⟨hi, hb1, hb2⟩ | ⟨hi, hb1, hb2⟩ | hi
  ·
    refine ok_seq ?_
    refine ok_region ?_
    refine RT.lss .none (true) rfl rfl (tl rfl) (by simp; omega) ?_
    refine RT.done ?_
    refine AThen.n ?_
    refine ok_seq ?_
    refine ok_condT rfl ?_
    refine ok_skip ?_
    refine AThen.n ?_
    refine ok_seq ?_
    refine ok_block ?_
    refine ok_seq ?_
    refine ok_region ?_
    refine RT.mv .none rfl (tl rfl) ?_
    refine RT.asg .none rfl (tl rfl) ?_
    refine RT.done ?_
    refine AThen.n ?_
    refine ok_seq ?_
    refine ok_region ?_
    refine RT.asg .none rfl (tl rfl) ?_
    refine RT.asg .none rfl (tl rfl) ?_
    refine RT.done ?_
    refine AThen.n ?_
    refine ok_seq ?_
    refine ok_seq ?_
    refine ok_region ?_
    refine RT.mv .none rfl (tl rfl) ?_
    refine RT.loadRV .none rfl rfl (tl rfl) ?_
    refine RT.len .none rfl (tl rfl) ?_
    refine RT.lss .none (true) rfl rfl (tl rfl) (by simp only [List.length_map]; simp; omega) ?_
    refine RT.done ?_
    refine AThen.n ?_
    refine ok_condT rfl ?_
    refine ok_region ?_
    refine RT.loadRV .none rfl rfl (tl rfl) ?_
    refine RT.mv .none rfl (tl rfl) ?_
    refine RT.ixA .none [.v (.int .u32 ((a.getD i 0 : Nat) : Int))] (Int.natCast_nonneg i) (by rw [Int.toNat_natCast, List.getElem?_map, get_getD hb1]; rfl) rfl rfl (tl rfl) ?_
    refine RT.loadRV .none rfl rfl (tl rfl) ?_
    refine RT.conv .none (((a.getD i 0 % 18446744073709551616 : Nat) : Int)) rfl (tl rfl) cu64 ?_
    refine RT.asg .none rfl (tl rfl) ?_
    refine RT.done ?_
    refine AThen.n ?_
    refine ok_seq ?_
    refine ok_seq ?_
    refine ok_region ?_
    refine RT.mv .none rfl (tl rfl) ?_
    refine RT.loadRV .none rfl rfl (tl rfl) ?_
    refine RT.len .none rfl (tl rfl) ?_
    refine RT.lss .none (true) rfl rfl (tl rfl) (by simp only [List.length_map]; simp; omega) ?_
    refine RT.done ?_
    refine AThen.n ?_
    refine ok_condT rfl ?_
    refine ok_region ?_
    refine RT.loadRV .none rfl rfl (tl rfl) ?_
    refine RT.mv .none rfl (tl rfl) ?_
    refine RT.ixA .none [.v (.int .u32 ((b.getD i 0 : Nat) : Int))] (Int.natCast_nonneg i) (by rw [Int.toNat_natCast, List.getElem?_map, get_getD hb2]; rfl) rfl rfl (tl rfl) ?_
    refine RT.loadRV .none rfl rfl (tl rfl) ?_
    refine RT.conv .none (((b.getD i 0 % 18446744073709551616 : Nat) : Int)) rfl (tl rfl) cu64 ?_
    refine RT.asg .none rfl (tl rfl) ?_
    refine RT.done ?_
    refine AThen.n ?_
    refine ok_seq ?_
    refine ok_region ?_
    refine RT.mv .none rfl (tl rfl) ?_
    refine RT.mv .none rfl (tl rfl) ?_
    refine RT.mv .none rfl (tl rfl) ?_
    refine RT.yield .none hr rfl (fun _ h => h) rfl (i) rfl rfl hi (by exact ⟨rfl, rfl, trivial⟩) (tl rfl) (fun yb => ?_)
    cases yb
    ·
      refine RT.not .none rfl (tl rfl) true rfl ?_
      refine RT.done ?_
      refine AThen.n ?_
      refine ok_condT rfl ?_
      refine ok_ret ?_
      refine AInB.r ?_
      refine AThen.r ?_
      refine AThen.r ?_
      refine AInB.r ?_
      exact ⟨.inr rfl, (fun h => by cases h)⟩
    ·
      refine RT.not .none rfl (tl rfl) false rfl ?_
      refine RT.done ?_
      refine AThen.n ?_
      refine ok_condF rfl ?_
      refine ok_skip ?_
      refine AInB.n ?_
      refine AThen.n ?_
      refine ok_region ?_
      refine RT.add .none (((i : Nat) : Int) + 1) rfl rfl (tl rfl) (nw_i64 (by omega)) ?_
      refine RT.mv .none rfl (tl rfl) ?_
      refine RT.done ?_
      refine AThen.n ?_
      refine ⟨⟨i + 1, by omega⟩, (by dsimp only; omega), ?_⟩
      try dsimp only
      exact weakL id rfl rfl rfl rfl rfl ⟨.sv (by first | exact SV.imp_refl _ | exact SV.imp_int (by omega) | exact SV.imp_int (by push_cast; omega) | exact SV.imp_int (by dsimp only; omega) | exact SV.imp_eq (by simp)), .sv (by first | exact SV.imp_refl _ | exact SV.imp_int (by omega) | exact SV.imp_int (by push_cast; omega) | exact SV.imp_int (by dsimp only; omega) | exact SV.imp_eq (by simp)), .sv (by first | exact SV.imp_refl _ | exact SV.imp_int (by omega) | exact SV.imp_int (by push_cast; omega) | exact SV.imp_int (by dsimp only; omega) | exact SV.imp_eq (by simp)), .sv (by first | exact SV.imp_refl _ | exact SV.imp_int (by omega) | exact SV.imp_int (by push_cast; omega) | exact SV.imp_int (by dsimp only; omega) | exact SV.imp_eq (by simp)), .sv (by first | exact SV.imp_refl _ | exact SV.imp_int (by omega) | exact SV.imp_int (by push_cast; omega) | exact SV.imp_int (by dsimp only; omega) | exact SV.imp_eq (by simp)), trivial⟩ trivial trivial (fun _ _ => rfl)
  ·
    refine ok_seq ?_
    refine ok_region ?_
    refine RT.lss .none (true) rfl rfl (tl rfl) (by simp; omega) ?_
    refine RT.done ?_
    refine AThen.n ?_
    refine ok_seq ?_
    refine ok_condT rfl ?_
    refine ok_skip ?_
    refine AThen.n ?_
    refine ok_seq ?_
    refine ok_block ?_
    refine ok_seq ?_
    refine ok_region ?_
    refine RT.mv .none rfl (tl rfl) ?_
    refine RT.asg .none rfl (tl rfl) ?_
    refine RT.done ?_
    refine AThen.n ?_
    refine ok_seq ?_
    refine ok_region ?_
    refine RT.asg .none rfl (tl rfl) ?_
    refine RT.asg .none rfl (tl rfl) ?_
    refine RT.done ?_
    refine AThen.n ?_
    refine ok_seq ?_
    refine ok_seq ?_
    refine ok_region ?_
    refine RT.mv .none rfl (tl rfl) ?_
    refine RT.loadRV .none rfl rfl (tl rfl) ?_
    refine RT.len .none rfl (tl rfl) ?_
    refine RT.lss .none (true) rfl rfl (tl rfl) (by simp only [List.length_map]; simp; omega) ?_
    refine RT.done ?_
    refine AThen.n ?_
    refine ok_condT rfl ?_
    refine ok_region ?_
    refine RT.loadRV .none rfl rfl (tl rfl) ?_
    refine RT.mv .none rfl (tl rfl) ?_
    refine RT.ixA .none [.v (.int .u32 ((a.getD i 0 : Nat) : Int))] (Int.natCast_nonneg i) (by rw [Int.toNat_natCast, List.getElem?_map, get_getD hb1]; rfl) rfl rfl (tl rfl) ?_
    refine RT.loadRV .none rfl rfl (tl rfl) ?_
    refine RT.conv .none (((a.getD i 0 % 18446744073709551616 : Nat) : Int)) rfl (tl rfl) cu64 ?_
    refine RT.asg .none rfl (tl rfl) ?_
    refine RT.done ?_
    refine AThen.n ?_
    refine ok_seq ?_
    refine ok_seq ?_
    refine ok_region ?_
    refine RT.mv .none rfl (tl rfl) ?_
    refine RT.loadRV .none rfl rfl (tl rfl) ?_
    refine RT.len .none rfl (tl rfl) ?_
    refine RT.lss .none (false) rfl rfl (tl rfl) (by simp only [List.length_map]; simp; omega) ?_
    refine RT.done ?_
    refine AThen.n ?_
    refine ok_condF rfl ?_
    refine ok_skip ?_
    refine AThen.n ?_
    refine ok_seq ?_
    refine ok_region ?_
    refine RT.mv .none rfl (tl rfl) ?_
    refine RT.mv .none rfl (tl rfl) ?_
    refine RT.mv .none rfl (tl rfl) ?_
    refine RT.yield .none hr rfl (fun _ h => h) rfl (i) rfl rfl hi (by exact ⟨rfl, (by show AV.sv _ = AV.sv _; rw [getD_of_le hb2]; rfl), trivial⟩) (tl rfl) (fun yb => ?_)
    cases yb
    ·
      refine RT.not .none rfl (tl rfl) true rfl ?_
      refine RT.done ?_
      refine AThen.n ?_
      refine ok_condT rfl ?_
      refine ok_ret ?_
      refine AInB.r ?_
      refine AThen.r ?_
      refine AThen.r ?_
      refine AInB.r ?_
      exact ⟨.inr rfl, (fun h => by cases h)⟩
    ·
      refine RT.not .none rfl (tl rfl) false rfl ?_
      refine RT.done ?_
      refine AThen.n ?_
      refine ok_condF rfl ?_
      refine ok_skip ?_
      refine AInB.n ?_
      refine AThen.n ?_
      refine ok_region ?_
      refine RT.add .none (((i : Nat) : Int) + 1) rfl rfl (tl rfl) (nw_i64 (by omega)) ?_
      refine RT.mv .none rfl (tl rfl) ?_
      refine RT.done ?_
      refine AThen.n ?_
      refine ⟨⟨i + 1, by omega⟩, (by dsimp only; omega), ?_⟩
      try dsimp only
      exact weakL id rfl rfl rfl rfl rfl ⟨.sv (by first | exact SV.imp_refl _ | exact SV.imp_int (by omega) | exact SV.imp_int (by push_cast; omega) | exact SV.imp_int (by dsimp only; omega) | exact SV.imp_eq (by simp)), .sv (by first | exact SV.imp_refl _ | exact SV.imp_int (by omega) | exact SV.imp_int (by push_cast; omega) | exact SV.imp_int (by dsimp only; omega) | exact SV.imp_eq (by simp)), .sv (by first | exact SV.imp_refl _ | exact SV.imp_int (by omega) | exact SV.imp_int (by push_cast; omega) | exact SV.imp_int (by dsimp only; omega) | exact SV.imp_eq (by simp)), .sv (by first | exact SV.imp_refl _ | exact SV.imp_int (by omega) | exact SV.imp_int (by push_cast; omega) | exact SV.imp_int (by dsimp only; omega) | exact SV.imp_eq (by simp)), .sv (by first | exact SV.imp_refl _ | exact SV.imp_int (by omega) | exact SV.imp_int (by push_cast; omega) | exact SV.imp_int (by dsimp only; omega) | exact SV.imp_eq (by simp)), trivial⟩ trivial trivial (fun _ _ => rfl)
  ·
    refine ok_seq ?_
    refine ok_region ?_
    refine RT.lss .none (true) rfl rfl (tl rfl) (by simp; omega) ?_
    refine RT.done ?_
    refine AThen.n ?_
    refine ok_seq ?_
    refine ok_condT rfl ?_
    refine ok_skip ?_
    refine AThen.n ?_
    refine ok_seq ?_
    refine ok_block ?_
    refine ok_seq ?_
    refine ok_region ?_
    refine RT.mv .none rfl (tl rfl) ?_
    refine RT.asg .none rfl (tl rfl) ?_
    refine RT.done ?_
    refine AThen.n ?_
    refine ok_seq ?_
    refine ok_region ?_
    refine RT.asg .none rfl (tl rfl) ?_
    refine RT.asg .none rfl (tl rfl) ?_
    refine RT.done ?_
    refine AThen.n ?_
    refine ok_seq ?_
    refine ok_seq ?_
    refine ok_region ?_
    refine RT.mv .none rfl (tl rfl) ?_
    refine RT.loadRV .none rfl rfl (tl rfl) ?_
    refine RT.len .none rfl (tl rfl) ?_
    refine RT.lss .none (false) rfl rfl (tl rfl) (by simp only [List.length_map]; simp; omega) ?_
    refine RT.done ?_
    refine AThen.n ?_
    refine ok_condF rfl ?_
    refine ok_skip ?_
    refine AThen.n ?_
    refine ok_seq ?_
    refine ok_seq ?_
    refine ok_region ?_
    refine RT.mv .none rfl (tl rfl) ?_
    refine RT.loadRV .none rfl rfl (tl rfl) ?_
    refine RT.len .none rfl (tl rfl) ?_
    refine RT.lss .none (true) rfl rfl (tl rfl) (by simp only [List.length_map]; simp; omega) ?_
    refine RT.done ?_
    refine AThen.n ?_
    refine ok_condT rfl ?_
    refine ok_region ?_
    refine RT.loadRV .none rfl rfl (tl rfl) ?_
    refine RT.mv .none rfl (tl rfl) ?_
    refine RT.ixA .none [.v (.int .u32 ((b.getD i 0 : Nat) : Int))] (Int.natCast_nonneg i) (by rw [Int.toNat_natCast, List.getElem?_map, get_getD hb2]; rfl) rfl rfl (tl rfl) ?_
    refine RT.loadRV .none rfl rfl (tl rfl) ?_
    refine RT.conv .none (((b.getD i 0 % 18446744073709551616 : Nat) : Int)) rfl (tl rfl) cu64 ?_
    refine RT.asg .none rfl (tl rfl) ?_
    refine RT.done ?_
    refine AThen.n ?_
    refine ok_seq ?_
    refine ok_region ?_
    refine RT.mv .none rfl (tl rfl) ?_
    refine RT.mv .none rfl (tl rfl) ?_
    refine RT.mv .none rfl (tl rfl) ?_
    refine RT.yield .none hr rfl (fun _ h => h) rfl (i) rfl rfl hi (by exact ⟨(by show AV.sv _ = AV.sv _; rw [getD_of_le hb1]; rfl), rfl, trivial⟩) (tl rfl) (fun yb => ?_)
    cases yb
    ·
      refine RT.not .none rfl (tl rfl) true rfl ?_
      refine RT.done ?_
      refine AThen.n ?_
      refine ok_condT rfl ?_
      refine ok_ret ?_
      refine AInB.r ?_
      refine AThen.r ?_
      refine AThen.r ?_
      refine AInB.r ?_
      exact ⟨.inr rfl, (fun h => by cases h)⟩
    ·
      refine RT.not .none rfl (tl rfl) false rfl ?_
      refine RT.done ?_
      refine AThen.n ?_
      refine ok_condF rfl ?_
      refine ok_skip ?_
      refine AInB.n ?_
      refine AThen.n ?_
      refine ok_region ?_
      refine RT.add .none (((i : Nat) : Int) + 1) rfl rfl (tl rfl) (nw_i64 (by omega)) ?_
      refine RT.mv .none rfl (tl rfl) ?_
      refine RT.done ?_
      refine AThen.n ?_
      refine ⟨⟨i + 1, by omega⟩, (by dsimp only; omega), ?_⟩
      try dsimp only
      exact weakL id rfl rfl rfl rfl rfl ⟨.sv (by first | exact SV.imp_refl _ | exact SV.imp_int (by omega) | exact SV.imp_int (by push_cast; omega) | exact SV.imp_int (by dsimp only; omega) | exact SV.imp_eq (by simp)), .sv (by first | exact SV.imp_refl _ | exact SV.imp_int (by omega) | exact SV.imp_int (by push_cast; omega) | exact SV.imp_int (by dsimp only; omega) | exact SV.imp_eq (by simp)), .sv (by first | exact SV.imp_refl _ | exact SV.imp_int (by omega) | exact SV.imp_int (by push_cast; omega) | exact SV.imp_int (by dsimp only; omega) | exact SV.imp_eq (by simp)), .sv (by first | exact SV.imp_refl _ | exact SV.imp_int (by omega) | exact SV.imp_int (by push_cast; omega) | exact SV.imp_int (by dsimp only; omega) | exact SV.imp_eq (by simp)), .sv (by first | exact SV.imp_refl _ | exact SV.imp_int (by omega) | exact SV.imp_int (by push_cast; omega) | exact SV.imp_int (by dsimp only; omega) | exact SV.imp_eq (by simp)), trivial⟩ trivial trivial (fun _ _ => rfl)
  ·
    subst hi
    refine ok_seq ?_
    refine ok_region ?_
    refine RT.lss .none (false) rfl rfl (tl rfl) (by simp) ?_
    refine RT.done ?_
    refine AThen.n ?_
    refine ok_seq ?_
    refine ok_condF rfl ?_
    refine ok_exit ?_
    refine AThen.x ?_
    refine AThen.x ?_
    refine AInB.x ?_
    exact ⟨.inl rfl, (fun _ => rfl)⟩
theorem slices_Clone_ok {x0 r : List Nat} (h : slices_Clone_m x0 = some r) : Pure Tryz.prog 123 [slc 1 (List.map eU32 x0)] (slc 1 (List.map eU32 r)) := by
 refine pure_of_ok Tryz.func123 rfl (Nat.le_of_ble_eq_true rfl) (fun wld M vs hvs => ?_)
 unfold slices_Clone_m at h
 refine sr <| aI rfl (imp_nil (n := 1) (e := eU32)) <| dn <| qq <| sr <| mv rfl ?_
 refine RT.nilSl .none rfl T (fun nb hnb => ?_)
 cases nb
 exact dn <| fs <| sr <| RT.buildRw (l := ([] : List Nat)) (e := eU32) .none .nil T rfl T rfl rfl rfl rfl rfl rfl <| mv rfl <| RT.apIR (k := x0) (e := eU32) .none rfl rfl rfl T rfl T h <| ag rfl <| dn <| ok_ret <| RZ (.tmp rfl .nil)
 have hx : x0 = [] := by simpa using hnb rfl
 subst hx
 obtain ⟨_, _, rfl⟩ := apM_some h
 exact dn <| cT <| sr <| aI rfl (imp_nil (n := 1) (e := eU32)) <| dn <| ok_ret <| AThen.r <| RZ (.tmp rfl .nil)
theorem slices_CloneN_ok {x0 r : List Nat} (h : slices_Clone_m x0 = some r) : NewC Tryz.prog 123 [slc 1 (List.map eU32 x0)] (TR 106 1 eU32 r) := by
 refine newC_of_ok Tryz.func123 rfl (Nat.le_of_ble_eq_true rfl) (fun wld M vs hvs => ?_)
 unfold slices_Clone_m at h
 refine sr <| ag rfl <| dn <| qq <| sr <| mv rfl ?_
 refine RT.nilSl .none rfl T (fun nb hnb => ?_)
 cases nb
 exact dn <| fs <| sr <| RT.buildRw (l := ([] : List Nat)) (e := eU32) .none .nil T rfl T rfl rfl rfl rfl rfl rfl <| mv rfl <| aR (k := x0) (e := eU32) rfl rfl rfl h <| an (s := .row _) rfl <| dn <| ok_ret <| ⟨.inr rfl, _, .tmp rfl, rfl⟩
 have hx : x0 = [] := by simpa using hnb rfl
 subst hx
 obtain ⟨_, _, rfl⟩ := apM_some h
 exact dn <| cT <| sr <| ag rfl <| dn <| ok_weak (weak_nil 2 300 106 1 rfl rfl T) <| ok_ret <| AThen.r <| ⟨.inr rfl, _, .tmp rfl, rfl⟩
theorem whole_carrier_1_ok {x0 : Nat} {c0 : Nat} {r : Nat × Nat} (h : whole_carrier_1_m x0 c0 = some r) : BoxC Tryz.prog 157 [.v (.int .u64 ((x0 : Nat) : Int))] 104 [.v (.int .u64 ((c0 : Nat) : Int))] (.v (.int .u32 ((r.1 : Nat) : Int))) [.v (.int .u64 ((r.2 : Nat) : Int))] := by
 refine boxC_of_ok Tryz.func157 rfl (Nat.le_of_ble_eq_true rfl) (fun wld M β => ?_)
 unfold whole_carrier_1_m at h
 refine sr <| ag rfl <| dn <| sr <| mv rfl <| lV rfl rfl rfl <| lE h fun x6 h6 h => ad _ rfl rfl (UK.add (a := x0) (b := c0) h6) <| ag rfl <| dn <| sr <| mv rfl <| lE h fun x8 h8 h => RT.shr .none _ rfl rfl T (by decide) (shrU (k := .u64) (a := x6) (q := 32) (s := 32) rfl h8) <| RT.storeV (cells := [_]) .none (s := .sv _) rfl rfl rfl T rfl <| dn <| sr <| mv rfl <| lE h fun x10 h10 h => cv _ rfl (UK.nat h10) <| ag rfl ?_
 refine dn <| ok_ret ?_
 obtain rfl := O h
 exact ⟨.inr rfl, res_imp (.tmp rfl (.nil)) (SV.imp_refl _), rfl⟩
theorem whole_trim_ok {x0 : List Nat} {r : List Nat} (h : whole_trim_m x0 = some r) : Pure Tryz.prog 99 [slc 1 (List.map eU32 x0)] (slc 1 (List.map eU32 r)) := by
 refine pure_of_ok Tryz.func99 rfl (Nat.le_of_ble_eq_true rfl) (fun wld M vs hvs => ?_)
 unfold whole_trim_m at h
 refine sr <| aI rfl (imp_nil (n := 1) (e := eU32)) <| dn <| qq <| bE h fun e10 hl10 ho10 => ?_
 refine ok_tailP (fun (y0e9 : (List Nat)) => AS.mkL 21 [(0, .sv (slc 1 (List.map eU32 y0e9)))] [] []) (fun y0e9 => y0e9 = e10) ?_ (fun y0e9 hx10 => ?_)
 refine ok_block ?_
 refine ok_loopM hl10 (fun s10 => AS.mkL 21 [(0, .sv (slc 1 (List.map eU32 s10)))] [] []) (wR []) (fun y0l5 y10 G10 h hG10 hE10 => ?_)
 try dsimp only
 refine qq <| qq ?_
 refine ok_tailJ h (fun j13 => AS.mkL 21 [(0, .sv (slc 1 (List.map eU32 y0l5))), (14, .sv (.v (.bool j13)))] [] []) (fun h => ?_) (fun y14j12 h => ?_)
 refine ok_region <| mv rfl <| lE h fun x4 h4 h => ln rfl h4 <| lE h fun x5 h5 h => gt _ rfl rfl h5 <| mv rfl <| bE h fun c14_14 hg14 h => ?_
 cases x5
 obtain rfl := O (F hg14)
 exact ww <| ww <| ww <| ww <| ww <| ww <| ww <| pF rfl <| dn <| ⟨false, h, wR []⟩
 refine gm rfl <| gm rfl <| lE (V hg14) fun x9 h9 hg14 => gn rfl h9 <| lE hg14 fun x10 h10 hg14 => RT.sub (.some rfl rfl) _ rfl rfl T h10 <| bE hg14 fun x11 h11 hg14 => RT.ixM (.some rfl rfl) rfl rfl T h11 <| gr rfl rfl <| lE hg14 fun x13 h13 hg14 => ge_ _ rfl rfl (eqN (p := x11) (q := 0) h13) ?_
 obtain rfl := O hg14
 exact pT rfl <| dn <| ⟨x13, h, wR []⟩
 try dsimp only
 refine AThen.n ?_
 cases y14j12
 refine cF <| ok_exit <| AThen.x <| AThen.x <| AInB.x <| AThen.n ?_
 obtain rfl := O (F h)
 exact ⟨y0l5, hE10 _ rfl, wR []⟩
 refine cT <| ok_skip <| AThen.n <| ok_block <| ok_region <| mv rfl <| mv rfl <| lE (V h) fun x17 h17 h => ln rfl h17 <| lE h fun x18 h18 h => sb _ rfl rfl h18 <| bE h fun x19 h19 h => RT.sliceM .none 0 x18 rfl rfl ⟨_, rfl⟩ T h19 <| ag rfl <| RT.done <| AInB.n ?_
 obtain rfl := O h
 exact AThen.n ⟨x19, hG10 _ rfl, wR []⟩
 subst hx10
 try dsimp only
 refine AThen.n <| sr <| mv rfl <| ag rfl <| dn <| ok_ret ?_
 obtain rfl := O ho10
 exact R1 rfl
theorem whole_build_ok {x0 : Bool} {x1 : List Nat} {r : Zr} (h : whole_build_m x0 x1 = some r) : Pure Tryz.prog 116 [.v (.bool x0), slc 1 (List.map eU32 x1)] (.agg (eZ r)) := by
 refine pure_of_ok Tryz.func116 rfl (Nat.le_of_ble_eq_true rfl) (fun wld M vs hvs => ?_)
 unfold whole_build_m at h
 refine sr <| al (cs := [.v (.bool false), slc 1 (List.map eU32 [])]) (by exact ⟨SV.imp_refl _, imp_nil, trivial⟩) rfl <| dn <| sr <| mv rfl <| bE h fun x6 h6 h => cl (whole_trim_ok h6) ⟨rfl, trivial⟩ <| ag rfl <| dn <| qq <| sr <| mv rfl <| lE h fun x8 h8 h => ln rfl h8 <| lE h fun x9 h9 h => eq _ rfl rfl (eqI (p := x8) (q := 0) h9) <| dn ?_
 cases x9
 refine fs <| sr <| mv rfl <| mv rfl <| bI (cs := [_, _]) (cs' := [.v (.bool x0), slc 1 (List.map eU32 x6)]) (.one rfl (.one rfl (.nil))) ⟨SV.imp_refl _, SV.imp_refl _, trivial⟩ <| so rfl rfl rfl <| dn <| ok_ret ?_
 obtain rfl := O (F h)
 exact RZ (.agg rfl rfl (.cons rfl (.cons rfl (.nil))) rfl (.nil))
 refine cT <| sr <| bI (cs := [_, _]) (cs' := [.v (.bool false), slc 1 (List.map eU32 [])]) (.nil) ⟨SV.imp_refl _, imp_nil, trivial⟩ <| so rfl rfl rfl <| dn <| ok_ret <| AThen.r ?_
 obtain rfl := O (V h)
 exact RZ (.agg rfl rfl (.cons rfl (.cons rfl (.nil))) rfl (.nil))
theorem whole_small_ok {x0 : Bool} {x1 : Nat} {r : Zr} (h : whole_small_m x0 x1 = some r) : Pure Tryz.prog 114 [.v (.bool x0), .v (.int .u64 ((x1 : Nat) : Int))] (.agg (eZ r)) := by
 refine pure_of_ok Tryz.func114 rfl (Nat.le_of_ble_eq_true rfl) (fun wld M vs hvs => ?_)
 unfold whole_small_m at h
 refine sr <| al (cs := [.v (.bool false), slc 1 (List.map eU32 [])]) (by exact ⟨SV.imp_refl _, imp_nil, trivial⟩) rfl <| dn <| qq <| ok_block <| sr <| mv rfl <| lE h fun x7 h7 h => eq _ rfl rfl (eqN (p := x1) (q := 0) h7) <| ag rfl <| dn ?_
 cases x7
 refine cF <| sr <| mv rfl <| lE (F h) fun x11 h11 h => RT.shr .none _ rfl rfl T (by decide) (shrU (k := .u64) (a := x1) (q := 32) (s := 32) rfl h11) <| lE h fun x12 h12 h => eq _ rfl rfl (eqN (p := x11) (q := 0) h12) <| ag rfl <| dn ?_
 cases x12
 refine cF <| ok_skip <| AInB.n <| AThen.n <| sr <| mv rfl <| mv rfl <| lE (F h) fun x20 h20 h => cv _ rfl (UK.nat h20) <| mv rfl <| lE h fun x22 h22 h => RT.shr .none _ rfl rfl T (by decide) (shrU (k := .u64) (a := x1) (q := 32) (s := 32) rfl h22) <| lE h fun x23 h23 h => cv _ rfl (UK.nat h23) <| bl (l := [x20, x23]) (e := eU32) (.one rfl (.one rfl (.nil))) rfl rfl rfl rfl rfl rfl <| bI (cs := [_, _]) (cs' := [.v (.bool x0), slc 1 (List.map eU32 [x20, x23])]) (.one rfl (.one rfl (.nil))) ⟨SV.imp_refl _, SV.imp_refl _, trivial⟩ ?_
 refine so rfl rfl rfl <| dn <| ok_ret ?_
 obtain rfl := O h
 exact RZ (.agg rfl rfl (.cons rfl (.cons rfl (.nil))) rfl (.nil))
 refine cT <| sr <| mv rfl <| mv rfl <| lE (V h) fun x15 h15 h => cv _ rfl (UK.nat h15) <| bl (l := [x15]) (e := eU32) (.one rfl (.nil)) rfl rfl rfl rfl rfl rfl <| bI (cs := [_, _]) (cs' := [.v (.bool x0), slc 1 (List.map eU32 [x15])]) (.one rfl (.one rfl (.nil))) ⟨SV.imp_refl _, SV.imp_refl _, trivial⟩ <| so rfl rfl rfl <| dn <| ok_ret <| AInB.r <| AThen.r ?_
 obtain rfl := O h
 exact RZ (.agg rfl rfl (.cons rfl (.cons rfl (.nil))) rfl (.nil))
 refine cT <| sr <| bI (cs := [_, _]) (cs' := [.v (.bool false), slc 1 (List.map eU32 [])]) (.nil) ⟨SV.imp_refl _, imp_nil, trivial⟩ <| so rfl rfl rfl <| dn <| ok_ret <| AInB.r <| AThen.r ?_
 obtain rfl := O (V h)
 exact RZ (.agg rfl rfl (.cons rfl (.cons rfl (.nil))) rfl (.nil))
theorem whole_low_ok {x0 : List Nat} {r : Nat} (h : whole_low_m x0 = some r) : Pure Tryz.prog 115 [slc 1 (List.map eU32 x0)] (.v (.int .u64 ((r : Nat) : Int))) := by
 refine pure_of_ok Tryz.func115 rfl (Nat.le_of_ble_eq_true rfl) (fun wld M vs hvs => ?_)
 unfold whole_low_m at h
 refine sr <| ag rfl <| dn <| qq <| sr <| mv rfl <| lE h fun x4 h4 h => ln rfl h4 <| dn <| ok_block <| sr <| lE h fun x6 h6 h => eq _ rfl rfl (eqI (p := x4) (q := 0) h6) <| ag rfl <| dn ?_
 cases x6
 refine cF <| sr <| lE (F h) fun x8 h8 h => eq _ rfl rfl (eqI (p := x4) (q := 1) h8) <| ag rfl <| dn ?_
 cases x8
 refine cF <| ok_skip <| AInB.n <| AThen.n <| qq <| ok_region_draw mixed <| mv rfl <| bE (F h) fun x14 h14 h => ix rfl rfl h14 <| lr rfl rfl <| lE h fun x16 h16 h => cv _ rfl (UK.nat h16) <| mv rfl <| bE h fun x18 h18 h => ix rfl rfl h18 <| lr rfl rfl <| lE h fun x20 h20 h => cv _ rfl (UK.nat h20) <| lE h fun x21 h21 h => RT.shl .none _ rfl rfl T (by decide) (UK.shl (a := x20) (q := 32) (s := 32) rfl h21) <| lE h fun x22 h22 h => RT.or .none _ rfl rfl T (UK.or (a := x16) (b := x21) h22) ?_
 refine ag rfl ?_
 refine RT.done ⟨by kernel_rfl, ?_⟩
 refine AThen.n <| ok_ret ?_
 obtain rfl := O h
 exact R1 rfl
 refine cT <| sr <| mv rfl <| bE (V h) fun x10 h10 h => ix rfl rfl h10 <| lr rfl rfl <| lE h fun x12 h12 h => cv _ rfl (UK.nat h12) <| ag rfl <| dn <| ok_ret <| AInB.r <| AThen.r ?_
 obtain rfl := O h
 exact R1 rfl
 refine cT <| sr <| ag rfl <| dn <| ok_ret <| AInB.r <| AThen.r ?_
 obtain rfl := O (V h)
 exact R1 rfl
theorem whole_compareWords_ok {x0 : List Nat} {x1 : List Nat} {r : Int} (h : whole_compareWords_m x0 x1 = some r) : Pure Tryz.prog 113 [slc 1 (List.map eU32 x0), slc 1 (List.map eU32 x1)] (.v (.int .i64 r)) := by
 refine pure_of_ok Tryz.func113 rfl (Nat.le_of_ble_eq_true rfl) (fun wld M vs hvs => ?_)
 unfold whole_compareWords_m at h
 refine sr <| ag rfl <| dn <| qq <| sr <| mv rfl <| lE h fun x7 h7 h => ln rfl h7 <| mv rfl <| lE h fun x9 h9 h => ln rfl h9 <| lE h fun x10 h10 h => ne _ rfl rfl (neI (p := x7) (q := x9) h10) <| dn ?_
 cases x10
 refine fs <| qq <| sr <| mv rfl <| lE (F h) fun x17 h17 h => ln rfl h17 <| lE h fun x18 h18 h => sb _ rfl rfl h18 <| ag rfl <| dn <| bE h fun e6 hl6 ho6 => ?_
 refine ok_tailP (fun (xe6 : Unit) => AS.mkL 41 [] [] []) (fun xe6 => .inl xe6 = e6) ?_ (fun xe6 hx6 => ?_)
 refine ok_block ?_
 refine ok_loopM hl6 (fun s6 => AS.mkL 41 [(0, .sv (slc 1 (List.map eU32 x0))), (1, .sv (slc 1 (List.map eU32 x1))), (5, .sv (.v (.int .i64 s6)))] [] []) (wR []) (fun y5l3 y6 G6 h hG6 hE6 => ?_)
 try dsimp only
 refine qq <| sr <| mv rfl <| lE h fun x20 h20 h => ge _ rfl rfl h20 <| dn ?_
 cases x20
 refine cF <| ok_exit <| AThen.x <| AThen.x <| AInB.x <| AThen.n ?_
 obtain rfl := O (F h)
 exact ⟨(), hE6 _ rfl, wR []⟩
 refine cT <| ok_skip <| AThen.n <| qq <| ok_block <| qq <| ok_region_draw mixed <| mv rfl <| mv rfl <| bE (V h) fun x25 h25 h => ix rfl rfl h25 <| lr rfl rfl <| mv rfl <| mv rfl <| bE h fun x29 h29 h => ix rfl rfl h29 <| lr rfl rfl <| lE h fun x31 h31 h => ne _ rfl rfl (neN (p := x25) (q := x29) h31) ?_
 refine RT.done ⟨by kernel_rfl, ?_⟩
 refine AThen.n ?_
 cases x31
 refine cF <| ok_skip <| AInB.n <| AThen.n <| ok_region <| mv rfl <| lE (F h) fun x22 h22 h => sb _ rfl rfl h22 <| ag rfl <| RT.done ?_
 obtain rfl := O h
 exact AThen.n ⟨x22, hG6 _ rfl, wR []⟩
 refine cT <| qq <| qq <| ok_region_draw mixed <| mv rfl <| mv rfl <| bE (V h) fun x34 h34 h => ix rfl rfl h34 <| lr rfl rfl <| mv rfl <| mv rfl <| bE h fun x38 h38 h => ix rfl rfl h38 <| lr rfl rfl <| lE h fun x40 h40 h => ls _ rfl rfl (ltN (p := x34) (q := x38) h40) ?_
 refine RT.done ⟨by kernel_rfl, ?_⟩
 refine AThen.n ?_
 cases x40
 refine fs <| sr <| ag rfl <| dn <| ok_ret <| AInB.r <| AThen.r ?_
 obtain rfl := O (F h)
 have he6 := hE6 _ rfl
 subst he6
 refine AThen.r <| AInB.r <| AThen.r <| AThen.r ?_
 obtain rfl := O ho6
 exact R1 rfl
 refine cT <| sr <| ag rfl <| dn <| ok_ret <| AThen.r <| AInB.r <| AThen.r ?_
 obtain rfl := O (V h)
 have he6 := hE6 _ rfl
 subst he6
 refine AThen.r <| AInB.r <| AThen.r <| AThen.r ?_
 obtain rfl := O ho6
 exact R1 rfl
 subst hx6
 try dsimp only
 refine AThen.n <| sr <| ag rfl <| dn <| ok_ret ?_
 obtain rfl := O ho6
 exact R1 rfl
 refine cT <| qq <| sr <| mv rfl <| lE (V h) fun x12 h12 h => ln rfl h12 <| mv rfl <| lE h fun x14 h14 h => ln rfl h14 <| lE h fun x15 h15 h => ls _ rfl rfl h15 <| dn ?_
 cases x15
 refine fs <| sr <| ag rfl <| dn <| ok_ret <| AThen.r ?_
 obtain rfl := O (F h)
 exact R1 rfl
 refine cT <| sr <| ag rfl <| dn <| ok_ret <| AThen.r <| AThen.r ?_
 obtain rfl := O (V h)
 exact R1 rfl
theorem whole_addWords_ok {x0 : List Nat} {x1 : List Nat} {r : List Nat} (h : whole_addWords_m x0 x1 = some r) : Pure Tryz.prog 147 [slc 1 (List.map eU32 x0), slc 1 (List.map eU32 x1)] (slc 1 (List.map eU32 r)) := by
 refine pure_of_ok Tryz.func147 rfl (Nat.le_of_ble_eq_true rfl) (fun wld M vs hvs => ?_)
 unfold whole_addWords_m at h
 refine sr <| aI rfl (imp_nil (n := 1) (e := eU32)) <| dn <| sr <| mv rfl <| lE h fun x10 h10 h => ln rfl h10 <| mv rfl <| lE h fun x12 h12 h => ln rfl h12 <| lE h fun x13 h13 h => RT.max .none _ rfl rfl T (maxI (p := x10) (q := x12) h13) <| lE h fun x14 h14 h => ad _ rfl rfl h14 <| bE h fun x15 h15 h => RT.mkEmp (e := eU32) .none rfl rfl T rfl T h15 <| RT.alloc .none T rfl rfl <| RT.storeR (cells := [_]) .none rfl rfl rfl rfl T rfl <| dn <| sr <| RT.callF .none (whole_carrier_ok 0) rfl ⟨rfl, trivial⟩ T rfl rfl ?_
 refine RT.alloc .none T rfl rfl <| RT.storeV (cells := [_]) .none (s := .clo _ _) rfl rfl rfl T rfl <| dn <| qq <| sr <| mv rfl <| mv rfl <| cl (whole_pairs_ok x0 x1) ⟨rfl, rfl, trivial⟩ <| dn <| ok_block <| bE h fun e7 hl7 ho7 => ?_
 obtain ⟨st7, hs7, ht7, hn7⟩ := rangeM_st hl7
 refine ok_rangeFunc (whole_pairs_it x0 x1) (fun _ _ _ _ _ => trivial) rfl (fun k => AS.mkL 35 [(5, .ptr 5 0), (6, .ptr 6 0), (19, .sv (cloS 169 [ref [slc 1 (List.map eU32 x0)], ref [slc 1 (List.map eU32 x1)]]))] [(6, ⟨141, [.clo 157 [.box 16]]⟩), (16, ⟨104, [.sv (.v (.int .u64 (((st7 k).1 : Nat) : Int)))]⟩), (5, ⟨32, [.row 302]⟩)] [(302, TR 106 1 eU32 (st7 k).2)]) [6, 16, 5] rfl (fun _ => ⟨rfl, rfl⟩) (rangeT rfl) (fun _ => rfl) (rangeP rfl) (by (try dsimp only); rw [hs7]; (try dsimp only); exact weakL (fun i => bif Nat.beq i 302 then 15 else i) rfl rfl rfl rfl rfl ⟨.ptr, .ptr, .sv (SV.imp_refl _), trivial⟩ ⟨⟨_, rfl, ⟨.clo, trivial⟩⟩, ⟨_, rfl, ⟨.sv (SV.imp_refl _), trivial⟩⟩, ⟨_, rfl, ⟨.row rfl, trivial⟩⟩, trivial⟩ ⟨⟨_, rfl, SVIs.refl _⟩, trivial⟩ (fun i hi => by rw [beq_ne (show i ≠ 302 by omega)]; rfl)) (fun k hk D hD => ?_) ?_
 have h := ht7 k hk
 obtain ⟨sk, hsk⟩ : ∃ q, st7 k = q := ⟨_, rfl⟩
 rw [hsk] at h ⊢
 obtain ⟨b16_0l4, r302l4⟩ := sk
 dsimp only [AS.inR, setPs]
 try dsimp only at h
 refine lE h fun p20 hp20 h => ?_
 rw [hp20]
 refine lE h fun p21 hp21 h => ?_
 rw [hp21]
 refine sr <| ag rfl <| dn <| ok_region <| ag rfl <| RT.done ?_
 refine AThen.n ⟨rfl, ?_⟩
 dsimp only [AS.goOn]
 refine ok_block <| ok_region_draw mixed <| RT.loadV .none (s := .row _) rfl rfl rfl T <| RT.loadV .none (s := .clo _ _) rfl rfl rfl T <| mv rfl <| mv rfl <| lE h fun x26 h26 h => ad _ rfl rfl (UK.add (a := p20) (b := p21) h26) ?_
 obtain ⟨⟨x27, k9⟩, h27, h⟩ := bS h
 refine cB (whole_carrier_1_ok h27) 16 rfl ⟨rfl, trivial⟩ <| bl (l := [x27]) (e := eU32) (.one rfl (.nil)) rfl rfl rfl rfl rfl rfl <| bE h fun x29 h29 h => aR (k := [x27]) (e := eU32) rfl rfl rfl h29 <| RT.storeR (cells := [_]) .none rfl rfl rfl rfl T rfl ?_
 refine RT.done ⟨by kernel_rfl, ?_⟩
 refine AInB.n ?_
 replace h := Option.some.inj h
 refine ⟨trivial, rfl, rfl, ?_⟩
 try dsimp only
 rw [← h]
 try dsimp only
 exact weakL (fun i => bif Nat.beq i 302 then 29 else i) rfl rfl rfl rfl rfl ⟨.ptr, .ptr, .sv (SV.imp_refl _), trivial⟩ ⟨⟨_, rfl, ⟨.clo, trivial⟩⟩, ⟨_, rfl, ⟨.sv (SV.imp_refl _), trivial⟩⟩, ⟨_, rfl, ⟨.row rfl, trivial⟩⟩, trivial⟩ ⟨⟨_, rfl, SVIs.refl _⟩, trivial⟩ (fun i hi => by rw [beq_ne (show i ≠ 302 by omega)]; rfl)
 rw [hn7]
 obtain ⟨b16_0l4, r302l4⟩ := e7
 try dsimp only
 refine AInB.n <| AThen.n <| qq <| ok_region_draw mixed <| RT.loadV .none (s := .row _) rfl rfl rfl T <| RT.loadV .none (s := .clo _ _) rfl rfl rfl T ?_
 obtain ⟨⟨x32, k11⟩, h32, ho7⟩ := bS ho7
 refine cB (whole_carrier_1_ok h32) 16 rfl ⟨rfl, trivial⟩ <| bl (l := [x32]) (e := eU32) (.one rfl (.nil)) rfl rfl rfl rfl rfl rfl <| bE ho7 fun x34 h34 ho7 => RT.apIR (k := [x32]) (e := eU32) .none rfl rfl rfl T rfl T h34 <| ag rfl ?_
 refine RT.done ⟨by kernel_rfl, ?_⟩
 refine AThen.n <| ok_ret ?_
 obtain rfl := O ho7
 exact R1 rfl
theorem whole_subWords_ok {x0 : List Nat} {x1 : List Nat} {r : List Nat} (h : whole_subWords_m x0 x1 = some r) : Pure Tryz.prog 148 [slc 1 (List.map eU32 x0), slc 1 (List.map eU32 x1)] (slc 1 (List.map eU32 r)) := by
 refine pure_of_ok Tryz.func148 rfl (Nat.le_of_ble_eq_true rfl) (fun wld M vs hvs => ?_)
 unfold whole_subWords_m at h
 refine sr <| aI rfl (imp_nil (n := 1) (e := eU32)) <| dn <| sr <| mv rfl <| lE h fun x10 h10 h => ln rfl h10 <| bE h fun x11 h11 h => RT.mkEmp (e := eU32) .none rfl rfl T rfl T h11 <| RT.alloc .none T rfl rfl <| RT.storeR (cells := [_]) .none rfl rfl rfl rfl T rfl <| dn <| sr <| RT.callF .none (whole_carrier_ok 1) rfl ⟨rfl, trivial⟩ T rfl rfl <| RT.alloc .none T rfl rfl <| RT.storeV (cells := [_]) .none (s := .clo _ _) rfl rfl rfl T rfl <| dn <| qq <| sr <| mv rfl ?_
 refine mv rfl <| cl (whole_pairs_ok x0 x1) ⟨rfl, rfl, trivial⟩ <| dn <| ok_block <| bE h fun e7 hl7 ho7 => ?_
 obtain ⟨st7, hs7, ht7, hn7⟩ := rangeM_st hl7
 refine ok_rangeFunc (whole_pairs_it x0 x1) (fun _ _ _ _ _ => trivial) rfl (fun k => AS.mkL 28 [(5, .ptr 5 0), (6, .ptr 6 0), (15, .sv (cloS 169 [ref [slc 1 (List.map eU32 x0)], ref [slc 1 (List.map eU32 x1)]]))] [(6, ⟨141, [.clo 157 [.box 12]]⟩), (12, ⟨104, [.sv (.v (.int .u64 (((st7 k).1 : Nat) : Int)))]⟩), (5, ⟨32, [.row 302]⟩)] [(302, TR 106 1 eU32 (st7 k).2)]) [6, 12, 5] rfl (fun _ => ⟨rfl, rfl⟩) (rangeT rfl) (fun _ => rfl) (rangeP rfl) (by (try dsimp only); rw [hs7]; (try dsimp only); exact weakL (fun i => bif Nat.beq i 302 then 11 else i) rfl rfl rfl rfl rfl ⟨.ptr, .ptr, .sv (SV.imp_refl _), trivial⟩ ⟨⟨_, rfl, ⟨.clo, trivial⟩⟩, ⟨_, rfl, ⟨.sv (SV.imp_refl _), trivial⟩⟩, ⟨_, rfl, ⟨.row rfl, trivial⟩⟩, trivial⟩ ⟨⟨_, rfl, SVIs.refl _⟩, trivial⟩ (fun i hi => by rw [beq_ne (show i ≠ 302 by omega)]; rfl)) (fun k hk D hD => ?_) ?_
 have h := ht7 k hk
 obtain ⟨sk, hsk⟩ : ∃ q, st7 k = q := ⟨_, rfl⟩
 rw [hsk] at h ⊢
 obtain ⟨b12_0l4, r302l4⟩ := sk
 dsimp only [AS.inR, setPs]
 try dsimp only at h
 refine lE h fun p16 hp16 h => ?_
 rw [hp16]
 refine lE h fun p17 hp17 h => ?_
 rw [hp17]
 refine sr <| ag rfl <| dn <| ok_region <| ag rfl <| RT.done ?_
 refine AThen.n ⟨rfl, ?_⟩
 dsimp only [AS.goOn]
 refine ok_block <| ok_region_draw mixed <| RT.loadV .none (s := .row _) rfl rfl rfl T <| RT.loadV .none (s := .clo _ _) rfl rfl rfl T <| mv rfl <| mv rfl <| lE h fun x22 h22 h => sb _ rfl rfl (UK.sub (a := 4294967295) (b := p17) h22) <| lE h fun x23 h23 h => ad _ rfl rfl (UK.add (a := p16) (b := x22) h23) ?_
 obtain ⟨⟨x24, k9⟩, h24, h⟩ := bS h
 refine cB (whole_carrier_1_ok h24) 12 rfl ⟨rfl, trivial⟩ <| bl (l := [x24]) (e := eU32) (.one rfl (.nil)) rfl rfl rfl rfl rfl rfl <| bE h fun x26 h26 h => aR (k := [x24]) (e := eU32) rfl rfl rfl h26 <| RT.storeR (cells := [_]) .none rfl rfl rfl rfl T rfl ?_
 refine RT.done ⟨by kernel_rfl, ?_⟩
 refine AInB.n ?_
 replace h := Option.some.inj h
 refine ⟨trivial, rfl, rfl, ?_⟩
 try dsimp only
 rw [← h]
 try dsimp only
 exact weakL (fun i => bif Nat.beq i 302 then 26 else i) rfl rfl rfl rfl rfl ⟨.ptr, .ptr, .sv (SV.imp_refl _), trivial⟩ ⟨⟨_, rfl, ⟨.clo, trivial⟩⟩, ⟨_, rfl, ⟨.sv (SV.imp_refl _), trivial⟩⟩, ⟨_, rfl, ⟨.row rfl, trivial⟩⟩, trivial⟩ ⟨⟨_, rfl, SVIs.refl _⟩, trivial⟩ (fun i hi => by rw [beq_ne (show i ≠ 302 by omega)]; rfl)
 rw [hn7]
 obtain ⟨b12_0l4, r302l4⟩ := e7
 try dsimp only
 refine AInB.n <| AThen.n <| sr <| RT.loadV .none (s := .row _) rfl rfl rfl T <| an (s := .row _) rfl <| dn <| ok_weak (weak_frzM (i := 302) (E1 := 106) (n := 1) (e := eU32) (l := r302l4) rfl) <| ok_ret ?_
 obtain rfl := O ho7
 exact R1 rfl
theorem whole_mulWords_ok {x0 : List Nat} {x1 : List Nat} {r : List Nat} (h : whole_mulWords_m x0 x1 = some r) : Pure Tryz.prog 117 [slc 1 (List.map eU32 x0), slc 1 (List.map eU32 x1)] (slc 1 (List.map eU32 r)) := by
 refine pure_of_ok Tryz.func117 rfl (Nat.le_of_ble_eq_true rfl) (fun wld M vs hvs => ?_)
 unfold whole_mulWords_m at h
 refine sr <| aI rfl (imp_nil (n := 1) (e := eU32)) <| dn <| sr <| mv rfl <| lE h fun x12 h12 h => ln rfl h12 <| mv rfl <| lE h fun x14 h14 h => ln rfl h14 <| lE h fun x15 h15 h => ad _ rfl rfl h15 <| bE h fun x16 h16 h => RT.mkRow (n := 1) (e := eU32) .none rfl rfl T rfl T (by rfl) (by decide) (by exact ⟨SV.imp_refl _, trivial⟩) h16 <| an (s := .row _) rfl <| dn <| qq <| sr <| mv rfl <| lE h fun x18 h18 h => ln rfl h18 ?_
 refine mv rfl <| dn <| bE h fun e28 hl28 ho28 => ?_
 refine ok_tailP (fun (r16e27 : (List Nat)) => AS.mkL 63 [(5, .row 16)] [] [(16, TR 106 1 eU32 r16e27)]) (fun r16e27 => r16e27 = e28) ?_ (fun r16e27 hx28 => ?_)
 refine ok_block ?_
 refine ok_loopM hl28 (fun s28 => AS.mkL 63 [(1, .sv (slc 1 (List.map eU32 x1))), (5, .row 16), (17, .sv (slc 1 (List.map eU32 x0))), (18, .sv (.v (.int .i64 x18))), (19, .sv (.v (.int .i64 s28.1)))] [] [(16, TR 106 1 eU32 s28.2)]) (wR []) (fun s28 y28 G28 h hG28 hE28 => ?_)
 obtain ⟨y19l14, r16l14⟩ := s28
 try dsimp only
 refine sr <| lE h fun x20 h20 h => ls _ rfl rfl h20 <| dn <| qq ?_
 cases x20
 refine cF <| ok_exit <| AThen.x <| AThen.x <| AInB.x <| AThen.n ?_
 obtain rfl := O (F h)
 exact ⟨r16l14, hE28 _ rfl, wR []⟩
 refine cT <| ok_skip <| AThen.n <| qq <| ok_block <| sr <| mv rfl <| bE (V h) fun x22 h22 h => ix rfl rfl h22 <| lr rfl rfl <| ag rfl <| ag rfl <| dn <| sr <| RT.callF .none (whole_carrier_ok 0) rfl ⟨rfl, trivial⟩ T rfl rfl <| an (s := .clo _ _) rfl <| dn <| qq <| sr <| mv rfl <| lE h fun x26 h26 h => ln rfl h26 <| mv rfl <| dn <| bE h fun e38 hl38 ho38 => ?_
 refine ok_tailP (fun (xe38 : Nat × (List Nat)) => AS.mkL 63 [(1, .sv (slc 1 (List.map eU32 x1))), (5, .row 16), (6, .sv (.v (.int .i64 y19l14))), (8, .clo 157 [.box 24]), (17, .sv (slc 1 (List.map eU32 x0))), (18, .sv (.v (.int .i64 x18))), (19, .sv (.v (.int .i64 y19l14)))] [(24, ⟨104, [.sv (.v (.int .u64 ((xe38.1 : Nat) : Int)))]⟩)] [(16, TR 106 1 eU32 xe38.2)]) (fun xe38 => xe38 = e38) ?_ (fun xe38 hx38 => ?_)
 refine ok_block ?_
 refine ok_loopM hl38 (fun s38 => AS.mkL 63 [(1, .sv (slc 1 (List.map eU32 x1))), (5, .row 16), (6, .sv (.v (.int .i64 y19l14))), (7, .sv (.v (.int .u32 ((x22 : Nat) : Int)))), (8, .clo 157 [.box 24]), (17, .sv (slc 1 (List.map eU32 x0))), (18, .sv (.v (.int .i64 x18))), (19, .sv (.v (.int .i64 y19l14))), (25, .sv (slc 1 (List.map eU32 x1))), (26, .sv (.v (.int .i64 x26))), (27, .sv (.v (.int .i64 s38.1)))] [(24, ⟨104, [.sv (.v (.int .u64 ((s38.2.1 : Nat) : Int)))]⟩)] [(16, TR 106 1 eU32 s38.2.2)]) (wR []) (fun s38 y38 G38 h hG38 hE38 => ?_)
 obtain ⟨y27l33, b24_0l33, r16l33⟩ := s38
 try dsimp only
 refine sr <| lE h fun x28 h28 h => ls _ rfl rfl h28 <| dn <| qq ?_
 cases x28
 refine cF <| ok_exit <| AThen.x <| AThen.x <| AInB.x <| AThen.n ?_
 obtain rfl := O (F h)
 exact ⟨(b24_0l33, r16l33), hE38 _ rfl, wR []⟩
 refine cT <| ok_skip <| AThen.n <| qq <| ok_block <| sr <| mv rfl <| bE (V h) fun x30 h30 h => ix rfl rfl h30 <| lr rfl rfl <| ag rfl <| ag rfl <| dn <| ok_region <| mo (s := .row _) rfl <| mv rfl <| mv rfl <| lE h fun x35 h35 h => ad _ rfl rfl h35 <| mo (s := .clo _ _) rfl <| mo (s := .row _) rfl <| mv rfl <| mv rfl <| lE h fun x40 h40 h => ad _ rfl rfl h40 <| bE h fun x41 h41 h => iR rfl rfl rfl h41 ?_
 refine bE h fun x42 h42 h => lR rfl rfl h42 rfl <| lE h fun x43 h43 h => cv _ rfl (UK.nat h43) <| mv rfl <| lE h fun x45 h45 h => cv _ rfl (UK.nat h45) <| mv rfl <| lE h fun x47 h47 h => cv _ rfl (UK.nat h47) <| lE h fun x48 h48 h => RT.mul .none _ rfl rfl T (UK.mul (a := x45) (b := x47) h48) <| lE h fun x49 h49 h => ad _ rfl rfl (UK.add (a := x43) (b := x48) h49) ?_
 obtain ⟨⟨x50, k41⟩, h50, h⟩ := bS h
 refine cB (whole_carrier_1_ok h50) 24 rfl ⟨rfl, trivial⟩ <| bE h fun x51 h51 h => iR rfl rfl rfl h51 <| bE h fun l42 hl42_ h => sR x50 rfl rfl rfl rfl hl42_ <| RT.done <| AInB.n <| AThen.n <| ok_region <| lE h fun x52 h52 h => ad _ rfl rfl h52 <| mv rfl <| RT.done ?_
 obtain rfl := O h
 exact AThen.n ⟨(x52, k41, l42), hG38 _ rfl, wR []⟩
 subst hx38
 obtain ⟨b24_0e37, r16e37⟩ := xe38
 try dsimp only
 refine AThen.n <| ok_region <| mo (s := .row _) rfl <| mv rfl <| mv rfl <| lE ho38 fun x56 h56 ho38 => ln rfl h56 <| lE ho38 fun x57 h57 ho38 => ad _ rfl rfl h57 <| mo (s := .clo _ _) rfl ?_
 obtain ⟨⟨x59, k45⟩, h59, ho38⟩ := bS ho38
 refine cB (whole_carrier_1_ok h59) 24 rfl ⟨rfl, trivial⟩ <| bE ho38 fun x60 h60 ho38 => iR rfl rfl rfl h60 <| bE ho38 fun l46 hl46_ ho38 => sR x59 rfl rfl rfl rfl hl46_ <| RT.done <| AInB.n <| AThen.n <| ok_region <| lE ho38 fun x61 h61 ho38 => ad _ rfl rfl h61 <| mv rfl <| RT.done ?_
 obtain rfl := O ho38
 exact AThen.n ⟨(x61, l46), hG28 _ rfl, wR []⟩
 subst hx28
 try dsimp only
 refine AThen.n <| sr <| mo (s := .row _) rfl <| an (s := .row _) rfl <| dn <| ok_weak (weak_frzM (i := 16) (E1 := 106) (n := 1) (e := eU32) (l := r16e27) rfl) <| ok_ret ?_
 obtain rfl := O ho28
 exact R1 rfl
end Go.Proofs.YtfoldppidpmchaaGreat
namespace Go.Proofs.YtfoldppidpmchaaGreat
open Go.Fw Go.Fw.Z Go.RowKit
theorem whole_shortDiv_ok {x0 : List Nat} {x1 : Nat} {r : Nat × List Nat} (h : whole_shortDiv_m x0 x1 = some r) : RowC Tryz.prog 158 [.row 1000, .sv (.v (.int .u64 ((x1 : Nat) : Int)))] (TR 106 1 eU32 x0) (.sv (.v (.int .u64 ((r.1 : Nat) : Int)))) (List.flatMap eU32 r.2) := by
 refine rowC_of_ok Tryz.func158 rfl (Nat.le_of_ble_eq_true rfl) rfl rfl (fun wld M v0 => ?_)
 unfold whole_shortDiv_m at h
 refine sr <| ag rfl <| dn <| sr <| ag rfl <| dn <| qq <| sr <| mo (s := .row _) rfl <| lE h fun x9 h9 h => lL rfl rfl h9 <| lE h fun x10 h10 h => sb _ rfl rfl h10 <| ag rfl <| dn <| bE h fun e8 hl8 ho8 => ?_
 refine ok_tailP (fun (xe8 : Nat × (List Nat)) => AS.mkL 34 [(5, .sv (.v (.int .u64 ((xe8.1 : Nat) : Int))))] [] [(1000, TR 106 1 eU32 xe8.2)]) (fun xe8 => xe8 = e8) ?_ (fun xe8 hx8 => ?_)
 refine ok_block ?_
 refine ok_loopM hl8 (fun s8 => AS.mkL 34 [(0, .row 1000), (1, .sv (.v (.int .u64 ((x1 : Nat) : Int)))), (5, .sv (.v (.int .u64 ((s8.1 : Nat) : Int)))), (6, .sv (.v (.int .i64 s8.2.1)))] [] [(1000, TR 106 1 eU32 s8.2.2)]) (wR []) (fun s8 y8 G8 h hG8 hE8 => ?_)
 obtain ⟨y5l4, y6l4, r1000l4⟩ := s8
 try dsimp only
 refine qq <| sr <| mv rfl <| lE h fun x12 h12 h => ge _ rfl rfl h12 <| dn ?_
 cases x12
 refine cF <| ok_exit <| AThen.x <| AThen.x <| AInB.x <| AThen.n ?_
 obtain rfl := O (F h)
 exact ⟨(y5l4, r1000l4), hE8 _ rfl, wR []⟩
 refine cT <| ok_skip <| AThen.n <| qq <| ok_block <| sr <| mv rfl <| lE (V h) fun x16 h16 h => RT.shl .none _ rfl rfl T (by decide) (UK.shl (a := y5l4) (q := 32) (s := 32) rfl h16) <| mo (s := .row _) rfl <| mv rfl <| bE h fun x19 h19 h => iR rfl rfl rfl h19 <| bE h fun x20 h20 h => lR rfl rfl h20 rfl <| lE h fun x21 h21 h => cv _ rfl (UK.nat h21) <| lE h fun x22 h22 h => RT.or .none _ rfl rfl T (UK.or (a := x16) (b := x21) h22) <| ag rfl <| dn <| sr <| mo (s := .row _) rfl ?_
 refine mv rfl <| mv rfl <| mv rfl <| bE h fun x27 h27 h => RT.quo .none _ rfl rfl T (nzU h27) (UK.quo h27) <| lE h fun x28 h28 h => cv _ rfl (UK.nat h28) <| bE h fun x29 h29 h => iR rfl rfl rfl h29 <| bE h fun l10 hl10_ h => sR x28 rfl rfl rfl rfl hl10_ <| dn <| ok_region <| mv rfl <| mv rfl <| bE h fun x32 h32 h => RT.rem .none _ rfl rfl T (nzR h32) (remU h32) <| ag rfl <| RT.done <| AInB.n <| AThen.n <| ok_region <| mv rfl <| lE h fun x14 h14 h => sb _ rfl rfl h14 ?_
 refine ag rfl <| RT.done ?_
 obtain rfl := O h
 exact AThen.n ⟨(x32, x14, l10), hG8 _ rfl, wR []⟩
 subst hx8
 obtain ⟨y5e7, r1000e7⟩ := xe8
 try dsimp only
 refine AThen.n <| sr <| mv rfl <| ag rfl <| dn <| ok_ret <| bE ho8 fun _ hle ho8 => ?_
 obtain rfl := O ho8
 exact ⟨.inr rfl, .sv (res_imp (.tmp rfl (.nil)) (SV.imp_refl _)), (by show _ = RSt.live ⟨106, 1, x0.length, List.flatMap eU32 r1000e7⟩; rw [← eqLen_some hle]; rfl)⟩
theorem whole_shiftLeft_ok {x0 : List Nat} {x1 : Nat} {r : List Nat} (h : whole_shiftLeft_m x0 x1 = some r) : Pure Tryz.prog 166 [slc 1 (List.map eU32 x0), .v (.int .u64 ((x1 : Nat) : Int))] (slc 1 (List.map eU32 r)) := by
 refine pure_of_ok Tryz.func166 rfl (Nat.le_of_ble_eq_true rfl) (fun wld M vs hvs => ?_)
 unfold whole_shiftLeft_m at h
 refine sr <| aI rfl (imp_nil (n := 1) (e := eU32)) <| dn <| sr <| RT.callF .none (whole_carrier_ok 0) rfl ⟨rfl, trivial⟩ T rfl rfl <| an (s := .clo _ _) rfl <| dn <| sr <| mv rfl <| lE h fun x11 h11 h => ln rfl h11 <| lE h fun x12 h12 h => ad _ rfl rfl h12 <| bE h fun x13 h13 h => RT.mkEmp (e := eU32) .none rfl rfl T rfl T h13 <| an (s := .row _) rfl <| dn <| qq <| sr <| mv rfl <| lE h fun x15 h15 h => ln rfl h15 ?_
 refine mv rfl <| dn <| bE h fun e8 hl8 ho8 => ?_
 refine ok_tailP (fun (xe8 : Nat × (List Nat)) => AS.mkL 35 [(5, .clo 157 [.box 9]), (6, .row 302)] [(9, ⟨104, [.sv (.v (.int .u64 ((xe8.1 : Nat) : Int)))]⟩)] [(302, TR 106 1 eU32 xe8.2)]) (fun xe8 => xe8 = e8) ?_ (fun xe8 hx8 => ?_)
 refine ok_block ?_
 refine ok_loopM hl8 (fun s8 => AS.mkL 35 [(1, .sv (.v (.int .u64 ((x1 : Nat) : Int)))), (5, .clo 157 [.box 9]), (6, .row 302), (14, .sv (slc 1 (List.map eU32 x0))), (15, .sv (.v (.int .i64 x15))), (16, .sv (.v (.int .i64 s8.1)))] [(9, ⟨104, [.sv (.v (.int .u64 ((s8.2.1 : Nat) : Int)))]⟩)] [(302, TR 106 1 eU32 s8.2.2)]) (weakL (fun i => bif Nat.beq i 302 then 13 else i) rfl rfl rfl rfl rfl ⟨.sv (SV.imp_refl _), .clo, .row rfl, .sv (SV.imp_refl _), .sv (SV.imp_refl _), .sv (SV.imp_refl _), trivial⟩ ⟨⟨_, rfl, ⟨.sv (SV.imp_refl _), trivial⟩⟩, trivial⟩ ⟨⟨_, rfl, SVIs.refl _⟩, trivial⟩ (fun i hi => by rw [beq_ne (show i ≠ 302 by omega)]; rfl)) (fun s8 y8 G8 h hG8 hE8 => ?_)
 obtain ⟨y16l4, b9_0l4, r302l4⟩ := s8
 try dsimp only
 refine sr <| lE h fun x17 h17 h => ls _ rfl rfl h17 <| dn <| qq ?_
 cases x17
 refine cF <| ok_exit <| AThen.x <| AThen.x <| AInB.x <| AThen.n ?_
 obtain rfl := O (F h)
 exact ⟨(b9_0l4, r302l4), hE8 _ rfl, wR []⟩
 refine cT <| ok_skip <| AThen.n <| qq <| ok_block <| sr <| bE (V h) fun x18 h18 h => ix rfl rfl h18 <| lr rfl rfl <| ag rfl <| dn <| ok_region <| mo (s := .row _) rfl <| mo (s := .clo _ _) rfl <| mv rfl <| lE h fun x23 h23 h => cv _ rfl (UK.nat h23) <| mv rfl <| lE h fun x25 h25 h => RT.shl .none _ rfl rfl T (Int.natCast_nonneg _) (UK.shl (a := x23) (q := ((x1 : Nat) : Int)) (s := min x1 64) rfl h25) ?_
 obtain ⟨⟨x26, k10⟩, h26, h⟩ := bS h
 refine cB (whole_carrier_1_ok h26) 9 rfl ⟨rfl, trivial⟩ <| bl (l := [x26]) (e := eU32) (.one rfl (.nil)) rfl rfl rfl rfl rfl rfl <| bE h fun x28 h28 h => aR (k := [x26]) (e := eU32) rfl rfl rfl h28 <| an (s := .row _) rfl <| RT.done <| AInB.n <| AThen.n <| ok_region <| lE h fun x29 h29 h => ad _ rfl rfl h29 <| mv rfl <| RT.done ?_
 obtain rfl := O h
 exact AThen.n ⟨(x29, k10, x28), hG8 _ rfl, weakL (fun i => bif Nat.beq i 302 then 28 else i) rfl rfl rfl rfl rfl ⟨.sv (SV.imp_refl _), .clo, .row rfl, .sv (SV.imp_refl _), .sv (SV.imp_refl _), .sv (SV.imp_refl _), trivial⟩ ⟨⟨_, rfl, ⟨.sv (SV.imp_refl _), trivial⟩⟩, trivial⟩ ⟨⟨_, rfl, SVIs.refl _⟩, trivial⟩ (fun i hi => by rw [beq_ne (show i ≠ 302 by omega)]; rfl)⟩
 subst hx8
 obtain ⟨b9_0e7, r302e7⟩ := xe8
 try dsimp only
 refine AThen.n <| sr <| mo (s := .row _) rfl <| mo (s := .clo _ _) rfl ?_
 obtain ⟨⟨x32, k12⟩, h32, ho8⟩ := bS ho8
 refine cB (whole_carrier_1_ok h32) 9 rfl ⟨rfl, trivial⟩ <| bl (l := [x32]) (e := eU32) (.one rfl (.nil)) rfl rfl rfl rfl rfl rfl <| bE ho8 fun x34 h34 ho8 => RT.apIR (k := [x32]) (e := eU32) .none rfl rfl rfl T rfl T h34 <| ag rfl <| dn <| ok_ret ?_
 obtain rfl := O ho8
 exact R1 rfl
theorem whole_shiftLeftN_ok {x0 : List Nat} {x1 : Nat} {r : List Nat} (h : whole_shiftLeftN_m x0 x1 = some r) : NewC Tryz.prog 166 [slc 1 (List.map eU32 x0), .v (.int .u64 ((x1 : Nat) : Int))] (TR 106 1 eU32 r) := by
 refine newC_of_ok Tryz.func166 rfl (Nat.le_of_ble_eq_true rfl) (fun wld M vs hvs => ?_)
 unfold whole_shiftLeftN_m at h
 refine sr <| ag rfl <| dn <| ok_weak (weak_nil 4 304 106 1 rfl rfl T) <| sr <| RT.callF .none (whole_carrier_ok 0) rfl ⟨rfl, trivial⟩ T rfl rfl <| an (s := .clo _ _) rfl <| dn <| sr <| mv rfl <| lE h fun x11 h11 h => ln rfl h11 <| lE h fun x12 h12 h => ad _ rfl rfl h12 <| bE h fun x13 h13 h => RT.mkEmp (e := eU32) .none rfl rfl T rfl T h13 <| an (s := .row _) rfl <| dn <| qq <| sr <| mv rfl <| lE h fun x15 h15 h => ln rfl h15 ?_
 refine mv rfl <| dn <| bE h fun e8 hl8 ho8 => ?_
 refine ok_tailP (fun (xe8 : Nat × (List Nat)) => AS.mkL 35 [(5, .clo 157 [.box 9]), (6, .row 306)] [(9, ⟨104, [.sv (.v (.int .u64 ((xe8.1 : Nat) : Int)))]⟩)] [(306, TR 106 1 eU32 xe8.2)]) (fun xe8 => xe8 = e8) ?_ (fun xe8 hx8 => ?_)
 refine ok_block ?_
 refine ok_loopM hl8 (fun s8 => AS.mkL 35 [(1, .sv (.v (.int .u64 ((x1 : Nat) : Int)))), (5, .clo 157 [.box 9]), (6, .row 306), (14, .sv (slc 1 (List.map eU32 x0))), (15, .sv (.v (.int .i64 x15))), (16, .sv (.v (.int .i64 s8.1)))] [(9, ⟨104, [.sv (.v (.int .u64 ((s8.2.1 : Nat) : Int)))]⟩)] [(306, TR 106 1 eU32 s8.2.2)]) (weakL (fun i => bif Nat.beq i 306 then 13 else i) rfl rfl rfl rfl rfl ⟨.sv (SV.imp_refl _), .clo, .row rfl, .sv (SV.imp_refl _), .sv (SV.imp_refl _), .sv (SV.imp_refl _), trivial⟩ ⟨⟨_, rfl, ⟨.sv (SV.imp_refl _), trivial⟩⟩, trivial⟩ ⟨⟨_, rfl, SVIs.refl _⟩, trivial⟩ (fun i hi => by rw [beq_ne (show i ≠ 306 by omega)]; rfl)) (fun s8 y8 G8 h hG8 hE8 => ?_)
 obtain ⟨y16l4, b9_0l4, r306l4⟩ := s8
 try dsimp only
 refine sr <| lE h fun x17 h17 h => ls _ rfl rfl h17 <| dn <| qq ?_
 cases x17
 refine cF <| ok_exit <| AThen.x <| AThen.x <| AInB.x <| AThen.n ?_
 obtain rfl := O (F h)
 exact ⟨(b9_0l4, r306l4), hE8 _ rfl, wR []⟩
 refine cT <| ok_skip <| AThen.n <| qq <| ok_block <| sr <| bE (V h) fun x18 h18 h => ix rfl rfl h18 <| lr rfl rfl <| ag rfl <| dn <| ok_region <| mo (s := .row _) rfl <| mo (s := .clo _ _) rfl <| mv rfl <| lE h fun x23 h23 h => cv _ rfl (UK.nat h23) <| mv rfl <| lE h fun x25 h25 h => RT.shl .none _ rfl rfl T (Int.natCast_nonneg _) (UK.shl (a := x23) (q := ((x1 : Nat) : Int)) (s := min x1 64) rfl h25) ?_
 obtain ⟨⟨x26, k10⟩, h26, h⟩ := bS h
 refine cB (whole_carrier_1_ok h26) 9 rfl ⟨rfl, trivial⟩ <| bl (l := [x26]) (e := eU32) (.one rfl (.nil)) rfl rfl rfl rfl rfl rfl <| bE h fun x28 h28 h => aR (k := [x26]) (e := eU32) rfl rfl rfl h28 <| an (s := .row _) rfl <| RT.done <| AInB.n <| AThen.n <| ok_region <| lE h fun x29 h29 h => ad _ rfl rfl h29 <| mv rfl <| RT.done ?_
 obtain rfl := O h
 exact AThen.n ⟨(x29, k10, x28), hG8 _ rfl, weakL (fun i => bif Nat.beq i 306 then 28 else i) rfl rfl rfl rfl rfl ⟨.sv (SV.imp_refl _), .clo, .row rfl, .sv (SV.imp_refl _), .sv (SV.imp_refl _), .sv (SV.imp_refl _), trivial⟩ ⟨⟨_, rfl, ⟨.sv (SV.imp_refl _), trivial⟩⟩, trivial⟩ ⟨⟨_, rfl, SVIs.refl _⟩, trivial⟩ (fun i hi => by rw [beq_ne (show i ≠ 306 by omega)]; rfl)⟩
 subst hx8
 obtain ⟨b9_0e7, r306e7⟩ := xe8
 try dsimp only
 refine AThen.n <| sr <| mo (s := .row _) rfl <| mo (s := .clo _ _) rfl ?_
 obtain ⟨⟨x32, k12⟩, h32, ho8⟩ := bS ho8
 refine cB (whole_carrier_1_ok h32) 9 rfl ⟨rfl, trivial⟩ <| bl (l := [x32]) (e := eU32) (.one rfl (.nil)) rfl rfl rfl rfl rfl rfl <| bE ho8 fun x34 h34 ho8 => aR (k := [x32]) (e := eU32) rfl rfl rfl h34 <| an (s := .row _) rfl <| dn <| ok_ret ?_
 obtain rfl := O ho8
 exact ⟨.inr rfl, _, .tmp rfl, rfl⟩
theorem math_bits_Len32_ok {x0 : Nat} {r : Int} (h : math_bits_Len32_m x0 = some r) : Pure Tryz.prog 170 [.v (.int .u32 ((x0 : Nat) : Int))] (.v (.int .i64 r)) := by
 refine pure_of_ok Tryz.func170 rfl (Nat.le_of_ble_eq_true rfl) (fun wld M vs hvs => ?_)
 unfold math_bits_Len32_m at h
 refine sr <| ag rfl <| dn <| qq <| sr <| mv rfl <| lE h fun x4 h4 h => ge _ rfl rfl (leN (p := 65536) (q := x0) h4) <| dn ?_
 refine ok_tailJ h (fun j2 => AS.mkL 19 [(0, .sv (.v (.int .u32 ((j2.1 : Nat) : Int)))), (2, .sv (.v (.int .i64 j2.2)))] [] []) (fun h => ?_) (fun j2 h => ?_)
 cases x4
 exact fs <| ⟨(x0, 0), (F h), wR []⟩
 exact cT <| sr <| mv rfl <| lE (V h) fun x6 h6 h => RT.shr .none _ rfl rfl T (by decide) (shrU (k := .u32) (a := x0) (q := 16) (s := 16) rfl h6) <| ag rfl <| dn <| ok_region <| ag rfl <| dn <| ⟨(x6, 16), h, wR []⟩
 obtain ⟨y0j1, y2j1⟩ := j2
 try dsimp only
 refine AThen.n <| qq <| sr <| mv rfl <| lE h fun x8 h8 h => ge _ rfl rfl (leN (p := 256) (q := y0j1) h8) <| dn ?_
 refine ok_tailJ h (fun j4 => AS.mkL 19 [(0, .sv (.v (.int .u32 ((j4.1 : Nat) : Int)))), (2, .sv (.v (.int .i64 j4.2)))] [] []) (fun h => ?_) (fun j4 h => ?_)
 cases x8
 exact fs <| ⟨(y0j1, y2j1), (F h), wR []⟩
 exact cT <| sr <| mv rfl <| lE (V h) fun x10 h10 h => RT.shr .none _ rfl rfl T (by decide) (shrU (k := .u32) (a := y0j1) (q := 8) (s := 8) rfl h10) <| ag rfl <| dn <| ok_region <| mv rfl <| lE h fun x12 h12 h => ad _ rfl rfl h12 <| ag rfl <| dn <| ⟨(x10, x12), h, wR []⟩
 obtain ⟨y0j3, y2j3⟩ := j4
 try dsimp only
 refine AThen.n <| sr <| mv rfl <| mv rfl <| lE h fun x15 h15 h => cv _ rfl (UK.nat h15) <| bE h fun x16 h16 h => ?_
 refine RT.six (l := [0, 1, 2, 2, 3, 3, 3, 3, 4, 4, 4, 4, 4, 4, 4, 4, 5, 5, 5, 5, 5, 5, 5, 5, 5, 5, 5, 5, 5, 5, 5, 5, 6, 6, 6, 6, 6, 6, 6, 6, 6, 6, 6, 6, 6, 6, 6, 6, 6, 6, 6, 6, 6, 6, 6, 6, 6, 6, 6, 6, 6, 6, 6, 6, 7, 7, 7, 7, 7, 7, 7, 7, 7, 7, 7, 7, 7, 7, 7, 7, 7, 7, 7, 7, 7, 7, 7, 7, 7, 7, 7, 7, 7, 7, 7, 7, 7, 7, 7, 7, 7, 7, 7, 7, 7, 7, 7, 7, 7, 7, 7, 7, 7, 7, 7, 7, 7, 7, 7, 7, 7, 7, 7, 7, 7, 7, 7, 7, 8, 8, 8, 8, 8, 8, 8, 8, 8, 8, 8, 8, 8, 8, 8, 8, 8, 8, 8, 8, 8, 8, 8, 8, 8, 8, 8, 8, 8, 8, 8, 8, 8, 8, 8, 8, 8, 8, 8, 8, 8, 8, 8, 8, 8, 8, 8, 8, 8, 8, 8, 8, 8, 8, 8, 8, 8, 8, 8, 8, 8, 8, 8, 8, 8, 8, 8, 8, 8, 8, 8, 8, 8, 8, 8, 8, 8, 8, 8, 8, 8, 8, 8, 8, 8, 8, 8, 8, 8, 8, 8, 8, 8, 8, 8, 8, 8, 8, 8, 8, 8, 8, 8, 8, 8, 8, 8, 8, 8, 8, 8, 8, 8, 8, 8, 8, 8, 8, 8, 8, 8, 8, 8, 8, 8, 8, 8, 8]) .none rfl rfl T h16 ?_
 refine lE h fun x17 h17 h => cv _ rfl h17 <| lE h fun x18 h18 h => ad _ rfl rfl h18 <| ag rfl <| dn <| ok_ret ?_
 obtain rfl := O h
 exact R1 rfl
theorem math_bits_LeadingZeros32_ok {x0 : Nat} {r : Int} (h : math_bits_LeadingZeros32_m x0 = some r) : Pure Tryz.prog 165 [.v (.int .u32 ((x0 : Nat) : Int))] (.v (.int .i64 r)) := by
 refine pure_of_ok Tryz.func165 rfl (Nat.le_of_ble_eq_true rfl) (fun wld M vs hvs => ?_)
 unfold math_bits_LeadingZeros32_m at h
 refine sr <| ag rfl <| dn <| sr <| mv rfl <| bE h fun x4 h4 h => cl (math_bits_Len32_ok h4) ⟨rfl, trivial⟩ <| lE h fun x5 h5 h => sb _ rfl rfl h5 <| ag rfl <| dn <| ok_ret ?_
 obtain rfl := O h
 exact R1 rfl
theorem whole_estimate_ok {x0 : List Nat} {o0 : Nat} {n0 : Nat} {x1 : List Nat} {r : Nat × List Nat} (h : whole_estimate_m x0 o0 n0 x1 = some r) : RowC Tryz.prog 167 [.rsl 1000 (o0 * 1) n0, .sv (slc 1 (List.map eU32 x1))] (TR 106 1 eU32 x0) (.sv (.v (.int .u64 ((r.1 : Nat) : Int)))) (List.flatMap eU32 r.2) := by
 refine rowC_of_ok Tryz.func167 rfl (Nat.le_of_ble_eq_true rfl) rfl rfl (fun wld M v0 => ?_)
 unfold whole_estimate_m at h
 refine sr <| ag rfl <| dn <| sr <| mv rfl <| lE h fun x12 h12 h => ln rfl h12 <| ag rfl <| dn <| qq <| ok_region_draw mixed <| mo (s := .rsl _ _ _) rfl <| mv rfl <| bE h fun x15 h15 h => RT.ixRsM .none rfl rfl T h15 <| bE h fun x16 h16 h => lR rfl rfl h16 rfl <| lE h fun x17 h17 h => cv _ rfl (UK.nat h17) <| lE h fun x18 h18 h => RT.shl .none _ rfl rfl T (by decide) (UK.shl (a := x17) (q := 32) (s := 32) rfl h18) <| mo (s := .rsl _ _ _) rfl ?_
 refine mv rfl <| lE h fun x21 h21 h => sb _ rfl rfl h21 <| bE h fun x22 h22 h => RT.ixRsM .none rfl rfl T h22 <| bE h fun x23 h23 h => lR rfl rfl h23 rfl <| lE h fun x24 h24 h => cv _ rfl (UK.nat h24) <| lE h fun x25 h25 h => RT.or .none _ rfl rfl T (UK.or (a := x18) (b := x24) h25) <| ag rfl ?_
 refine RT.done ⟨by kernel_rfl, ?_⟩
 refine AThen.n <| qq <| ok_region_draw mixed <| mv rfl <| mv rfl <| lE h fun x28 h28 h => sb _ rfl rfl h28 <| bE h fun x29 h29 h => ix rfl rfl h29 <| lr rfl rfl <| lE h fun x31 h31 h => cv _ rfl (UK.nat h31) <| mv rfl <| mv rfl <| lE h fun x34 h34 h => sb _ rfl rfl h34 <| bE h fun x35 h35 h => ix rfl rfl h35 <| lr rfl rfl <| lE h fun x37 h37 h => cv _ rfl (UK.nat h37) <| ag rfl <| ag rfl ?_
 refine RT.done ⟨by kernel_rfl, ?_⟩
 refine AThen.n <| qq <| ok_region_draw mixed <| mv rfl <| mv rfl <| bE h fun x40 h40 h => RT.quo .none _ rfl rfl T (nzU h40) (UK.quo h40) <| mv rfl <| mv rfl <| bE h fun x43 h43 h => RT.rem .none _ rfl rfl T (nzR h43) (remU h43) <| ag rfl <| ag rfl ?_
 refine RT.done ⟨by kernel_rfl, ?_⟩
 refine AThen.n <| qq <| bE h fun e10 hl10 ho10 => ?_
 refine ok_tailP (fun (y9e9 : Nat) => AS.mkL 71 [(9, .sv (.v (.int .u64 ((y9e9 : Nat) : Int))))] [] [(1000, TR 106 1 eU32 x0)]) (fun y9e9 => y9e9 = e10) ?_ (fun y9e9 hx10 => ?_)
 refine ok_block ?_
 refine ok_loopM hl10 (fun s10 => AS.mkL 71 [(0, .rsl 1000 (o0 * 1) n0), (5, .sv (.v (.int .i64 x12))), (7, .sv (.v (.int .u64 ((x31 : Nat) : Int)))), (8, .sv (.v (.int .u64 ((x37 : Nat) : Int)))), (9, .sv (.v (.int .u64 ((s10.1 : Nat) : Int)))), (10, .sv (.v (.int .u64 ((s10.2 : Nat) : Int))))] [] [(1000, TR 106 1 eU32 x0)]) (wR []) (fun s10 y10 G10 h hG10 hE10 => ?_)
 obtain ⟨y9l5, y10l5⟩ := s10
 try dsimp only
 refine qq <| qq ?_
 refine ok_tailJ h (fun j13 => AS.mkL 71 [(0, .rsl 1000 (o0 * 1) n0), (5, .sv (.v (.int .i64 x12))), (7, .sv (.v (.int .u64 ((x31 : Nat) : Int)))), (8, .sv (.v (.int .u64 ((x37 : Nat) : Int)))), (9, .sv (.v (.int .u64 ((y9l5 : Nat) : Int)))), (10, .sv (.v (.int .u64 ((y10l5 : Nat) : Int)))), (61, .sv (.v (.bool j13)))] [] [(1000, TR 106 1 eU32 x0)]) (fun h => ?_) (fun y61j12 h => ?_)
 refine ok_region <| mv rfl <| lE h fun x45 h45 h => RT.shr .none _ rfl rfl T (by decide) (shrU (k := .u64) (a := y9l5) (q := 32) (s := 32) rfl h45) <| lE h fun x46 h46 h => ne _ rfl rfl (neN (p := x45) (q := 0) h46) <| mv rfl <| bE h fun c61_14 hg14 h => ?_
 cases x46
 refine gm rfl <| gm rfl <| lE (F hg14) fun x50 h50 hg14 => RT.mul (.some rfl rfl) _ rfl rfl T (UK.mul (a := y9l5) (b := x37) h50) <| gm rfl <| lE hg14 fun x52 h52 hg14 => RT.shl (.some rfl rfl) _ rfl rfl T (by decide) (UK.shl (a := y10l5) (q := 32) (s := 32) rfl h52) <| RT.move (.some rfl rfl) (s := .rsl _ _ _) rfl T <| gm rfl <| lE hg14 fun x55 h55 hg14 => RT.sub (.some rfl rfl) _ rfl rfl T h55 <| bE hg14 fun x56 h56 hg14 => RT.ixRsM (.some rfl rfl) rfl rfl T h56 <| bE hg14 fun x57 h57 hg14 => RT.ldRM (.some rfl rfl) rfl rfl h57 rfl T ?_
 refine lE hg14 fun x58 h58 hg14 => RT.conv (.some rfl rfl) _ rfl T (UK.nat h58) <| lE hg14 fun x59 h59 hg14 => RT.or (.some rfl rfl) _ rfl rfl T (UK.or (a := x52) (b := x58) h59) <| lE hg14 fun x60 h60 hg14 => gg _ rfl rfl (ltN (p := x59) (q := x50) h60) ?_
 obtain rfl := O hg14
 exact pF rfl <| dn <| ⟨x60, h, wR []⟩
 obtain rfl := O (V hg14)
 exact ww <| ww <| ww <| ww <| ww <| ww <| ww <| ww <| ww <| ww <| ww <| ww <| ww <| pT rfl <| dn <| ⟨true, h, wR []⟩
 try dsimp only
 refine AThen.n ?_
 cases y61j12
 refine cF <| ok_exit <| AThen.x <| AThen.x <| AInB.x <| AThen.n ?_
 obtain rfl := O (F h)
 exact ⟨y9l5, hE10 _ rfl, wR []⟩
 refine cT <| ok_skip <| AThen.n <| ok_block <| sr <| mv rfl <| lE (V h) fun x63 h63 h => sb _ rfl rfl (UK.sub (a := y9l5) (b := 1) h63) <| ag rfl <| dn <| sr <| mv rfl <| mv rfl <| lE h fun x66 h66 h => ad _ rfl rfl (UK.add (a := y10l5) (b := x31) h66) <| ag rfl <| dn <| sr <| mv rfl <| lE h fun x68 h68 h => RT.shr .none _ rfl rfl T (by decide) (shrU (k := .u64) (a := x66) (q := 32) (s := 32) rfl h68) <| lE h fun x69 h69 h => ne _ rfl rfl (neN (p := x68) (q := 0) h69) ?_
 refine dn ?_
 cases x69
 refine cF <| ok_skip <| AInB.n ?_
 obtain rfl := O (F h)
 exact AThen.n ⟨(x63, x66), hG10 _ rfl, wR []⟩
 refine cT <| ok_exit <| AInB.y (by decide) <| AThen.x <| AInB.x <| AThen.n ?_
 obtain rfl := O (V h)
 exact ⟨x63, hE10 _ rfl, wR []⟩
 subst hx10
 try dsimp only
 refine AThen.n <| sr <| mv rfl <| ag rfl <| dn <| ok_ret <| bE ho10 fun _ hle ho10 => ?_
 obtain rfl := O ho10
 exact ⟨.inr rfl, .sv (res_imp (.tmp rfl (.nil)) (SV.imp_refl _)), (by show _ = RSt.live ⟨106, 1, x0.length, List.flatMap eU32 x0⟩; rw [← eqLen_some hle]; rfl)⟩
theorem whole_subtractMultiple_ok {x0 : List Nat} {o0 : Nat} {n0 : Nat} {x1 : List Nat} {x2 : Nat} {r : Bool × List Nat} (h : whole_subtractMultiple_m x0 o0 n0 x1 x2 = some r) : RowC Tryz.prog 168 [.rsl 1000 (o0 * 1) n0, .sv (slc 1 (List.map eU32 x1)), .sv (.v (.int .u64 ((x2 : Nat) : Int)))] (TR 106 1 eU32 x0) (.sv (.v (.bool r.1))) (List.flatMap eU32 r.2) := by
 refine rowC_of_ok Tryz.func168 rfl (Nat.le_of_ble_eq_true rfl) rfl rfl (fun wld M v0 => ?_)
 unfold whole_subtractMultiple_m at h
 refine sr <| ag rfl <| dn <| sr <| ag rfl <| dn <| sr <| RT.callF .none (whole_carrier_ok 0) rfl ⟨rfl, trivial⟩ T rfl rfl <| an (s := .clo _ _) rfl <| dn <| qq <| sr <| mo (s := .rsl _ _ _) rfl <| lE h fun x14 h14 h => RT.lenRsM .none rfl T h14 <| mv rfl <| dn <| bE h fun e12 hl12 ho12 => ?_
 refine ok_tailP (fun (xe12 : Nat × (List Nat)) => AS.mkL 51 [(7, .sv (.v (.int .u64 ((xe12.1 : Nat) : Int))))] [] [(1000, TR 106 1 eU32 xe12.2)]) (fun xe12 => xe12 = e12) ?_ (fun xe12 hx12 => ?_)
 refine ok_block ?_
 refine ok_loopM hl12 (fun s12 => AS.mkL 51 [(0, .rsl 1000 (o0 * 1) n0), (1, .sv (slc 1 (List.map eU32 x1))), (2, .sv (.v (.int .u64 ((x2 : Nat) : Int)))), (7, .sv (.v (.int .u64 ((s12.1 : Nat) : Int)))), (8, .clo 157 [.box 12]), (14, .sv (.v (.int .i64 x14))), (15, .sv (.v (.int .i64 s12.2.1)))] [(12, ⟨104, [.sv (.v (.int .u64 ((s12.2.2.1 : Nat) : Int)))]⟩)] [(1000, TR 106 1 eU32 s12.2.2.2)]) (wR []) (fun s12 y12 G12 h hG12 hE12 => ?_)
 obtain ⟨y7l6, y15l6, b12_0l6, r1000l6⟩ := s12
 try dsimp only
 refine sr <| lE h fun x16 h16 h => ls _ rfl rfl h16 <| dn <| qq ?_
 cases x16
 refine cF <| ok_exit <| AThen.x <| AThen.x <| AInB.x <| AThen.n ?_
 obtain rfl := O (F h)
 exact ⟨(y7l6, r1000l6), hE12 _ rfl, wR []⟩
 refine cT <| ok_skip <| AThen.n <| qq <| ok_block <| sr <| mv rfl <| ag rfl <| dn <| sr <| ag rfl <| dn <| qq <| sr <| mv rfl <| mv rfl <| lE (V h) fun x20 h20 h => ln rfl h20 <| lE h fun x21 h21 h => ls _ rfl rfl h21 <| dn ?_
 refine ok_tailJ h (fun j14 => AS.mkL 51 [(0, .rsl 1000 (o0 * 1) n0), (1, .sv (slc 1 (List.map eU32 x1))), (2, .sv (.v (.int .u64 ((x2 : Nat) : Int)))), (7, .sv (.v (.int .u64 ((y7l6 : Nat) : Int)))), (8, .clo 157 [.box 12]), (9, .sv (.v (.int .i64 y15l6))), (10, .sv (.v (.int .u64 ((j14 : Nat) : Int)))), (14, .sv (.v (.int .i64 x14))), (15, .sv (.v (.int .i64 y15l6)))] [(12, ⟨104, [.sv (.v (.int .u64 ((b12_0l6 : Nat) : Int)))]⟩)] [(1000, TR 106 1 eU32 r1000l6)]) (fun h => ?_) (fun y10j13 h => ?_)
 cases x21
 exact fs <| ⟨0, (F h), wR []⟩
 exact cT <| ok_region <| mv rfl <| mv rfl <| bE (V h) fun x24 h24 h => ix rfl rfl h24 <| lr rfl rfl <| lE h fun x26 h26 h => cv _ rfl (UK.nat h26) <| mv rfl <| lE h fun x28 h28 h => RT.mul .none _ rfl rfl T (UK.mul (a := x26) (b := x2) h28) <| ag rfl <| dn <| ⟨x28, h, wR []⟩
 try dsimp only
 refine AThen.n <| qq <| ok_region_draw mixed <| mo (s := .rsl _ _ _) rfl <| mv rfl <| bE h fun x31 h31 h => RT.ixRsM .none rfl rfl T h31 <| bE h fun x32 h32 h => lR rfl rfl h32 rfl <| lE h fun x33 h33 h => cv _ rfl (UK.nat h33) <| mo (s := .clo _ _) rfl <| mv rfl ?_
 obtain ⟨⟨x36, k16⟩, h36, h⟩ := bS h
 refine cB (whole_carrier_1_ok h36) 12 rfl ⟨rfl, trivial⟩ <| lE h fun x37 h37 h => cv _ rfl (UK.nat h37) <| lE h fun x38 h38 h => sb _ rfl rfl (UK.sub (a := x33) (b := x37) h38) <| mv rfl <| lE h fun x40 h40 h => sb _ rfl rfl (UK.sub (a := x38) (b := y7l6) h40) <| ag rfl ?_
 refine RT.done ⟨by kernel_rfl, ?_⟩
 refine AThen.n <| sr <| mo (s := .rsl _ _ _) rfl <| mv rfl <| mv rfl <| lE h fun x44 h44 h => cv _ rfl (UK.nat h44) <| bE h fun x45 h45 h => RT.ixRsM .none rfl rfl T h45 <| bE h fun l18 hl18_ h => sR x44 rfl rfl rfl rfl hl18_ <| dn <| ok_region <| mv rfl <| lE h fun x47 h47 h => RT.shr .none _ rfl rfl T (by decide) (shrU (k := .u64) (a := x40) (q := 63) (s := 63) rfl h47) <| ag rfl <| RT.done <| AInB.n <| AThen.n <| ok_region <| lE h fun x48 h48 h => ad _ rfl rfl h48 <| mv rfl <| RT.done ?_
 obtain rfl := O h
 exact AThen.n ⟨(x47, x48, k16, l18), hG12 _ rfl, wR []⟩
 subst hx12
 obtain ⟨y7e11, r1000e11⟩ := xe12
 try dsimp only
 refine AThen.n <| sr <| mv rfl <| lE ho12 fun x50 h50 ho12 => ne _ rfl rfl (neN (p := y7e11) (q := 0) h50) <| ag rfl <| dn <| ok_ret <| bE ho12 fun _ hle ho12 => ?_
 obtain rfl := O ho12
 exact ⟨.inr rfl, .sv (res_imp (.tmp rfl (.nil)) (SV.imp_refl _)), (by show _ = RSt.live ⟨106, 1, x0.length, List.flatMap eU32 r1000e11⟩; rw [← eqLen_some hle]; rfl)⟩
set_option maxHeartbeats 4000000 in
theorem whole_longDiv_ok {x0 : List Nat} {x1 : List Nat} {r : (List Nat) × (List Nat)} (h : whole_longDiv_m x0 x1 = some r) : Pure Tryz.prog 159 [slc 1 (List.map eU32 x0), slc 1 (List.map eU32 x1)] (.tup [slc 1 (List.map eU32 r.1), slc 1 (List.map eU32 r.2)]) := by
 refine pure_of_ok Tryz.func159 rfl (Nat.le_of_ble_eq_true rfl) (fun wld M vs hvs => ?_)
 unfold whole_longDiv_m at h
 refine sr <| ag rfl <| ag rfl <| dn <| ok_weak (weak_nil 4 306 106 1 rfl rfl T) <| ok_weak (weak_nil 5 308 106 1 rfl rfl T) <| sr <| mv rfl <| lE h fun x17 h17 h => ln rfl h17 <| ag rfl <| dn <| sr <| mv rfl <| mv rfl <| lE h fun x20 h20 h => sb _ rfl rfl h20 <| bE h fun x21 h21 h => ix rfl rfl h21 <| lr rfl rfl <| bE h fun x23 h23 h => cl (math_bits_LeadingZeros32_ok h23) ⟨rfl, trivial⟩ ?_
 refine lE h fun x24 h24 h => cv _ rfl (UK.conv h24) <| ag rfl <| dn <| qq <| ok_region_draw mixed <| mv rfl <| mv rfl <| bE h fun x27 h27 h => cN (whole_shiftLeftN_ok h27) ⟨rfl, rfl, trivial⟩ <| mv rfl <| mv rfl <| bE h fun x30 h30 h => cl (whole_shiftLeft_ok h30) ⟨rfl, rfl, trivial⟩ <| mv rfl <| bE h fun x32 h32 h => RT.sliceM .none 0 x17 rfl rfl ⟨_, rfl⟩ T h32 <| an (s := .row _) rfl <| ag rfl ?_
 refine RT.done ⟨by kernel_rfl, ?_⟩
 refine AThen.n <| sr <| mv rfl <| lE h fun x34 h34 h => ln rfl h34 <| mv rfl <| lE h fun x36 h36 h => sb _ rfl rfl h36 <| lE h fun x37 h37 h => ad _ rfl rfl h37 <| bE h fun x38 h38 h => RT.mkRow (n := 1) (e := eU32) .none rfl rfl T rfl T (by rfl) (by decide) (by exact ⟨SV.imp_refl _, trivial⟩) h38 <| an (s := .row _) rfl <| dn <| qq <| sr <| mv rfl <| lE h fun x40 h40 h => ln rfl h40 <| mv rfl <| lE h fun x42 h42 h => sb _ rfl rfl h42 ?_
 refine ag rfl <| dn <| bE h fun e36 hl36 ho36 => ?_
 refine ok_tailP (fun (xe36 : (List Nat) × (List Nat)) => AS.mkL 141 [(4, .row 38), (6, .sv (.v (.int .i64 x17))), (7, .sv (.v (.int .u64 ((x24 : Nat) : Int)))), (8, .row 27)] [] [(38, TR 106 1 eU32 xe36.1), (27, TR 106 1 eU32 xe36.2)]) (fun xe36 => xe36 = e36) ?_ (fun xe36 hx36 => ?_)
 refine ok_block ?_
 refine ok_loopM hl36 (fun s36 => AS.mkL 141 [(4, .row 38), (6, .sv (.v (.int .i64 x17))), (7, .sv (.v (.int .u64 ((x24 : Nat) : Int)))), (8, .row 27), (9, .sv (slc 1 (List.map eU32 x32))), (10, .sv (.v (.int .i64 s36.1)))] [] [(38, TR 106 1 eU32 s36.2.1), (27, TR 106 1 eU32 s36.2.2)]) (wR []) (fun s36 y36 G36 h hG36 hE36 => ?_)
 obtain ⟨y10l18, r38l18, r27l18⟩ := s36
 try dsimp only
 refine qq <| sr <| mv rfl <| lE h fun x44 h44 h => ge _ rfl rfl h44 <| dn ?_
 cases x44
 refine cF <| ok_exit <| AThen.x <| AThen.x <| AInB.x <| AThen.n ?_
 obtain rfl := O (F h)
 exact ⟨(r38l18, r27l18), hE36 _ rfl, wR []⟩
 refine cT <| ok_skip <| AThen.n <| qq <| ok_block <| sr <| mo (s := .row _) rfl <| mv rfl <| mv rfl <| mv rfl <| lE (V h) fun x51 h51 h => ad _ rfl rfl h51 <| lE h fun x52 h52 h => ad _ rfl rfl h52 ?_
 obtain ⟨⟨o53, n53⟩, h53, h⟩ := bS h
 refine RT.slRM .none y10l18 x52 rfl rfl ⟨_, rfl⟩ ⟨_, rfl⟩ T h53 <| mv rfl ?_
 obtain ⟨⟨x55, l38⟩, h55, h⟩ := bS h
 refine bE h fun _ he38 h => cR (l := r27l18) (l' := l38) (e := eU32) (whole_estimate_ok h55) (eqLen_some he38) 27 rfl (.cons rfl (.cons rfl (.nil))) <| ag rfl <| dn <| qq <| sr <| mo (s := .row _) rfl <| mv rfl <| mv rfl <| mv rfl <| lE h fun x60 h60 h => ad _ rfl rfl h60 <| lE h fun x61 h61 h => ad _ rfl rfl h61 ?_
 obtain ⟨⟨o62, n62⟩, h62, h⟩ := bS h
 refine RT.slRM .none y10l18 x61 rfl rfl ⟨_, rfl⟩ ⟨_, rfl⟩ T h62 <| mv rfl <| mv rfl ?_
 obtain ⟨⟨x65, l40⟩, h65, h⟩ := bS h
 refine bE h fun _ he40 h => cR (l := l38) (l' := l40) (e := eU32) (whole_subtractMultiple_ok h65) (eqLen_some he40) 27 rfl (.cons rfl (.cons rfl (.cons rfl (.nil)))) <| dn ?_
 refine ok_tailJ h (fun j53 => AS.mkL 141 [(4, .row 38), (6, .sv (.v (.int .i64 x17))), (7, .sv (.v (.int .u64 ((x24 : Nat) : Int)))), (8, .row 27), (9, .sv (slc 1 (List.map eU32 x32))), (10, .sv (.v (.int .i64 y10l18))), (11, .sv (.v (.int .u64 ((j53.1 : Nat) : Int))))] [] [(38, TR 106 1 eU32 r38l18), (27, TR 106 1 eU32 j53.2)]) (fun h => ?_) (fun j53 h => ?_)
 cases x65
 exact fs <| ⟨(x55, l40), (F h), wR []⟩
 refine cT <| sr <| mv rfl <| lE (V h) fun x67 h67 h => sb _ rfl rfl (UK.sub (a := x55) (b := 1) h67) <| ag rfl <| dn <| sr <| RT.callF .none (whole_carrier_ok 0) rfl ⟨rfl, trivial⟩ T rfl rfl <| an (s := .clo _ _) rfl <| dn <| qq <| sr <| mv rfl <| lE h fun x70 h70 h => ln rfl h70 <| mv rfl <| dn <| bE h fun e65 hl65 ho65 => ?_
 refine ok_tailP (fun (xe65 : Nat × (List Nat)) => AS.mkL 141 [(4, .row 38), (6, .sv (.v (.int .i64 x17))), (7, .sv (.v (.int .u64 ((x24 : Nat) : Int)))), (8, .row 27), (9, .sv (slc 1 (List.map eU32 x32))), (10, .sv (.v (.int .i64 y10l18))), (11, .sv (.v (.int .u64 ((x67 : Nat) : Int)))), (12, .clo 157 [.box 68])] [(68, ⟨104, [.sv (.v (.int .u64 ((xe65.1 : Nat) : Int)))]⟩)] [(38, TR 106 1 eU32 r38l18), (27, TR 106 1 eU32 xe65.2)]) (fun xe65 => xe65 = e65) ?_ (fun xe65 hx65 => ?_)
 refine ok_block ?_
 refine ok_loopM hl65 (fun s65 => AS.mkL 141 [(4, .row 38), (6, .sv (.v (.int .i64 x17))), (7, .sv (.v (.int .u64 ((x24 : Nat) : Int)))), (8, .row 27), (9, .sv (slc 1 (List.map eU32 x32))), (10, .sv (.v (.int .i64 y10l18))), (11, .sv (.v (.int .u64 ((x67 : Nat) : Int)))), (12, .clo 157 [.box 68]), (69, .sv (slc 1 (List.map eU32 x32))), (70, .sv (.v (.int .i64 x70))), (71, .sv (.v (.int .i64 s65.1)))] [(68, ⟨104, [.sv (.v (.int .u64 ((s65.2.1 : Nat) : Int)))]⟩)] [(38, TR 106 1 eU32 r38l18), (27, TR 106 1 eU32 s65.2.2)]) (wR []) (fun s65 y65 G65 h hG65 hE65 => ?_)
 obtain ⟨y71l60, b68_0l60, r27l60⟩ := s65
 try dsimp only
 refine sr <| lE h fun x72 h72 h => ls _ rfl rfl h72 <| dn <| qq ?_
 cases x72
 refine cF <| ok_exit <| AThen.x <| AThen.x <| AInB.x <| AThen.n ?_
 obtain rfl := O (F h)
 exact ⟨(b68_0l60, r27l60), hE65 _ rfl, wR []⟩
 refine cT <| ok_skip <| AThen.n <| qq <| ok_block <| sr <| mv rfl <| bE (V h) fun x74 h74 h => ix rfl rfl h74 <| lr rfl rfl <| ag rfl <| ag rfl <| dn <| ok_region <| mo (s := .row _) rfl <| mv rfl <| mv rfl <| lE h fun x79 h79 h => ad _ rfl rfl h79 <| mo (s := .clo _ _) rfl <| mo (s := .row _) rfl <| mv rfl <| mv rfl <| lE h fun x84 h84 h => ad _ rfl rfl h84 <| bE h fun x85 h85 h => iR rfl rfl rfl h85 ?_
 refine bE h fun x86 h86 h => lR rfl rfl h86 rfl <| lE h fun x87 h87 h => cv _ rfl (UK.nat h87) <| mv rfl <| lE h fun x89 h89 h => cv _ rfl (UK.nat h89) <| lE h fun x90 h90 h => ad _ rfl rfl (UK.add (a := x87) (b := x89) h90) ?_
 obtain ⟨⟨x91, k68⟩, h91, h⟩ := bS h
 refine cB (whole_carrier_1_ok h91) 68 rfl ⟨rfl, trivial⟩ <| bE h fun x92 h92 h => iR rfl rfl rfl h92 <| bE h fun l69 hl69_ h => sR x91 rfl rfl rfl rfl hl69_ <| RT.done <| AInB.n <| AThen.n <| ok_region <| lE h fun x93 h93 h => ad _ rfl rfl h93 <| mv rfl <| RT.done ?_
 obtain rfl := O h
 exact AThen.n ⟨(x93, k68, l69), hG65 _ rfl, wR []⟩
 subst hx65
 obtain ⟨b68_0e64, r27e64⟩ := xe65
 try dsimp only
 refine AThen.n <| ok_region <| mo (s := .row _) rfl <| mv rfl <| mv rfl <| lE ho65 fun x97 h97 ho65 => ad _ rfl rfl h97 <| mo (s := .clo _ _) rfl <| mo (s := .row _) rfl <| mv rfl <| mv rfl <| lE ho65 fun x102 h102 ho65 => ad _ rfl rfl h102 <| bE ho65 fun x103 h103 ho65 => iR rfl rfl rfl h103 <| bE ho65 fun x104 h104 ho65 => lR rfl rfl h104 rfl <| lE ho65 fun x105 h105 ho65 => cv _ rfl (UK.nat h105) ?_
 obtain ⟨⟨x106, k72⟩, h106, ho65⟩ := bS ho65
 exact cB (whole_carrier_1_ok h106) 68 rfl ⟨rfl, trivial⟩ <| bE ho65 fun x107 h107 ho65 => iR rfl rfl rfl h107 <| bE ho65 fun l73 hl73_ ho65 => sR x106 rfl rfl rfl rfl hl73_ <| dn <| ⟨(x67, l73), ho65, wR []⟩
 obtain ⟨y11j52, r27j52⟩ := j53
 try dsimp only
 refine AThen.n <| ok_region <| mo (s := .row _) rfl <| mv rfl <| mv rfl <| lE h fun x111 h111 h => cv _ rfl (UK.nat h111) <| bE h fun x112 h112 h => iR rfl rfl rfl h112 <| bE h fun l55 hl55_ h => sR x111 rfl rfl rfl rfl hl55_ <| RT.done <| AInB.n <| AThen.n <| ok_region <| mv rfl <| lE h fun x46 h46 h => sb _ rfl rfl h46 <| ag rfl <| RT.done ?_
 obtain rfl := O h
 exact AThen.n ⟨(x46, l55, r27j52), hG36 _ rfl, wR []⟩
 subst hx36
 obtain ⟨r38e35, r27e35⟩ := xe36
 try dsimp only
 refine AThen.n <| sr <| mv rfl <| bE ho36 fun x114 h114 ho36 => RT.mkRow (n := 1) (e := eU32) .none rfl rfl T rfl T (by rfl) (by decide) (by exact ⟨SV.imp_refl _, trivial⟩) h114 <| an (s := .row _) rfl <| dn <| qq <| sr <| mv rfl <| mv rfl <| dn <| bE ho36 fun e81 hl81 ho81 => ?_
 refine ok_tailP (fun (r114e80 : (List Nat)) => AS.mkL 141 [(4, .row 38), (5, .row 114)] [] [(38, TR 106 1 eU32 r38e35), (114, TR 106 1 eU32 r114e80)]) (fun r114e80 => r114e80 = e81) ?_ (fun r114e80 hx81 => ?_)
 refine ok_block ?_
 refine ok_loopM hl81 (fun s81 => AS.mkL 141 [(4, .row 38), (5, .row 114), (7, .sv (.v (.int .u64 ((x24 : Nat) : Int)))), (8, .row 27), (115, .sv (.v (.int .i64 x17))), (116, .sv (.v (.int .i64 s81.1)))] [] [(38, TR 106 1 eU32 r38e35), (114, TR 106 1 eU32 s81.2), (27, TR 106 1 eU32 r27e35)]) (wR []) (fun s81 y81 G81 h hG81 hE81 => ?_)
 obtain ⟨y116l77, r114l77⟩ := s81
 try dsimp only
 refine sr <| lE h fun x117 h117 h => ls _ rfl rfl h117 <| dn <| qq ?_
 cases x117
 refine cF <| ok_exit <| AThen.x <| AThen.x <| AInB.x <| AThen.n ?_
 obtain rfl := O (F h)
 exact ⟨r114l77, hE81 _ rfl, wR []⟩
 refine cT <| ok_skip <| AThen.n <| qq <| ok_block <| sr <| mv rfl <| ag rfl <| dn <| ok_region_draw mixed <| mo (s := .row _) rfl <| mv rfl <| mo (s := .row _) rfl <| mv rfl <| bE (V h) fun x123 h123 h => iR rfl rfl rfl h123 <| bE h fun x124 h124 h => lR rfl rfl h124 rfl <| lE h fun x125 h125 h => cv _ rfl (UK.nat h125) <| mo (s := .row _) rfl <| mv rfl <| lE h fun x128 h128 h => ad _ rfl rfl h128 <| bE h fun x129 h129 h => ?_
 refine iR rfl rfl rfl h129 <| bE h fun x130 h130 h => lR rfl rfl h130 rfl <| lE h fun x131 h131 h => cv _ rfl (UK.nat h131) <| lE h fun x132 h132 h => RT.shl .none _ rfl rfl T (by decide) (UK.shl (a := x131) (q := 32) (s := 32) rfl h132) <| lE h fun x133 h133 h => RT.or .none _ rfl rfl T (UK.or (a := x125) (b := x132) h133) <| mv rfl <| lE h fun x135 h135 h => RT.shr .none _ rfl rfl T (Int.natCast_nonneg _) (shrU (k := .u64) (a := x133) (q := ((x24 : Nat) : Int)) (s := min x24 64) rfl h135) <| lE h fun x136 h136 h => cv _ rfl (UK.nat h136) ?_
 refine bE h fun x137 h137 h => iR rfl rfl rfl h137 <| bE h fun l83 hl83_ h => sR x136 rfl rfl rfl rfl hl83_ ?_
 refine RT.done ⟨by kernel_rfl, ?_⟩
 refine AInB.n <| AThen.n <| ok_region <| lE h fun x138 h138 h => ad _ rfl rfl h138 <| mv rfl <| RT.done ?_
 obtain rfl := O h
 exact AThen.n ⟨(x138, l83), hG81 _ rfl, wR []⟩
 subst hx81
 try dsimp only
 refine AThen.n <| sr <| mo (s := .row _) rfl <| mo (s := .row _) rfl <| an (s := .row _) rfl <| an (s := .row _) rfl <| dn <| ok_weak (weak_frzM (i := 38) (E1 := 106) (n := 1) (e := eU32) (l := r38e35) rfl) <| ok_weak (weak_frzM (i := 114) (E1 := 106) (n := 1) (e := eU32) (l := r114e80) rfl) <| ok_ret ?_
 obtain rfl := O ho81
 exact R2 rfl rfl
theorem whole_divWords_ok {x0 : List Nat} {x1 : List Nat} {r : (List Nat) × (List Nat)} (h : whole_divWords_m x0 x1 = some r) : Pure Tryz.prog 146 [slc 1 (List.map eU32 x0), slc 1 (List.map eU32 x1)] (.tup [slc 1 (List.map eU32 r.1), slc 1 (List.map eU32 r.2)]) := by
 refine pure_of_ok Tryz.func146 rfl (Nat.le_of_ble_eq_true rfl) (fun wld M vs hvs => ?_)
 unfold whole_divWords_m at h
 refine sr <| ag rfl <| aI rfl (imp_nil (n := 1) (e := eU32)) <| dn <| ok_weak (weak_nil 4 304 106 1 rfl rfl T) <| qq <| ok_block <| sr <| mv rfl <| mv rfl <| bE h fun x12 h12 h => cl (whole_compareWords_ok h12) ⟨rfl, rfl, trivial⟩ <| lE h fun x13 h13 h => ls _ rfl rfl h13 <| ag rfl <| dn ?_
 cases x13
 refine cF <| sr <| mv rfl <| lE (F h) fun x18 h18 h => ln rfl h18 <| lE h fun x19 h19 h => RT.leq .none _ rfl rfl T h19 <| ag rfl <| dn ?_
 cases x19
 refine cF <| sr <| mv rfl <| lE (F h) fun x36 h36 h => ln rfl h36 <| lE h fun x37 h37 h => eq _ rfl rfl (eqI (p := x36) (q := 1) h37) <| ag rfl <| dn ?_
 cases x37
 refine cF <| ok_skip <| AInB.n <| AThen.n <| sr <| mv rfl <| mv rfl ?_
 obtain ⟨⟨x52a, x52b⟩, h52, h⟩ := bS (F h)
 refine cl (whole_longDiv_ok h52) ⟨rfl, rfl, trivial⟩ <| ex rfl rfl <| ex rfl rfl <| ag rfl <| ag rfl <| dn <| ok_ret ?_
 obtain rfl := O h
 exact R2 rfl rfl
 refine cT <| sr <| mv rfl <| bE (V h) fun x39 h39 h => cN (slices_CloneN_ok h39) ⟨rfl, trivial⟩ <| an (s := .row _) rfl <| dn <| sr <| mo (s := .row _) rfl <| mv rfl <| bE h fun x42 h42 h => ix rfl rfl h42 <| lr rfl rfl <| lE h fun x44 h44 h => cv _ rfl (UK.nat h44) ?_
 obtain ⟨⟨x45, l5⟩, h45, h⟩ := bS h
 refine bE h fun _ he5 h => cR (l := x39) (l' := l5) (e := eU32) (whole_shortDiv_ok h45) (eqLen_some he5) 39 rfl (.cons rfl (.cons rfl (.nil))) <| ag rfl <| dn <| sr <| mo (s := .row _) rfl <| mv rfl <| lE h fun x48 h48 h => cv _ rfl (UK.nat h48) <| bl (l := [x48]) (e := eU32) (.one rfl (.nil)) rfl rfl rfl rfl rfl rfl <| an (s := .row _) rfl <| ag rfl <| dn <| ok_weak (weak_frzM (i := 39) (E1 := 106) (n := 1) (e := eU32) (l := l5) rfl) <| ok_ret ?_
 refine AInB.r <| AThen.r ?_
 obtain rfl := O h
 exact R2 rfl rfl
 refine cT <| sr <| mv rfl <| bE (V h) fun x21 h21 h => cl (whole_low_ok h21) ⟨rfl, trivial⟩ <| mv rfl <| bE h fun x23 h23 h => cl (whole_low_ok h23) ⟨rfl, trivial⟩ <| ag rfl <| ag rfl <| dn <| qq <| ok_region_draw mixed <| mv rfl <| mv rfl <| bE h fun x26 h26 h => RT.quo .none _ rfl rfl T (nzU h26) (UK.quo h26) ?_
 obtain ⟨⟨x27_0, x27_1⟩, h27, h⟩ := bS h
 refine cl (whole_small_ok h27) ⟨rfl, rfl, trivial⟩ <| fl rfl rfl <| mv rfl <| mv rfl <| bE h fun x31 h31 h => RT.rem .none _ rfl rfl T (nzR h31) (remU h31) ?_
 obtain ⟨⟨x32_0, x32_1⟩, h32, h⟩ := bS h
 refine cl (whole_small_ok h32) ⟨rfl, rfl, trivial⟩ <| fl rfl rfl <| ag rfl <| ag rfl ?_
 refine RT.done ⟨by kernel_rfl, ?_⟩
 refine AThen.n <| ok_ret <| AInB.r <| AThen.r ?_
 obtain rfl := O h
 exact R2 rfl rfl
 refine cT <| sr <| mv rfl <| bE (V h) fun x15 h15 h => cl (slices_Clone_ok h15) ⟨rfl, trivial⟩ <| ag rfl <| ag rfl <| dn <| ok_weak (weak_nil 4 310 106 1 rfl rfl T) <| ok_weak (weak_frzM (i := 310) (E1 := 106) (n := 1) (e := eU32) (l := []) rfl) <| ok_ret <| AInB.r <| AThen.r ?_
 obtain rfl := O h
 exact R2 rfl rfl
end Go.Proofs.YtfoldppidpmchaaGreat
namespace Go.Proofs.YtfoldppidpmchaaGreat
open Go.Fw Go.Fw.Z Go.RowKit
theorem whole_FromInt64_ok {x0 : Int} {r : Zr} (h : whole_FromInt64_m x0 = some r) : Pure Tryz.prog 93 [.v (.int .i64 x0)] (.agg (eZ r)) := by
 refine pure_of_ok Tryz.func93 rfl (Nat.le_of_ble_eq_true rfl) (fun wld M vs hvs => ?_)
 unfold whole_FromInt64_m at h
 refine sr <| al (cs := [.v (.bool false), slc 1 (List.map eU32 [])]) (by exact ⟨SV.imp_refl _, imp_nil, trivial⟩) rfl <| dn <| sr <| mv rfl <| lE h fun x5 h5 h => cv _ rfl (UK.conv h5) <| ag rfl <| dn <| qq <| sr <| mv rfl <| lE h fun x7 h7 h => ls _ rfl rfl h7 <| dn ?_
 refine ok_tailJ h (fun j2 => AS.mkL 14 [(0, .sv (.v (.int .i64 x0))), (2, .ptr 2 0), (3, .sv (.v (.int .u64 ((j2 : Nat) : Int))))] [(2, ⟨34, [.sv (.v (.bool false)), .sv (slc 1 (List.map eU32 []))]⟩)] []) (fun h => ?_) (fun y3j1 h => ?_)
 cases x7
 exact fs <| ⟨x5, (F h), wR []⟩
 exact cT <| ok_region <| mv rfl <| lE (V h) fun x9 h9 h => RT.neg .none _ rfl T (UK.neg h9) <| ag rfl <| dn <| ⟨x9, h, wR []⟩
 try dsimp only
 refine AThen.n <| sr <| mv rfl <| lE h fun x11 h11 h => ls _ rfl rfl h11 <| mv rfl ?_
 obtain ⟨⟨x13_0, x13_1⟩, h13, h⟩ := bS h
 refine cl (whole_small_ok h13) ⟨rfl, rfl, trivial⟩ <| so rfl rfl rfl <| dn <| ok_ret ?_
 obtain rfl := O h
 exact RZ (.agg rfl rfl (.cons rfl (.cons rfl (.nil))) rfl (.nil))
theorem whole_Int64_ok {x0 : Zr} {r : Int × Bool} (h : whole_Int64_m x0 = some r) : Pure Tryz.prog 100 [.agg (eZ x0)] (.tup [.v (.int .i64 r.1), .v (.bool r.2)]) := by
 obtain ⟨x0_0, x0_1⟩ := x0
 refine pure_of_ok Tryz.func100 rfl (Nat.le_of_ble_eq_true rfl) (fun wld M vs hvs => ?_)
 unfold whole_Int64_m at h
 refine sr <| bx rfl <| ag rfl <| ag rfl <| dn <| sr <| fa rfl rfl <| lV rfl rfl rfl <| bE h fun x8 h8 h => cl (whole_trim_ok h8) ⟨rfl, trivial⟩ <| ag rfl <| dn <| qq <| sr <| mv rfl <| lE h fun x10 h10 h => ln rfl h10 <| lE h fun x11 h11 h => gt _ rfl rfl h11 <| dn ?_
 cases x11
 refine fs <| sr <| mv rfl <| bE (F h) fun x13 h13 h => cl (whole_low_ok h13) ⟨rfl, trivial⟩ <| ag rfl <| dn <| qq <| sr <| fa rfl rfl <| lV rfl rfl rfl <| dn ?_
 cases x0_0
 refine fs <| qq <| sr <| mv rfl <| lE (F h) fun x22 h22 h => ge _ rfl rfl (leN (p := 9223372036854775808) (q := x13) h22) <| dn ?_
 cases x22
 refine fs <| sr <| mv rfl <| lE (F h) fun x24 h24 h => cv _ rfl h24 <| ag rfl <| ag rfl <| dn <| ok_ret ?_
 obtain rfl := O h
 exact R2 rfl rfl
 refine cT <| sr <| ag rfl <| ag rfl <| dn <| ok_ret <| AThen.r ?_
 obtain rfl := O (V h)
 exact R2 rfl rfl
 refine cT <| qq <| sr <| mv rfl <| lE (V h) fun x17 h17 h => gt _ rfl rfl (ltN (p := 9223372036854775808) (q := x13) h17) <| dn ?_
 cases x17
 refine fs <| sr <| mv rfl <| lE (F h) fun x19 h19 h => RT.neg .none _ rfl T (UK.neg h19) <| lE h fun x20 h20 h => cv _ rfl h20 <| ag rfl <| ag rfl <| dn <| ok_ret <| AThen.r ?_
 obtain rfl := O h
 exact R2 rfl rfl
 refine cT <| sr <| ag rfl <| ag rfl <| dn <| ok_ret <| AThen.r <| AThen.r ?_
 obtain rfl := O (V h)
 exact R2 rfl rfl
 refine cT <| sr <| ag rfl <| ag rfl <| dn <| ok_ret <| AThen.r ?_
 obtain rfl := O (V h)
 exact R2 rfl rfl
theorem whole_signedSum_ok {x0 : Bool} {x1 : List Nat} {x2 : Bool} {x3 : List Nat} {r : Zr} (h : whole_signedSum_m x0 x1 x2 x3 = some r) : Pure Tryz.prog 149 [.v (.bool x0), slc 1 (List.map eU32 x1), .v (.bool x2), slc 1 (List.map eU32 x3)] (.agg (eZ r)) := by
 refine pure_of_ok Tryz.func149 rfl (Nat.le_of_ble_eq_true rfl) (fun wld M vs hvs => ?_)
 unfold whole_signedSum_m at h
 refine sr <| al (cs := [.v (.bool false), slc 1 (List.map eU32 [])]) (by exact ⟨SV.imp_refl _, imp_nil, trivial⟩) rfl <| dn <| qq <| sr <| mv rfl <| mv rfl <| lE h fun x11 h11 h => RT.beql .none _ rfl rfl T h11 <| dn ?_
 cases x11
 refine fs <| qq <| sr <| mv rfl <| mv rfl <| bE (F h) fun x19 h19 h => cl (whole_compareWords_ok h19) ⟨rfl, rfl, trivial⟩ <| lE h fun x20 h20 h => ls _ rfl rfl h20 <| dn ?_
 cases x20
 refine fs <| sr <| mv rfl <| mv rfl <| mv rfl <| bE (F h) fun x29 h29 h => cl (whole_subWords_ok h29) ⟨rfl, rfl, trivial⟩ ?_
 obtain ⟨⟨x30_0, x30_1⟩, h30, h⟩ := bS h
 refine cl (whole_build_ok h30) ⟨rfl, rfl, trivial⟩ <| so rfl rfl rfl <| dn <| ok_ret ?_
 obtain rfl := O h
 exact RZ (.agg rfl rfl (.cons rfl (.cons rfl (.nil))) rfl (.nil))
 refine cT <| sr <| mv rfl <| mv rfl <| mv rfl <| bE (V h) fun x24 h24 h => cl (whole_subWords_ok h24) ⟨rfl, rfl, trivial⟩ ?_
 obtain ⟨⟨x25_0, x25_1⟩, h25, h⟩ := bS h
 refine cl (whole_build_ok h25) ⟨rfl, rfl, trivial⟩ <| so rfl rfl rfl <| dn <| ok_ret <| AThen.r ?_
 obtain rfl := O h
 exact RZ (.agg rfl rfl (.cons rfl (.cons rfl (.nil))) rfl (.nil))
 refine cT <| sr <| mv rfl <| mv rfl <| mv rfl <| bE (V h) fun x15 h15 h => cl (whole_addWords_ok h15) ⟨rfl, rfl, trivial⟩ ?_
 obtain ⟨⟨x16_0, x16_1⟩, h16, h⟩ := bS h
 refine cl (whole_build_ok h16) ⟨rfl, rfl, trivial⟩ <| so rfl rfl rfl <| dn <| ok_ret <| AThen.r ?_
 obtain rfl := O h
 exact RZ (.agg rfl rfl (.cons rfl (.cons rfl (.nil))) rfl (.nil))
theorem whole_Add_ok {x0 : Zr} {x1 : Zr} {r : Zr} (h : whole_Add_m x0 x1 = some r) : Pure Tryz.prog 127 [.agg (eZ x0), .agg (eZ x1)] (.agg (eZ r)) := by
 obtain ⟨x0_0, x0_1⟩ := x0
 obtain ⟨x1_0, x1_1⟩ := x1
 refine pure_of_ok Tryz.func127 rfl (Nat.le_of_ble_eq_true rfl) (fun wld M vs hvs => ?_)
 unfold whole_Add_m at h
 refine sr <| bx rfl <| bx rfl <| al (cs := [.v (.bool false), slc 1 (List.map eU32 [])]) (by exact ⟨SV.imp_refl _, imp_nil, trivial⟩) rfl <| dn <| sr <| ld rfl rfl (.cons rfl (.cons rfl (.nil))) ?_
 obtain ⟨⟨x12a, x12b⟩, h12, h⟩ := bS h
 refine cl (whole_Int64_ok h12) ⟨rfl, trivial⟩ <| mv rfl <| ex rfl rfl <| ex rfl rfl <| ag rfl <| ag rfl <| dn <| sr <| ld rfl rfl (.cons rfl (.cons rfl (.nil))) ?_
 obtain ⟨⟨x17a, x17b⟩, h17, h⟩ := bS h
 refine cl (whole_Int64_ok h17) ⟨rfl, trivial⟩ <| mv rfl <| ex rfl rfl <| ex rfl rfl <| ag rfl <| ag rfl <| dn <| qq <| qq ?_
 refine ok_tailJ h (fun j3 => AS.mkL 48 [(2, .ptr 2 0), (3, .ptr 3 0), (4, .ptr 4 0), (5, .sv (.v (.int .i64 x12a))), (7, .sv (.v (.int .i64 x17a))), (23, .sv (.v (.bool j3)))] [(4, ⟨34, [.sv (.v (.bool false)), .sv (slc 1 (List.map eU32 []))]⟩), (3, ⟨34, [.sv (.v (.bool x1_0)), .sv (slc 1 (List.map eU32 x1_1))]⟩), (2, ⟨34, [.sv (.v (.bool x0_0)), .sv (slc 1 (List.map eU32 x0_1))]⟩)] []) (fun h => ?_) (fun y23j2 h => ?_)
 refine ok_region <| mv rfl <| mv rfl <| bE h fun c23_6 hg6 h => ?_
 cases x12b
 obtain rfl := O (F hg6)
 exact ww <| pF rfl <| dn <| ⟨false, h, wR []⟩
 refine gm rfl ?_
 obtain rfl := O (V hg6)
 exact pT rfl <| dn <| ⟨x17b, h, wR []⟩
 try dsimp only
 refine AThen.n ?_
 refine ok_tailJ h (fun j5 => AS.mkL 48 [(2, .ptr 2 0), (3, .ptr 3 0), (4, .ptr 4 0)] [(4, ⟨34, [.sv (.v (.bool false)), .sv (slc 1 (List.map eU32 []))]⟩), (3, ⟨34, [.sv (.v (.bool x1_0)), .sv (slc 1 (List.map eU32 x1_1))]⟩), (2, ⟨34, [.sv (.v (.bool x0_0)), .sv (slc 1 (List.map eU32 x0_1))]⟩)] []) (fun h => ?_) (fun j5 h => ?_)
 cases y23j2
 exact fs <| ⟨(), (F h), wR []⟩
 refine cT <| sr <| mv rfl <| mv rfl <| lE (V h) fun x26 h26 h => ad _ rfl rfl h26 <| ag rfl <| dn <| sr <| mv rfl <| mv rfl <| lE h fun x29 h29 h => RT.xor .none _ rfl rfl T h29 <| mv rfl <| mv rfl <| lE h fun x32 h32 h => RT.xor .none _ rfl rfl T h32 <| lE h fun x33 h33 h => RT.and .none _ rfl rfl T h33 <| lE h fun x34 h34 h => ge _ rfl rfl h34 <| dn ?_
 cases x34
 exact fs <| ⟨(), (F h), wR []⟩
 refine cT <| sr <| mv rfl ?_
 obtain ⟨⟨x36_0, x36_1⟩, h36, h⟩ := bS (V h)
 refine cl (whole_FromInt64_ok h36) ⟨rfl, trivial⟩ <| so rfl rfl rfl <| dn <| ok_ret <| AThen.r <| AThen.r ?_
 obtain rfl := O h
 exact RZ (.agg rfl rfl (.cons rfl (.cons rfl (.nil))) rfl (.nil))
 try dsimp only
 refine AThen.n <| qq <| ok_region_draw mixed <| fa rfl rfl <| lV rfl rfl rfl <| fa rfl rfl <| lV rfl rfl rfl <| bE h fun x41 h41 h => cl (whole_trim_ok h41) ⟨rfl, trivial⟩ <| fa rfl rfl <| lV rfl rfl rfl <| fa rfl rfl <| lV rfl rfl rfl <| bE h fun x46 h46 h => cl (whole_trim_ok h46) ⟨rfl, trivial⟩ ?_
 obtain ⟨⟨x47_0, x47_1⟩, h47, h⟩ := bS h
 refine cl (whole_signedSum_ok h47) ⟨rfl, rfl, rfl, rfl, trivial⟩ <| so rfl rfl rfl ?_
 refine RT.done ⟨by kernel_rfl, ?_⟩
 refine AThen.n <| ok_ret ?_
 obtain rfl := O h
 exact RZ (.agg rfl rfl (.cons rfl (.cons rfl (.nil))) rfl (.nil))
theorem whole_Sub_ok {x0 : Zr} {x1 : Zr} {r : Zr} (h : whole_Sub_m x0 x1 = some r) : Pure Tryz.prog 129 [.agg (eZ x0), .agg (eZ x1)] (.agg (eZ r)) := by
 obtain ⟨x0_0, x0_1⟩ := x0
 obtain ⟨x1_0, x1_1⟩ := x1
 refine pure_of_ok Tryz.func129 rfl (Nat.le_of_ble_eq_true rfl) (fun wld M vs hvs => ?_)
 unfold whole_Sub_m at h
 refine sr <| bx rfl <| bx rfl <| al (cs := [.v (.bool false), slc 1 (List.map eU32 [])]) (by exact ⟨SV.imp_refl _, imp_nil, trivial⟩) rfl <| dn <| sr <| ld rfl rfl (.cons rfl (.cons rfl (.nil))) ?_
 obtain ⟨⟨x12a, x12b⟩, h12, h⟩ := bS h
 refine cl (whole_Int64_ok h12) ⟨rfl, trivial⟩ <| mv rfl <| ex rfl rfl <| ex rfl rfl <| ag rfl <| ag rfl <| dn <| sr <| ld rfl rfl (.cons rfl (.cons rfl (.nil))) ?_
 obtain ⟨⟨x17a, x17b⟩, h17, h⟩ := bS h
 refine cl (whole_Int64_ok h17) ⟨rfl, trivial⟩ <| mv rfl <| ex rfl rfl <| ex rfl rfl <| ag rfl <| ag rfl <| dn <| qq <| qq ?_
 refine ok_tailJ h (fun j3 => AS.mkL 49 [(2, .ptr 2 0), (3, .ptr 3 0), (4, .ptr 4 0), (5, .sv (.v (.int .i64 x12a))), (7, .sv (.v (.int .i64 x17a))), (23, .sv (.v (.bool j3)))] [(4, ⟨34, [.sv (.v (.bool false)), .sv (slc 1 (List.map eU32 []))]⟩), (3, ⟨34, [.sv (.v (.bool x1_0)), .sv (slc 1 (List.map eU32 x1_1))]⟩), (2, ⟨34, [.sv (.v (.bool x0_0)), .sv (slc 1 (List.map eU32 x0_1))]⟩)] []) (fun h => ?_) (fun y23j2 h => ?_)
 refine ok_region <| mv rfl <| mv rfl <| bE h fun c23_6 hg6 h => ?_
 cases x12b
 obtain rfl := O (F hg6)
 exact ww <| pF rfl <| dn <| ⟨false, h, wR []⟩
 refine gm rfl ?_
 obtain rfl := O (V hg6)
 exact pT rfl <| dn <| ⟨x17b, h, wR []⟩
 try dsimp only
 refine AThen.n ?_
 refine ok_tailJ h (fun j5 => AS.mkL 49 [(2, .ptr 2 0), (3, .ptr 3 0), (4, .ptr 4 0)] [(4, ⟨34, [.sv (.v (.bool false)), .sv (slc 1 (List.map eU32 []))]⟩), (3, ⟨34, [.sv (.v (.bool x1_0)), .sv (slc 1 (List.map eU32 x1_1))]⟩), (2, ⟨34, [.sv (.v (.bool x0_0)), .sv (slc 1 (List.map eU32 x0_1))]⟩)] []) (fun h => ?_) (fun j5 h => ?_)
 cases y23j2
 exact fs <| ⟨(), (F h), wR []⟩
 refine cT <| sr <| mv rfl <| mv rfl <| lE (V h) fun x26 h26 h => sb _ rfl rfl h26 <| ag rfl <| dn <| sr <| mv rfl <| mv rfl <| lE h fun x29 h29 h => RT.xor .none _ rfl rfl T h29 <| mv rfl <| mv rfl <| lE h fun x32 h32 h => RT.xor .none _ rfl rfl T h32 <| lE h fun x33 h33 h => RT.and .none _ rfl rfl T h33 <| lE h fun x34 h34 h => ge _ rfl rfl h34 <| dn ?_
 cases x34
 exact fs <| ⟨(), (F h), wR []⟩
 refine cT <| sr <| mv rfl ?_
 obtain ⟨⟨x36_0, x36_1⟩, h36, h⟩ := bS (V h)
 refine cl (whole_FromInt64_ok h36) ⟨rfl, trivial⟩ <| so rfl rfl rfl <| dn <| ok_ret <| AThen.r <| AThen.r ?_
 obtain rfl := O h
 exact RZ (.agg rfl rfl (.cons rfl (.cons rfl (.nil))) rfl (.nil))
 try dsimp only
 refine AThen.n <| qq <| ok_region_draw mixed <| fa rfl rfl <| lV rfl rfl rfl <| fa rfl rfl <| lV rfl rfl rfl <| bE h fun x41 h41 h => cl (whole_trim_ok h41) ⟨rfl, trivial⟩ <| fa rfl rfl <| lV rfl rfl rfl <| lE h fun x44 h44 h => nt rfl _ h44 <| fa rfl rfl <| lV rfl rfl rfl <| bE h fun x47 h47 h => cl (whole_trim_ok h47) ⟨rfl, trivial⟩ ?_
 obtain ⟨⟨x48_0, x48_1⟩, h48, h⟩ := bS h
 refine cl (whole_signedSum_ok h48) ⟨rfl, rfl, rfl, rfl, trivial⟩ <| so rfl rfl rfl ?_
 refine RT.done ⟨by kernel_rfl, ?_⟩
 refine AThen.n <| ok_ret ?_
 obtain rfl := O h
 exact RZ (.agg rfl rfl (.cons rfl (.cons rfl (.nil))) rfl (.nil))
theorem whole_Mul_ok {x0 : Zr} {x1 : Zr} {r : Zr} (h : whole_Mul_m x0 x1 = some r) : Pure Tryz.prog 84 [.agg (eZ x0), .agg (eZ x1)] (.agg (eZ r)) := by
 obtain ⟨x0_0, x0_1⟩ := x0
 obtain ⟨x1_0, x1_1⟩ := x1
 refine pure_of_ok Tryz.func84 rfl (Nat.le_of_ble_eq_true rfl) (fun wld M vs hvs => ?_)
 unfold whole_Mul_m at h
 refine sr <| bx rfl <| bx rfl <| al (cs := [.v (.bool false), slc 1 (List.map eU32 [])]) (by exact ⟨SV.imp_refl _, imp_nil, trivial⟩) rfl <| dn <| qq <| ok_region_draw mixed <| fa rfl rfl <| lV rfl rfl rfl <| bE h fun x9 h9 h => cl (whole_trim_ok h9) ⟨rfl, trivial⟩ <| fa rfl rfl <| lV rfl rfl rfl <| bE h fun x12 h12 h => cl (whole_trim_ok h12) ⟨rfl, trivial⟩ <| ag rfl <| ag rfl ?_
 refine RT.done ⟨by kernel_rfl, ?_⟩
 refine AThen.n <| qq <| qq ?_
 refine ok_tailJ h (fun j3 => AS.mkL 41 [(2, .ptr 2 0), (3, .ptr 3 0), (4, .ptr 4 0), (5, .sv (slc 1 (List.map eU32 x9))), (6, .sv (slc 1 (List.map eU32 x12))), (20, .sv (.v (.bool j3)))] [(4, ⟨34, [.sv (.v (.bool false)), .sv (slc 1 (List.map eU32 []))]⟩), (3, ⟨34, [.sv (.v (.bool x1_0)), .sv (slc 1 (List.map eU32 x1_1))]⟩), (2, ⟨34, [.sv (.v (.bool x0_0)), .sv (slc 1 (List.map eU32 x0_1))]⟩)] []) (fun h => ?_) (fun y20j2 h => ?_)
 refine ok_region <| mv rfl <| lE h fun x14 h14 h => ln rfl h14 <| lE h fun x15 h15 h => RT.leq .none _ rfl rfl T h15 <| mv rfl <| bE h fun c20_4 hg4 h => ?_
 cases x15
 obtain rfl := O (F hg4)
 exact ww <| ww <| ww <| pF rfl <| dn <| ⟨false, h, wR []⟩
 refine gm rfl <| lE (V hg4) fun x18 h18 hg4 => gn rfl h18 <| lE hg4 fun x19 h19 hg4 => RT.leq (.some rfl rfl) _ rfl rfl T h19 ?_
 obtain rfl := O hg4
 exact pT rfl <| dn <| ⟨x19, h, wR []⟩
 try dsimp only
 refine AThen.n ?_
 cases y20j2
 refine fs <| qq <| ok_region_draw mixed <| fa rfl rfl <| lV rfl rfl rfl <| fa rfl rfl <| lV rfl rfl rfl <| lE (F h) fun x36 h36 h => RT.bneq .none _ rfl rfl T h36 <| mv rfl <| mv rfl <| bE h fun x39 h39 h => cl (whole_mulWords_ok h39) ⟨rfl, rfl, trivial⟩ ?_
 obtain ⟨⟨x40_0, x40_1⟩, h40, h⟩ := bS h
 refine cl (whole_build_ok h40) ⟨rfl, rfl, trivial⟩ <| so rfl rfl rfl ?_
 refine RT.done ⟨by kernel_rfl, ?_⟩
 refine AThen.n <| ok_ret ?_
 obtain rfl := O h
 exact RZ (.agg rfl rfl (.cons rfl (.cons rfl (.nil))) rfl (.nil))
 refine cT <| qq <| ok_region_draw mixed <| fa rfl rfl <| lV rfl rfl rfl <| fa rfl rfl <| lV rfl rfl rfl <| lE (V h) fun x25 h25 h => RT.bneq .none _ rfl rfl T h25 <| mv rfl <| bE h fun x27 h27 h => cl (whole_low_ok h27) ⟨rfl, trivial⟩ <| mv rfl <| bE h fun x29 h29 h => cl (whole_low_ok h29) ⟨rfl, trivial⟩ <| lE h fun x30 h30 h => RT.mul .none _ rfl rfl T (UK.mul (a := x27) (b := x29) h30) ?_
 obtain ⟨⟨x31_0, x31_1⟩, h31, h⟩ := bS h
 refine cl (whole_small_ok h31) ⟨rfl, rfl, trivial⟩ <| so rfl rfl rfl ?_
 refine RT.done ⟨by kernel_rfl, ?_⟩
 refine AThen.n <| ok_ret <| AThen.r ?_
 obtain rfl := O h
 exact RZ (.agg rfl rfl (.cons rfl (.cons rfl (.nil))) rfl (.nil))
theorem whole_Neg_ok {x0 : Zr} {r : Zr} (h : whole_Neg_m x0 = some r) : Pure Tryz.prog 95 [.agg (eZ x0)] (.agg (eZ r)) := by
 obtain ⟨x0_0, x0_1⟩ := x0
 refine pure_of_ok Tryz.func95 rfl (Nat.le_of_ble_eq_true rfl) (fun wld M vs hvs => ?_)
 unfold whole_Neg_m at h
 refine sr <| bx rfl <| al (cs := [.v (.bool false), slc 1 (List.map eU32 [])]) (by exact ⟨SV.imp_refl _, imp_nil, trivial⟩) rfl <| dn <| qq <| ok_region_draw mixed <| fa rfl rfl <| lV rfl rfl rfl <| lE h fun x5 h5 h => nt rfl _ h5 <| fa rfl rfl <| lV rfl rfl rfl <| bE h fun x8 h8 h => cl (whole_trim_ok h8) ⟨rfl, trivial⟩ <| bE h fun x9 h9 h => cl (slices_Clone_ok h9) ⟨rfl, trivial⟩ ?_
 obtain ⟨⟨x10_0, x10_1⟩, h10, h⟩ := bS h
 refine cl (whole_build_ok h10) ⟨rfl, rfl, trivial⟩ <| so rfl rfl rfl ?_
 refine RT.done ⟨by kernel_rfl, ?_⟩
 refine AThen.n <| ok_ret ?_
 obtain rfl := O h
 exact RZ (.agg rfl rfl (.cons rfl (.cons rfl (.nil))) rfl (.nil))
theorem whole_Sign_ok {x0 : Zr} {r : Int} (h : whole_Sign_m x0 = some r) : Pure Tryz.prog 64 [.agg (eZ x0)] (.v (.int .i64 r)) := by
 obtain ⟨x0_0, x0_1⟩ := x0
 refine pure_of_ok Tryz.func64 rfl (Nat.le_of_ble_eq_true rfl) (fun wld M vs hvs => ?_)
 unfold whole_Sign_m at h
 refine sr <| bx rfl <| ag rfl <| dn <| qq <| ok_block <| sr <| fa rfl rfl <| lV rfl rfl rfl <| bE h fun x6 h6 h => cl (whole_trim_ok h6) ⟨rfl, trivial⟩ <| lE h fun x7 h7 h => ln rfl h7 <| lE h fun x8 h8 h => eq _ rfl rfl (eqI (p := x7) (q := 0) h8) <| ag rfl <| dn ?_
 cases x8
 refine cF <| sr <| fa rfl rfl <| lV rfl rfl rfl <| ag rfl <| dn ?_
 replace h := F h
 cases x0_0
 refine cF <| ok_skip <| AInB.n <| AThen.n <| sr <| ag rfl <| dn <| ok_ret ?_
 obtain rfl := O (F h)
 exact R1 rfl
 refine cT <| sr <| ag rfl <| dn <| ok_ret <| AInB.r <| AThen.r ?_
 obtain rfl := O (V h)
 exact R1 rfl
 refine cT <| sr <| ag rfl <| dn <| ok_ret <| AInB.r <| AThen.r ?_
 obtain rfl := O (V h)
 exact R1 rfl
theorem whole_Cmp_ok {x0 : Zr} {x1 : Zr} {r : Int} (h : whole_Cmp_m x0 x1 = some r) : Pure Tryz.prog 83 [.agg (eZ x0), .agg (eZ x1)] (.v (.int .i64 r)) := by
 obtain ⟨x0_0, x0_1⟩ := x0
 obtain ⟨x1_0, x1_1⟩ := x1
 refine pure_of_ok Tryz.func83 rfl (Nat.le_of_ble_eq_true rfl) (fun wld M vs hvs => ?_)
 unfold whole_Cmp_m at h
 refine sr <| bx rfl <| bx rfl <| ag rfl <| dn <| qq <| ok_region_draw mixed <| ld rfl rfl (.cons rfl (.cons rfl (.nil))) <| bE h fun x8 h8 h => cl (whole_Sign_ok h8) ⟨rfl, trivial⟩ <| ld rfl rfl (.cons rfl (.cons rfl (.nil))) <| bE h fun x10 h10 h => cl (whole_Sign_ok h10) ⟨rfl, trivial⟩ <| ag rfl <| ag rfl ?_
 refine RT.done ⟨by kernel_rfl, ?_⟩
 refine AThen.n <| qq <| ok_block <| sr <| mv rfl <| mv rfl <| lE h fun x14 h14 h => ls _ rfl rfl h14 <| ag rfl <| dn ?_
 cases x14
 refine cF <| sr <| mv rfl <| mv rfl <| lE (F h) fun x18 h18 h => gt _ rfl rfl h18 <| ag rfl <| dn ?_
 cases x18
 refine cF <| sr <| mv rfl <| lE (F h) fun x21 h21 h => ls _ rfl rfl h21 <| ag rfl <| dn ?_
 cases x21
 refine cF <| ok_skip <| AInB.n <| AThen.n <| qq <| ok_region_draw mixed <| fa rfl rfl <| lV rfl rfl rfl <| bE (F h) fun x31 h31 h => cl (whole_trim_ok h31) ⟨rfl, trivial⟩ <| fa rfl rfl <| lV rfl rfl rfl <| bE h fun x34 h34 h => cl (whole_trim_ok h34) ⟨rfl, trivial⟩ <| bE h fun x35 h35 h => cl (whole_compareWords_ok h35) ⟨rfl, rfl, trivial⟩ <| ag rfl ?_
 refine RT.done ⟨by kernel_rfl, ?_⟩
 refine AThen.n <| ok_ret ?_
 obtain rfl := O h
 exact R1 rfl
 refine cT <| qq <| ok_region_draw mixed <| fa rfl rfl <| lV rfl rfl rfl <| bE (V h) fun x24 h24 h => cl (whole_trim_ok h24) ⟨rfl, trivial⟩ <| fa rfl rfl <| lV rfl rfl rfl <| bE h fun x27 h27 h => cl (whole_trim_ok h27) ⟨rfl, trivial⟩ <| bE h fun x28 h28 h => cl (whole_compareWords_ok h28) ⟨rfl, rfl, trivial⟩ <| ag rfl ?_
 refine RT.done ⟨by kernel_rfl, ?_⟩
 refine AThen.n <| ok_ret <| AInB.r <| AThen.r ?_
 obtain rfl := O h
 exact R1 rfl
 refine cT <| sr <| ag rfl <| dn <| ok_ret <| AInB.r <| AThen.r ?_
 obtain rfl := O (V h)
 exact R1 rfl
 refine cT <| sr <| ag rfl <| dn <| ok_ret <| AInB.r <| AThen.r ?_
 obtain rfl := O (V h)
 exact R1 rfl
theorem whole_DivMod_ok {x0 : Zr} {x1 : Zr} {r : Zr × Zr × Int} (h : whole_DivMod_m x0 x1 = some r) : Pure Tryz.prog 125 [.agg (eZ x0), .agg (eZ x1)] (.tup [.agg (eZ r.1), .agg (eZ r.2.1), .v (.int .i64 r.2.2)]) := by
 obtain ⟨x0_0, x0_1⟩ := x0
 obtain ⟨x1_0, x1_1⟩ := x1
 refine pure_of_ok Tryz.func125 rfl (Nat.le_of_ble_eq_true rfl) (fun wld M vs hvs => ?_)
 unfold whole_DivMod_m at h
 refine sr <| bx rfl <| bx rfl <| al (cs := [.v (.bool false), slc 1 (List.map eU32 [])]) (by exact ⟨SV.imp_refl _, imp_nil, trivial⟩) rfl <| al (cs := [.v (.bool false), slc 1 (List.map eU32 [])]) (by exact ⟨SV.imp_refl _, imp_nil, trivial⟩) rfl <| ag rfl <| dn <| qq <| ok_region_draw mixed <| fa rfl rfl <| lV rfl rfl rfl <| bE h fun x13 h13 h => cl (whole_trim_ok h13) ⟨rfl, trivial⟩ <| fa rfl rfl <| lV rfl rfl rfl ?_
 refine bE h fun x16 h16 h => cl (whole_trim_ok h16) ⟨rfl, trivial⟩ <| ag rfl <| ag rfl ?_
 refine RT.done ⟨by kernel_rfl, ?_⟩
 refine AThen.n <| qq <| sr <| mv rfl <| lE h fun x18 h18 h => ln rfl h18 <| lE h fun x19 h19 h => eq _ rfl rfl (eqI (p := x18) (q := 0) h19) <| dn ?_
 cases x19
 refine fs <| sr <| mv rfl <| mv rfl ?_
 obtain ⟨⟨x25a, x25b⟩, h25, h⟩ := bS (F h)
 refine cl (whole_divWords_ok h25) ⟨rfl, rfl, trivial⟩ <| mv rfl <| ex rfl rfl <| ex rfl rfl <| ag rfl <| ag rfl <| dn <| sr <| mv rfl <| bE h fun x29 h29 h => cl (whole_trim_ok h29) ⟨rfl, trivial⟩ <| ag rfl <| dn <| qq <| qq ?_
 refine ok_tailJ h (fun j3 => AS.mkL 52 [(2, .ptr 2 0), (3, .ptr 3 0), (4, .ptr 4 0), (5, .ptr 5 0), (8, .sv (slc 1 (List.map eU32 x16))), (9, .sv (slc 1 (List.map eU32 x25a))), (10, .sv (slc 1 (List.map eU32 x29))), (36, .sv (.v (.bool j3.1)))] [(5, ⟨34, [.sv (.v (.bool false)), .sv (slc 1 (List.map eU32 []))]⟩), (4, ⟨34, [.sv (.v (.bool false)), .sv (slc 1 (List.map eU32 []))]⟩), (3, ⟨34, [.sv (.v (.bool x1_0)), .sv (slc 1 (List.map eU32 x1_1))]⟩), (2, ⟨34, [.sv (.v (.bool j3.2)), .sv (slc 1 (List.map eU32 x0_1))]⟩)] []) (fun h => ?_) (fun j3 h => ?_)
 refine ok_region <| fa rfl rfl <| lV rfl rfl rfl <| mv rfl <| bE h fun c36_6 hg6 h => ?_
 cases x0_0
 obtain rfl := O (F hg6)
 exact ww <| ww <| ww <| pF rfl <| dn <| ⟨(false, false), h, wR []⟩
 refine gm rfl <| lE (V hg6) fun x34 h34 hg6 => gn rfl h34 <| lE hg6 fun x35 h35 hg6 => gg _ rfl rfl h35 ?_
 obtain rfl := O hg6
 exact pT rfl <| dn <| ⟨(x35, true), h, wR []⟩
 obtain ⟨y36j2, b2_0j2⟩ := j3
 try dsimp only
 refine AThen.n ?_
 refine ok_tailJ h (fun j5 => AS.mkL 52 [(2, .ptr 2 0), (3, .ptr 3 0), (4, .ptr 4 0), (5, .ptr 5 0), (9, .sv (slc 1 (List.map eU32 j5.1))), (10, .sv (slc 1 (List.map eU32 j5.2)))] [(5, ⟨34, [.sv (.v (.bool false)), .sv (slc 1 (List.map eU32 []))]⟩), (4, ⟨34, [.sv (.v (.bool false)), .sv (slc 1 (List.map eU32 []))]⟩), (3, ⟨34, [.sv (.v (.bool x1_0)), .sv (slc 1 (List.map eU32 x1_1))]⟩), (2, ⟨34, [.sv (.v (.bool b2_0j2)), .sv (slc 1 (List.map eU32 x0_1))]⟩)] []) (fun h => ?_) (fun j5 h => ?_)
 cases y36j2
 exact fs <| ⟨(x25a, x29), (F h), wR []⟩
 exact cT <| sr <| mv rfl <| bl (l := [1]) (e := eU32) (.one rfl (.nil)) rfl rfl rfl rfl rfl rfl <| bE (V h) fun x39 h39 h => cl (whole_addWords_ok h39) ⟨rfl, rfl, trivial⟩ <| ag rfl <| dn <| ok_region <| mv rfl <| mv rfl <| bE h fun x42 h42 h => cl (whole_subWords_ok h42) ⟨rfl, rfl, trivial⟩ <| ag rfl <| dn <| ⟨(x39, x42), h, wR []⟩
 obtain ⟨y9j4, y10j4⟩ := j5
 try dsimp only
 refine AThen.n <| sr <| fa rfl rfl <| lV rfl rfl rfl <| fa rfl rfl <| lV rfl rfl rfl <| lE h fun x47 h47 h => RT.bneq .none _ rfl rfl T h47 <| mv rfl ?_
 obtain ⟨⟨x49_0, x49_1⟩, h49, h⟩ := bS h
 refine cl (whole_build_ok h49) ⟨rfl, rfl, trivial⟩ <| mv rfl ?_
 obtain ⟨⟨x51_0, x51_1⟩, h51, h⟩ := bS h
 refine cl (whole_build_ok h51) ⟨rfl, rfl, trivial⟩ <| so rfl rfl rfl <| so rfl rfl rfl <| ag rfl <| dn <| ok_ret ?_
 obtain rfl := O h
 exact RZ (.agg rfl rfl (.cons rfl (.cons rfl (.nil))) rfl (.agg rfl rfl (.cons rfl (.cons rfl (.nil))) rfl (.tmp rfl (.nil))))
 refine cT <| sr <| bI (cs := [_, _]) (cs' := [.v (.bool false), slc 1 (List.map eU32 [])]) (.nil) ⟨SV.imp_refl _, imp_nil, trivial⟩ <| bI (cs := [_, _]) (cs' := [.v (.bool false), slc 1 (List.map eU32 [])]) (.nil) ⟨SV.imp_refl _, imp_nil, trivial⟩ <| so rfl rfl rfl <| so rfl rfl rfl <| ag rfl <| dn <| ok_ret <| AThen.r ?_
 obtain rfl := O (V h)
 exact RZ (.agg rfl rfl (.cons rfl (.cons rfl (.nil))) rfl (.agg rfl rfl (.cons rfl (.cons rfl (.nil))) rfl (.tmp rfl (.nil))))
theorem whole_GCD_ok {x0 : Zr} {x1 : Zr} {r : Zr} (h : whole_GCD_m x0 x1 = some r) : Pure Tryz.prog 124 [.agg (eZ x0), .agg (eZ x1)] (.agg (eZ r)) := by
 obtain ⟨x0_0, x0_1⟩ := x0
 obtain ⟨x1_0, x1_1⟩ := x1
 refine pure_of_ok Tryz.func124 rfl (Nat.le_of_ble_eq_true rfl) (fun wld M vs hvs => ?_)
 unfold whole_GCD_m at h
 refine sr <| bx rfl <| bx rfl <| al (cs := [.v (.bool false), slc 1 (List.map eU32 [])]) (by exact ⟨SV.imp_refl _, imp_nil, trivial⟩) rfl <| dn <| qq <| ok_region_draw mixed <| fa rfl rfl <| lV rfl rfl rfl <| bE h fun x13 h13 h => cl (whole_trim_ok h13) ⟨rfl, trivial⟩ <| fa rfl rfl <| lV rfl rfl rfl <| bE h fun x16 h16 h => cl (whole_trim_ok h16) ⟨rfl, trivial⟩ <| ag rfl <| ag rfl ?_
 refine RT.done ⟨by kernel_rfl, ?_⟩
 refine AThen.n <| qq <| bE h fun e12 hl12 ho12 => ?_
 refine ok_tailP (fun (xe12 : (List Nat) × (List Nat)) => AS.mkL 57 [(4, .ptr 4 0), (5, .sv (slc 1 (List.map eU32 xe12.1))), (6, .sv (slc 1 (List.map eU32 xe12.2)))] [(4, ⟨34, [.sv (.v (.bool false)), .sv (slc 1 (List.map eU32 []))]⟩)] []) (fun xe12 => xe12 = e12) ?_ (fun xe12 hx12 => ?_)
 refine ok_block ?_
 refine ok_loopM hl12 (fun s12 => AS.mkL 57 [(4, .ptr 4 0), (5, .sv (slc 1 (List.map eU32 s12.1))), (6, .sv (slc 1 (List.map eU32 s12.2)))] [(4, ⟨34, [.sv (.v (.bool false)), .sv (slc 1 (List.map eU32 []))]⟩)] []) (wR []) (fun s12 y12 G12 h hG12 hE12 => ?_)
 obtain ⟨y5l6, y6l6⟩ := s12
 try dsimp only
 refine qq <| qq ?_
 refine ok_tailJ h (fun j16 => AS.mkL 57 [(4, .ptr 4 0), (5, .sv (slc 1 (List.map eU32 y5l6))), (6, .sv (slc 1 (List.map eU32 y6l6))), (29, .sv (.v (.bool j16)))] [(4, ⟨34, [.sv (.v (.bool false)), .sv (slc 1 (List.map eU32 []))]⟩)] []) (fun h => ?_) (fun y29j15 h => ?_)
 refine ok_region <| mv rfl <| lE h fun x18 h18 h => ln rfl h18 <| lE h fun x19 h19 h => gt _ rfl rfl h19 <| mv rfl <| bE h fun c29_17 hg17 h => ?_
 cases x19
 obtain rfl := O (F hg17)
 exact ww <| ww <| ww <| ww <| wu <| wu <| wu <| ww <| pF rfl <| dn <| ⟨false, h, wR []⟩
 refine gm rfl <| lE (V hg17) fun x22 h22 hg17 => gn rfl h22 <| lE hg17 fun x23 h23 hg17 => gg _ rfl rfl h23 <| gm rfl <| bE hg17 fun c28_18 hg18 hg17 => ?_
 cases x23
 refine gm rfl <| lE (F hg18) fun x26 h26 hg18 => gn rfl h26 <| lE hg18 fun x27 h27 hg18 => gg _ rfl rfl h27 ?_
 obtain rfl := O hg18
 refine gF rfl ?_
 obtain rfl := O hg17
 exact pT rfl <| dn <| ⟨x27, h, wR []⟩
 obtain rfl := O (V hg18)
 refine ww <| ww <| ww <| gT rfl ?_
 obtain rfl := O hg17
 exact pT rfl <| dn <| ⟨true, h, wR []⟩
 try dsimp only
 refine AThen.n ?_
 cases y29j15
 refine cF <| ok_exit <| AThen.x <| AThen.x <| AInB.x <| AThen.n ?_
 obtain rfl := O (F h)
 exact ⟨(y5l6, y6l6), hE12 _ rfl, wR []⟩
 refine cT <| ok_skip <| AThen.n <| ok_block <| sr <| mv rfl <| mv rfl ?_
 obtain ⟨⟨x33a, x33b⟩, h33, h⟩ := bS (V h)
 refine cl (whole_divWords_ok h33) ⟨rfl, rfl, trivial⟩ <| mv rfl <| ex rfl rfl <| ex rfl rfl <| ag rfl <| ag rfl <| dn <| ok_region <| mv rfl <| mv rfl <| bE h fun x38 h38 h => cl (whole_trim_ok h38) ⟨rfl, trivial⟩ <| ag rfl <| ag rfl <| RT.done <| AInB.n ?_
 obtain rfl := O h
 exact AThen.n ⟨(y6l6, x38), hG12 _ rfl, wR []⟩
 subst hx12
 obtain ⟨y5e11, y6e11⟩ := xe12
 try dsimp only
 refine AThen.n <| qq <| sr <| mv rfl <| lE ho12 fun x40 h40 ho12 => ln rfl h40 <| lE ho12 fun x41 h41 ho12 => eq _ rfl rfl (eqI (p := x40) (q := 0) h41) <| dn ?_
 cases x41
 refine fs <| sr <| mv rfl <| bE (F ho12) fun x46 h46 ho12 => cl (whole_low_ok h46) ⟨rfl, trivial⟩ <| mv rfl <| bE ho12 fun x48 h48 ho12 => cl (whole_low_ok h48) ⟨rfl, trivial⟩ <| ag rfl <| ag rfl <| dn <| qq <| bE ho12 fun e24 hl24 ho24 => ?_
 refine ok_tailP (fun (y9e23 : Nat) => AS.mkL 57 [(4, .ptr 4 0), (9, .sv (.v (.int .u64 ((y9e23 : Nat) : Int))))] [(4, ⟨34, [.sv (.v (.bool false)), .sv (slc 1 (List.map eU32 []))]⟩)] []) (fun y9e23 => y9e23 = e24) ?_ (fun y9e23 hx24 => ?_)
 refine ok_block ?_
 refine ok_loopM hl24 (fun s24 => AS.mkL 57 [(4, .ptr 4 0), (9, .sv (.v (.int .u64 ((s24.1 : Nat) : Int)))), (10, .sv (.v (.int .u64 ((s24.2 : Nat) : Int))))] [(4, ⟨34, [.sv (.v (.bool false)), .sv (slc 1 (List.map eU32 []))]⟩)] []) (wR []) (fun s24 y24 G24 h hG24 hE24 => ?_)
 obtain ⟨y9l21, y10l21⟩ := s24
 try dsimp only
 refine qq <| sr <| mv rfl <| lE h fun x50 h50 h => gt _ rfl rfl (ltN (p := 0) (q := y10l21) h50) <| dn ?_
 cases x50
 refine cF <| ok_exit <| AThen.x <| AThen.x <| AInB.x <| AThen.n ?_
 obtain rfl := O (F h)
 exact ⟨y9l21, hE24 _ rfl, wR []⟩
 refine cT <| ok_skip <| AThen.n <| ok_block <| ok_region_draw mixed <| mv rfl <| mv rfl <| mv rfl <| bE (V h) fun x54 h54 h => RT.rem .none _ rfl rfl T (nzR h54) (remU h54) <| ag rfl <| ag rfl ?_
 refine RT.done ⟨by kernel_rfl, ?_⟩
 refine AInB.n ?_
 obtain rfl := O h
 exact AThen.n ⟨(y10l21, x54), hG24 _ rfl, wR []⟩
 subst hx24
 try dsimp only
 refine AThen.n <| sr <| mv rfl ?_
 obtain ⟨⟨x56_0, x56_1⟩, h56, ho24⟩ := bS ho24
 refine cl (whole_small_ok h56) ⟨rfl, rfl, trivial⟩ <| so rfl rfl rfl <| dn <| ok_ret ?_
 obtain rfl := O ho24
 exact RZ (.agg rfl rfl (.cons rfl (.cons rfl (.nil))) rfl (.nil))
 refine cT <| sr <| mv rfl <| bE (V ho12) fun x43 h43 ho12 => cl (slices_Clone_ok h43) ⟨rfl, trivial⟩ ?_
 obtain ⟨⟨x44_0, x44_1⟩, h44, ho12⟩ := bS ho12
 refine cl (whole_build_ok h44) ⟨rfl, rfl, trivial⟩ <| so rfl rfl rfl <| dn <| ok_ret <| AThen.r ?_
 obtain rfl := O ho12
 exact RZ (.agg rfl rfl (.cons rfl (.cons rfl (.nil))) rfl (.nil))
end Go.Proofs.YtfoldppidpmchaaGreat
namespace Go.Proofs.YtfoldppidpmchaaGreat
open Go.Fw
noncomputable def frac_operations_1_m (x0 : Zr) (x1 : Zr) (x2 : Zr) (x3 : Zr) : Option (Zr × Zr) := match x0 with | ⟨x0_0, x0_1⟩ => match x1 with | ⟨x1_0, x1_1⟩ => match x2 with | ⟨x2_0, x2_1⟩ => match x3 with | ⟨x3_0, x3_1⟩ => (whole_Mul_m ⟨x0_0, x0_1⟩ ⟨x3_0, x3_1⟩).bind fun ⟨x12_0, x12_1⟩ => (whole_Mul_m ⟨x2_0, x2_1⟩ ⟨x1_0, x1_1⟩).bind fun ⟨x15_0, x15_1⟩ => (whole_Add_m ⟨x12_0, x12_1⟩ ⟨x15_0, x15_1⟩).bind fun ⟨x16_0, x16_1⟩ => (whole_Mul_m ⟨x1_0, x1_1⟩ ⟨x3_0, x3_1⟩).bind fun ⟨x19_0, x19_1⟩ => some (⟨x16_0, x16_1⟩, ⟨x19_0, x19_1⟩)
noncomputable def frac_operations_2_m (x0 : Zr) (x1 : Zr) (x2 : Zr) (x3 : Zr) : Option (Zr × Zr) := match x0 with | ⟨x0_0, x0_1⟩ => match x1 with | ⟨x1_0, x1_1⟩ => match x2 with | ⟨x2_0, x2_1⟩ => match x3 with | ⟨x3_0, x3_1⟩ => (whole_Mul_m ⟨x0_0, x0_1⟩ ⟨x3_0, x3_1⟩).bind fun ⟨x12_0, x12_1⟩ => (whole_Mul_m ⟨x2_0, x2_1⟩ ⟨x1_0, x1_1⟩).bind fun ⟨x15_0, x15_1⟩ => (whole_Sub_m ⟨x12_0, x12_1⟩ ⟨x15_0, x15_1⟩).bind fun ⟨x16_0, x16_1⟩ => (whole_Mul_m ⟨x1_0, x1_1⟩ ⟨x3_0, x3_1⟩).bind fun ⟨x19_0, x19_1⟩ => some (⟨x16_0, x16_1⟩, ⟨x19_0, x19_1⟩)
noncomputable def frac_operations_3_m (x0 : Zr) (x1 : Zr) (x2 : Zr) (x3 : Zr) : Option (Zr × Zr) := match x0 with | ⟨x0_0, x0_1⟩ => match x1 with | ⟨x1_0, x1_1⟩ => match x2 with | ⟨x2_0, x2_1⟩ => match x3 with | ⟨x3_0, x3_1⟩ => (whole_Mul_m ⟨x0_0, x0_1⟩ ⟨x2_0, x2_1⟩).bind fun ⟨x12_0, x12_1⟩ => (whole_Mul_m ⟨x1_0, x1_1⟩ ⟨x3_0, x3_1⟩).bind fun ⟨x15_0, x15_1⟩ => some (⟨x12_0, x12_1⟩, ⟨x15_0, x15_1⟩)
noncomputable def frac_parts_m (x0 : Qr) : Option (Zr × Zr) := match x0 with | ⟨⟨x0_0, x0_1⟩, ⟨x0_2, x0_3⟩⟩ => (whole_Sign_m ⟨x0_2, x0_3⟩).bind fun x6 => (some (decide ((x6 : Int) = 0))).bind fun x8 => (bif x8 then (whole_FromInt64_m 1).bind fun ⟨x11_0, x11_1⟩ => some (⟨x0_0, x0_1⟩, ⟨x11_0, x11_1⟩) else (some (decide ((x6 : Int) = (-1)))).bind fun x13 => (bif x13 then (whole_Neg_m ⟨x0_0, x0_1⟩).bind fun ⟨x16_0, x16_1⟩ => (whole_Neg_m ⟨x0_2, x0_3⟩).bind fun ⟨x19_0, x19_1⟩ => some (⟨x16_0, x16_1⟩, ⟨x19_0, x19_1⟩) else some (⟨x0_0, x0_1⟩, ⟨x0_2, x0_3⟩)))
noncomputable def frac_reduce_m (x0 : Zr) (x1 : Zr) : Option (Qr) := match x0 with | ⟨x0_0, x0_1⟩ => match x1 with | ⟨x1_0, x1_1⟩ => (whole_Sign_m ⟨x1_0, x1_1⟩).bind fun x9 => (some (decide ((x9 : Int) < 0))).bind fun x10 => letJ (fun (j2 : Bool × (List Nat) × Bool × (List Nat)) => match j2 with | ⟨b3_0j1, b3_1j1, b2_0j1, b2_1j1⟩ => (whole_GCD_m ⟨b2_0j1, b2_1j1⟩ ⟨b3_0j1, b3_1j1⟩).bind fun ⟨x17_0, x17_1⟩ => (whole_DivMod_m ⟨b2_0j1, b2_1j1⟩ ⟨x17_0, x17_1⟩).bind fun ⟨⟨x21a_0, x21a_1⟩, ⟨x21b_0, x21b_1⟩, x21c⟩ => (whole_DivMod_m ⟨b3_0j1, b3_1j1⟩ ⟨x17_0, x17_1⟩).bind fun ⟨⟨x28a_0, x28a_1⟩, ⟨x28b_0, x28b_1⟩, x28c⟩ => (whole_Int64_m ⟨x28a_0, x28a_1⟩).bind fun ⟨x34a, x34b⟩ => letJ (fun (y41j4 : Bool) => letJ (fun (j7 : Bool × (List Nat)) => match j7 with | ⟨b3_0j6, b3_1j6⟩ => some ⟨⟨x21a_0, x21a_1⟩, ⟨b3_0j6, b3_1j6⟩⟩) fun K7 => (bif y41j4 then K7 (false, []) else K7 (x28a_0, x28a_1))) fun K5 => (bif x34b then (some (decide ((x34a : Int) = 1))).bind fun x40 => some x40 else some false).bind fun c41_8 => K5 c41_8) fun K2 => (bif x10 then (whole_Neg_m ⟨x0_0, x0_1⟩).bind fun ⟨x12_0, x12_1⟩ => (whole_Neg_m ⟨x1_0, x1_1⟩).bind fun ⟨x14_0, x14_1⟩ => K2 (x14_0, x14_1, x12_0, x12_1) else K2 (x1_0, x1_1, x0_0, x0_1))
noncomputable def frac_short_m (x0 : Qr) : Option (Int × Int × Bool) := match x0 with | ⟨⟨x0_0, x0_1⟩, ⟨x0_2, x0_3⟩⟩ => (whole_Int64_m ⟨x0_0, x0_1⟩).bind fun ⟨x10a, x10b⟩ => (whole_Int64_m ⟨x0_2, x0_3⟩).bind fun ⟨x16a, x16b⟩ => letJ (fun (y40j20 : Bool) => (bif y40j20 then some (0, 0, false) else (some (decide ((x16a : Int) = 0))).bind fun x43 => letJ (fun (j24 : Int × Int) => match j24 with | ⟨y2j23, y3j23⟩ => some (y2j23, y3j23, true)) fun K24 => (bif x43 then K24 (x10a, 1) else (some (decide ((x16a : Int) < 0))).bind fun x46 => letJ (fun (j26 : Int × Int) => match j26 with | ⟨y2j25, y3j25⟩ => K24 (y2j25, y3j25)) fun K26 => (bif x46 then (some (IntKind.i64.wrap (0 - x10a))).bind fun x48 => (some (IntKind.i64.wrap (0 - x16a))).bind fun x50 => K26 (x48, x50) else K26 (x10a, x16a))))) fun K21 => (some (!x10b)).bind fun x20 => (bif x20 then some true else (some (!x16b)).bind fun x23 => some x23).bind fun c24_27 => (bif c24_27 then some true else (some (decide ((x10a : Int) ≤ (-2147483648)))).bind fun x27 => some x27).bind fun c28_42 => (bif c28_42 then some true else (some (decide ((2147483648 : Int) ≤ x10a))).bind fun x31 => some x31).bind fun c32_43 => (bif c32_43 then some true else (some (decide ((x16a : Int) ≤ (-2147483648)))).bind fun x35 => some x35).bind fun c36_44 => (bif c36_44 then some true else (some (decide ((2147483648 : Int) ≤ x16a))).bind fun x39 => some x39).bind fun c40_45 => K21 c40_45
noncomputable def frac_ratio_m (x0 : Int) (x1 : Int) : Option (Qr) := (loopM (fun (s6 : Int × Int) => match s6 with | ⟨y5l3, y6l3⟩ => (show Option ((Int × Int) ⊕ (Int)) from (some (decide ((y6l3 : Int) ≠ 0))).bind fun x10 => (bif x10 then (irem y5l3 y6l3).bind fun x14 => some (.inl (y6l3, x14)) else some (.inr y5l3)))) (x0, x1)).bind fun y5e5 => (some (decide ((y5e5 : Int) < 0))).bind fun x16 => letJ (fun (y5j7 : Int) => (some (decide ((y5j7 : Int) = x1))).bind fun x21 => (bif x21 then (iquo x0 y5j7).bind fun x24 => (whole_FromInt64_m x24).bind fun ⟨x25_0, x25_1⟩ => some ⟨⟨x25_0, x25_1⟩, ⟨false, []⟩⟩ else (iquo x0 y5j7).bind fun x29 => (whole_FromInt64_m x29).bind fun ⟨x30_0, x30_1⟩ => (iquo x1 y5j7).bind fun x33 => (whole_FromInt64_m x33).bind fun ⟨x34_0, x34_1⟩ => some ⟨⟨x30_0, x30_1⟩, ⟨x34_0, x34_1⟩⟩)) fun K8 => (bif x16 then (some (IntKind.i64.wrap (0 - y5e5))).bind fun x18 => K8 x18 else K8 y5e5)
noncomputable def frac_sign_m (x0 : Int) : Option (Int) := (some (decide ((x0 : Int) < 0))).bind fun x5 => (bif x5 then some (-1) else (some (decide ((0 : Int) < x0))).bind fun x8 => (bif x8 then some 1 else some 0))
noncomputable def frac_calcAdd_m (x1 : Qr) (x2 : Qr) : Option (Qr) := match x1 with | ⟨⟨x1_0, x1_1⟩, ⟨x1_2, x1_3⟩⟩ => match x2 with | ⟨⟨x2_0, x2_1⟩, ⟨x2_2, x2_3⟩⟩ => (frac_parts_m ⟨⟨x1_0, x1_1⟩, ⟨x1_2, x1_3⟩⟩).bind fun ⟨⟨x13a_0, x13a_1⟩, ⟨x13b_0, x13b_1⟩⟩ => (frac_parts_m ⟨⟨x2_0, x2_1⟩, ⟨x2_2, x2_3⟩⟩).bind fun ⟨⟨x18a_0, x18a_1⟩, ⟨x18b_0, x18b_1⟩⟩ => (frac_operations_1_m ⟨x13a_0, x13a_1⟩ ⟨x13b_0, x13b_1⟩ ⟨x18a_0, x18a_1⟩ ⟨x18b_0, x18b_1⟩).bind fun ⟨⟨x29a_0, x29a_1⟩, ⟨x29b_0, x29b_1⟩⟩ => (frac_reduce_m ⟨x29a_0, x29a_1⟩ ⟨x29b_0, x29b_1⟩).bind fun ⟨⟨x32_0, x32_1⟩, ⟨x32_2, x32_3⟩⟩ => some ⟨⟨x32_0, x32_1⟩, ⟨x32_2, x32_3⟩⟩
noncomputable def frac_calcSub_m (x1 : Qr) (x2 : Qr) : Option (Qr) := match x1 with | ⟨⟨x1_0, x1_1⟩, ⟨x1_2, x1_3⟩⟩ => match x2 with | ⟨⟨x2_0, x2_1⟩, ⟨x2_2, x2_3⟩⟩ => (frac_parts_m ⟨⟨x1_0, x1_1⟩, ⟨x1_2, x1_3⟩⟩).bind fun ⟨⟨x13a_0, x13a_1⟩, ⟨x13b_0, x13b_1⟩⟩ => (frac_parts_m ⟨⟨x2_0, x2_1⟩, ⟨x2_2, x2_3⟩⟩).bind fun ⟨⟨x18a_0, x18a_1⟩, ⟨x18b_0, x18b_1⟩⟩ => (frac_operations_2_m ⟨x13a_0, x13a_1⟩ ⟨x13b_0, x13b_1⟩ ⟨x18a_0, x18a_1⟩ ⟨x18b_0, x18b_1⟩).bind fun ⟨⟨x29a_0, x29a_1⟩, ⟨x29b_0, x29b_1⟩⟩ => (frac_reduce_m ⟨x29a_0, x29a_1⟩ ⟨x29b_0, x29b_1⟩).bind fun ⟨⟨x32_0, x32_1⟩, ⟨x32_2, x32_3⟩⟩ => some ⟨⟨x32_0, x32_1⟩, ⟨x32_2, x32_3⟩⟩
noncomputable def frac_calcMul_m (x1 : Qr) (x2 : Qr) : Option (Qr) := match x1 with | ⟨⟨x1_0, x1_1⟩, ⟨x1_2, x1_3⟩⟩ => match x2 with | ⟨⟨x2_0, x2_1⟩, ⟨x2_2, x2_3⟩⟩ => (frac_parts_m ⟨⟨x1_0, x1_1⟩, ⟨x1_2, x1_3⟩⟩).bind fun ⟨⟨x13a_0, x13a_1⟩, ⟨x13b_0, x13b_1⟩⟩ => (frac_parts_m ⟨⟨x2_0, x2_1⟩, ⟨x2_2, x2_3⟩⟩).bind fun ⟨⟨x18a_0, x18a_1⟩, ⟨x18b_0, x18b_1⟩⟩ => (frac_operations_3_m ⟨x13a_0, x13a_1⟩ ⟨x13b_0, x13b_1⟩ ⟨x18a_0, x18a_1⟩ ⟨x18b_0, x18b_1⟩).bind fun ⟨⟨x29a_0, x29a_1⟩, ⟨x29b_0, x29b_1⟩⟩ => (frac_reduce_m ⟨x29a_0, x29a_1⟩ ⟨x29b_0, x29b_1⟩).bind fun ⟨⟨x32_0, x32_1⟩, ⟨x32_2, x32_3⟩⟩ => some ⟨⟨x32_0, x32_1⟩, ⟨x32_2, x32_3⟩⟩
noncomputable def frac_FromInt64_m (x0 : Int) : Option (Qr) := (whole_FromInt64_m x0).bind fun ⟨x4_0, x4_1⟩ => some ⟨⟨x4_0, x4_1⟩, ⟨false, []⟩⟩
noncomputable def frac_Canonical_m (x0 : Qr) : Option (Qr) := match x0 with | ⟨⟨x0_0, x0_1⟩, ⟨x0_2, x0_3⟩⟩ => (frac_short_m ⟨⟨x0_0, x0_1⟩, ⟨x0_2, x0_3⟩⟩).bind fun ⟨x8a, x8b, x8c⟩ => (bif x8c then (frac_ratio_m x8a x8b).bind fun ⟨⟨x15_0, x15_1⟩, ⟨x15_2, x15_3⟩⟩ => some ⟨⟨x15_0, x15_1⟩, ⟨x15_2, x15_3⟩⟩ else (frac_parts_m ⟨⟨x0_0, x0_1⟩, ⟨x0_2, x0_3⟩⟩).bind fun ⟨⟨x17a_0, x17a_1⟩, ⟨x17b_0, x17b_1⟩⟩ => (frac_reduce_m ⟨x17a_0, x17a_1⟩ ⟨x17b_0, x17b_1⟩).bind fun ⟨⟨x20_0, x20_1⟩, ⟨x20_2, x20_3⟩⟩ => some ⟨⟨x20_0, x20_1⟩, ⟨x20_2, x20_3⟩⟩)
noncomputable def frac_Sign_m (x0 : Qr) : Option (Int) := match x0 with | ⟨⟨x0_0, x0_1⟩, ⟨x0_2, x0_3⟩⟩ => (whole_Sign_m ⟨x0_2, x0_3⟩).bind fun x5 => (some (decide ((x5 : Int) < 0))).bind fun x6 => (bif x6 then (whole_Sign_m ⟨x0_0, x0_1⟩).bind fun x9 => (some (IntKind.i64.wrap (0 - x9))).bind fun x10 => some x10 else (whole_Sign_m ⟨x0_0, x0_1⟩).bind fun x13 => some x13)
noncomputable def frac_Add_m (x0 : Qr) (x1 : Qr) : Option (Qr) := match x0 with | ⟨⟨x0_0, x0_1⟩, ⟨x0_2, x0_3⟩⟩ => match x1 with | ⟨⟨x1_0, x1_1⟩, ⟨x1_2, x1_3⟩⟩ => (frac_short_m ⟨⟨x0_0, x0_1⟩, ⟨x0_2, x0_3⟩⟩).bind fun ⟨x13a, x13b, x13c⟩ => (frac_short_m ⟨⟨x1_0, x1_1⟩, ⟨x1_2, x1_3⟩⟩).bind fun ⟨x19a, x19b, x19c⟩ => letJ (fun (y26j2 : Bool) => (bif y26j2 then (some (IntKind.i64.wrap (x13a * x19b))).bind fun x29 => (some (IntKind.i64.wrap (x19a * x13b))).bind fun x32 => (some (IntKind.i64.wrap (x29 + x32))).bind fun x33 => (some (IntKind.i64.wrap (x13b * x19b))).bind fun x36 => (frac_ratio_m x33 x36).bind fun ⟨⟨x37_0, x37_1⟩, ⟨x37_2, x37_3⟩⟩ => some ⟨⟨x37_0, x37_1⟩, ⟨x37_2, x37_3⟩⟩ else (frac_calcAdd_m ⟨⟨x0_0, x0_1⟩, ⟨x0_2, x0_3⟩⟩ ⟨⟨x1_0, x1_1⟩, ⟨x1_2, x1_3⟩⟩).bind fun ⟨⟨x40_0, x40_1⟩, ⟨x40_2, x40_3⟩⟩ => some ⟨⟨x40_0, x40_1⟩, ⟨x40_2, x40_3⟩⟩)) fun K3 => (bif x13c then some x19c else some false).bind fun c26_4 => K3 c26_4
noncomputable def frac_Sub_m (x0 : Qr) (x1 : Qr) : Option (Qr) := match x0 with | ⟨⟨x0_0, x0_1⟩, ⟨x0_2, x0_3⟩⟩ => match x1 with | ⟨⟨x1_0, x1_1⟩, ⟨x1_2, x1_3⟩⟩ => (frac_short_m ⟨⟨x0_0, x0_1⟩, ⟨x0_2, x0_3⟩⟩).bind fun ⟨x13a, x13b, x13c⟩ => (frac_short_m ⟨⟨x1_0, x1_1⟩, ⟨x1_2, x1_3⟩⟩).bind fun ⟨x19a, x19b, x19c⟩ => letJ (fun (y26j2 : Bool) => (bif y26j2 then (some (IntKind.i64.wrap (x13a * x19b))).bind fun x29 => (some (IntKind.i64.wrap (x19a * x13b))).bind fun x32 => (some (IntKind.i64.wrap (x29 - x32))).bind fun x33 => (some (IntKind.i64.wrap (x13b * x19b))).bind fun x36 => (frac_ratio_m x33 x36).bind fun ⟨⟨x37_0, x37_1⟩, ⟨x37_2, x37_3⟩⟩ => some ⟨⟨x37_0, x37_1⟩, ⟨x37_2, x37_3⟩⟩ else (frac_calcSub_m ⟨⟨x0_0, x0_1⟩, ⟨x0_2, x0_3⟩⟩ ⟨⟨x1_0, x1_1⟩, ⟨x1_2, x1_3⟩⟩).bind fun ⟨⟨x40_0, x40_1⟩, ⟨x40_2, x40_3⟩⟩ => some ⟨⟨x40_0, x40_1⟩, ⟨x40_2, x40_3⟩⟩)) fun K3 => (bif x13c then some x19c else some false).bind fun c26_4 => K3 c26_4
noncomputable def frac_Mul_m (x0 : Qr) (x1 : Qr) : Option (Qr) := match x0 with | ⟨⟨x0_0, x0_1⟩, ⟨x0_2, x0_3⟩⟩ => match x1 with | ⟨⟨x1_0, x1_1⟩, ⟨x1_2, x1_3⟩⟩ => (frac_short_m ⟨⟨x0_0, x0_1⟩, ⟨x0_2, x0_3⟩⟩).bind fun ⟨x13a, x13b, x13c⟩ => (frac_short_m ⟨⟨x1_0, x1_1⟩, ⟨x1_2, x1_3⟩⟩).bind fun ⟨x19a, x19b, x19c⟩ => letJ (fun (y26j2 : Bool) => (bif y26j2 then (some (IntKind.i64.wrap (x13a * x19a))).bind fun x29 => (some (IntKind.i64.wrap (x13b * x19b))).bind fun x32 => (frac_ratio_m x29 x32).bind fun ⟨⟨x33_0, x33_1⟩, ⟨x33_2, x33_3⟩⟩ => some ⟨⟨x33_0, x33_1⟩, ⟨x33_2, x33_3⟩⟩ else (frac_calcMul_m ⟨⟨x0_0, x0_1⟩, ⟨x0_2, x0_3⟩⟩ ⟨⟨x1_0, x1_1⟩, ⟨x1_2, x1_3⟩⟩).bind fun ⟨⟨x36_0, x36_1⟩, ⟨x36_2, x36_3⟩⟩ => some ⟨⟨x36_0, x36_1⟩, ⟨x36_2, x36_3⟩⟩)) fun K3 => (bif x13c then some x19c else some false).bind fun c26_4 => K3 c26_4
noncomputable def frac_Neg_m (x0 : Qr) : Option (Qr) := match x0 with | ⟨⟨x0_0, x0_1⟩, ⟨x0_2, x0_3⟩⟩ => (frac_Canonical_m ⟨⟨x0_0, x0_1⟩, ⟨x0_2, x0_3⟩⟩).bind fun ⟨⟨x5_0, x5_1⟩, ⟨x5_2, x5_3⟩⟩ => (whole_Neg_m ⟨x5_0, x5_1⟩).bind fun ⟨x8_0, x8_1⟩ => some ⟨⟨x8_0, x8_1⟩, ⟨x5_2, x5_3⟩⟩
noncomputable def frac_Cmp_m (x0 : Qr) (x1 : Qr) : Option (Int) := match x0 with | ⟨⟨x0_0, x0_1⟩, ⟨x0_2, x0_3⟩⟩ => match x1 with | ⟨⟨x1_0, x1_1⟩, ⟨x1_2, x1_3⟩⟩ => (frac_parts_m ⟨⟨x0_0, x0_1⟩, ⟨x0_2, x0_3⟩⟩).bind fun ⟨⟨x13a_0, x13a_1⟩, ⟨x13b_0, x13b_1⟩⟩ => (frac_parts_m ⟨⟨x1_0, x1_1⟩, ⟨x1_2, x1_3⟩⟩).bind fun ⟨⟨x18a_0, x18a_1⟩, ⟨x18b_0, x18b_1⟩⟩ => (whole_Sign_m ⟨x13a_0, x13a_1⟩).bind fun x22 => (whole_Sign_m ⟨x18a_0, x18a_1⟩).bind fun x24 => letJ (fun (y31j2 : Bool) => (bif y31j2 then (some (IntKind.i64.wrap (x22 - x24))).bind fun x34 => (frac_sign_m x34).bind fun x35 => some x35 else (whole_Mul_m ⟨x13a_0, x13a_1⟩ ⟨x18b_0, x18b_1⟩).bind fun ⟨x38_0, x38_1⟩ => (whole_Mul_m ⟨x18a_0, x18a_1⟩ ⟨x13b_0, x13b_1⟩).bind fun ⟨x41_0, x41_1⟩ => (whole_Cmp_m ⟨x38_0, x38_1⟩ ⟨x41_0, x41_1⟩).bind fun x42 => some x42)) fun K3 => (some (decide ((x22 : Int) ≠ x24))).bind fun x27 => (bif x27 then some true else (some (decide ((x22 : Int) = 0))).bind fun x30 => some x30).bind fun c31_4 => K3 c31_4
noncomputable def frac_Equal_m (x0 : Qr) (x1 : Qr) : Option (Bool) := match x0 with | ⟨⟨x0_0, x0_1⟩, ⟨x0_2, x0_3⟩⟩ => match x1 with | ⟨⟨x1_0, x1_1⟩, ⟨x1_2, x1_3⟩⟩ => (frac_Cmp_m ⟨⟨x0_0, x0_1⟩, ⟨x0_2, x0_3⟩⟩ ⟨⟨x1_0, x1_1⟩, ⟨x1_2, x1_3⟩⟩).bind fun x7 => (some (decide ((x7 : Int) = 0))).bind fun x8 => some x8
noncomputable def frac_Max_m (x0 : Qr) (x1 : Qr) : Option (Qr) := match x0 with | ⟨⟨x0_0, x0_1⟩, ⟨x0_2, x0_3⟩⟩ => match x1 with | ⟨⟨x1_0, x1_1⟩, ⟨x1_2, x1_3⟩⟩ => (frac_Cmp_m ⟨⟨x1_0, x1_1⟩, ⟨x1_2, x1_3⟩⟩ ⟨⟨x0_0, x0_1⟩, ⟨x0_2, x0_3⟩⟩).bind fun x7 => (some (decide ((0 : Int) < x7))).bind fun x8 => (bif x8 then (frac_Canonical_m ⟨⟨x1_0, x1_1⟩, ⟨x1_2, x1_3⟩⟩).bind fun ⟨⟨x10_0, x10_1⟩, ⟨x10_2, x10_3⟩⟩ => some ⟨⟨x10_0, x10_1⟩, ⟨x10_2, x10_3⟩⟩ else (frac_Canonical_m ⟨⟨x0_0, x0_1⟩, ⟨x0_2, x0_3⟩⟩).bind fun ⟨⟨x12_0, x12_1⟩, ⟨x12_2, x12_3⟩⟩ => some ⟨⟨x12_0, x12_1⟩, ⟨x12_2, x12_3⟩⟩)
end Go.Proofs.YtfoldppidpmchaaGreat
namespace Go.Proofs.YtfoldppidpmchaaGreat
open Go.Fw Go.Fw.Z Go.RowKit
abbrev frac_ops : List (Value × Value) := [(.int .u8 43, .agg #[.func (.func 126) #[] #[]]), (.int .u8 45, .agg #[.func (.func 128) #[] #[]]), (.int .u8 42, .agg #[.func (.func 130) #[] #[]]), (.int .u8 47, .agg #[.func (.func 131) #[] #[]])]
theorem frac_operations_ok : Pure Tryz.prog 102 [] (mapS frac_ops) := by
 refine pure_of_ok Tryz.func102 rfl (Nat.le_of_ble_eq_true rfl) (fun wld M vs hvs => ?_)
 refine ok_seq <| ok_region <| RT.asg .none rfl T <| RT.done <| AThen.n <| ok_seq <| ok_map4 (Nat.le_of_ble_eq_true rfl) rfl rfl rfl (fun S' h0 => ?_)
 exact ok_ret (R1 h0)
theorem frac_operations_1_ok {x0 : Zr} {x1 : Zr} {x2 : Zr} {x3 : Zr} {r : Zr × Zr} (h : frac_operations_1_m x0 x1 x2 x3 = some r) : Pure Tryz.prog 126 [.agg (eZ x0), .agg (eZ x1), .agg (eZ x2), .agg (eZ x3)] (.tup [.agg (eZ r.1), .agg (eZ r.2)]) := by
 obtain ⟨x0_0, x0_1⟩ := x0
 obtain ⟨x1_0, x1_1⟩ := x1
 obtain ⟨x2_0, x2_1⟩ := x2
 obtain ⟨x3_0, x3_1⟩ := x3
 refine pure_of_ok Tryz.func126 rfl (Nat.le_of_ble_eq_true rfl) (fun wld M vs hvs => ?_)
 unfold frac_operations_1_m at h
 refine sr <| bx rfl <| bx rfl <| bx rfl <| bx rfl <| al (cs := [.v (.bool false), slc 1 (List.map eU32 [])]) (by exact ⟨SV.imp_refl _, imp_nil, trivial⟩) rfl <| al (cs := [.v (.bool false), slc 1 (List.map eU32 [])]) (by exact ⟨SV.imp_refl _, imp_nil, trivial⟩) rfl <| dn <| qq <| ok_region_draw mixed <| ld rfl rfl (.cons rfl (.cons rfl (.nil))) <| ld rfl rfl (.cons rfl (.cons rfl (.nil))) ?_
 obtain ⟨⟨x12_0, x12_1⟩, h12, h⟩ := bS h
 refine cl (whole_Mul_ok h12) ⟨rfl, rfl, trivial⟩ <| ld rfl rfl (.cons rfl (.cons rfl (.nil))) <| ld rfl rfl (.cons rfl (.cons rfl (.nil))) ?_
 obtain ⟨⟨x15_0, x15_1⟩, h15, h⟩ := bS h
 refine cl (whole_Mul_ok h15) ⟨rfl, rfl, trivial⟩ ?_
 obtain ⟨⟨x16_0, x16_1⟩, h16, h⟩ := bS h
 refine cl (whole_Add_ok h16) ⟨rfl, rfl, trivial⟩ <| ld rfl rfl (.cons rfl (.cons rfl (.nil))) <| ld rfl rfl (.cons rfl (.cons rfl (.nil))) ?_
 obtain ⟨⟨x19_0, x19_1⟩, h19, h⟩ := bS h
 refine cl (whole_Mul_ok h19) ⟨rfl, rfl, trivial⟩ <| so rfl rfl rfl <| so rfl rfl rfl ?_
 refine RT.done ⟨by kernel_rfl, ?_⟩
 refine AThen.n <| ok_ret ?_
 obtain rfl := O h
 exact RZ (.agg rfl rfl (.cons rfl (.cons rfl (.nil))) rfl (.agg rfl rfl (.cons rfl (.cons rfl (.nil))) rfl (.nil)))
theorem frac_operations_2_ok {x0 : Zr} {x1 : Zr} {x2 : Zr} {x3 : Zr} {r : Zr × Zr} (h : frac_operations_2_m x0 x1 x2 x3 = some r) : Pure Tryz.prog 128 [.agg (eZ x0), .agg (eZ x1), .agg (eZ x2), .agg (eZ x3)] (.tup [.agg (eZ r.1), .agg (eZ r.2)]) := by
 obtain ⟨x0_0, x0_1⟩ := x0
 obtain ⟨x1_0, x1_1⟩ := x1
 obtain ⟨x2_0, x2_1⟩ := x2
 obtain ⟨x3_0, x3_1⟩ := x3
 refine pure_of_ok Tryz.func128 rfl (Nat.le_of_ble_eq_true rfl) (fun wld M vs hvs => ?_)
 unfold frac_operations_2_m at h
 refine sr <| bx rfl <| bx rfl <| bx rfl <| bx rfl <| al (cs := [.v (.bool false), slc 1 (List.map eU32 [])]) (by exact ⟨SV.imp_refl _, imp_nil, trivial⟩) rfl <| al (cs := [.v (.bool false), slc 1 (List.map eU32 [])]) (by exact ⟨SV.imp_refl _, imp_nil, trivial⟩) rfl <| dn <| qq <| ok_region_draw mixed <| ld rfl rfl (.cons rfl (.cons rfl (.nil))) <| ld rfl rfl (.cons rfl (.cons rfl (.nil))) ?_
 obtain ⟨⟨x12_0, x12_1⟩, h12, h⟩ := bS h
 refine cl (whole_Mul_ok h12) ⟨rfl, rfl, trivial⟩ <| ld rfl rfl (.cons rfl (.cons rfl (.nil))) <| ld rfl rfl (.cons rfl (.cons rfl (.nil))) ?_
 obtain ⟨⟨x15_0, x15_1⟩, h15, h⟩ := bS h
 refine cl (whole_Mul_ok h15) ⟨rfl, rfl, trivial⟩ ?_
 obtain ⟨⟨x16_0, x16_1⟩, h16, h⟩ := bS h
 refine cl (whole_Sub_ok h16) ⟨rfl, rfl, trivial⟩ <| ld rfl rfl (.cons rfl (.cons rfl (.nil))) <| ld rfl rfl (.cons rfl (.cons rfl (.nil))) ?_
 obtain ⟨⟨x19_0, x19_1⟩, h19, h⟩ := bS h
 refine cl (whole_Mul_ok h19) ⟨rfl, rfl, trivial⟩ <| so rfl rfl rfl <| so rfl rfl rfl ?_
 refine RT.done ⟨by kernel_rfl, ?_⟩
 refine AThen.n <| ok_ret ?_
 obtain rfl := O h
 exact RZ (.agg rfl rfl (.cons rfl (.cons rfl (.nil))) rfl (.agg rfl rfl (.cons rfl (.cons rfl (.nil))) rfl (.nil)))
theorem frac_operations_3_ok {x0 : Zr} {x1 : Zr} {x2 : Zr} {x3 : Zr} {r : Zr × Zr} (h : frac_operations_3_m x0 x1 x2 x3 = some r) : Pure Tryz.prog 130 [.agg (eZ x0), .agg (eZ x1), .agg (eZ x2), .agg (eZ x3)] (.tup [.agg (eZ r.1), .agg (eZ r.2)]) := by
 obtain ⟨x0_0, x0_1⟩ := x0
 obtain ⟨x1_0, x1_1⟩ := x1
 obtain ⟨x2_0, x2_1⟩ := x2
 obtain ⟨x3_0, x3_1⟩ := x3
 refine pure_of_ok Tryz.func130 rfl (Nat.le_of_ble_eq_true rfl) (fun wld M vs hvs => ?_)
 unfold frac_operations_3_m at h
 refine sr <| bx rfl <| bx rfl <| bx rfl <| bx rfl <| al (cs := [.v (.bool false), slc 1 (List.map eU32 [])]) (by exact ⟨SV.imp_refl _, imp_nil, trivial⟩) rfl <| al (cs := [.v (.bool false), slc 1 (List.map eU32 [])]) (by exact ⟨SV.imp_refl _, imp_nil, trivial⟩) rfl <| dn <| qq <| ok_region_draw mixed <| ld rfl rfl (.cons rfl (.cons rfl (.nil))) <| ld rfl rfl (.cons rfl (.cons rfl (.nil))) ?_
 obtain ⟨⟨x12_0, x12_1⟩, h12, h⟩ := bS h
 refine cl (whole_Mul_ok h12) ⟨rfl, rfl, trivial⟩ <| ld rfl rfl (.cons rfl (.cons rfl (.nil))) <| ld rfl rfl (.cons rfl (.cons rfl (.nil))) ?_
 obtain ⟨⟨x15_0, x15_1⟩, h15, h⟩ := bS h
 refine cl (whole_Mul_ok h15) ⟨rfl, rfl, trivial⟩ <| so rfl rfl rfl <| so rfl rfl rfl ?_
 refine RT.done ⟨by kernel_rfl, ?_⟩
 refine AThen.n <| ok_ret ?_
 obtain rfl := O h
 exact RZ (.agg rfl rfl (.cons rfl (.cons rfl (.nil))) rfl (.agg rfl rfl (.cons rfl (.cons rfl (.nil))) rfl (.nil)))
theorem frac_parts_ok {x0 : Qr} {r : Zr × Zr} (h : frac_parts_m x0 = some r) : Pure Tryz.prog 81 [.agg (eQ x0)] (.tup [.agg (eZ r.1), .agg (eZ r.2)]) := by
 obtain ⟨⟨x0_0, x0_1⟩, ⟨x0_2, x0_3⟩⟩ := x0
 refine pure_of_ok Tryz.func81 rfl (Nat.le_of_ble_eq_true rfl) (fun wld M vs hvs => ?_)
 unfold frac_parts_m at h
 refine sr <| bx rfl <| al (cs := [.v (.bool false), slc 1 (List.map eU32 [])]) (by exact ⟨SV.imp_refl _, imp_nil, trivial⟩) rfl <| al (cs := [.v (.bool false), slc 1 (List.map eU32 [])]) (by exact ⟨SV.imp_refl _, imp_nil, trivial⟩) rfl <| dn <| qq <| sr <| fa rfl rfl <| ld rfl rfl (.cons rfl (.cons rfl (.nil))) <| bE h fun x6 h6 h => cl (whole_Sign_ok h6) ⟨rfl, trivial⟩ <| dn <| ok_block <| sr <| lE h fun x8 h8 h => eq _ rfl rfl (eqI (p := x6) (q := 0) h8) ?_
 refine ag rfl <| dn ?_
 cases x8
 refine cF <| sr <| lE (F h) fun x13 h13 h => eq _ rfl rfl (eqI (p := x6) (q := (-1)) h13) <| ag rfl <| dn ?_
 cases x13
 refine cF <| ok_skip <| AInB.n <| AThen.n <| qq <| ok_region_draw mixed <| fa rfl rfl <| ld rfl rfl (.cons rfl (.cons rfl (.nil))) <| fa rfl rfl <| ld rfl rfl (.cons rfl (.cons rfl (.nil))) <| so rfl rfl rfl <| so rfl rfl rfl ?_
 refine RT.done ⟨by kernel_rfl, ?_⟩
 refine AThen.n <| ok_ret ?_
 obtain rfl := O (F h)
 exact RZ (.agg rfl rfl (.cons rfl (.cons rfl (.nil))) rfl (.agg rfl rfl (.cons rfl (.cons rfl (.nil))) rfl (.nil)))
 refine cT <| qq <| ok_region_draw mixed <| fa rfl rfl <| ld rfl rfl (.cons rfl (.cons rfl (.nil))) ?_
 obtain ⟨⟨x16_0, x16_1⟩, h16, h⟩ := bS (V h)
 refine cl (whole_Neg_ok h16) ⟨rfl, trivial⟩ <| fa rfl rfl <| ld rfl rfl (.cons rfl (.cons rfl (.nil))) ?_
 obtain ⟨⟨x19_0, x19_1⟩, h19, h⟩ := bS h
 refine cl (whole_Neg_ok h19) ⟨rfl, trivial⟩ <| so rfl rfl rfl <| so rfl rfl rfl ?_
 refine RT.done ⟨by kernel_rfl, ?_⟩
 refine AThen.n <| ok_ret <| AInB.r <| AThen.r ?_
 obtain rfl := O h
 exact RZ (.agg rfl rfl (.cons rfl (.cons rfl (.nil))) rfl (.agg rfl rfl (.cons rfl (.cons rfl (.nil))) rfl (.nil)))
 refine cT <| qq <| ok_region_draw mixed <| fa rfl rfl <| ld rfl rfl (.cons rfl (.cons rfl (.nil))) ?_
 obtain ⟨⟨x11_0, x11_1⟩, h11, h⟩ := bS (V h)
 refine cl (whole_FromInt64_ok h11) ⟨rfl, trivial⟩ <| so rfl rfl rfl <| so rfl rfl rfl ?_
 refine RT.done ⟨by kernel_rfl, ?_⟩
 refine AThen.n <| ok_ret <| AInB.r <| AThen.r ?_
 obtain rfl := O h
 exact RZ (.agg rfl rfl (.cons rfl (.cons rfl (.nil))) rfl (.agg rfl rfl (.cons rfl (.cons rfl (.nil))) rfl (.nil)))
theorem frac_reduce_ok {x0 : Zr} {x1 : Zr} {r : Qr} (h : frac_reduce_m x0 x1 = some r) : Pure Tryz.prog 101 [.agg (eZ x0), .agg (eZ x1)] (.agg (eQ r)) := by
 obtain ⟨x0_0, x0_1⟩ := x0
 obtain ⟨x1_0, x1_1⟩ := x1
 refine pure_of_ok Tryz.func101 rfl (Nat.le_of_ble_eq_true rfl) (fun wld M vs hvs => ?_)
 unfold frac_reduce_m at h
 refine sr <| bx rfl <| bx rfl <| al (cs := [.v (.bool false), slc 1 (List.map eU32 []), .v (.bool false), slc 1 (List.map eU32 [])]) (by exact ⟨SV.imp_refl _, imp_nil, SV.imp_refl _, imp_nil, trivial⟩) rfl <| dn <| qq <| sr <| ld rfl rfl (.cons rfl (.cons rfl (.nil))) <| bE h fun x9 h9 h => cl (whole_Sign_ok h9) ⟨rfl, trivial⟩ <| lE h fun x10 h10 h => ls _ rfl rfl h10 <| dn ?_
 refine ok_tailJ h (fun j2 => AS.mkL 46 [(2, .ptr 2 0), (3, .ptr 3 0), (4, .ptr 4 0)] [(4, ⟨36, [.sv (.v (.bool false)), .sv (slc 1 (List.map eU32 [])), .sv (.v (.bool false)), .sv (slc 1 (List.map eU32 []))]⟩), (3, ⟨34, [.sv (.v (.bool j2.1)), .sv (slc 1 (List.map eU32 j2.2.1))]⟩), (2, ⟨34, [.sv (.v (.bool j2.2.2.1)), .sv (slc 1 (List.map eU32 j2.2.2.2))]⟩)] []) (fun h => ?_) (fun j2 h => ?_)
 cases x10
 exact fs <| ⟨(x1_0, x1_1, x0_0, x0_1), (F h), wR []⟩
 refine cT <| ok_region_draw mixed <| ld rfl rfl (.cons rfl (.cons rfl (.nil))) ?_
 obtain ⟨⟨x12_0, x12_1⟩, h12, h⟩ := bS (V h)
 refine cl (whole_Neg_ok h12) ⟨rfl, trivial⟩ <| ld rfl rfl (.cons rfl (.cons rfl (.nil))) ?_
 obtain ⟨⟨x14_0, x14_1⟩, h14, h⟩ := bS h
 refine cl (whole_Neg_ok h14) ⟨rfl, trivial⟩ <| so rfl rfl rfl <| so rfl rfl rfl ?_
 refine RT.done ⟨by kernel_rfl, ?_⟩
 exact AThen.n <| ⟨(x14_0, x14_1, x12_0, x12_1), h, wR []⟩
 obtain ⟨b3_0j1, b3_1j1, b2_0j1, b2_1j1⟩ := j2
 try dsimp only
 refine AThen.n <| sr <| ld rfl rfl (.cons rfl (.cons rfl (.nil))) <| ld rfl rfl (.cons rfl (.cons rfl (.nil))) ?_
 obtain ⟨⟨x17_0, x17_1⟩, h17, h⟩ := bS h
 refine cl (whole_GCD_ok h17) ⟨rfl, rfl, trivial⟩ <| al (cs := [.v (.bool false), slc 1 (List.map eU32 [])]) (by exact ⟨SV.imp_refl _, imp_nil, trivial⟩) rfl <| so rfl rfl rfl <| dn <| sr <| ld rfl rfl (.cons rfl (.cons rfl (.nil))) <| ld rfl rfl (.cons rfl (.cons rfl (.nil))) ?_
 obtain ⟨⟨⟨x21a_0, x21a_1⟩, ⟨x21b_0, x21b_1⟩, x21c⟩, h21, h⟩ := bS h
 refine cl (whole_DivMod_ok h21) ⟨rfl, rfl, trivial⟩ <| mv rfl <| ex rfl rfl <| ex rfl rfl <| ex rfl rfl <| so rfl rfl rfl <| dn <| sr <| ld rfl rfl (.cons rfl (.cons rfl (.nil))) <| ld rfl rfl (.cons rfl (.cons rfl (.nil))) ?_
 obtain ⟨⟨⟨x28a_0, x28a_1⟩, ⟨x28b_0, x28b_1⟩, x28c⟩, h28, h⟩ := bS h
 refine cl (whole_DivMod_ok h28) ⟨rfl, rfl, trivial⟩ <| mv rfl <| ex rfl rfl <| ex rfl rfl <| ex rfl rfl <| so rfl rfl rfl <| dn <| qq <| sr <| ld rfl rfl (.cons rfl (.cons rfl (.nil))) ?_
 obtain ⟨⟨x34a, x34b⟩, h34, h⟩ := bS h
 refine cl (whole_Int64_ok h34) ⟨rfl, trivial⟩ <| mv rfl <| ex rfl rfl <| ex rfl rfl <| ag rfl <| ag rfl <| dn <| qq ?_
 refine ok_tailJ h (fun j5 => AS.mkL 46 [(2, .ptr 2 0), (3, .ptr 3 0), (4, .ptr 4 0), (41, .sv (.v (.bool j5)))] [(4, ⟨36, [.sv (.v (.bool false)), .sv (slc 1 (List.map eU32 [])), .sv (.v (.bool false)), .sv (slc 1 (List.map eU32 []))]⟩), (3, ⟨34, [.sv (.v (.bool x28a_0)), .sv (slc 1 (List.map eU32 x28a_1))]⟩), (2, ⟨34, [.sv (.v (.bool x21a_0)), .sv (slc 1 (List.map eU32 x21a_1))]⟩)] []) (fun h => ?_) (fun y41j4 h => ?_)
 refine ok_region <| mv rfl <| mv rfl <| bE h fun c41_8 hg8 h => ?_
 cases x34b
 obtain rfl := O (F hg8)
 exact ww <| ww <| pF rfl <| dn <| ⟨false, h, wR []⟩
 refine gm rfl <| lE (V hg8) fun x40 h40 hg8 => ge_ _ rfl rfl (eqI (p := x34a) (q := 1) h40) ?_
 obtain rfl := O hg8
 exact pT rfl <| dn <| ⟨x40, h, wR []⟩
 try dsimp only
 refine AThen.n ?_
 refine ok_tailJ h (fun j7 => AS.mkL 46 [(2, .ptr 2 0), (3, .ptr 3 0), (4, .ptr 4 0)] [(4, ⟨36, [.sv (.v (.bool false)), .sv (slc 1 (List.map eU32 [])), .sv (.v (.bool false)), .sv (slc 1 (List.map eU32 []))]⟩), (3, ⟨34, [.sv (.v (.bool j7.1)), .sv (slc 1 (List.map eU32 j7.2))]⟩), (2, ⟨34, [.sv (.v (.bool x21a_0)), .sv (slc 1 (List.map eU32 x21a_1))]⟩)] []) (fun h => ?_) (fun j7 h => ?_)
 cases y41j4
 exact fs <| ⟨(x28a_0, x28a_1), (F h), wR []⟩
 exact cT <| ok_region <| bI (cs := [_, _]) (cs' := [.v (.bool false), slc 1 (List.map eU32 [])]) (.nil) ⟨SV.imp_refl _, imp_nil, trivial⟩ <| so rfl rfl rfl <| dn <| ⟨(false, []), (V h), wR []⟩
 obtain ⟨b3_0j6, b3_1j6⟩ := j7
 try dsimp only
 refine AThen.n <| sr <| ld rfl rfl (.cons rfl (.cons rfl (.nil))) <| ld rfl rfl (.cons rfl (.cons rfl (.nil))) <| bI (cs := [_, _, _, _]) (cs' := [.v (.bool x21a_0), slc 1 (List.map eU32 x21a_1), .v (.bool b3_0j6), slc 1 (List.map eU32 b3_1j6)]) (.agg rfl (.agg rfl (.nil))) ⟨SV.imp_refl _, SV.imp_refl _, SV.imp_refl _, SV.imp_refl _, trivial⟩ <| so rfl rfl rfl <| dn <| ok_ret ?_
 obtain rfl := O h
 exact RZ (.agg rfl rfl (.cons rfl (.cons rfl (.cons rfl (.cons rfl (.nil))))) rfl (.nil))
theorem frac_short_ok {x0 : Qr} {r : Int × Int × Bool} (h : frac_short_m x0 = some r) : Pure Tryz.prog 65 [.agg (eQ x0)] (.tup [.v (.int .i64 r.1), .v (.int .i64 r.2.1), .v (.bool r.2.2)]) := by
 obtain ⟨⟨x0_0, x0_1⟩, ⟨x0_2, x0_3⟩⟩ := x0
 refine pure_of_ok Tryz.func65 rfl (Nat.le_of_ble_eq_true rfl) (fun wld M vs hvs => ?_)
 unfold frac_short_m at h
 refine sr <| bx rfl <| ag rfl <| ag rfl <| ag rfl <| dn <| sr <| fa rfl rfl <| ld rfl rfl (.cons rfl (.cons rfl (.nil))) ?_
 obtain ⟨⟨x10a, x10b⟩, h10, h⟩ := bS h
 refine cl (whole_Int64_ok h10) ⟨rfl, trivial⟩ <| mv rfl <| ex rfl rfl <| ex rfl rfl <| ag rfl <| ag rfl <| dn <| sr <| fa rfl rfl <| ld rfl rfl (.cons rfl (.cons rfl (.nil))) ?_
 obtain ⟨⟨x16a, x16b⟩, h16, h⟩ := bS h
 refine cl (whole_Int64_ok h16) ⟨rfl, trivial⟩ <| mv rfl <| ex rfl rfl <| ex rfl rfl <| ag rfl <| ag rfl <| dn <| qq <| qq ?_
 refine ok_tailJ h (fun j21 => AS.mkL 53 [(2, .sv (.v (.int .i64 x10a))), (3, .sv (.v (.int .i64 x16a))), (40, .sv (.v (.bool j21)))] [] []) (fun h => ?_) (fun y40j20 h => ?_)
 refine ok_region <| mv rfl <| lE h fun x20 h20 h => nt rfl _ h20 <| mv rfl <| bE h fun c24_27 hg27 h => ?_
 cases x20
 refine gm rfl <| lE (F hg27) fun x23 h23 hg27 => gt_ rfl _ h23 ?_
 obtain rfl := O hg27
 refine pF rfl <| mv rfl <| bE h fun c28_28 hg28 h => ?_
 cases x23
 refine gm rfl <| lE (F hg28) fun x27 h27 hg28 => RT.leq (.some rfl rfl) _ rfl rfl T h27 ?_
 obtain rfl := O hg28
 refine pF rfl <| mv rfl <| bE h fun c32_29 hg29 h => ?_
 cases x27
 refine gm rfl <| lE (F hg29) fun x31 h31 hg29 => RT.geq (.some rfl rfl) _ rfl rfl T h31 ?_
 obtain rfl := O hg29
 refine pF rfl <| mv rfl <| bE h fun c36_30 hg30 h => ?_
 cases x31
 refine gm rfl <| lE (F hg30) fun x35 h35 hg30 => RT.leq (.some rfl rfl) _ rfl rfl T h35 ?_
 obtain rfl := O hg30
 refine pF rfl <| mv rfl <| bE h fun c40_31 hg31 h => ?_
 cases x35
 refine gm rfl <| lE (F hg31) fun x39 h39 hg31 => RT.geq (.some rfl rfl) _ rfl rfl T h39 ?_
 obtain rfl := O hg31
 exact pF rfl <| dn <| ⟨x39, h, wR []⟩
 obtain rfl := O (V hg31)
 exact ww <| ww <| pT rfl <| dn <| ⟨true, h, wR []⟩
 obtain rfl := O (V hg30)
 refine ww <| ww <| pT rfl <| mv rfl <| bE h fun c40_32 hg32 h => ?_
 obtain rfl := O (V hg32)
 exact ww <| ww <| pT rfl <| dn <| ⟨true, h, wR []⟩
 obtain rfl := O (V hg29)
 refine ww <| ww <| pT rfl <| mv rfl <| bE h fun c36_33 hg33 h => ?_
 obtain rfl := O (V hg33)
 refine ww <| ww <| pT rfl <| mv rfl <| bE h fun c40_34 hg34 h => ?_
 obtain rfl := O (V hg34)
 exact ww <| ww <| pT rfl <| dn <| ⟨true, h, wR []⟩
 obtain rfl := O (V hg28)
 refine ww <| ww <| pT rfl <| mv rfl <| bE h fun c32_35 hg35 h => ?_
 obtain rfl := O (V hg35)
 refine ww <| ww <| pT rfl <| mv rfl <| bE h fun c36_36 hg36 h => ?_
 obtain rfl := O (V hg36)
 refine ww <| ww <| pT rfl <| mv rfl <| bE h fun c40_37 hg37 h => ?_
 obtain rfl := O (V hg37)
 exact ww <| ww <| pT rfl <| dn <| ⟨true, h, wR []⟩
 obtain rfl := O (V hg27)
 refine ww <| ww <| pT rfl <| mv rfl <| bE h fun c28_38 hg38 h => ?_
 obtain rfl := O (V hg38)
 refine ww <| ww <| pT rfl <| mv rfl <| bE h fun c32_39 hg39 h => ?_
 obtain rfl := O (V hg39)
 refine ww <| ww <| pT rfl <| mv rfl <| bE h fun c36_40 hg40 h => ?_
 obtain rfl := O (V hg40)
 refine ww <| ww <| pT rfl <| mv rfl <| bE h fun c40_41 hg41 h => ?_
 obtain rfl := O (V hg41)
 exact ww <| ww <| pT rfl <| dn <| ⟨true, h, wR []⟩
 try dsimp only
 refine AThen.n ?_
 cases y40j20
 refine fs <| qq <| ok_block <| sr <| mv rfl <| lE (F h) fun x43 h43 h => eq _ rfl rfl (eqI (p := x16a) (q := 0) h43) <| ag rfl <| dn ?_
 refine ok_tailJ h (fun j24 => AS.mkL 53 [(2, .sv (.v (.int .i64 j24.1))), (3, .sv (.v (.int .i64 j24.2)))] [] []) (fun h => ?_) (fun j24 h => ?_)
 cases x43
 refine cF <| sr <| mv rfl <| lE (F h) fun x46 h46 h => ls _ rfl rfl h46 <| ag rfl <| dn ?_
 refine ok_tailJ h (fun j26 => AS.mkL 53 [(2, .sv (.v (.int .i64 j26.1))), (3, .sv (.v (.int .i64 j26.2)))] [] []) (fun h => ?_) (fun j26 h => ?_)
 cases x46
 exact fs <| ⟨(x10a, x16a), (F h), wR []⟩
 exact cT <| ok_region <| mv rfl <| lE (V h) fun x48 h48 h => RT.neg .none _ rfl T h48 <| mv rfl <| lE h fun x50 h50 h => RT.neg .none _ rfl T h50 <| ag rfl <| ag rfl <| dn <| ⟨(x48, x50), h, wR []⟩
 obtain ⟨y2j25, y3j25⟩ := j26
 try dsimp only
 exact AThen.n <| ⟨(y2j25, y3j25), h, wR []⟩
 exact cT <| ok_region <| ag rfl <| dn <| ⟨(x10a, 1), (V h), wR []⟩
 obtain ⟨y2j23, y3j23⟩ := j24
 try dsimp only
 refine AInB.n <| AThen.n <| sr <| mv rfl <| mv rfl <| ag rfl <| ag rfl <| ag rfl <| dn <| ok_ret ?_
 obtain rfl := O h
 exact RZ (.tmp rfl (.tmp rfl (.tmp rfl (.nil))))
 refine cT <| sr <| ag rfl <| ag rfl <| ag rfl <| dn <| ok_ret <| AThen.r ?_
 obtain rfl := O (V h)
 exact RZ (.tmp rfl (.tmp rfl (.tmp rfl (.nil))))
theorem frac_ratio_ok {x0 : Int} {x1 : Int} {r : Qr} (h : frac_ratio_m x0 x1 = some r) : Pure Tryz.prog 66 [.v (.int .i64 x0), .v (.int .i64 x1)] (.agg (eQ r)) := by
 refine pure_of_ok Tryz.func66 rfl (Nat.le_of_ble_eq_true rfl) (fun wld M vs hvs => ?_)
 unfold frac_ratio_m at h
 refine sr <| al (cs := [.v (.bool false), slc 1 (List.map eU32 []), .v (.bool false), slc 1 (List.map eU32 [])]) (by exact ⟨SV.imp_refl _, imp_nil, SV.imp_refl _, imp_nil, trivial⟩) rfl <| dn <| sr <| mv rfl <| mv rfl <| ag rfl <| ag rfl <| dn <| qq <| bE h fun e6 hl6 ho6 => ?_
 refine ok_tailP (fun (y5e5 : Int) => AS.mkL 36 [(0, .sv (.v (.int .i64 x0))), (1, .sv (.v (.int .i64 x1))), (4, .ptr 4 0), (5, .sv (.v (.int .i64 y5e5)))] [(4, ⟨36, [.sv (.v (.bool false)), .sv (slc 1 (List.map eU32 [])), .sv (.v (.bool false)), .sv (slc 1 (List.map eU32 []))]⟩)] []) (fun y5e5 => y5e5 = e6) ?_ (fun y5e5 hx6 => ?_)
 refine ok_block ?_
 refine ok_loopM hl6 (fun s6 => AS.mkL 36 [(0, .sv (.v (.int .i64 x0))), (1, .sv (.v (.int .i64 x1))), (4, .ptr 4 0), (5, .sv (.v (.int .i64 s6.1))), (6, .sv (.v (.int .i64 s6.2)))] [(4, ⟨36, [.sv (.v (.bool false)), .sv (slc 1 (List.map eU32 [])), .sv (.v (.bool false)), .sv (slc 1 (List.map eU32 []))]⟩)] []) (wR []) (fun s6 y6 G6 h hG6 hE6 => ?_)
 obtain ⟨y5l3, y6l3⟩ := s6
 try dsimp only
 refine qq <| sr <| mv rfl <| lE h fun x10 h10 h => ne _ rfl rfl (neI (p := y6l3) (q := 0) h10) <| dn ?_
 cases x10
 refine cF <| ok_exit <| AThen.x <| AThen.x <| AInB.x <| AThen.n ?_
 obtain rfl := O (F h)
 exact ⟨y5l3, hE6 _ rfl, wR []⟩
 refine cT <| ok_skip <| AThen.n <| ok_block <| ok_region_draw mixed <| mv rfl <| mv rfl <| mv rfl <| bE (V h) fun x14 h14 h => RT.rem .none _ rfl rfl T (nzRI h14) (remI h14) <| ag rfl <| ag rfl ?_
 refine RT.done ⟨by kernel_rfl, ?_⟩
 refine AInB.n ?_
 obtain rfl := O h
 exact AThen.n ⟨(y6l3, x14), hG6 _ rfl, wR []⟩
 subst hx6
 try dsimp only
 refine AThen.n <| qq <| sr <| mv rfl <| lE ho6 fun x16 h16 ho6 => ls _ rfl rfl h16 <| dn ?_
 refine ok_tailJ ho6 (fun j8 => AS.mkL 36 [(0, .sv (.v (.int .i64 x0))), (1, .sv (.v (.int .i64 x1))), (4, .ptr 4 0), (5, .sv (.v (.int .i64 j8)))] [(4, ⟨36, [.sv (.v (.bool false)), .sv (slc 1 (List.map eU32 [])), .sv (.v (.bool false)), .sv (slc 1 (List.map eU32 []))]⟩)] []) (fun ho6 => ?_) (fun y5j7 ho6 => ?_)
 cases x16
 exact fs <| ⟨y5e5, (F ho6), wR []⟩
 exact cT <| ok_region <| mv rfl <| lE (V ho6) fun x18 h18 ho6 => RT.neg .none _ rfl T h18 <| ag rfl <| dn <| ⟨x18, ho6, wR []⟩
 try dsimp only
 refine AThen.n <| qq <| sr <| mv rfl <| mv rfl <| lE ho6 fun x21 h21 ho6 => eq _ rfl rfl (eqI (p := y5j7) (q := x1) h21) <| dn ?_
 cases x21
 refine fs <| qq <| ok_region_draw mixed <| mv rfl <| mv rfl <| bE (F ho6) fun x29 h29 ho6 => RT.quo .none _ rfl rfl T (nzI h29) (quoI h29) ?_
 obtain ⟨⟨x30_0, x30_1⟩, h30, ho6⟩ := bS ho6
 refine cl (whole_FromInt64_ok h30) ⟨rfl, trivial⟩ <| mv rfl <| mv rfl <| bE ho6 fun x33 h33 ho6 => RT.quo .none _ rfl rfl T (nzI h33) (quoI h33) ?_
 obtain ⟨⟨x34_0, x34_1⟩, h34, ho6⟩ := bS ho6
 refine cl (whole_FromInt64_ok h34) ⟨rfl, trivial⟩ <| bI (cs := [_, _, _, _]) (cs' := [.v (.bool x30_0), slc 1 (List.map eU32 x30_1), .v (.bool x34_0), slc 1 (List.map eU32 x34_1)]) (.agg rfl (.agg rfl (.nil))) ⟨SV.imp_refl _, SV.imp_refl _, SV.imp_refl _, SV.imp_refl _, trivial⟩ <| so rfl rfl rfl ?_
 refine RT.done ⟨by kernel_rfl, ?_⟩
 refine AThen.n <| ok_ret ?_
 obtain rfl := O ho6
 exact RZ (.agg rfl rfl (.cons rfl (.cons rfl (.cons rfl (.cons rfl (.nil))))) rfl (.nil))
 refine cT <| sr <| mv rfl <| mv rfl <| bE (V ho6) fun x24 h24 ho6 => RT.quo .none _ rfl rfl T (nzI h24) (quoI h24) ?_
 obtain ⟨⟨x25_0, x25_1⟩, h25, ho6⟩ := bS ho6
 refine cl (whole_FromInt64_ok h25) ⟨rfl, trivial⟩ <| bI (cs := [_, _, _, _]) (cs' := [.v (.bool x25_0), slc 1 (List.map eU32 x25_1), .v (.bool false), slc 1 (List.map eU32 [])]) (.agg rfl (.nil)) ⟨SV.imp_refl _, SV.imp_refl _, SV.imp_refl _, imp_nil, trivial⟩ <| so rfl rfl rfl <| dn <| ok_ret <| AThen.r ?_
 obtain rfl := O ho6
 exact RZ (.agg rfl rfl (.cons rfl (.cons rfl (.cons rfl (.cons rfl (.nil))))) rfl (.nil))
theorem frac_sign_ok {x0 : Int} {r : Int} (h : frac_sign_m x0 = some r) : Pure Tryz.prog 82 [.v (.int .i64 x0)] (.v (.int .i64 r)) := by
 refine pure_of_ok Tryz.func82 rfl (Nat.le_of_ble_eq_true rfl) (fun wld M vs hvs => ?_)
 unfold frac_sign_m at h
 refine sr <| ag rfl <| dn <| qq <| ok_block <| sr <| mv rfl <| lE h fun x5 h5 h => ls _ rfl rfl h5 <| ag rfl <| dn ?_
 cases x5
 refine cF <| sr <| mv rfl <| lE (F h) fun x8 h8 h => gt _ rfl rfl h8 <| ag rfl <| dn ?_
 cases x8
 refine cF <| ok_skip <| AInB.n <| AThen.n <| sr <| ag rfl <| dn <| ok_ret ?_
 obtain rfl := O (F h)
 exact R1 rfl
 refine cT <| sr <| ag rfl <| dn <| ok_ret <| AInB.r <| AThen.r ?_
 obtain rfl := O (V h)
 exact R1 rfl
 refine cT <| sr <| ag rfl <| dn <| ok_ret <| AInB.r <| AThen.r ?_
 obtain rfl := O (V h)
 exact R1 rfl
theorem frac_calcAdd_ok {x1 : Qr} {x2 : Qr} {r : Qr} (h : frac_calcAdd_m x1 x2 = some r) : Pure Tryz.prog 67 [.v (.int .u8 ((43 : Nat) : Int)), .agg (eQ x1), .agg (eQ x2)] (.agg (eQ r)) := by
 obtain ⟨⟨x1_0, x1_1⟩, ⟨x1_2, x1_3⟩⟩ := x1
 obtain ⟨⟨x2_0, x2_1⟩, ⟨x2_2, x2_3⟩⟩ := x2
 refine pure_of_ok Tryz.func67 rfl (Nat.le_of_ble_eq_true rfl) (fun wld M vs hvs => ?_)
 unfold frac_calcAdd_m at h
 refine sr <| bx rfl <| bx rfl <| al (cs := [.v (.bool false), slc 1 (List.map eU32 []), .v (.bool false), slc 1 (List.map eU32 [])]) (by exact ⟨SV.imp_refl _, imp_nil, SV.imp_refl _, imp_nil, trivial⟩) rfl <| dn <| sr <| ld rfl rfl (.cons rfl (.cons rfl (.cons rfl (.cons rfl (.nil))))) ?_
 obtain ⟨⟨⟨x13a_0, x13a_1⟩, ⟨x13b_0, x13b_1⟩⟩, h13, h⟩ := bS h
 refine cl (frac_parts_ok h13) ⟨rfl, trivial⟩ <| mv rfl <| ex rfl rfl <| ex rfl rfl <| al (cs := [.v (.bool false), slc 1 (List.map eU32 [])]) (by exact ⟨SV.imp_refl _, imp_nil, trivial⟩) rfl <| al (cs := [.v (.bool false), slc 1 (List.map eU32 [])]) (by exact ⟨SV.imp_refl _, imp_nil, trivial⟩) rfl <| so rfl rfl rfl <| so rfl rfl rfl <| dn <| sr <| ld rfl rfl (.cons rfl (.cons rfl (.cons rfl (.cons rfl (.nil))))) ?_
 obtain ⟨⟨⟨x18a_0, x18a_1⟩, ⟨x18b_0, x18b_1⟩⟩, h18, h⟩ := bS h
 refine cl (frac_parts_ok h18) ⟨rfl, trivial⟩ <| mv rfl <| ex rfl rfl <| ex rfl rfl <| al (cs := [.v (.bool false), slc 1 (List.map eU32 [])]) (by exact ⟨SV.imp_refl _, imp_nil, trivial⟩) rfl <| al (cs := [.v (.bool false), slc 1 (List.map eU32 [])]) (by exact ⟨SV.imp_refl _, imp_nil, trivial⟩) rfl <| so rfl rfl rfl <| so rfl rfl rfl <| dn <| qq <| ok_region_draw mixed <| cl frac_operations_ok trivial <| mv rfl ?_
 refine RT.look .none [.func (.func 126) #[] #[]] rfl rfl rfl T <| fl rfl rfl <| ld rfl rfl (.cons rfl (.cons rfl (.nil))) <| ld rfl rfl (.cons rfl (.cons rfl (.nil))) <| ld rfl rfl (.cons rfl (.cons rfl (.nil))) <| ld rfl rfl (.cons rfl (.cons rfl (.nil))) ?_
 obtain ⟨⟨⟨x29a_0, x29a_1⟩, ⟨x29b_0, x29b_1⟩⟩, h29, h⟩ := bS h
 refine cl (frac_operations_1_ok h29) ⟨rfl, rfl, rfl, rfl, trivial⟩ <| ex rfl rfl <| ex rfl rfl ?_
 obtain ⟨⟨⟨x32_0, x32_1⟩, ⟨x32_2, x32_3⟩⟩, h32, h⟩ := bS h
 refine cl (frac_reduce_ok h32) ⟨rfl, rfl, trivial⟩ <| so rfl rfl rfl ?_
 refine RT.done ⟨by kernel_rfl, ?_⟩
 refine AThen.n <| ok_ret ?_
 obtain rfl := O h
 exact RZ (.agg rfl rfl (.cons rfl (.cons rfl (.cons rfl (.cons rfl (.nil))))) rfl (.nil))
theorem frac_calcSub_ok {x1 : Qr} {x2 : Qr} {r : Qr} (h : frac_calcSub_m x1 x2 = some r) : Pure Tryz.prog 67 [.v (.int .u8 ((45 : Nat) : Int)), .agg (eQ x1), .agg (eQ x2)] (.agg (eQ r)) := by
 obtain ⟨⟨x1_0, x1_1⟩, ⟨x1_2, x1_3⟩⟩ := x1
 obtain ⟨⟨x2_0, x2_1⟩, ⟨x2_2, x2_3⟩⟩ := x2
 refine pure_of_ok Tryz.func67 rfl (Nat.le_of_ble_eq_true rfl) (fun wld M vs hvs => ?_)
 unfold frac_calcSub_m at h
 refine sr <| bx rfl <| bx rfl <| al (cs := [.v (.bool false), slc 1 (List.map eU32 []), .v (.bool false), slc 1 (List.map eU32 [])]) (by exact ⟨SV.imp_refl _, imp_nil, SV.imp_refl _, imp_nil, trivial⟩) rfl <| dn <| sr <| ld rfl rfl (.cons rfl (.cons rfl (.cons rfl (.cons rfl (.nil))))) ?_
 obtain ⟨⟨⟨x13a_0, x13a_1⟩, ⟨x13b_0, x13b_1⟩⟩, h13, h⟩ := bS h
 refine cl (frac_parts_ok h13) ⟨rfl, trivial⟩ <| mv rfl <| ex rfl rfl <| ex rfl rfl <| al (cs := [.v (.bool false), slc 1 (List.map eU32 [])]) (by exact ⟨SV.imp_refl _, imp_nil, trivial⟩) rfl <| al (cs := [.v (.bool false), slc 1 (List.map eU32 [])]) (by exact ⟨SV.imp_refl _, imp_nil, trivial⟩) rfl <| so rfl rfl rfl <| so rfl rfl rfl <| dn <| sr <| ld rfl rfl (.cons rfl (.cons rfl (.cons rfl (.cons rfl (.nil))))) ?_
 obtain ⟨⟨⟨x18a_0, x18a_1⟩, ⟨x18b_0, x18b_1⟩⟩, h18, h⟩ := bS h
 refine cl (frac_parts_ok h18) ⟨rfl, trivial⟩ <| mv rfl <| ex rfl rfl <| ex rfl rfl <| al (cs := [.v (.bool false), slc 1 (List.map eU32 [])]) (by exact ⟨SV.imp_refl _, imp_nil, trivial⟩) rfl <| al (cs := [.v (.bool false), slc 1 (List.map eU32 [])]) (by exact ⟨SV.imp_refl _, imp_nil, trivial⟩) rfl <| so rfl rfl rfl <| so rfl rfl rfl <| dn <| qq <| ok_region_draw mixed <| cl frac_operations_ok trivial <| mv rfl ?_
 refine RT.look .none [.func (.func 128) #[] #[]] rfl rfl rfl T <| fl rfl rfl <| ld rfl rfl (.cons rfl (.cons rfl (.nil))) <| ld rfl rfl (.cons rfl (.cons rfl (.nil))) <| ld rfl rfl (.cons rfl (.cons rfl (.nil))) <| ld rfl rfl (.cons rfl (.cons rfl (.nil))) ?_
 obtain ⟨⟨⟨x29a_0, x29a_1⟩, ⟨x29b_0, x29b_1⟩⟩, h29, h⟩ := bS h
 refine cl (frac_operations_2_ok h29) ⟨rfl, rfl, rfl, rfl, trivial⟩ <| ex rfl rfl <| ex rfl rfl ?_
 obtain ⟨⟨⟨x32_0, x32_1⟩, ⟨x32_2, x32_3⟩⟩, h32, h⟩ := bS h
 refine cl (frac_reduce_ok h32) ⟨rfl, rfl, trivial⟩ <| so rfl rfl rfl ?_
 refine RT.done ⟨by kernel_rfl, ?_⟩
 refine AThen.n <| ok_ret ?_
 obtain rfl := O h
 exact RZ (.agg rfl rfl (.cons rfl (.cons rfl (.cons rfl (.cons rfl (.nil))))) rfl (.nil))
theorem frac_calcMul_ok {x1 : Qr} {x2 : Qr} {r : Qr} (h : frac_calcMul_m x1 x2 = some r) : Pure Tryz.prog 67 [.v (.int .u8 ((42 : Nat) : Int)), .agg (eQ x1), .agg (eQ x2)] (.agg (eQ r)) := by
 obtain ⟨⟨x1_0, x1_1⟩, ⟨x1_2, x1_3⟩⟩ := x1
 obtain ⟨⟨x2_0, x2_1⟩, ⟨x2_2, x2_3⟩⟩ := x2
 refine pure_of_ok Tryz.func67 rfl (Nat.le_of_ble_eq_true rfl) (fun wld M vs hvs => ?_)
 unfold frac_calcMul_m at h
 refine sr <| bx rfl <| bx rfl <| al (cs := [.v (.bool false), slc 1 (List.map eU32 []), .v (.bool false), slc 1 (List.map eU32 [])]) (by exact ⟨SV.imp_refl _, imp_nil, SV.imp_refl _, imp_nil, trivial⟩) rfl <| dn <| sr <| ld rfl rfl (.cons rfl (.cons rfl (.cons rfl (.cons rfl (.nil))))) ?_
 obtain ⟨⟨⟨x13a_0, x13a_1⟩, ⟨x13b_0, x13b_1⟩⟩, h13, h⟩ := bS h
 refine cl (frac_parts_ok h13) ⟨rfl, trivial⟩ <| mv rfl <| ex rfl rfl <| ex rfl rfl <| al (cs := [.v (.bool false), slc 1 (List.map eU32 [])]) (by exact ⟨SV.imp_refl _, imp_nil, trivial⟩) rfl <| al (cs := [.v (.bool false), slc 1 (List.map eU32 [])]) (by exact ⟨SV.imp_refl _, imp_nil, trivial⟩) rfl <| so rfl rfl rfl <| so rfl rfl rfl <| dn <| sr <| ld rfl rfl (.cons rfl (.cons rfl (.cons rfl (.cons rfl (.nil))))) ?_
 obtain ⟨⟨⟨x18a_0, x18a_1⟩, ⟨x18b_0, x18b_1⟩⟩, h18, h⟩ := bS h
 refine cl (frac_parts_ok h18) ⟨rfl, trivial⟩ <| mv rfl <| ex rfl rfl <| ex rfl rfl <| al (cs := [.v (.bool false), slc 1 (List.map eU32 [])]) (by exact ⟨SV.imp_refl _, imp_nil, trivial⟩) rfl <| al (cs := [.v (.bool false), slc 1 (List.map eU32 [])]) (by exact ⟨SV.imp_refl _, imp_nil, trivial⟩) rfl <| so rfl rfl rfl <| so rfl rfl rfl <| dn <| qq <| ok_region_draw mixed <| cl frac_operations_ok trivial <| mv rfl ?_
 refine RT.look .none [.func (.func 130) #[] #[]] rfl rfl rfl T <| fl rfl rfl <| ld rfl rfl (.cons rfl (.cons rfl (.nil))) <| ld rfl rfl (.cons rfl (.cons rfl (.nil))) <| ld rfl rfl (.cons rfl (.cons rfl (.nil))) <| ld rfl rfl (.cons rfl (.cons rfl (.nil))) ?_
 obtain ⟨⟨⟨x29a_0, x29a_1⟩, ⟨x29b_0, x29b_1⟩⟩, h29, h⟩ := bS h
 refine cl (frac_operations_3_ok h29) ⟨rfl, rfl, rfl, rfl, trivial⟩ <| ex rfl rfl <| ex rfl rfl ?_
 obtain ⟨⟨⟨x32_0, x32_1⟩, ⟨x32_2, x32_3⟩⟩, h32, h⟩ := bS h
 refine cl (frac_reduce_ok h32) ⟨rfl, rfl, trivial⟩ <| so rfl rfl rfl ?_
 refine RT.done ⟨by kernel_rfl, ?_⟩
 refine AThen.n <| ok_ret ?_
 obtain rfl := O h
 exact RZ (.agg rfl rfl (.cons rfl (.cons rfl (.cons rfl (.cons rfl (.nil))))) rfl (.nil))
end Go.Proofs.YtfoldppidpmchaaGreat
namespace Go.Proofs.YtfoldppidpmchaaGreat
open Go.Fw Go.Fw.Z Go.RowKit
theorem frac_FromInt64_ok {x0 : Int} {r : Qr} (h : frac_FromInt64_m x0 = some r) : Pure Tryz.prog 54 [.v (.int .i64 x0)] (.agg (eQ r)) := by
 refine pure_of_ok Tryz.func54 rfl (Nat.le_of_ble_eq_true rfl) (fun wld M vs hvs => ?_)
 unfold frac_FromInt64_m at h
 refine sr <| al (cs := [.v (.bool false), slc 1 (List.map eU32 []), .v (.bool false), slc 1 (List.map eU32 [])]) (by exact ⟨SV.imp_refl _, imp_nil, SV.imp_refl _, imp_nil, trivial⟩) rfl <| dn <| sr <| mv rfl ?_
 obtain ⟨⟨x4_0, x4_1⟩, h4, h⟩ := bS h
 refine cl (whole_FromInt64_ok h4) ⟨rfl, trivial⟩ <| bI (cs := [_, _, _, _]) (cs' := [.v (.bool x4_0), slc 1 (List.map eU32 x4_1), .v (.bool false), slc 1 (List.map eU32 [])]) (.agg rfl (.nil)) ⟨SV.imp_refl _, SV.imp_refl _, SV.imp_refl _, imp_nil, trivial⟩ <| so rfl rfl rfl <| dn <| ok_ret ?_
 obtain rfl := O h
 exact RZ (.agg rfl rfl (.cons rfl (.cons rfl (.cons rfl (.cons rfl (.nil))))) rfl (.nil))
theorem frac_Canonical_ok {x0 : Qr} {r : Qr} (h : frac_Canonical_m x0 = some r) : Pure Tryz.prog 94 [.agg (eQ x0)] (.agg (eQ r)) := by
 obtain ⟨⟨x0_0, x0_1⟩, ⟨x0_2, x0_3⟩⟩ := x0
 refine pure_of_ok Tryz.func94 rfl (Nat.le_of_ble_eq_true rfl) (fun wld M vs hvs => ?_)
 unfold frac_Canonical_m at h
 refine sr <| bx rfl <| al (cs := [.v (.bool false), slc 1 (List.map eU32 []), .v (.bool false), slc 1 (List.map eU32 [])]) (by exact ⟨SV.imp_refl _, imp_nil, SV.imp_refl _, imp_nil, trivial⟩) rfl <| dn <| qq <| sr <| ld rfl rfl (.cons rfl (.cons rfl (.cons rfl (.cons rfl (.nil))))) ?_
 obtain ⟨⟨x8a, x8b, x8c⟩, h8, h⟩ := bS h
 refine cl (frac_short_ok h8) ⟨rfl, trivial⟩ <| mv rfl <| ex rfl rfl <| ex rfl rfl <| ex rfl rfl <| ag rfl <| ag rfl <| ag rfl <| dn <| sr <| mv rfl <| dn ?_
 cases x8c
 refine fs <| sr <| ld rfl rfl (.cons rfl (.cons rfl (.cons rfl (.cons rfl (.nil))))) ?_
 obtain ⟨⟨⟨x17a_0, x17a_1⟩, ⟨x17b_0, x17b_1⟩⟩, h17, h⟩ := bS (F h)
 refine cl (frac_parts_ok h17) ⟨rfl, trivial⟩ <| ex rfl rfl <| ex rfl rfl ?_
 obtain ⟨⟨⟨x20_0, x20_1⟩, ⟨x20_2, x20_3⟩⟩, h20, h⟩ := bS h
 refine cl (frac_reduce_ok h20) ⟨rfl, rfl, trivial⟩ <| so rfl rfl rfl <| dn <| ok_ret ?_
 obtain rfl := O h
 exact RZ (.agg rfl rfl (.cons rfl (.cons rfl (.cons rfl (.cons rfl (.nil))))) rfl (.nil))
 refine cT <| sr <| mv rfl <| mv rfl ?_
 obtain ⟨⟨⟨x15_0, x15_1⟩, ⟨x15_2, x15_3⟩⟩, h15, h⟩ := bS (V h)
 refine cl (frac_ratio_ok h15) ⟨rfl, rfl, trivial⟩ <| so rfl rfl rfl <| dn <| ok_ret <| AThen.r ?_
 obtain rfl := O h
 exact RZ (.agg rfl rfl (.cons rfl (.cons rfl (.cons rfl (.cons rfl (.nil))))) rfl (.nil))
theorem frac_Sign_ok {x0 : Qr} {r : Int} (h : frac_Sign_m x0 = some r) : Pure Tryz.prog 22 [.agg (eQ x0)] (.v (.int .i64 r)) := by
 obtain ⟨⟨x0_0, x0_1⟩, ⟨x0_2, x0_3⟩⟩ := x0
 refine pure_of_ok Tryz.func22 rfl (Nat.le_of_ble_eq_true rfl) (fun wld M vs hvs => ?_)
 unfold frac_Sign_m at h
 refine sr <| bx rfl <| ag rfl <| dn <| qq <| sr <| fa rfl rfl <| ld rfl rfl (.cons rfl (.cons rfl (.nil))) <| bE h fun x5 h5 h => cl (whole_Sign_ok h5) ⟨rfl, trivial⟩ <| lE h fun x6 h6 h => ls _ rfl rfl h6 <| dn ?_
 cases x6
 refine fs <| sr <| fa rfl rfl <| ld rfl rfl (.cons rfl (.cons rfl (.nil))) <| bE (F h) fun x13 h13 h => cl (whole_Sign_ok h13) ⟨rfl, trivial⟩ <| ag rfl <| dn <| ok_ret ?_
 obtain rfl := O h
 exact R1 rfl
 refine cT <| sr <| fa rfl rfl <| ld rfl rfl (.cons rfl (.cons rfl (.nil))) <| bE (V h) fun x9 h9 h => cl (whole_Sign_ok h9) ⟨rfl, trivial⟩ <| lE h fun x10 h10 h => RT.neg .none _ rfl T h10 <| ag rfl <| dn <| ok_ret <| AThen.r ?_
 obtain rfl := O h
 exact R1 rfl
theorem frac_Add_ok {x0 : Qr} {x1 : Qr} {r : Qr} (h : frac_Add_m x0 x1 = some r) : Pure Tryz.prog 23 [.agg (eQ x0), .agg (eQ x1)] (.agg (eQ r)) := by
 obtain ⟨⟨x0_0, x0_1⟩, ⟨x0_2, x0_3⟩⟩ := x0
 obtain ⟨⟨x1_0, x1_1⟩, ⟨x1_2, x1_3⟩⟩ := x1
 refine pure_of_ok Tryz.func23 rfl (Nat.le_of_ble_eq_true rfl) (fun wld M vs hvs => ?_)
 unfold frac_Add_m at h
 refine sr <| bx rfl <| bx rfl <| al (cs := [.v (.bool false), slc 1 (List.map eU32 []), .v (.bool false), slc 1 (List.map eU32 [])]) (by exact ⟨SV.imp_refl _, imp_nil, SV.imp_refl _, imp_nil, trivial⟩) rfl <| dn <| sr <| ld rfl rfl (.cons rfl (.cons rfl (.cons rfl (.cons rfl (.nil))))) ?_
 obtain ⟨⟨x13a, x13b, x13c⟩, h13, h⟩ := bS h
 refine cl (frac_short_ok h13) ⟨rfl, trivial⟩ <| mv rfl <| ex rfl rfl <| ex rfl rfl <| ex rfl rfl <| ag rfl <| ag rfl <| ag rfl <| dn <| sr <| ld rfl rfl (.cons rfl (.cons rfl (.cons rfl (.cons rfl (.nil))))) ?_
 obtain ⟨⟨x19a, x19b, x19c⟩, h19, h⟩ := bS h
 refine cl (frac_short_ok h19) ⟨rfl, trivial⟩ <| mv rfl <| ex rfl rfl <| ex rfl rfl <| ex rfl rfl <| ag rfl <| ag rfl <| ag rfl <| dn <| qq <| qq ?_
 refine ok_tailJ h (fun j3 => AS.mkL 41 [(2, .ptr 2 0), (3, .ptr 3 0), (4, .ptr 4 0), (5, .sv (.v (.int .i64 x13a))), (6, .sv (.v (.int .i64 x13b))), (8, .sv (.v (.int .i64 x19a))), (9, .sv (.v (.int .i64 x19b))), (26, .sv (.v (.bool j3)))] [(4, ⟨36, [.sv (.v (.bool false)), .sv (slc 1 (List.map eU32 [])), .sv (.v (.bool false)), .sv (slc 1 (List.map eU32 []))]⟩), (3, ⟨36, [.sv (.v (.bool x1_0)), .sv (slc 1 (List.map eU32 x1_1)), .sv (.v (.bool x1_2)), .sv (slc 1 (List.map eU32 x1_3))]⟩), (2, ⟨36, [.sv (.v (.bool x0_0)), .sv (slc 1 (List.map eU32 x0_1)), .sv (.v (.bool x0_2)), .sv (slc 1 (List.map eU32 x0_3))]⟩)] []) (fun h => ?_) (fun y26j2 h => ?_)
 refine ok_region <| mv rfl <| mv rfl <| bE h fun c26_4 hg4 h => ?_
 cases x13c
 obtain rfl := O (F hg4)
 exact ww <| pF rfl <| dn <| ⟨false, h, wR []⟩
 refine gm rfl ?_
 obtain rfl := O (V hg4)
 exact pT rfl <| dn <| ⟨x19c, h, wR []⟩
 try dsimp only
 refine AThen.n ?_
 cases y26j2
 refine fs <| sr <| ld rfl rfl (.cons rfl (.cons rfl (.cons rfl (.cons rfl (.nil))))) <| ld rfl rfl (.cons rfl (.cons rfl (.cons rfl (.cons rfl (.nil))))) ?_
 obtain ⟨⟨⟨x40_0, x40_1⟩, ⟨x40_2, x40_3⟩⟩, h40, h⟩ := bS (F h)
 refine cl (frac_calcAdd_ok h40) ⟨rfl, rfl, rfl, trivial⟩ <| so rfl rfl rfl <| dn <| ok_ret ?_
 obtain rfl := O h
 exact RZ (.agg rfl rfl (.cons rfl (.cons rfl (.cons rfl (.cons rfl (.nil))))) rfl (.nil))
 refine cT <| sr <| mv rfl <| mv rfl <| lE (V h) fun x29 h29 h => RT.mul .none _ rfl rfl T h29 <| mv rfl <| mv rfl <| lE h fun x32 h32 h => RT.mul .none _ rfl rfl T h32 <| lE h fun x33 h33 h => ad _ rfl rfl h33 <| mv rfl <| mv rfl <| lE h fun x36 h36 h => RT.mul .none _ rfl rfl T h36 ?_
 obtain ⟨⟨⟨x37_0, x37_1⟩, ⟨x37_2, x37_3⟩⟩, h37, h⟩ := bS h
 refine cl (frac_ratio_ok h37) ⟨rfl, rfl, trivial⟩ <| so rfl rfl rfl <| dn <| ok_ret <| AThen.r ?_
 obtain rfl := O h
 exact RZ (.agg rfl rfl (.cons rfl (.cons rfl (.cons rfl (.cons rfl (.nil))))) rfl (.nil))
theorem frac_Sub_ok {x0 : Qr} {x1 : Qr} {r : Qr} (h : frac_Sub_m x0 x1 = some r) : Pure Tryz.prog 85 [.agg (eQ x0), .agg (eQ x1)] (.agg (eQ r)) := by
 obtain ⟨⟨x0_0, x0_1⟩, ⟨x0_2, x0_3⟩⟩ := x0
 obtain ⟨⟨x1_0, x1_1⟩, ⟨x1_2, x1_3⟩⟩ := x1
 refine pure_of_ok Tryz.func85 rfl (Nat.le_of_ble_eq_true rfl) (fun wld M vs hvs => ?_)
 unfold frac_Sub_m at h
 refine sr <| bx rfl <| bx rfl <| al (cs := [.v (.bool false), slc 1 (List.map eU32 []), .v (.bool false), slc 1 (List.map eU32 [])]) (by exact ⟨SV.imp_refl _, imp_nil, SV.imp_refl _, imp_nil, trivial⟩) rfl <| dn <| sr <| ld rfl rfl (.cons rfl (.cons rfl (.cons rfl (.cons rfl (.nil))))) ?_
 obtain ⟨⟨x13a, x13b, x13c⟩, h13, h⟩ := bS h
 refine cl (frac_short_ok h13) ⟨rfl, trivial⟩ <| mv rfl <| ex rfl rfl <| ex rfl rfl <| ex rfl rfl <| ag rfl <| ag rfl <| ag rfl <| dn <| sr <| ld rfl rfl (.cons rfl (.cons rfl (.cons rfl (.cons rfl (.nil))))) ?_
 obtain ⟨⟨x19a, x19b, x19c⟩, h19, h⟩ := bS h
 refine cl (frac_short_ok h19) ⟨rfl, trivial⟩ <| mv rfl <| ex rfl rfl <| ex rfl rfl <| ex rfl rfl <| ag rfl <| ag rfl <| ag rfl <| dn <| qq <| qq ?_
 refine ok_tailJ h (fun j3 => AS.mkL 41 [(2, .ptr 2 0), (3, .ptr 3 0), (4, .ptr 4 0), (5, .sv (.v (.int .i64 x13a))), (6, .sv (.v (.int .i64 x13b))), (8, .sv (.v (.int .i64 x19a))), (9, .sv (.v (.int .i64 x19b))), (26, .sv (.v (.bool j3)))] [(4, ⟨36, [.sv (.v (.bool false)), .sv (slc 1 (List.map eU32 [])), .sv (.v (.bool false)), .sv (slc 1 (List.map eU32 []))]⟩), (3, ⟨36, [.sv (.v (.bool x1_0)), .sv (slc 1 (List.map eU32 x1_1)), .sv (.v (.bool x1_2)), .sv (slc 1 (List.map eU32 x1_3))]⟩), (2, ⟨36, [.sv (.v (.bool x0_0)), .sv (slc 1 (List.map eU32 x0_1)), .sv (.v (.bool x0_2)), .sv (slc 1 (List.map eU32 x0_3))]⟩)] []) (fun h => ?_) (fun y26j2 h => ?_)
 refine ok_region <| mv rfl <| mv rfl <| bE h fun c26_4 hg4 h => ?_
 cases x13c
 obtain rfl := O (F hg4)
 exact ww <| pF rfl <| dn <| ⟨false, h, wR []⟩
 refine gm rfl ?_
 obtain rfl := O (V hg4)
 exact pT rfl <| dn <| ⟨x19c, h, wR []⟩
 try dsimp only
 refine AThen.n ?_
 cases y26j2
 refine fs <| sr <| ld rfl rfl (.cons rfl (.cons rfl (.cons rfl (.cons rfl (.nil))))) <| ld rfl rfl (.cons rfl (.cons rfl (.cons rfl (.cons rfl (.nil))))) ?_
 obtain ⟨⟨⟨x40_0, x40_1⟩, ⟨x40_2, x40_3⟩⟩, h40, h⟩ := bS (F h)
 refine cl (frac_calcSub_ok h40) ⟨rfl, rfl, rfl, trivial⟩ <| so rfl rfl rfl <| dn <| ok_ret ?_
 obtain rfl := O h
 exact RZ (.agg rfl rfl (.cons rfl (.cons rfl (.cons rfl (.cons rfl (.nil))))) rfl (.nil))
 refine cT <| sr <| mv rfl <| mv rfl <| lE (V h) fun x29 h29 h => RT.mul .none _ rfl rfl T h29 <| mv rfl <| mv rfl <| lE h fun x32 h32 h => RT.mul .none _ rfl rfl T h32 <| lE h fun x33 h33 h => sb _ rfl rfl h33 <| mv rfl <| mv rfl <| lE h fun x36 h36 h => RT.mul .none _ rfl rfl T h36 ?_
 obtain ⟨⟨⟨x37_0, x37_1⟩, ⟨x37_2, x37_3⟩⟩, h37, h⟩ := bS h
 refine cl (frac_ratio_ok h37) ⟨rfl, rfl, trivial⟩ <| so rfl rfl rfl <| dn <| ok_ret <| AThen.r ?_
 obtain rfl := O h
 exact RZ (.agg rfl rfl (.cons rfl (.cons rfl (.cons rfl (.cons rfl (.nil))))) rfl (.nil))
theorem frac_Mul_ok {x0 : Qr} {x1 : Qr} {r : Qr} (h : frac_Mul_m x0 x1 = some r) : Pure Tryz.prog 79 [.agg (eQ x0), .agg (eQ x1)] (.agg (eQ r)) := by
 obtain ⟨⟨x0_0, x0_1⟩, ⟨x0_2, x0_3⟩⟩ := x0
 obtain ⟨⟨x1_0, x1_1⟩, ⟨x1_2, x1_3⟩⟩ := x1
 refine pure_of_ok Tryz.func79 rfl (Nat.le_of_ble_eq_true rfl) (fun wld M vs hvs => ?_)
 unfold frac_Mul_m at h
 refine sr <| bx rfl <| bx rfl <| al (cs := [.v (.bool false), slc 1 (List.map eU32 []), .v (.bool false), slc 1 (List.map eU32 [])]) (by exact ⟨SV.imp_refl _, imp_nil, SV.imp_refl _, imp_nil, trivial⟩) rfl <| dn <| sr <| ld rfl rfl (.cons rfl (.cons rfl (.cons rfl (.cons rfl (.nil))))) ?_
 obtain ⟨⟨x13a, x13b, x13c⟩, h13, h⟩ := bS h
 refine cl (frac_short_ok h13) ⟨rfl, trivial⟩ <| mv rfl <| ex rfl rfl <| ex rfl rfl <| ex rfl rfl <| ag rfl <| ag rfl <| ag rfl <| dn <| sr <| ld rfl rfl (.cons rfl (.cons rfl (.cons rfl (.cons rfl (.nil))))) ?_
 obtain ⟨⟨x19a, x19b, x19c⟩, h19, h⟩ := bS h
 refine cl (frac_short_ok h19) ⟨rfl, trivial⟩ <| mv rfl <| ex rfl rfl <| ex rfl rfl <| ex rfl rfl <| ag rfl <| ag rfl <| ag rfl <| dn <| qq <| qq ?_
 refine ok_tailJ h (fun j3 => AS.mkL 37 [(2, .ptr 2 0), (3, .ptr 3 0), (4, .ptr 4 0), (5, .sv (.v (.int .i64 x13a))), (6, .sv (.v (.int .i64 x13b))), (8, .sv (.v (.int .i64 x19a))), (9, .sv (.v (.int .i64 x19b))), (26, .sv (.v (.bool j3)))] [(4, ⟨36, [.sv (.v (.bool false)), .sv (slc 1 (List.map eU32 [])), .sv (.v (.bool false)), .sv (slc 1 (List.map eU32 []))]⟩), (3, ⟨36, [.sv (.v (.bool x1_0)), .sv (slc 1 (List.map eU32 x1_1)), .sv (.v (.bool x1_2)), .sv (slc 1 (List.map eU32 x1_3))]⟩), (2, ⟨36, [.sv (.v (.bool x0_0)), .sv (slc 1 (List.map eU32 x0_1)), .sv (.v (.bool x0_2)), .sv (slc 1 (List.map eU32 x0_3))]⟩)] []) (fun h => ?_) (fun y26j2 h => ?_)
 refine ok_region <| mv rfl <| mv rfl <| bE h fun c26_4 hg4 h => ?_
 cases x13c
 obtain rfl := O (F hg4)
 exact ww <| pF rfl <| dn <| ⟨false, h, wR []⟩
 refine gm rfl ?_
 obtain rfl := O (V hg4)
 exact pT rfl <| dn <| ⟨x19c, h, wR []⟩
 try dsimp only
 refine AThen.n ?_
 cases y26j2
 refine fs <| sr <| ld rfl rfl (.cons rfl (.cons rfl (.cons rfl (.cons rfl (.nil))))) <| ld rfl rfl (.cons rfl (.cons rfl (.cons rfl (.cons rfl (.nil))))) ?_
 obtain ⟨⟨⟨x36_0, x36_1⟩, ⟨x36_2, x36_3⟩⟩, h36, h⟩ := bS (F h)
 refine cl (frac_calcMul_ok h36) ⟨rfl, rfl, rfl, trivial⟩ <| so rfl rfl rfl <| dn <| ok_ret ?_
 obtain rfl := O h
 exact RZ (.agg rfl rfl (.cons rfl (.cons rfl (.cons rfl (.cons rfl (.nil))))) rfl (.nil))
 refine cT <| sr <| mv rfl <| mv rfl <| lE (V h) fun x29 h29 h => RT.mul .none _ rfl rfl T h29 <| mv rfl <| mv rfl <| lE h fun x32 h32 h => RT.mul .none _ rfl rfl T h32 ?_
 obtain ⟨⟨⟨x33_0, x33_1⟩, ⟨x33_2, x33_3⟩⟩, h33, h⟩ := bS h
 refine cl (frac_ratio_ok h33) ⟨rfl, rfl, trivial⟩ <| so rfl rfl rfl <| dn <| ok_ret <| AThen.r ?_
 obtain rfl := O h
 exact RZ (.agg rfl rfl (.cons rfl (.cons rfl (.cons rfl (.cons rfl (.nil))))) rfl (.nil))
theorem frac_Neg_ok {x0 : Qr} {r : Qr} (h : frac_Neg_m x0 = some r) : Pure Tryz.prog 56 [.agg (eQ x0)] (.agg (eQ r)) := by
 obtain ⟨⟨x0_0, x0_1⟩, ⟨x0_2, x0_3⟩⟩ := x0
 refine pure_of_ok Tryz.func56 rfl (Nat.le_of_ble_eq_true rfl) (fun wld M vs hvs => ?_)
 unfold frac_Neg_m at h
 refine sr <| bx rfl <| al (cs := [.v (.bool false), slc 1 (List.map eU32 []), .v (.bool false), slc 1 (List.map eU32 [])]) (by exact ⟨SV.imp_refl _, imp_nil, SV.imp_refl _, imp_nil, trivial⟩) rfl <| dn <| sr <| ld rfl rfl (.cons rfl (.cons rfl (.cons rfl (.cons rfl (.nil))))) ?_
 obtain ⟨⟨⟨x5_0, x5_1⟩, ⟨x5_2, x5_3⟩⟩, h5, h⟩ := bS h
 refine cl (frac_Canonical_ok h5) ⟨rfl, trivial⟩ <| al (cs := [.v (.bool false), slc 1 (List.map eU32 []), .v (.bool false), slc 1 (List.map eU32 [])]) (by exact ⟨SV.imp_refl _, imp_nil, SV.imp_refl _, imp_nil, trivial⟩) rfl <| so rfl rfl rfl <| dn <| qq <| ok_region_draw mixed <| fa rfl rfl <| ld rfl rfl (.cons rfl (.cons rfl (.nil))) ?_
 obtain ⟨⟨x8_0, x8_1⟩, h8, h⟩ := bS h
 refine cl (whole_Neg_ok h8) ⟨rfl, trivial⟩ <| fa rfl rfl <| ld rfl rfl (.cons rfl (.cons rfl (.nil))) <| bI (cs := [_, _, _, _]) (cs' := [.v (.bool x8_0), slc 1 (List.map eU32 x8_1), .v (.bool x5_2), slc 1 (List.map eU32 x5_3)]) (.agg rfl (.agg rfl (.nil))) ⟨SV.imp_refl _, SV.imp_refl _, SV.imp_refl _, SV.imp_refl _, trivial⟩ <| so rfl rfl rfl ?_
 refine RT.done ⟨by kernel_rfl, ?_⟩
 refine AThen.n <| ok_ret ?_
 obtain rfl := O h
 exact RZ (.agg rfl rfl (.cons rfl (.cons rfl (.cons rfl (.cons rfl (.nil))))) rfl (.nil))
theorem frac_Cmp_ok {x0 : Qr} {x1 : Qr} {r : Int} (h : frac_Cmp_m x0 x1 = some r) : Pure Tryz.prog 33 [.agg (eQ x0), .agg (eQ x1)] (.v (.int .i64 r)) := by
 obtain ⟨⟨x0_0, x0_1⟩, ⟨x0_2, x0_3⟩⟩ := x0
 obtain ⟨⟨x1_0, x1_1⟩, ⟨x1_2, x1_3⟩⟩ := x1
 refine pure_of_ok Tryz.func33 rfl (Nat.le_of_ble_eq_true rfl) (fun wld M vs hvs => ?_)
 unfold frac_Cmp_m at h
 refine sr <| bx rfl <| bx rfl <| ag rfl <| dn <| sr <| ld rfl rfl (.cons rfl (.cons rfl (.cons rfl (.cons rfl (.nil))))) ?_
 obtain ⟨⟨⟨x13a_0, x13a_1⟩, ⟨x13b_0, x13b_1⟩⟩, h13, h⟩ := bS h
 refine cl (frac_parts_ok h13) ⟨rfl, trivial⟩ <| mv rfl <| ex rfl rfl <| ex rfl rfl <| al (cs := [.v (.bool false), slc 1 (List.map eU32 [])]) (by exact ⟨SV.imp_refl _, imp_nil, trivial⟩) rfl <| al (cs := [.v (.bool false), slc 1 (List.map eU32 [])]) (by exact ⟨SV.imp_refl _, imp_nil, trivial⟩) rfl <| so rfl rfl rfl <| so rfl rfl rfl <| dn <| sr <| ld rfl rfl (.cons rfl (.cons rfl (.cons rfl (.cons rfl (.nil))))) ?_
 obtain ⟨⟨⟨x18a_0, x18a_1⟩, ⟨x18b_0, x18b_1⟩⟩, h18, h⟩ := bS h
 refine cl (frac_parts_ok h18) ⟨rfl, trivial⟩ <| mv rfl <| ex rfl rfl <| ex rfl rfl <| al (cs := [.v (.bool false), slc 1 (List.map eU32 [])]) (by exact ⟨SV.imp_refl _, imp_nil, trivial⟩) rfl <| al (cs := [.v (.bool false), slc 1 (List.map eU32 [])]) (by exact ⟨SV.imp_refl _, imp_nil, trivial⟩) rfl <| so rfl rfl rfl <| so rfl rfl rfl <| dn <| qq <| qq <| ok_region_draw mixed <| ld rfl rfl (.cons rfl (.cons rfl (.nil))) <| bE h fun x22 h22 h => ?_
 refine cl (whole_Sign_ok h22) ⟨rfl, trivial⟩ <| ld rfl rfl (.cons rfl (.cons rfl (.nil))) <| bE h fun x24 h24 h => cl (whole_Sign_ok h24) ⟨rfl, trivial⟩ <| ag rfl <| ag rfl ?_
 refine RT.done ⟨by kernel_rfl, ?_⟩
 refine AThen.n <| qq ?_
 refine ok_tailJ h (fun j3 => AS.mkL 43 [(5, .ptr 5 0), (6, .ptr 6 0), (7, .ptr 7 0), (8, .ptr 8 0), (9, .sv (.v (.int .i64 x22))), (10, .sv (.v (.int .i64 x24))), (31, .sv (.v (.bool j3)))] [(8, ⟨34, [.sv (.v (.bool x18b_0)), .sv (slc 1 (List.map eU32 x18b_1))]⟩), (7, ⟨34, [.sv (.v (.bool x18a_0)), .sv (slc 1 (List.map eU32 x18a_1))]⟩), (6, ⟨34, [.sv (.v (.bool x13b_0)), .sv (slc 1 (List.map eU32 x13b_1))]⟩), (5, ⟨34, [.sv (.v (.bool x13a_0)), .sv (slc 1 (List.map eU32 x13a_1))]⟩)] []) (fun h => ?_) (fun y31j2 h => ?_)
 refine ok_region <| mv rfl <| mv rfl <| lE h fun x27 h27 h => ne _ rfl rfl (neI (p := x22) (q := x24) h27) <| mv rfl <| bE h fun c31_4 hg4 h => ?_
 cases x27
 refine gm rfl <| lE (F hg4) fun x30 h30 hg4 => ge_ _ rfl rfl (eqI (p := x22) (q := 0) h30) ?_
 obtain rfl := O hg4
 exact pF rfl <| dn <| ⟨x30, h, wR []⟩
 obtain rfl := O (V hg4)
 exact ww <| ww <| pT rfl <| dn <| ⟨true, h, wR []⟩
 try dsimp only
 refine AThen.n ?_
 cases y31j2
 refine fs <| qq <| ok_region_draw mixed <| ld rfl rfl (.cons rfl (.cons rfl (.nil))) <| ld rfl rfl (.cons rfl (.cons rfl (.nil))) ?_
 obtain ⟨⟨x38_0, x38_1⟩, h38, h⟩ := bS (F h)
 refine cl (whole_Mul_ok h38) ⟨rfl, rfl, trivial⟩ <| ld rfl rfl (.cons rfl (.cons rfl (.nil))) <| ld rfl rfl (.cons rfl (.cons rfl (.nil))) ?_
 obtain ⟨⟨x41_0, x41_1⟩, h41, h⟩ := bS h
 refine cl (whole_Mul_ok h41) ⟨rfl, rfl, trivial⟩ <| bE h fun x42 h42 h => cl (whole_Cmp_ok h42) ⟨rfl, rfl, trivial⟩ <| ag rfl ?_
 refine RT.done ⟨by kernel_rfl, ?_⟩
 refine AThen.n <| ok_ret ?_
 obtain rfl := O h
 exact R1 rfl
 refine cT <| sr <| mv rfl <| mv rfl <| lE (V h) fun x34 h34 h => sb _ rfl rfl h34 <| bE h fun x35 h35 h => cl (frac_sign_ok h35) ⟨rfl, trivial⟩ <| ag rfl <| dn <| ok_ret <| AThen.r ?_
 obtain rfl := O h
 exact R1 rfl
theorem frac_Equal_ok {x0 : Qr} {x1 : Qr} {r : Bool} (h : frac_Equal_m x0 x1 = some r) : Pure Tryz.prog 34 [.agg (eQ x0), .agg (eQ x1)] (.v (.bool r)) := by
 obtain ⟨⟨x0_0, x0_1⟩, ⟨x0_2, x0_3⟩⟩ := x0
 obtain ⟨⟨x1_0, x1_1⟩, ⟨x1_2, x1_3⟩⟩ := x1
 refine pure_of_ok Tryz.func34 rfl (Nat.le_of_ble_eq_true rfl) (fun wld M vs hvs => ?_)
 unfold frac_Equal_m at h
 refine sr <| bx rfl <| bx rfl <| ag rfl <| dn <| sr <| ld rfl rfl (.cons rfl (.cons rfl (.cons rfl (.cons rfl (.nil))))) <| ld rfl rfl (.cons rfl (.cons rfl (.cons rfl (.cons rfl (.nil))))) <| bE h fun x7 h7 h => cl (frac_Cmp_ok h7) ⟨rfl, rfl, trivial⟩ <| lE h fun x8 h8 h => eq _ rfl rfl (eqI (p := x7) (q := 0) h8) <| ag rfl <| dn <| ok_ret ?_
 obtain rfl := O h
 exact R1 rfl
end Go.Proofs.YtfoldppidpmchaaGreat
namespace Go.Proofs.YtfoldppidpmchaaGreat
open Go.Fw
noncomputable def vec_Dot_1_m (x0 : Qr) (x1 : Qr) (c0 : Qr) : Option (Qr) := match x0 with | ⟨⟨x0_0, x0_1⟩, ⟨x0_2, x0_3⟩⟩ => match x1 with | ⟨⟨x1_0, x1_1⟩, ⟨x1_2, x1_3⟩⟩ => match c0 with | ⟨⟨c0_0, c0_1⟩, ⟨c0_2, c0_3⟩⟩ => letJ (fun (y12j2 : Bool) => letJ (fun (j5 : Bool × (List Nat) × Bool × (List Nat)) => match j5 with | ⟨b1000_0j4, b1000_1j4, b1000_2j4, b1000_3j4⟩ => some ⟨⟨b1000_0j4, b1000_1j4⟩, ⟨b1000_2j4, b1000_3j4⟩⟩) fun K5 => (bif y12j2 then (frac_Mul_m ⟨⟨x0_0, x0_1⟩, ⟨x0_2, x0_3⟩⟩ ⟨⟨x1_0, x1_1⟩, ⟨x1_2, x1_3⟩⟩).bind fun ⟨⟨x16_0, x16_1⟩, ⟨x16_2, x16_3⟩⟩ => (frac_Add_m ⟨⟨c0_0, c0_1⟩, ⟨c0_2, c0_3⟩⟩ ⟨⟨x16_0, x16_1⟩, ⟨x16_2, x16_3⟩⟩).bind fun ⟨⟨x17_0, x17_1⟩, ⟨x17_2, x17_3⟩⟩ => K5 (x17_0, x17_1, x17_2, x17_3) else K5 (c0_0, c0_1, c0_2, c0_3))) fun K3 => (frac_Sign_m ⟨⟨x0_0, x0_1⟩, ⟨x0_2, x0_3⟩⟩).bind fun x6 => (some (decide ((x6 : Int) ≠ 0))).bind fun x7 => (bif x7 then (frac_Sign_m ⟨⟨x1_0, x1_1⟩, ⟨x1_2, x1_3⟩⟩).bind fun x10 => (some (decide ((x10 : Int) ≠ 0))).bind fun x11 => some x11 else some false).bind fun c12_6 => K3 c12_6
noncomputable def vec_Scale_m (x0 : Qr) (x1 : List Qr) : Option (List Qr) := match x0 with | ⟨⟨x0_0, x0_1⟩, ⟨x0_2, x0_3⟩⟩ => (some (x1.length : Int)).bind fun x9 => (mkM 64 x9 (⟨⟨false, []⟩, ⟨false, []⟩⟩ : Qr)).bind fun x10 => (some (x1.length : Int)).bind fun x12 => (loopM (fun (s8 : Int × (List Qr)) => match s8 with | ⟨y13l4, r10l4⟩ => (show Option ((Int × (List Qr)) ⊕ ((List Qr))) from (some (decide ((y13l4 : Int) < x12))).bind fun x14 => (bif x14 then (geti x1 y13l4).bind fun ⟨⟨x16_0, x16_1⟩, ⟨x16_2, x16_3⟩⟩ => (frac_Mul_m ⟨⟨x0_0, x0_1⟩, ⟨x0_2, x0_3⟩⟩ ⟨⟨x16_0, x16_1⟩, ⟨x16_2, x16_3⟩⟩).bind fun ⟨⟨x22_0, x22_1⟩, ⟨x22_2, x22_3⟩⟩ => (cki r10l4 y13l4).bind fun x23 => (stM r10l4 x23 ⟨⟨x22_0, x22_1⟩, ⟨x22_2, x22_3⟩⟩).bind fun l10 => (some (IntKind.i64.wrap (y13l4 + 1))).bind fun x24 => some (.inl (x24, l10)) else some (.inr r10l4)))) (0, x10)).bind fun r10e7 => some r10e7
noncomputable def vec_Dot_m (x0 : List Qr) (x1 : List Qr) : Option (Qr) := (some (x0.length : Int)).bind fun x12 => (some (x1.length : Int)).bind fun x14 => (some (min (x12 : Int) x14)).bind fun x15 => (subM x0 0 x15).bind fun x18 => (subM x1 0 x15).bind fun x21 => (rangeM (fun (k : Nat) (s7 : Bool × (List Nat) × Bool × (List Nat)) => match s7 with | ⟨b5_0l4, b5_1l4, b5_2l4, b5_3l4⟩ => (show Option (Bool × (List Nat) × Bool × (List Nat)) from (some (x18.getD k (⟨⟨false, []⟩, ⟨false, []⟩⟩ : Qr))).bind fun ⟨⟨p23_0, p23_1⟩, ⟨p23_2, p23_3⟩⟩ => (some (x21.getD k (⟨⟨false, []⟩, ⟨false, []⟩⟩ : Qr))).bind fun ⟨⟨p24_0, p24_1⟩, ⟨p24_2, p24_3⟩⟩ => (vec_Dot_1_m ⟨⟨p23_0, p23_1⟩, ⟨p23_2, p23_3⟩⟩ ⟨⟨p24_0, p24_1⟩, ⟨p24_2, p24_3⟩⟩ ⟨⟨b5_0l4, b5_1l4⟩, ⟨b5_2l4, b5_3l4⟩⟩).bind fun ⟨⟨k9_0, k9_1⟩, ⟨k9_2, k9_3⟩⟩ => some (k9_0, k9_1, k9_2, k9_3))) (max x18.length x21.length) (false, [], false, [])).bind fun e7 => match e7 with | ⟨b5_0l4, b5_1l4, b5_2l4, b5_3l4⟩ => some ⟨⟨b5_0l4, b5_1l4⟩, ⟨b5_2l4, b5_3l4⟩⟩
noncomputable def vec_Compare_m (x0 : List Qr) (x1 : List Qr) : Option (Int) := (rangeX (fun (k : Nat) (s3 : Unit) => (show Option ((Unit) ⊕ (Int)) from (some (x0.getD k (⟨⟨false, []⟩, ⟨false, []⟩⟩ : Qr))).bind fun ⟨⟨p11_0, p11_1⟩, ⟨p11_2, p11_3⟩⟩ => (some (x1.getD k (⟨⟨false, []⟩, ⟨false, []⟩⟩ : Qr))).bind fun ⟨⟨p12_0, p12_1⟩, ⟨p12_2, p12_3⟩⟩ => (frac_Cmp_m ⟨⟨p11_0, p11_1⟩, ⟨p11_2, p11_3⟩⟩ ⟨⟨p12_0, p12_1⟩, ⟨p12_2, p12_3⟩⟩).bind fun x15 => (some (decide ((x15 : Int) ≠ 0))).bind fun x17 => (bif x17 then some (.inr x15) else some (.inl ())))) (max x0.length x1.length) ()).bind fun e3 => match e3 with | .inr v3 => some v3 | .inl _ => some 0
noncomputable def vec_Equal_m (x0 : List Qr) (x1 : List Qr) : Option (Bool) := (vec_Compare_m x0 x1).bind fun x7 => (some (decide ((x7 : Int) = 0))).bind fun x8 => some x8
noncomputable def vec_Resize_m (x0 : List Qr) (x1 : Int) : Option (List Qr) := (some (decide ((x1 : Int) < 1))).bind fun x8 => (bif x8 then some [] else (some (min (x1 : Int) 65536)).bind fun x10 => (mkM 64 x10 (⟨⟨false, []⟩, ⟨false, []⟩⟩ : Qr)).bind fun x11 => (some (x0.length : Int)).bind fun x13 => (some (x11.length : Int)).bind fun x15 => (some (min (x13 : Int) x15)).bind fun x16 => (loopM (fun (s8 : Int × (List Qr)) => match s8 with | ⟨y17l4, r11l4⟩ => (show Option ((Int × (List Qr)) ⊕ ((List Qr))) from (some (decide ((y17l4 : Int) < x16))).bind fun x18 => (bif x18 then (geti x0 y17l4).bind fun ⟨⟨x24_0, x24_1⟩, ⟨x24_2, x24_3⟩⟩ => (frac_Canonical_m ⟨⟨x24_0, x24_1⟩, ⟨x24_2, x24_3⟩⟩).bind fun ⟨⟨x26_0, x26_1⟩, ⟨x26_2, x26_3⟩⟩ => (cki r11l4 y17l4).bind fun x27 => (stM r11l4 x27 ⟨⟨x26_0, x26_1⟩, ⟨x26_2, x26_3⟩⟩).bind fun l10 => (some (IntKind.i64.wrap (y17l4 + 1))).bind fun x28 => some (.inl (x28, l10)) else some (.inr r11l4)))) (0, x11)).bind fun r11e7 => some r11e7)
noncomputable def vec_FromInts_m (x0 : List Int) : Option (List Qr) := (some (x0.length : Int)).bind fun x7 => (mkM 64 x7 (⟨⟨false, []⟩, ⟨false, []⟩⟩ : Qr)).bind fun x8 => (some (x0.length : Int)).bind fun x10 => (loopM (fun (s8 : Int × (List Qr)) => match s8 with | ⟨y11l4, r8l4⟩ => (show Option ((Int × (List Qr)) ⊕ ((List Qr))) from (some (decide ((y11l4 : Int) < x10))).bind fun x12 => (bif x12 then (geti x0 y11l4).bind fun x14 => (frac_FromInt64_m x14).bind fun ⟨⟨x19_0, x19_1⟩, ⟨x19_2, x19_3⟩⟩ => (cki r8l4 y11l4).bind fun x20 => (stM r8l4 x20 ⟨⟨x19_0, x19_1⟩, ⟨x19_2, x19_3⟩⟩).bind fun l10 => (some (IntKind.i64.wrap (y11l4 + 1))).bind fun x21 => some (.inl (x21, l10)) else some (.inr r8l4)))) (0, x8)).bind fun r8e7 => some r8e7
noncomputable def vec_FirstGreater_m (x0 : List Qr) (x1 : List Qr) : Option (Int × Bool) := (rangeX (fun (k : Nat) (b4_0l3 : Int) => (show Option ((Int) ⊕ (Int × Bool)) from (some (x0.getD k (⟨⟨false, []⟩, ⟨false, []⟩⟩ : Qr))).bind fun ⟨⟨p11_0, p11_1⟩, ⟨p11_2, p11_3⟩⟩ => (some (x1.getD k (⟨⟨false, []⟩, ⟨false, []⟩⟩ : Qr))).bind fun ⟨⟨p12_0, p12_1⟩, ⟨p12_2, p12_3⟩⟩ => (frac_Cmp_m ⟨⟨p11_0, p11_1⟩, ⟨p11_2, p11_3⟩⟩ ⟨⟨p12_0, p12_1⟩, ⟨p12_2, p12_3⟩⟩).bind fun x15 => (some (decide ((0 : Int) < x15))).bind fun x16 => (bif x16 then some (.inr (b4_0l3, true)) else (some (IntKind.i64.wrap (b4_0l3 + 1))).bind fun x19 => some (.inl x19)))) (max x0.length x1.length) 0).bind fun e5 => match e5 with | .inr v5 => some v5 | .inl b4_0l3 => some (0, false)
end Go.Proofs.YtfoldppidpmchaaGreat
namespace Go.Proofs.YtfoldppidpmchaaGreat
open Go.Fw Go.Fw.Z Go.RowKit
theorem vec_pairs_ok (a b : List Qr) : Pure Tryz.prog 80 [(slc 4 (List.map eQ a)), (slc 4 (List.map eQ b))] (cloS 112 [ref [(slc 4 (List.map eQ a))], ref [(slc 4 (List.map eQ b))]]) := by
 refine pure_of_ok Tryz.func80 rfl (Nat.le_of_ble_eq_true rfl) (fun wld M vs hvs => ?_)
 refine sr <| RT.boxV .none (s := .sv _) rfl T rfl rfl <| RT.boxV .none (s := .sv _) rfl T rfl rfl <| ag rfl <| dn <| sr <| RT.makeFunc .none (.box rfl (.box rfl (.nil))) T <| an (s := .clo _ _) rfl <| dn <| ok_weak (weak_frzB (i := 2) rfl [(slc 4 (List.map eQ a))] (.cons rfl .nil) .any 0 [(4, .clo 112 [.val (ref [(slc 4 (List.map eQ a))]), .box 3])] (fun _ _ _ => trivial) (Ones.h (l := [(slc 4 (List.map eQ a))])) ⟨@FT.clo _ _ _ _ _ 4 112 [.box 2, .box 3] rfl, trivial⟩) ?_
 exact ok_weak (weak_frzB (i := 3) rfl [(slc 4 (List.map eQ b))] (.cons rfl .nil) .any 0 [(4, .clo 112 [.val (ref [(slc 4 (List.map eQ a))]), .val (ref [(slc 4 (List.map eQ b))])])] (fun _ _ _ => trivial) (Ones.h (l := [(slc 4 (List.map eQ b))])) ⟨@FT.clo _ _ _ _ _ 4 112 [.val (ref [(slc 4 (List.map eQ a))]), .box 3] rfl, trivial⟩) <| ok_weak (weak_t 4 (cloS 112 [ref [(slc 4 (List.map eQ a))], ref [(slc 4 (List.map eQ b))]]) (fun _ _ h => clo_sv h)) <| ok_ret <| ⟨.inr rfl, res_of (.tmp rfl (.nil)) rfl⟩
theorem vec_pairs_it (a b : List Qr) : Iter Tryz.prog 112 [ref [(slc 4 (List.map eQ a))], ref [(slc 4 (List.map eQ b))]] (max a.length b.length) (fun k => [.agg (eQ (a.getD k (⟨⟨false, []⟩, ⟨false, []⟩⟩ : Qr))), .agg (eQ (b.getD k (⟨⟨false, []⟩, ⟨false, []⟩⟩ : Qr)))]) := by
  refine iter_of_ok Tryz.func112 rfl rfl (Nat.le_of_ble_eq_true rfl) (fun wld M O l J hJ hcv hr => ?_)
  obtain ⟨cvs, hcv⟩ := hcv
  have hla : a.length ≤ 9223372036854775807 := by cases cvs with | nil => exact hcv.elim | cons _ cvs => exact ref_len hcv.1
  have hlb : b.length ≤ 9223372036854775807 := by cases cvs with | nil => exact hcv.elim | cons _ cvs => cases cvs with | nil => exact hcv.2.elim | cons _ _ => exact ref_len hcv.2.1
  refine ok_seq ?_
  refine ok_region ?_
  refine RT.loadRV .none rfl rfl (tl rfl) ?_
  refine RT.len .none rfl (tl rfl) ?_
  refine RT.loadRV .none rfl rfl (tl rfl) ?_
  refine RT.len .none rfl (tl rfl) ?_
  refine RT.max .none (((max a.length b.length : Nat) : Int)) rfl rfl (tl rfl) (by simp only [List.length_map]; split <;> omega) ?_
  refine RT.mv .none rfl (tl rfl) ?_
  refine RT.done ?_
  refine AThen.n ?_
  refine ok_block ?_
  refine ok_loop (I := fun x : { i : Nat // i ≤ max a.length b.length } => AS.mkL 37 [(0, .sv (.v (.func (.yield l) #[] #[]))), (1, .sv (ref [(slc 4 (List.map eQ a))])), (2, .sv (ref [(slc 4 (List.map eQ b))])), (11, .sv (.v (.int .i64 ((max a.length b.length : Nat) : Int)))), (12, .sv (.v (.int .i64 ((x.1 : Nat) : Int))))] [] [] (x.1)) (μ := fun x => max a.length b.length - x.1) ⟨0, by omega⟩ (by (try dsimp only); exact weakL id rfl rfl rfl rfl rfl ⟨.sv (by first | exact SV.imp_refl _ | exact SV.imp_int (by omega) | exact SV.imp_int (by push_cast; omega) | exact SV.imp_int (by dsimp only; omega) | exact SV.imp_eq (by simp)), .sv (by first | exact SV.imp_refl _ | exact SV.imp_int (by omega) | exact SV.imp_int (by push_cast; omega) | exact SV.imp_int (by dsimp only; omega) | exact SV.imp_eq (by simp)), .sv (by first | exact SV.imp_refl _ | exact SV.imp_int (by omega) | exact SV.imp_int (by push_cast; omega) | exact SV.imp_int (by dsimp only; omega) | exact SV.imp_eq (by simp)), .sv (by first | exact SV.imp_refl _ | exact SV.imp_int (by omega) | exact SV.imp_int (by push_cast; omega) | exact SV.imp_int (by dsimp only; omega) | exact SV.imp_eq (by simp)), .sv (by first | exact SV.imp_refl _ | exact SV.imp_int (by omega) | exact SV.imp_int (by push_cast; omega) | exact SV.imp_int (by dsimp only; omega) | exact SV.imp_eq (by simp)), trivial⟩ trivial trivial (fun _ _ => rfl)) ?_
  rintro ⟨i, hi0⟩
  try dsimp only
  rcases pair_cases a b i hi0 with ⟨hi, hb1, hb2⟩ | ⟨hi, hb1, hb2⟩ | ⟨hi, hb1, hb2⟩ | hi
  ·
    refine ok_seq ?_
    refine ok_region ?_
    refine RT.lss .none (true) rfl rfl (tl rfl) (by simp; omega) ?_
    refine RT.done ?_
    refine AThen.n ?_
    refine ok_seq ?_
    refine ok_condT rfl ?_
    refine ok_skip ?_
    refine AThen.n ?_
    refine ok_seq ?_
    refine ok_block ?_
    refine ok_seq ?_
    refine ok_region ?_
    refine RT.mv .none rfl (tl rfl) ?_
    refine RT.asg .none rfl (tl rfl) ?_
    refine RT.done ?_
    refine AThen.n ?_
    refine ok_seq ?_
    refine ok_region ?_
    refine RT.allocI .none (cs := eQ ⟨⟨false, []⟩, ⟨false, []⟩⟩) (by exact ⟨SV.imp_refl _, imp_nil, SV.imp_refl _, imp_nil, trivial⟩) rfl (tl rfl) rfl rfl ?_
    refine RT.allocI .none (cs := eQ ⟨⟨false, []⟩, ⟨false, []⟩⟩) (by exact ⟨SV.imp_refl _, imp_nil, SV.imp_refl _, imp_nil, trivial⟩) rfl (tl rfl) rfl rfl ?_
    refine RT.done ?_
    refine AThen.n ?_
    refine ok_seq ?_
    refine ok_seq ?_
    refine ok_region ?_
    refine RT.mv .none rfl (tl rfl) ?_
    refine RT.loadRV .none rfl rfl (tl rfl) ?_
    refine RT.len .none rfl (tl rfl) ?_
    refine RT.lss .none (true) rfl rfl (tl rfl) (by simp only [List.length_map]; simp; omega) ?_
    refine RT.done ?_
    refine AThen.n ?_
    refine ok_condT rfl ?_
    refine ok_region ?_
    refine RT.loadRV .none rfl rfl (tl rfl) ?_
    refine RT.mv .none rfl (tl rfl) ?_
    refine RT.ixA .none [.v (.bool (a.getD i (⟨⟨false, []⟩, ⟨false, []⟩⟩ : Qr)).num.neg), slc 1 ((a.getD i (⟨⟨false, []⟩, ⟨false, []⟩⟩ : Qr)).num.w.map eU32), .v (.bool (a.getD i (⟨⟨false, []⟩, ⟨false, []⟩⟩ : Qr)).den.neg), slc 1 ((a.getD i (⟨⟨false, []⟩, ⟨false, []⟩⟩ : Qr)).den.w.map eU32)] (Int.natCast_nonneg i) (by rw [Int.toNat_natCast, List.getElem?_map, get_getD' hb1]; rfl) rfl rfl (tl rfl) ?_
    refine RT.loadR .none rfl (tl rfl) (cs := [.v (.bool (a.getD i (⟨⟨false, []⟩, ⟨false, []⟩⟩ : Qr)).num.neg), slc 1 ((a.getD i (⟨⟨false, []⟩, ⟨false, []⟩⟩ : Qr)).num.w.map eU32), .v (.bool (a.getD i (⟨⟨false, []⟩, ⟨false, []⟩⟩ : Qr)).den.neg), slc 1 ((a.getD i (⟨⟨false, []⟩, ⟨false, []⟩⟩ : Qr)).den.w.map eU32)]) rfl rfl ?_
    refine RT.store .none rfl rfl rfl rfl rfl ?_
    refine RT.done ?_
    refine AThen.n ?_
    refine ok_seq ?_
    refine ok_seq ?_
    refine ok_region ?_
    refine RT.mv .none rfl (tl rfl) ?_
    refine RT.loadRV .none rfl rfl (tl rfl) ?_
    refine RT.len .none rfl (tl rfl) ?_
    refine RT.lss .none (true) rfl rfl (tl rfl) (by simp only [List.length_map]; simp; omega) ?_
    refine RT.done ?_
    refine AThen.n ?_
    refine ok_condT rfl ?_
    refine ok_region ?_
    refine RT.loadRV .none rfl rfl (tl rfl) ?_
    refine RT.mv .none rfl (tl rfl) ?_
    refine RT.ixA .none [.v (.bool (b.getD i (⟨⟨false, []⟩, ⟨false, []⟩⟩ : Qr)).num.neg), slc 1 ((b.getD i (⟨⟨false, []⟩, ⟨false, []⟩⟩ : Qr)).num.w.map eU32), .v (.bool (b.getD i (⟨⟨false, []⟩, ⟨false, []⟩⟩ : Qr)).den.neg), slc 1 ((b.getD i (⟨⟨false, []⟩, ⟨false, []⟩⟩ : Qr)).den.w.map eU32)] (Int.natCast_nonneg i) (by rw [Int.toNat_natCast, List.getElem?_map, get_getD' hb2]; rfl) rfl rfl (tl rfl) ?_
    refine RT.loadR .none rfl (tl rfl) (cs := [.v (.bool (b.getD i (⟨⟨false, []⟩, ⟨false, []⟩⟩ : Qr)).num.neg), slc 1 ((b.getD i (⟨⟨false, []⟩, ⟨false, []⟩⟩ : Qr)).num.w.map eU32), .v (.bool (b.getD i (⟨⟨false, []⟩, ⟨false, []⟩⟩ : Qr)).den.neg), slc 1 ((b.getD i (⟨⟨false, []⟩, ⟨false, []⟩⟩ : Qr)).den.w.map eU32)]) rfl rfl ?_
    refine RT.store .none rfl rfl rfl rfl rfl ?_
    refine RT.done ?_
    refine AThen.n ?_
    refine ok_seq ?_
    refine ok_region ?_
    refine RT.mv .none rfl (tl rfl) ?_
    refine RT.load .none rfl rfl (.cons rfl (.cons rfl (.cons rfl (.cons rfl (.nil))))) rfl (tl rfl) ?_
    refine RT.load .none rfl rfl (.cons rfl (.cons rfl (.cons rfl (.cons rfl (.nil))))) rfl (tl rfl) ?_
    refine RT.yield .none hr rfl (fun _ h => h) rfl (i) rfl rfl hi (by exact ⟨rfl, rfl, trivial⟩) (tl rfl) (fun yb => ?_)
    cases yb
    ·
      refine RT.not .none rfl (tl rfl) true rfl ?_
      refine RT.done ?_
      refine AThen.n ?_
      refine ok_condT rfl ?_
      refine ok_ret ?_
      refine AInB.r ?_
      refine AThen.r ?_
      refine AThen.r ?_
      refine AInB.r ?_
      exact ⟨.inr rfl, (fun h => by cases h)⟩
    ·
      refine RT.not .none rfl (tl rfl) false rfl ?_
      refine RT.done ?_
      refine AThen.n ?_
      refine ok_condF rfl ?_
      refine ok_skip ?_
      refine AInB.n ?_
      refine AThen.n ?_
      refine ok_region ?_
      refine RT.add .none (((i : Nat) : Int) + 1) rfl rfl (tl rfl) (nw_i64 (by omega)) ?_
      refine RT.mv .none rfl (tl rfl) ?_
      refine RT.done ?_
      refine AThen.n ?_
      refine ⟨⟨i + 1, by omega⟩, (by dsimp only; omega), ?_⟩
      try dsimp only
      exact weakL id rfl rfl rfl rfl rfl ⟨.sv (by first | exact SV.imp_refl _ | exact SV.imp_int (by omega) | exact SV.imp_int (by push_cast; omega) | exact SV.imp_int (by dsimp only; omega) | exact SV.imp_eq (by simp)), .sv (by first | exact SV.imp_refl _ | exact SV.imp_int (by omega) | exact SV.imp_int (by push_cast; omega) | exact SV.imp_int (by dsimp only; omega) | exact SV.imp_eq (by simp)), .sv (by first | exact SV.imp_refl _ | exact SV.imp_int (by omega) | exact SV.imp_int (by push_cast; omega) | exact SV.imp_int (by dsimp only; omega) | exact SV.imp_eq (by simp)), .sv (by first | exact SV.imp_refl _ | exact SV.imp_int (by omega) | exact SV.imp_int (by push_cast; omega) | exact SV.imp_int (by dsimp only; omega) | exact SV.imp_eq (by simp)), .sv (by first | exact SV.imp_refl _ | exact SV.imp_int (by omega) | exact SV.imp_int (by push_cast; omega) | exact SV.imp_int (by dsimp only; omega) | exact SV.imp_eq (by simp)), trivial⟩ trivial trivial (fun _ _ => rfl)
  ·
    refine ok_seq ?_
    refine ok_region ?_
    refine RT.lss .none (true) rfl rfl (tl rfl) (by simp; omega) ?_
    refine RT.done ?_
    refine AThen.n ?_
    refine ok_seq ?_
    refine ok_condT rfl ?_
    refine ok_skip ?_
    refine AThen.n ?_
    refine ok_seq ?_
    refine ok_block ?_
    refine ok_seq ?_
    refine ok_region ?_
    refine RT.mv .none rfl (tl rfl) ?_
    refine RT.asg .none rfl (tl rfl) ?_
    refine RT.done ?_
    refine AThen.n ?_
    refine ok_seq ?_
    refine ok_region ?_
    refine RT.allocI .none (cs := eQ ⟨⟨false, []⟩, ⟨false, []⟩⟩) (by exact ⟨SV.imp_refl _, imp_nil, SV.imp_refl _, imp_nil, trivial⟩) rfl (tl rfl) rfl rfl ?_
    refine RT.allocI .none (cs := eQ ⟨⟨false, []⟩, ⟨false, []⟩⟩) (by exact ⟨SV.imp_refl _, imp_nil, SV.imp_refl _, imp_nil, trivial⟩) rfl (tl rfl) rfl rfl ?_
    refine RT.done ?_
    refine AThen.n ?_
    refine ok_seq ?_
    refine ok_seq ?_
    refine ok_region ?_
    refine RT.mv .none rfl (tl rfl) ?_
    refine RT.loadRV .none rfl rfl (tl rfl) ?_
    refine RT.len .none rfl (tl rfl) ?_
    refine RT.lss .none (true) rfl rfl (tl rfl) (by simp only [List.length_map]; simp; omega) ?_
    refine RT.done ?_
    refine AThen.n ?_
    refine ok_condT rfl ?_
    refine ok_region ?_
    refine RT.loadRV .none rfl rfl (tl rfl) ?_
    refine RT.mv .none rfl (tl rfl) ?_
    refine RT.ixA .none [.v (.bool (a.getD i (⟨⟨false, []⟩, ⟨false, []⟩⟩ : Qr)).num.neg), slc 1 ((a.getD i (⟨⟨false, []⟩, ⟨false, []⟩⟩ : Qr)).num.w.map eU32), .v (.bool (a.getD i (⟨⟨false, []⟩, ⟨false, []⟩⟩ : Qr)).den.neg), slc 1 ((a.getD i (⟨⟨false, []⟩, ⟨false, []⟩⟩ : Qr)).den.w.map eU32)] (Int.natCast_nonneg i) (by rw [Int.toNat_natCast, List.getElem?_map, get_getD' hb1]; rfl) rfl rfl (tl rfl) ?_
    refine RT.loadR .none rfl (tl rfl) (cs := [.v (.bool (a.getD i (⟨⟨false, []⟩, ⟨false, []⟩⟩ : Qr)).num.neg), slc 1 ((a.getD i (⟨⟨false, []⟩, ⟨false, []⟩⟩ : Qr)).num.w.map eU32), .v (.bool (a.getD i (⟨⟨false, []⟩, ⟨false, []⟩⟩ : Qr)).den.neg), slc 1 ((a.getD i (⟨⟨false, []⟩, ⟨false, []⟩⟩ : Qr)).den.w.map eU32)]) rfl rfl ?_
    refine RT.store .none rfl rfl rfl rfl rfl ?_
    refine RT.done ?_
    refine AThen.n ?_
    refine ok_seq ?_
    refine ok_seq ?_
    refine ok_region ?_
    refine RT.mv .none rfl (tl rfl) ?_
    refine RT.loadRV .none rfl rfl (tl rfl) ?_
    refine RT.len .none rfl (tl rfl) ?_
    refine RT.lss .none (false) rfl rfl (tl rfl) (by simp only [List.length_map]; simp; omega) ?_
    refine RT.done ?_
    refine AThen.n ?_
    refine ok_condF rfl ?_
    refine ok_skip ?_
    refine AThen.n ?_
    refine ok_seq ?_
    refine ok_region ?_
    refine RT.mv .none rfl (tl rfl) ?_
    refine RT.load .none rfl rfl (.cons rfl (.cons rfl (.cons rfl (.cons rfl (.nil))))) rfl (tl rfl) ?_
    refine RT.load .none rfl rfl (.cons rfl (.cons rfl (.cons rfl (.cons rfl (.nil))))) rfl (tl rfl) ?_
    refine RT.yield .none hr rfl (fun _ h => h) rfl (i) rfl rfl hi (by exact ⟨rfl, (by show AV.sv _ = AV.sv _; rw [getD_of_le' hb2]), trivial⟩) (tl rfl) (fun yb => ?_)
    cases yb
    ·
      refine RT.not .none rfl (tl rfl) true rfl ?_
      refine RT.done ?_
      refine AThen.n ?_
      refine ok_condT rfl ?_
      refine ok_ret ?_
      refine AInB.r ?_
      refine AThen.r ?_
      refine AThen.r ?_
      refine AInB.r ?_
      exact ⟨.inr rfl, (fun h => by cases h)⟩
    ·
      refine RT.not .none rfl (tl rfl) false rfl ?_
      refine RT.done ?_
      refine AThen.n ?_
      refine ok_condF rfl ?_
      refine ok_skip ?_
      refine AInB.n ?_
      refine AThen.n ?_
      refine ok_region ?_
      refine RT.add .none (((i : Nat) : Int) + 1) rfl rfl (tl rfl) (nw_i64 (by omega)) ?_
      refine RT.mv .none rfl (tl rfl) ?_
      refine RT.done ?_
      refine AThen.n ?_
      refine ⟨⟨i + 1, by omega⟩, (by dsimp only; omega), ?_⟩
      try dsimp only
      exact weakL id rfl rfl rfl rfl rfl ⟨.sv (by first | exact SV.imp_refl _ | exact SV.imp_int (by omega) | exact SV.imp_int (by push_cast; omega) | exact SV.imp_int (by dsimp only; omega) | exact SV.imp_eq (by simp)), .sv (by first | exact SV.imp_refl _ | exact SV.imp_int (by omega) | exact SV.imp_int (by push_cast; omega) | exact SV.imp_int (by dsimp only; omega) | exact SV.imp_eq (by simp)), .sv (by first | exact SV.imp_refl _ | exact SV.imp_int (by omega) | exact SV.imp_int (by push_cast; omega) | exact SV.imp_int (by dsimp only; omega) | exact SV.imp_eq (by simp)), .sv (by first | exact SV.imp_refl _ | exact SV.imp_int (by omega) | exact SV.imp_int (by push_cast; omega) | exact SV.imp_int (by dsimp only; omega) | exact SV.imp_eq (by simp)), .sv (by first | exact SV.imp_refl _ | exact SV.imp_int (by omega) | exact SV.imp_int (by push_cast; omega) | exact SV.imp_int (by dsimp only; omega) | exact SV.imp_eq (by simp)), trivial⟩ trivial trivial (fun _ _ => rfl)
  ·
    refine ok_seq ?_
    refine ok_region ?_
    refine RT.lss .none (true) rfl rfl (tl rfl) (by simp; omega) ?_
    refine RT.done ?_
    refine AThen.n ?_
    refine ok_seq ?_
    refine ok_condT rfl ?_
    refine ok_skip ?_
    refine AThen.n ?_
    refine ok_seq ?_
    refine ok_block ?_
    refine ok_seq ?_
    refine ok_region ?_
    refine RT.mv .none rfl (tl rfl) ?_
    refine RT.asg .none rfl (tl rfl) ?_
    refine RT.done ?_
    refine AThen.n ?_
    refine ok_seq ?_
    refine ok_region ?_
    refine RT.allocI .none (cs := eQ ⟨⟨false, []⟩, ⟨false, []⟩⟩) (by exact ⟨SV.imp_refl _, imp_nil, SV.imp_refl _, imp_nil, trivial⟩) rfl (tl rfl) rfl rfl ?_
    refine RT.allocI .none (cs := eQ ⟨⟨false, []⟩, ⟨false, []⟩⟩) (by exact ⟨SV.imp_refl _, imp_nil, SV.imp_refl _, imp_nil, trivial⟩) rfl (tl rfl) rfl rfl ?_
    refine RT.done ?_
    refine AThen.n ?_
    refine ok_seq ?_
    refine ok_seq ?_
    refine ok_region ?_
    refine RT.mv .none rfl (tl rfl) ?_
    refine RT.loadRV .none rfl rfl (tl rfl) ?_
    refine RT.len .none rfl (tl rfl) ?_
    refine RT.lss .none (false) rfl rfl (tl rfl) (by simp only [List.length_map]; simp; omega) ?_
    refine RT.done ?_
    refine AThen.n ?_
    refine ok_condF rfl ?_
    refine ok_skip ?_
    refine AThen.n ?_
    refine ok_seq ?_
    refine ok_seq ?_
    refine ok_region ?_
    refine RT.mv .none rfl (tl rfl) ?_
    refine RT.loadRV .none rfl rfl (tl rfl) ?_
    refine RT.len .none rfl (tl rfl) ?_
    refine RT.lss .none (true) rfl rfl (tl rfl) (by simp only [List.length_map]; simp; omega) ?_
    refine RT.done ?_
    refine AThen.n ?_
    refine ok_condT rfl ?_
    refine ok_region ?_
    refine RT.loadRV .none rfl rfl (tl rfl) ?_
    refine RT.mv .none rfl (tl rfl) ?_
    refine RT.ixA .none [.v (.bool (b.getD i (⟨⟨false, []⟩, ⟨false, []⟩⟩ : Qr)).num.neg), slc 1 ((b.getD i (⟨⟨false, []⟩, ⟨false, []⟩⟩ : Qr)).num.w.map eU32), .v (.bool (b.getD i (⟨⟨false, []⟩, ⟨false, []⟩⟩ : Qr)).den.neg), slc 1 ((b.getD i (⟨⟨false, []⟩, ⟨false, []⟩⟩ : Qr)).den.w.map eU32)] (Int.natCast_nonneg i) (by rw [Int.toNat_natCast, List.getElem?_map, get_getD' hb2]; rfl) rfl rfl (tl rfl) ?_
    refine RT.loadR .none rfl (tl rfl) (cs := [.v (.bool (b.getD i (⟨⟨false, []⟩, ⟨false, []⟩⟩ : Qr)).num.neg), slc 1 ((b.getD i (⟨⟨false, []⟩, ⟨false, []⟩⟩ : Qr)).num.w.map eU32), .v (.bool (b.getD i (⟨⟨false, []⟩, ⟨false, []⟩⟩ : Qr)).den.neg), slc 1 ((b.getD i (⟨⟨false, []⟩, ⟨false, []⟩⟩ : Qr)).den.w.map eU32)]) rfl rfl ?_
    refine RT.store .none rfl rfl rfl rfl rfl ?_
    refine RT.done ?_
    refine AThen.n ?_
    refine ok_seq ?_
    refine ok_region ?_
    refine RT.mv .none rfl (tl rfl) ?_
    refine RT.load .none rfl rfl (.cons rfl (.cons rfl (.cons rfl (.cons rfl (.nil))))) rfl (tl rfl) ?_
    refine RT.load .none rfl rfl (.cons rfl (.cons rfl (.cons rfl (.cons rfl (.nil))))) rfl (tl rfl) ?_
    refine RT.yield .none hr rfl (fun _ h => h) rfl (i) rfl rfl hi (by exact ⟨(by show AV.sv _ = AV.sv _; rw [getD_of_le' hb1]), rfl, trivial⟩) (tl rfl) (fun yb => ?_)
    cases yb
    ·
      refine RT.not .none rfl (tl rfl) true rfl ?_
      refine RT.done ?_
      refine AThen.n ?_
      refine ok_condT rfl ?_
      refine ok_ret ?_
      refine AInB.r ?_
      refine AThen.r ?_
      refine AThen.r ?_
      refine AInB.r ?_
      exact ⟨.inr rfl, (fun h => by cases h)⟩
    ·
      refine RT.not .none rfl (tl rfl) false rfl ?_
      refine RT.done ?_
      refine AThen.n ?_
      refine ok_condF rfl ?_
      refine ok_skip ?_
      refine AInB.n ?_
      refine AThen.n ?_
      refine ok_region ?_
      refine RT.add .none (((i : Nat) : Int) + 1) rfl rfl (tl rfl) (nw_i64 (by omega)) ?_
      refine RT.mv .none rfl (tl rfl) ?_
      refine RT.done ?_
      refine AThen.n ?_
      refine ⟨⟨i + 1, by omega⟩, (by dsimp only; omega), ?_⟩
      try dsimp only
      exact weakL id rfl rfl rfl rfl rfl ⟨.sv (by first | exact SV.imp_refl _ | exact SV.imp_int (by omega) | exact SV.imp_int (by push_cast; omega) | exact SV.imp_int (by dsimp only; omega) | exact SV.imp_eq (by simp)), .sv (by first | exact SV.imp_refl _ | exact SV.imp_int (by omega) | exact SV.imp_int (by push_cast; omega) | exact SV.imp_int (by dsimp only; omega) | exact SV.imp_eq (by simp)), .sv (by first | exact SV.imp_refl _ | exact SV.imp_int (by omega) | exact SV.imp_int (by push_cast; omega) | exact SV.imp_int (by dsimp only; omega) | exact SV.imp_eq (by simp)), .sv (by first | exact SV.imp_refl _ | exact SV.imp_int (by omega) | exact SV.imp_int (by push_cast; omega) | exact SV.imp_int (by dsimp only; omega) | exact SV.imp_eq (by simp)), .sv (by first | exact SV.imp_refl _ | exact SV.imp_int (by omega) | exact SV.imp_int (by push_cast; omega) | exact SV.imp_int (by dsimp only; omega) | exact SV.imp_eq (by simp)), trivial⟩ trivial trivial (fun _ _ => rfl)
  ·
    subst hi
    refine ok_seq ?_
    refine ok_region ?_
    refine RT.lss .none (false) rfl rfl (tl rfl) (by simp) ?_
    refine RT.done ?_
    refine AThen.n ?_
    refine ok_seq ?_
    refine ok_condF rfl ?_
    refine ok_exit ?_
    refine AThen.x ?_
    refine AThen.x ?_
    refine AInB.x ?_
    exact ⟨.inl rfl, (fun _ => rfl)⟩
end Go.Proofs.YtfoldppidpmchaaGreat
