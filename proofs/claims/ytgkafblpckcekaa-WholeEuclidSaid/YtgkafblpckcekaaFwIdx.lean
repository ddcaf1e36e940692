/- Arrays of the call's own, element by element: make, index, load, store, slices of them. Over any program. -/
import Derived.Test.YtgkafblpckcekaaFwUse
namespace Go.Fw
open Go.RowKit

theorem take_spl {α : Type} : ∀ (us l : List α) (k n : Nat), k + us.length ≤ n → (spl l k us).take n = spl (l.take n) k us
  | [], l, k, n, _ => rfl
  | u :: us, l, k, n, h => by
    simp only [List.length_cons] at h
    rw [spl, spl, take_spl us _ _ _ (by omega)]
    congr 1
    rw [List.take_set]

section steps
variable {P : Program} {C : Ctx} {ops : Array Oper} {S : AS} {nd : Bool} {K : List Ac → AS → Prop} {rest : List Oper} {acc : List Ac}
variable {gd : Option (Nat × Bool)} {rg : List Nat} {d : Nat} {ty : TypeId} {pos : String} {aft : Array Edge} {x y z : Operand} {T U E0 : TypeId}

/-- Cells of a row change. -/
theorem HoldsAt.putRow {E : Env} {a : Act} {w : World} (h : HoldsAt C S E a w) {i : Nat} {R : Row} (hR : S.r i = .live R) {g : Nat} (hg : (E.ν i).ownBlock = some g) {w' : World} (hw : ∃ c e, w.heap[g]? = some (Obj.cells c e (0, 0)))
    (h1 : w'.os = w.os) (h2 : w'.tape = w.tape) (h3 : w'.output = w.output) (h4 : w'.heap.size = w.heap.size) (h5 : ∀ k, k ≠ g → w'.heap[k]? = w.heap[k]?)
    {cells : List SV} {vs : List Value} (hown : w'.ownsRow 0 R.E R.sz (E.ν i) R.n vs) (hall : SV.All E.M cells vs) : HoldsAt C (S.setR i (.live ⟨R.E, R.sz, R.n, cells⟩)) E a w' := by
  obtain ⟨b1, b2, b3, b4⟩ := (h.rx i R hR).2 g hg
  have hin : E.M.inW w' := inW_of_same h.inW fun b ⟨o, v, e⟩ => h5 b (by rintro rfl; rw [b2 o] at e; cases e)
  have unR : ∀ j, S.r j ≠ .un → (S.setR i (.live ⟨R.E, R.sz, R.n, cells⟩)).r j ≠ .un := fun j hj => by
    by_cases e : j = i
    · subst e; rw [AS.setR_same]; simp
    · rw [AS.setR_other _ _ _ _ e]; exact hj
  have liveO : ∀ j R', (S.setR i (.live ⟨R.E, R.sz, R.n, cells⟩)).r j = .live R' → ∃ R2, S.r j = .live R2 := fun j R' hj => by
    by_cases e : j = i
    · subst e; exact ⟨R, hR⟩
    · rw [AS.setR_other _ _ _ _ e] at hj; exact ⟨R', hj⟩
  exact {
    wf := ⟨h.wf.tb, fun s j hj => unR j (h.wf.tr s j hj), h.wf.bb, fun k B hB x hx j hj => unR j (h.wf.br k B hB x hx j hj)⟩
    marks := by
      obtain ⟨ds, q1, q2, q3⟩ := h.marks
      refine ⟨ds, q1, q2, fun r hr => ?_⟩
      obtain ⟨q4, q5, q6⟩ := q3 r hr
      refine ⟨q4, q5, ?_⟩
      rw [h5 r (by rintro rfl; obtain ⟨c, e, hc⟩ := hw; rw [q6] at hc; cases hc)]; exact q6
    size := h.size
    os := h1.trans h.os
    tape := h2.trans h.tape
    output := h3.trans h.output
    grown := by rw [h4]; exact h.grown
    frame := fun k hk hk' => by
      rw [h5 k (by
        rintro rfl
        rcases b1 with q | q
        · omega
        · exact hk' (C.hbo _ q))]
      exact h.frame k hk hk'
    m0 := h.m0
    mnew := h.mnew
    inW := hin
    tm := h.tm
    bx := fun j B hB => by
      obtain ⟨q1, q2, q3, us, q4, q5⟩ := h.bx j B hB
      exact ⟨q1, q2, q3, us, by rw [h5 _ (b4 j B hB)]; exact q4, q5⟩
    inj := h.inj
    rx := fun j R' hj => by
      by_cases e : j = i
      · subst e
        rw [AS.setR_same] at hj
        cases hj
        exact ⟨⟨vs, hown, hall⟩, (h.rx j R hR).2⟩
      · rw [AS.setR_other _ _ _ _ e] at hj
        obtain ⟨⟨us, q1, q2⟩, q3⟩ := h.rx j R' hj
        exact ⟨⟨us, ownsRow_same q1 fun g' hg' => h5 g' (by rintro rfl; exact e (h.rinj j i R' R hj hR _ hg' hg)), q2⟩, q3⟩
    rinj := fun j k R1 R2 hj hk => by
      obtain ⟨_, q1⟩ := liveO j R1 hj
      obtain ⟨_, q2⟩ := liveO k R2 hk
      exact h.rinj j k _ _ q1 q2
    pin := h.pin
    pinr := h.pinr
    olt := fun b hb => by rw [h4]; exact h.olt b hb
    jj := C.jf _ _ _ _ _ _ _ h.jj (Mem.le_refl _) hin (fun _ _ _ e => .inl e) (fun b hb => h5 b (by
      rintro rfl
      rcases hb with hb | hb
      · rcases b1 with q | q
        · omega
        · exact hb.2 q
      · exact b3 hb)) h1 h2 h3 (by rw [h4]; exact Nat.le_refl _) }

/-- A make of n elements: a row of zeros. -/
theorem RT.makeR (hg : Gd ops S gd rg) {n by_ : Nat} {zv : Value} [tS : TySl P T E0 n] [tE : TyEl P E0 n by_ zv] {kl kc : IntKind} {c : Int} (hx : S.ev x = .sv (.v (.int kl c))) (hy : S.ev y = .sv (.v (.int kc c))) (hd : d < S.n) (hdr : S.r d = .un) (hd1 : d < 1000) (h0 : 0 ≤ c) (hroom : (by_ : Int) * c ≤ 281474976710656) (hroom2 : c ≤ 140737488355328)
    (m : Nat) (hm : m = c.toNat) (cells : List SV) (hcells : cells = (madeCells zv.cells (m * n)).toList.map SV.v)
    (next : RunT P C ops nd K rest (⟨rg ++ (okeys x ++ okeys y), [], [d], ⟨some (d, .row d), [], [(d, .live ⟨E0, n, m, cells⟩)]⟩⟩ :: acc) ((AS.setRs [(d, .live ⟨E0, n, m, cells⟩)] S).set d (.row d))) : RunT P C ops nd K (⟨some d, .makeSlice T x y, ty, pos, aft, gd⟩ :: rest) acc S := by
  subst hcells
  refine .inl ⟨_, [], [d], _, ?_, next⟩
  rintro S' hn ht _ hr i a w L Q ho ⟨E, h⟩ hL
  refine wpOp_of (C := C) ho (hg.wanted h (fun s hs => ht s (List.mem_append_left _ hs)) rfl) ?_
  have h1 : a.eval x = .int kl c := by have h1 := h.ev x; rw [ev_congr (fun _ h => List.mem_append_right _ (List.mem_append_left _ h)) ht, hx] at h1; exact h1
  have h2 : a.eval y = .int kc c := by have h2 := h.ev y; rw [ev_congr (fun _ h => List.mem_append_right _ (List.mem_append_right _ h)) ht, hy] at h2; exact h2
  obtain ⟨info, hi, hsz, hby, hz⟩ := TyEl.info (P := P) (E := E0) (n := n) (by_ := by_) (z := zv)
  obtain ⟨m', rfl⟩ := Int.eq_ofNat_of_zero_le h0
  have hmm : m = m' := by omega
  subst hmm
  have hb' : info.bytes * m ≤ 281474976710656 := by
    rw [hby]
    have : ((by_ * m : Nat) : Int) ≤ 281474976710656 := by rw [Int.natCast_mul]; exact hroom
    omega
  obtain ⟨w', q1, q2, q3⟩ := run_make_full (P := P) w 0 T E0 info zv n tS.u hi hz hsz kl kc m hb' (by unfold maxLen; omega) (Nat.zero_le _)
  have hr' : (execOp a.eval ⟨some d, .makeSlice T x y, ty, pos, aft, gd⟩).run P w = .ok (.value (.slice (some ⟨w.heap.size, 0, none⟩) m m)) w' := by
    simp only [execOp, h1, h2]
    simp [q1]
  have hdu : S'.r d = .un := by rw [hr d (by simp)]; exact hdr
  have hall : SV.All E.M ((madeCells zv.cells (m * n)).toList.map SV.v) (madeCells zv.cells (m * n)).toList := by
    generalize (madeCells zv.cells (m * n)).toList = l
    induction l with
    | nil => trivial
    | cons v l ih => exact ⟨rfl, ih⟩
  refine wpIn_of (C := C) (by intro c h; cases h) hr' (hL _ _ ⟨_, (h.newRow hdu hd1 [] none (.inl ⟨rfl, rfl⟩) (R' := ⟨E0, n, m, (madeCells zv.cells (m * n)).toList.map SV.v⟩) q2 hall (.inr (.inl rfl)) q3).put (d := d) (x := .row d) (v := .slice (some ⟨w.heap.size, 0, none⟩) m m) (by simp [AV.holds]) (by show d < S'.n; omega) ⟨fun _ e => e.elim, fun j e => ?_⟩⟩)
  cases e
  show (AS.setR S' d _).r d ≠ _
  rw [AS.setR_same]; simp

/-- A slice over a row: which row, from which element on, how many. -/
inductive RS (S : AS) : Operand → Nat → Nat → Nat → List Nat → Prop
  | row {x : Operand} {i : Nat} {R : Row} (h : S.ev x = .row i) (hR : S.r i = .live R) : RS S x i 0 R.n [i]
  | rsl {x : Operand} {i o l : Nat} (h : S.ev x = .rsl i o l) : RS S x i o l []

theorem RS.val {E : Env} {a : Act} {w : World} {S' : AS} (h : HoldsAt C S' E a w) {i o l : Nat} {rr : List Nat} (hs : RS S x i o l rr) (ht : ∀ s ∈ okeys x, S'.t s = S.t s) (hr : ∀ j ∈ rr, S'.r j = S.r j) (hpos : 0 < l) : ∃ g c, (E.ν i).ownBlock = some g ∧ a.eval x = .slice (some ⟨g, o, none⟩) l c ∧ l ≤ c := by
  cases hs with
  | @row R h1 hR =>
    have hx := h.ev x
    rw [ev_congr (fun _ h => h) ht, h1] at hx
    have hx : a.eval x = E.ν i := hx
    obtain ⟨⟨vs, ho, _⟩, _⟩ := h.rx i R (by rw [hr i (by simp)]; exact hR)
    rcases ho.2 with ⟨_, q2⟩ | ⟨g, cap, cur, q1, _, _, q3, _⟩
    · omega
    · exact ⟨g, cap, by rw [q1]; rfl, by rw [hx, q1], q3⟩
  | rsl h1 =>
    have hx := h.ev x
    rw [ev_congr (fun _ h => h) ht, h1] at hx
    obtain ⟨g, q1, c, q2, q3⟩ := hx
    exact ⟨g, c, q1, q2, q3⟩
theorem RS.live {S' : AS} (h : S'.wf) {i o l : Nat} {rr : List Nat} (hs : RS S x i o l rr) (ht : ∀ s ∈ okeys x, S'.t s = S.t s) : S'.r i ≠ .un := by
  cases hs with
  | row h1 hR => exact (ev_live h (show S'.ev x = .row i by rw [ev_congr (fun _ h => h) ht, h1])).2 i rfl
  | rsl h1 =>
    exact (ev_live h (show S'.ev x = .rsl i o l by rw [ev_congr (fun _ h => h) ht, h1])).2 i rfl

theorem RT.ixR (hg : Gd ops S gd rg) {n : Nat} [tS : TySl P T E0 n] {i o l : Nat} {rr : List Nat} (hx : RS S x i o l rr) {kk : IntKind} {j : Int} (hy : S.ev y = .sv (.v (.int kk j))) (hd : d < S.n) (h0 : 0 ≤ j) (h1 : j < l) (k : Nat) (hk : o + j.toNat * n = k)
    (next : RunT P C ops nd K rest (⟨rg ++ (okeys x ++ okeys y), [], rr, ⟨some (d, .rptr i k), [], []⟩⟩ :: acc) (S.set d (.rptr i k))) : RunT P C ops nd K (⟨some d, .indexAddr T x y, ty, pos, aft, gd⟩ :: rest) acc S :=
  RT.value hg (okeys x ++ okeys y) [] rr (.rptr i k) hd (by intro c h; cases h) (fun S' ht _ hr E a w h => by
    obtain ⟨g, c, q1, q2, _⟩ := hx.val h (fun s hs => ht s (List.mem_append_left _ hs)) hr (by omega)
    have h2 : a.eval y = .int kk j := by have h2 := h.ev y; rw [ev_congr (fun _ h => List.mem_append_right _ h) ht, hy] at h2; exact h2
    have hl := hx.live h.wf (fun s hs => ht s (List.mem_append_left _ hs))
    refine ⟨.pointer (some ⟨g, k, none⟩), ?_, ⟨g, q1, rfl⟩, fun _ e => e.elim, fun j' e => by cases e; exact hl⟩
    have hsz := tS.size w
    have hb : 0 ≤ j ∧ j < (l : Int) := ⟨h0, h1⟩
    simp [execOp, h2, q2, Instr.indexAt, asIntOf, underlying, tS.u, hsz, addr_add, hb, hk]) next

theorem row_cell {E : Env} {a : Act} {w : World} (h : HoldsAt C S E a w) {i : Nat} {R : Row} (hR : S.r i = .live R) {g : Nat} (hg : (E.ν i).ownBlock = some g) : ∃ cur vs : List Value, w.heap[g]? = some (.cells ⟨cur⟩ R.E (0, 0)) ∧ cur.take (R.n * R.sz) = vs ∧ vs.length = R.n * R.sz ∧ SV.All E.M R.cells vs ∧ ∃ cap, E.ν i = .slice (some ⟨g, 0, none⟩) R.n cap ∧ R.n ≤ cap ∧ cap ≤ maxLen ∧ cur.length = cap * R.sz := by
  obtain ⟨⟨vs, ho, hv⟩, _⟩ := h.rx i R hR
  rcases ho.2 with ⟨q1, _⟩ | ⟨g', cap, cur, q1, _, q2, q3, q4, q5, q6⟩
  · rw [q1] at hg; cases hg
  · rw [q1] at hg
    cases hg
    exact ⟨cur.toList, vs, by rw [q2], q6, ho.1, hv, cap, q1, q3, q4, by simpa using q5⟩

theorem RT.ldR (hg : Gd ops S gd rg) [tV : TyV P T] {i k : Nat} {R : Row} {s : SV} (hx : S.ev x = .rptr i k) (hR : S.r i = .live R) (hs : R.cells[k]? = some s) (hd : d < S.n)
    (next : RunT P C ops nd K rest (⟨rg ++ okeys x, [], [i], ⟨some (d, .sv s), [], []⟩⟩ :: acc) (S.set d (.sv s))) : RunT P C ops nd K (⟨some d, .load T x, ty, pos, aft, gd⟩ :: rest) acc S :=
  RT.value hg (okeys x) [] [i] (.sv s) hd (by intro c h; cases h) (fun S' ht _ hr E a w h => by
    have h1 := h.ev x
    rw [ev_congr (fun _ h => h) ht, hx] at h1
    obtain ⟨g, hg', e⟩ := h1
    have hR' : S'.r i = .live R := by rw [hr i (by simp)]; exact hR
    obtain ⟨cur, vs, q1, q2, q3, q4, _⟩ := row_cell h hR' hg'
    obtain ⟨u, hu, hus⟩ := q4.get hs
    refine ⟨u, ?_, hus, nomb⟩
    have hc : w.cell? ⟨g, k, none⟩ = some u := by
      rw [← q2, List.getElem?_take] at hu
      split at hu
      · simpa [World.cell?, q1] using hu
      · cases hu
    simp [execOp, e, Instr.loadAt, Instr.sureAddr, loadVar, tV.isAgg, hc]) next

theorem RT.ldRA (hg : Gd ops S gd rg) {n : Nat} [tA : TyA P T n] {i k : Nat} {R : Row} {cs : List SV} (hx : S.ev x = .rptr i k) (hR : S.r i = .live R) (hs : (R.cells.drop k).take n = cs) (hn : cs.length = n) (hd : d < S.n)
    (next : RunT P C ops nd K rest (⟨rg ++ okeys x, [], [i], ⟨some (d, .sv (.agg cs)), [], []⟩⟩ :: acc) (S.set d (.sv (.agg cs)))) : RunT P C ops nd K (⟨some d, .load T x, ty, pos, aft, gd⟩ :: rest) acc S :=
  RT.value hg (okeys x) [] [i] (.sv (.agg cs)) hd (by intro c h; cases h) (fun S' ht _ hr E a w h => by
    have h1 := h.ev x
    rw [ev_congr (fun _ h => h) ht, hx] at h1
    obtain ⟨g, hg', e⟩ := h1
    have hR' : S'.r i = .live R := by rw [hr i (by simp)]; exact hR
    obtain ⟨cur, vs, q1, q2, q3, q4, _⟩ := row_cell h hR' hg'
    have seg : ∀ (l : List SV) (ws : List Value) (k n : Nat), SV.All E.M l ws → SV.All E.M ((l.drop k).take n) ((ws.drop k).take n) := by
      have drop : ∀ (k : Nat) {l : List SV} {vs : List Value}, SV.All E.M l vs → SV.All E.M (l.drop k) (vs.drop k) := by
        intro k
        induction k with
        | zero => intro l vs h; exact h
        | succ k ih =>
          intro l vs h
          cases l with
          | nil => cases vs with | nil => exact h | cons _ _ => exact h.elim
          | cons s l => cases vs with | nil => exact h.elim | cons v vs => exact ih h.2
      have take : ∀ (n : Nat) {l : List SV} {vs : List Value}, SV.All E.M l vs → SV.All E.M (l.take n) (vs.take n) := by
        intro n
        induction n with
        | zero => intro l vs _; exact trivial
        | succ n ih =>
          intro l vs h
          cases l with
          | nil => cases vs with | nil => exact h | cons _ _ => exact h.elim
          | cons s l => cases vs with | nil => exact h.elim | cons v vs => exact ⟨h.1, ih h.2⟩
      exact fun l ws k n h => take _ (drop _ h)
    have hall := seg R.cells vs k n q4
    rw [hs] at hall
    have hl := hall.length
    refine ⟨.agg ⟨(vs.drop k).take n⟩, ?_, ⟨_, rfl, hall⟩, nomb⟩
    have := run_loadAgg (P := P) (T := T) (n := n) (w := w) (b := g) (o := k) (vs := (vs.drop k).take n) (by omega) (fun j v hj => by
      rw [List.getElem?_take] at hj
      split at hj
      · rw [List.getElem?_drop, ← q2, List.getElem?_take] at hj
        split at hj
        · simpa [World.cell?, q1] using hj
        · cases hj
      · cases hj)
    simp [execOp, e, Instr.loadAt, Instr.sureAddr, this]) next

theorem RT.stRG (hg : Gd ops S gd rg) {m : Nat} {i k : Nat} {R : Row} {us : List SV} (hx : S.ev x = .rptr i k) (hR : S.r i = .live R) (hy : ∀ (S' : AS) (E : Env) (a : Act) (w : World), HoldsAt C S' E a w → S'.ev y = S.ev y → ∃ vs : List Value, (a.eval y).cells = ⟨vs⟩ ∧ SV.All E.M us vs ∧ (∀ u ∈ vs, u.oneCell' = true))
    (hsT : ∀ w : World, (sizeOf T).run P w = .ok m w) (hul : us.length = m) (hk : k + m ≤ R.n * R.sz) {cells : List SV} (hcs : spl R.cells k us = cells)
    (next : RunT P C ops nd K rest (⟨rg ++ (okeys x ++ okeys y), [], [i], ⟨none, [], [(i, .live ⟨R.E, R.sz, R.n, cells⟩)]⟩⟩ :: acc) (AS.setRs [(i, .live ⟨R.E, R.sz, R.n, cells⟩)] S)) : RunT P C ops nd K (⟨none, .store T x y, ty, pos, aft, gd⟩ :: rest) acc S := by
  refine .inl ⟨_, [], [i], _, ?_, next⟩
  rintro S' hn' ht _ hrr ix a w L Q ho ⟨E, h⟩ hL
  refine wpOp_of (C := C) ho (hg.wanted h (fun s hs => ht s (List.mem_append_left _ hs)) rfl) ?_
  have h1 := h.ev x
  rw [ev_congr (fun _ h => List.mem_append_right _ (List.mem_append_left _ h)) ht, hx] at h1
  obtain ⟨g, hg', e⟩ := h1
  have hR' : S'.r i = .live R := by rw [hrr i (by simp)]; exact hR
  obtain ⟨cur, vs, q1, q2, q3, q4, cap, q5, q6, q7, q8⟩ := row_cell h hR' hg'
  obtain ⟨ws, hu, hall, hone⟩ := hy S' E a w h (ev_congr (fun _ h => List.mem_append_right _ (List.mem_append_right _ h)) ht)
  have hl1 := hall.length
  have hcl : R.n * R.sz ≤ cur.length := by rw [q8]; exact Nat.mul_le_mul_right _ q6
  have hst := run_storeCells_box (P := P) (T := R.E) ws 0 k w cur hone q1 (by omega)
  have hr : (execOp a.eval ⟨none, .store T x y, ty, pos, aft, gd⟩).run P w = .ok .skip (putBlk w g (spl cur k ws) R.E) := by
    simp only [execOp, e, Instr.storeAt, Instr.sureAddr, storeVar, hu]
    simp only [Sem.run_bind, Sem.run_pure, Result.andThen_ok, hsT]
    simp only [show ¬ (ws.length ≠ m) from by omega, List.size_toArray, if_false]
    simp only [Nat.add_zero] at hst
    simp only [Result.andThen_ok, hst]
  have hown : (putBlk w g (spl cur k ws) R.E).ownsRow 0 R.E R.sz (E.ν i) R.n (spl vs k ws) := by
    refine ⟨by rw [spl_length]; exact q3, .inr ⟨g, cap, ⟨spl cur k ws⟩, q5, Nat.zero_le _, putBlk_at q1, q6, q7, by simp [spl_length, q8], ?_⟩⟩
    show (spl cur k ws).take _ = _
    rw [take_spl _ _ _ _ (by omega), q2]
  refine wpIn_of (C := C) (by intro c h; cases h) hr (hL _ _ ⟨E, ?_⟩)
  have hp := h.putRow hR' hg' (w' := putBlk w g (spl cur k ws) R.E) ⟨_, _, q1⟩ rfl rfl rfl putBlk_size (fun k' hk' => putBlk_other hk') hown (spl_allS q4 hall)
  rw [hcs] at hp
  exact hp

theorem RT.stR (hg : Gd ops S gd rg) [tV : TyV P T] {i k : Nat} {R : Row} {s : SV} [o1 : One s] (hx : S.ev x = .rptr i k) (hR : S.r i = .live R) (hy : S.ev y = .sv s) (hk : k + 1 ≤ R.n * R.sz) (cells : List SV) (hcs : R.cells.set k s = cells)
    (next : RunT P C ops nd K rest (⟨rg ++ (okeys x ++ okeys y), [], [i], ⟨none, [], [(i, .live ⟨R.E, R.sz, R.n, cells⟩)]⟩⟩ :: acc) (AS.setRs [(i, .live ⟨R.E, R.sz, R.n, cells⟩)] S)) : RunT P C ops nd K (⟨none, .store T x y, ty, pos, aft, gd⟩ :: rest) acc S := by
  refine RT.stRG hg hx hR (us := [s]) (fun S' E a w h e => ?_) (fun w => tV.size w) rfl hk (cells := cells) (by rw [← hcs]; rfl) next
  have h2 := h.ev y
  rw [e, hy] at h2
  have := o1.h _ _ h2
  exact ⟨[a.eval y], oneCell_cells this, ⟨h2, trivial⟩, by simpa using this⟩
theorem RT.stRA (hg : Gd ops S gd rg) {n : Nat} [tA : TyA P T n] {i k : Nat} {R : Row} {cs : List SV} [o1 : Ones cs] (hx : S.ev x = .rptr i k) (hR : S.r i = .live R) (hy : S.ev y = .sv (.agg cs)) (hcl : cs.length = n) (hk : k + n ≤ R.n * R.sz) (cells : List SV) (hcs : spl R.cells k cs = cells)
    (next : RunT P C ops nd K rest (⟨rg ++ (okeys x ++ okeys y), [], [i], ⟨none, [], [(i, .live ⟨R.E, R.sz, R.n, cells⟩)]⟩⟩ :: acc) (AS.setRs [(i, .live ⟨R.E, R.sz, R.n, cells⟩)] S)) : RunT P C ops nd K (⟨none, .store T x y, ty, pos, aft, gd⟩ :: rest) acc S := by
  refine RT.stRG hg hx hR (us := cs) (fun S' E a w h e => ?_) (fun w => tA.size w) hcl hk (cells := cells) hcs next
  have h2 := h.ev y
  rw [e, hy] at h2
  obtain ⟨us, hu, hall⟩ := h2
  exact ⟨us, by rw [hu]; rfl, hall, o1.h E.M us hall⟩

/-- row[lo:hi], or a slice of such a slice, as a slice over the row. -/
theorem RT.sliceR (hg : Gd ops S gd rg) {sz : Nat} [tS : TySl P T E0 sz] {i o l0 : Nat} {rr : List Nat} (hx : RS S x i o l0 rr) {lo hi : Option Operand} (l h' : Int) (hlo : bndS S 0 lo l) (hhi : bndS S l0 hi h') (hd : d < S.n) (h0 : 0 ≤ l) (h1 : l < l0) (h3 : l ≤ h') (h2 : h' ≤ l0)
    (o' l' : Nat) (ho' : o + l.toNat * sz = o') (hl' : (h' - l).toNat = l') (next : RunT P C ops nd K rest (⟨rg ++ (okeys x ++ (bkeys lo ++ bkeys hi)), [], rr, ⟨some (d, .rsl i o' l'), [], []⟩⟩ :: acc) (S.set d (.rsl i o' l'))) : RunT P C ops nd K (⟨some d, .slice T x lo hi none, ty, pos, aft, gd⟩ :: rest) acc S := by
  subst ho'; subst hl'
  refine RT.value hg (okeys x ++ (bkeys lo ++ bkeys hi)) [] rr (.rsl i (o + l.toNat * sz) (h' - l).toNat) hd (by intro c h; cases h) (fun S' ht _ hrr E a w h => ?_) next
  obtain ⟨g, cap, q1, hval, hcap⟩ := hx.val h (fun s hs => ht s (List.mem_append_left _ hs)) hrr (by omega)
  have hlv := hx.live h.wf (fun s hs => ht s (List.mem_append_left _ hs))
  have g1 := bnd_val h hlo (fun s hs => ht s (List.mem_append_right _ (List.mem_append_left _ hs)))
  have g2 := bnd_val h hhi (fun s hs => ht s (List.mem_append_right _ (List.mem_append_right _ hs)))
  obtain ⟨kl, hkl⟩ := Int.eq_ofNat_of_zero_le h0
  obtain ⟨kh, hkh⟩ := Int.eq_ofNat_of_zero_le (show 0 ≤ h' by omega)
  have hkm : kl ≤ kh := by omega
  have hmc : kh ≤ cap := by omega
  have hne : ¬ cap = kl := by omega
  have hsz := tS.size w
  have hr : (execOp a.eval ⟨some d, .slice T x lo hi none, ty, pos, aft, gd⟩).run P w = .ok (.value (.slice (some ⟨g, o + kl * sz, none⟩) (kh - kl) (cap - kl))) w := by
    rcases g1 with ⟨rfl, e1⟩ | ⟨x1, k1, rfl, e1⟩ <;> rcases g2 with ⟨rfl, e2⟩ | ⟨x2, k2, rfl, e2⟩
    · have e1' : kl = 0 := by omega
      have e2' : kh = l0 := by omega
      subst e1'; subst e2'
      simp [execOp, hval, Instr.sliceAt, Instr.slice, underlying, tS.u, Instr.sliceBounds, hsz, addr_add]
    · have e1' : kl = 0 := by omega
      subst e1'
      simp [execOp, hval, Instr.sliceAt, Instr.slice, underlying, tS.u, Instr.sliceBounds, Instr.sliceBound, asIntOf, e2, hsz, hkh, hmc, addr_add]
    · have e2' : kh = l0 := by omega
      have e3' : kl ≤ l0 := by omega
      subst e2'
      simp [execOp, hval, Instr.sliceAt, Instr.slice, underlying, tS.u, Instr.sliceBounds, Instr.sliceBound, asIntOf, e1, hsz, hkl, e3', addr_add, hne]
    · simp [execOp, hval, Instr.sliceAt, Instr.slice, underlying, tS.u, Instr.sliceBounds, Instr.sliceBound, asIntOf, e1, e2, hsz, hkl, hkh, hmc, hkm, addr_add, hne]
  have e1 : l.toNat = kl := by omega
  have e2 : (h' - l).toNat = kh - kl := by omega
  refine ⟨_, hr, ⟨g, q1, cap - kl, by rw [e1, e2], by rw [e2]; omega⟩, fun _ e => e.elim, fun j e => ?_⟩
  cases e; exact hlv

theorem RT.lenRs (hg : Gd ops S gd rg) {m : Nat} [tS : TySl P T E0 m] {i o l : Nat} (hx : S.ev x = .rsl i o l) (hd : d < S.n)
    (next : RunT P C ops nd K rest (⟨rg ++ okeys x, [], [], ⟨some (d, .sv (.v (.int .i64 l))), [], []⟩⟩ :: acc) (S.set d (.sv (.v (.int .i64 l))))) : RunT P C ops nd K (⟨some d, .call ⟨.builtin .len, #[x], #[T]⟩, ty, pos, aft, gd⟩ :: rest) acc S :=
  RT.value hg (okeys x) [] [] (.sv (.v (.int .i64 l))) hd (by intro c h; cases h) (fun S' ht _ _ E a w h => by
    have h1 := h.ev x
    rw [ev_congr (fun _ h => h) ht, hx] at h1
    obtain ⟨g, _, c, e, _⟩ := h1
    exact ⟨_, by simp [execOp, resolve, invoke, builtin, Builtin.len_, underlying, tS.u, e, goInt], rfl, nomb⟩) next

/-- row[:k], to be grown on: the elements behind are given up. -/
theorem RT.truncR (hg : Gd ops S gd rg) {sz : Nat} [tS : TySl P T E0 sz] {i : Nat} {R : Row} {hi : Operand} {kk : IntKind} {h' : Int} (hx : S.ev x = .row i) (hR : S.r i = .live R) (hhi : S.ev hi = .sv (.v (.int kk h'))) (hd : d < S.n) (hdr : S.r d = .un) (hd1 : d < 1000) (h0 : 0 ≤ h') (h2 : h' ≤ R.n) (R' : Row) (hR' : R' = ⟨R.E, R.sz, h'.toNat, R.cells.take (h'.toNat * R.sz)⟩)
    (next : RunT P C ops nd K rest (⟨rg ++ (okeys x ++ okeys hi), [], [i, d], ⟨some (d, .row d), [], [(i, .dead), (d, .live R')]⟩⟩ :: acc) ((AS.setRs [(i, .dead), (d, .live R')] S).set d (.row d))) : RunT P C ops nd K (⟨some d, .slice T x none (some hi) none, ty, pos, aft, gd⟩ :: rest) acc S := by
  subst hR'
  refine .inl ⟨_, [], [i, d], _, ?_, next⟩
  rintro S' hn ht _ hr ix a w L Q ho ⟨E, h⟩ hL
  refine wpOp_of (C := C) ho (hg.wanted h (fun s hs => ht s (List.mem_append_left _ hs)) rfl) ?_
  have hxv : a.eval x = E.ν i := by have := h.ev x; rw [ev_congr (fun _ h => List.mem_append_right _ (List.mem_append_left _ h)) ht, hx] at this; exact this
  have hhv : a.eval hi = .int kk h' := by have := h.ev hi; rw [ev_congr (fun _ h => List.mem_append_right _ (List.mem_append_right _ h)) ht, hhi] at this; exact this
  have hRi : S'.r i = .live R := by rw [hr i (by simp)]; exact hR
  have hdu : S'.r d = .un := by rw [hr d (by simp)]; exact hdr
  obtain ⟨kh, hkh⟩ := Int.eq_ofNat_of_zero_le h0
  obtain ⟨⟨vs, ho2, hvs⟩, _⟩ := h.rx i R hRi
  have hszw := tS.size w
  have takeAll : ∀ (n : Nat) {l : List SV} {vs : List Value}, SV.All E.M l vs → SV.All E.M (l.take n) (vs.take n) := by
    intro n
    induction n with
    | zero => intro l vs _; exact trivial
    | succ n ih =>
      intro l vs h
      cases l with
      | nil => cases vs with | nil => exact h | cons _ _ => exact h.elim
      | cons s l => cases vs with | nil => exact h.elim | cons v vs => exact ⟨h.1, ih h.2⟩
  have key : ∃ v', (execOp a.eval ⟨some d, .slice T x none (some hi) none, ty, pos, aft, gd⟩).run P w = .ok (.value v') w ∧ w.ownsRow 0 R.E R.sz v' h'.toNat (vs.take (h'.toNat * R.sz)) ∧ (v'.ownBlock = (E.ν i).ownBlock) := by
    have hvl : (vs.take (h'.toNat * R.sz)).length = h'.toNat * R.sz := by
      rw [List.length_take, ho2.1]
      exact Nat.min_eq_left (Nat.mul_le_mul_right _ (by omega))
    rcases ho2.2 with ⟨q1, q2⟩ | ⟨g, cap, cur, q1, qb, q3, q4, q5, q6, q7⟩
    · have e0 : kh = 0 := by omega
      have hval : a.eval x = .slice none 0 0 := by rw [hxv, q1]
      refine ⟨.slice none 0 0, ?_, ⟨hvl, .inl ⟨rfl, by omega⟩⟩, by rw [q1]⟩
      simp [execOp, hval, hhv, Instr.sliceAt, Instr.slice, underlying, tS.u, Instr.sliceBounds, Instr.sliceBound, asIntOf, hszw, hkh, e0]
    · have hval : a.eval x = .slice (some ⟨g, 0, none⟩) R.n cap := by rw [hxv, q1]
      have hmc : kh ≤ cap := by omega
      refine ⟨.slice (some ⟨g, 0, none⟩) kh cap, ?_, ⟨hvl, .inr ⟨g, cap, cur, by rw [show h'.toNat = kh by omega], qb, q3, by omega, q5, q6, ?_⟩⟩, by rw [q1]; rfl⟩
      · simp [execOp, hval, hhv, Instr.sliceAt, Instr.slice, underlying, tS.u, Instr.sliceBounds, Instr.sliceBound, asIntOf, hszw, hkh, hmc, addr_add]
      · rw [← q7, List.take_take, Nat.min_eq_left (Nat.mul_le_mul_right _ (by omega))]
  obtain ⟨v', q1, q2, q3⟩ := key
  refine wpIn_of (C := C) (by intro c h; cases h) q1 (hL _ _ ⟨_, (h.newRow hdu hd1 [(i, .dead)] (E.ν i).ownBlock (.inr ⟨i, R, rfl, hRi, rfl⟩) (R' := ⟨R.E, R.sz, h'.toNat, R.cells.take (h'.toNat * R.sz)⟩) q2 (takeAll _ hvs) (.inl q3) ⟨rfl, rfl, rfl, Nat.le_refl _, fun _ _ _ => rfl⟩).put (d := d) (x := .row d) (v := v') (by simp [AV.holds]) (by show d < S'.n; omega) ⟨fun _ e => e.elim, fun j e => ?_⟩⟩)
  cases e
  show (AS.setR (AS.setR S' i _) d _).r d ≠ _
  rw [AS.setR_same]; simp
end steps
end Go.Fw
