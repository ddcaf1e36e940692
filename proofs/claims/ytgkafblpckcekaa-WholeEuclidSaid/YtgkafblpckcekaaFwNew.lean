/- Rows that grow by append, literals, arrays that a make lays, slices of slices; rows and boxes that no longer change. Over any program. -/
import Derived.Test.YtgkafblpckcekaaFwRow
import Derived.Maps.AppendAt
namespace Go.Fw
open Go.RowKit

class TyEl (P : Program) (E : TypeId) (n : outParam Nat) (by_ : outParam Nat) (z : outParam Value) : Prop where
  h : (P.info? E).map (fun i => (i.size, i.bytes, i.zero)) = some (n, by_, some z)
  z : z.cells.size = n
  p : 0 < n
  b : by_ ≤ 1048576
theorem TyEl.info {P : Program} {E : TypeId} {n by_ : Nat} {z : Value} [t : TyEl P E n by_ z] : ∃ i, P.info? E = some i ∧ i.size = n ∧ i.bytes = by_ ∧ i.zero = some z := by
  have h := t.h
  cases hi : P.info? E with
  | none => rw [hi] at h; cases h
  | some i =>
    rw [hi] at h
    simp only [Option.map_some, Option.some.injEq, Prod.mk.injEq] at h
    exact ⟨i, rfl, h.1, h.2.1, h.2.2⟩

section steps
variable {P : Program} {C : Ctx} {ops : Array Oper} {S : AS} {nd : Bool} {K : List Ac → AS → Prop} {rest : List Oper} {acc : List Ac}
variable {gd : Option (Nat × Bool)} {rg : List Nat} {d : Nat} {ty : TypeId} {pos : String} {aft : Array Edge} {x y z : Operand} {T U E0 : TypeId}

/-- A block that the state does not speak of. -/
def Free (C : Ctx) (S : AS) (E : Env) (g : Nat) : Prop :=
  C.w0.heap.size ≤ g ∧ (∀ o, E.M g o = none) ∧ ¬ E.O g ∧ (∀ j B, S.b j = some B → E.β j ≠ g) ∧ (∀ j R, S.r j = .live R → (E.ν j).ownBlock ≠ some g)
theorem HoldsAt.free {E : Env} {a : Act} {w : World} (h : HoldsAt C S E a w) {g : Nat} (hg : w.heap.size ≤ g) : Free C S E g := by
  refine ⟨Nat.le_trans h.grown hg, fun o => ?_, fun ho => ?_, fun j B hB e => ?_, fun j R hj e => ?_⟩
  · cases e : E.M g o with
    | none => rfl
    | some v => have := inW_lt h.inW e; omega
  · have := (h.olt _ ho).1; omega
  · have := box_lt h hB; omega
  · have := row_lt h hj e; omega

/-- A row comes to be (out of an old one, whose block may change, or of nothing). -/
theorem HoldsAt.newRow' {E : Env} {a : Act} {w w' : World} (h : HoldsAt C S E a w) {d : Nat} (hd : S.r d = .un) (hd1 : d < 1000) (old : List (Nat × RSt)) (blk : Option Nat)
    (hold : (old = [] ∧ blk = none) ∨ ∃ i R, old = [(i, .dead)] ∧ S.r i = .live R ∧ blk = (E.ν i).ownBlock)
    {R' : Row} {v' : Value} {vs' : List Value} (hown : w'.ownsRow 0 R'.E R'.sz v' R'.n vs') (hcells : SV.All E.M R'.cells vs') (hat : ∀ g, v'.ownBlock = some g → blk = some g ∨ Free C S E g) (hgrow : w.grownBy w' blk) :
    HoldsAt C (AS.setRs (old ++ [(d, .live R')]) S) { E with ν := fun j => if j = d then v' else E.ν j } a w' := by
  have hsr := setRs_n (old ++ [(d, RSt.live R')]) S
  -- what is known of the block that may change
  have hb : ∀ g, blk = some g → (C.w0.heap.size ≤ g ∨ C.bor g) ∧ (∀ o, E.M g o = none) ∧ ¬ E.O g ∧ (∀ j B, S.b j = some B → E.β j ≠ g) ∧ g < w.heap.size ∧ (∃ c e, w.heap[g]? = some (Obj.cells c e (0, 0))) ∧ ∃ i R, old = [(i, .dead)] ∧ S.r i = .live R ∧ (E.ν i).ownBlock = some g := by
    intro g hg
    rcases hold with ⟨_, h2⟩ | ⟨i, R, h1, h2, h3⟩
    · rw [h2] at hg; cases hg
    · rw [h3] at hg
      obtain ⟨⟨us, ho, _⟩, h4⟩ := h.rx i R h2
      obtain ⟨h5, h6, h7, h8⟩ := h4 g hg
      refine ⟨h5, h6, h7, h8, row_lt h h2 hg, ?_, i, R, h1, h2, hg⟩
      rcases ho.2 with ⟨h9, _⟩ | ⟨g', cap, cur, h9, _, h10, _⟩
      · rw [h9] at hg; cases hg
      · rw [h9] at hg; cases hg; exact ⟨_, _, h10⟩
  have same : ∀ k, k < w.heap.size → (∀ g, blk = some g → k ≠ g) → w'.heap[k]? = w.heap[k]? := fun k hk hne => hgrow.block k hk (fun e => hne k e.symm rfl)
  have rOf : ∀ j, (AS.setRs (old ++ [(d, RSt.live R')]) S).r j = if j = d then .live R' else (lastR old j).getD (S.r j) := by
    intro j
    rw [setRs_r]
    have : ∀ l : List (Nat × RSt), lastR (l ++ [(d, RSt.live R')]) j = if j = d then some (.live R') else lastR l j := by
      intro l
      induction l with
      | nil => rfl
      | cons p l ih =>
        obtain ⟨i, R⟩ := p
        rw [List.cons_append, lastR, lastR, ih]
        by_cases e : j = d
        · simp [e]
        · simp [e]
    rw [this]
    by_cases e : j = d
    · simp [e]
    · simp [e]
  have oldne : ∀ i, (i, RSt.dead) ∈ old → S.r i ≠ .un := by
    intro i hi
    rcases hold with ⟨h1, _⟩ | ⟨i', R, h1, h2, _⟩
    · rw [h1] at hi; simp at hi
    · rw [h1] at hi; simp at hi; subst hi; rw [h2]; simp
  have lastOld : ∀ j, lastR old j = none ∨ (lastR old j = some .dead ∧ (j, RSt.dead) ∈ old) := by
    intro j
    rcases hold with ⟨h1, _⟩ | ⟨i', R, h1, h2, _⟩
    · rw [h1]; exact .inl rfl
    · rw [h1]
      by_cases e : j = i'
      · subst e; exact .inr ⟨by simp [lastR], by simp⟩
      · exact .inl (by simp [lastR, e])
  have unR : ∀ j, S.r j ≠ .un → (AS.setRs (old ++ [(d, RSt.live R')]) S).r j ≠ .un := by
    intro j hj
    rw [rOf]
    by_cases e : j = d
    · simp [e]
    · rw [if_neg e]
      rcases lastOld j with h1 | ⟨h1, _⟩
      · rw [h1]; exact hj
      · rw [h1]; simp
  have liveOld : ∀ j R, (AS.setRs (old ++ [(d, RSt.live R')]) S).r j = .live R → j ≠ d → S.r j = .live R ∧ (∀ g, blk = some g → (E.ν j).ownBlock ≠ some g) := by
    intro j R hj hne
    rw [rOf, if_neg hne] at hj
    rcases lastOld j with h1 | ⟨h1, _⟩
    · rw [h1] at hj
      refine ⟨hj, fun g hg e => ?_⟩
      obtain ⟨_, _, _, _, _, _, i, R2, h2, h3, h4⟩ := hb g hg
      have hji := h.rinj j i R R2 hj h3 g e h4
      subst hji
      rw [h2] at h1; simp [lastR] at h1
    · rw [h1] at hj; cases hj
  have nod : ∀ x : AV, (∀ j, x.mr j → S.r j ≠ .un) → ∀ v, x.holds E v → x.holds { E with ν := fun j => if j = d then v' else E.ν j } v := fun x hx v hv =>
    AV.holds_congr (E := E) (E' := { E with ν := fun j => if j = d then v' else E.ν j }) (Mem.le_refl _) (fun _ _ => rfl) (fun j hj => if_neg (by rintro rfl; exact hx j hj hd)) hv
  have hinW : E.M.inW w' := inW_of_same h.inW fun b ⟨o, v, e⟩ => same b (inW_lt h.inW e) (fun g hg hbg => by subst hbg; rw [(hb _ hg).2.1 o] at e; cases e)
  have newBlk : ∀ g, v'.ownBlock = some g → (C.w0.heap.size ≤ g ∨ C.bor g) ∧ (∀ o, E.M g o = none) ∧ ¬ E.O g ∧ (∀ j B, S.b j = some B → E.β j ≠ g) ∧ (∀ j R, (AS.setRs (old ++ [(d, RSt.live R')]) S).r j = .live R → j ≠ d → (E.ν j).ownBlock ≠ some g) := by
    intro g hg
    rcases hat g hg with h1 | ⟨f1, f2, f3, f4, f5⟩
    · obtain ⟨h2, h3, h4, h5, _⟩ := hb g h1
      exact ⟨h2, h3, h4, h5, fun j R hj hne => (liveOld j R hj hne).2 g h1⟩
    · exact ⟨.inl f1, f2, f3, f4, fun j R hj hne => f5 j R (liveOld j R hj hne).1⟩
  exact {
    wf := by
      refine ⟨fun s j hj => ?_, fun s j hj => ?_, fun i B hB x hx j hj => ?_, fun i B hB x hx j hj => ?_⟩
      · rw [hsr.2.1] at hj; rw [hsr.2.2.1]; exact h.wf.tb s j hj
      · rw [hsr.2.1] at hj; exact unR j (h.wf.tr s j hj)
      · rw [hsr.2.2.1] at hB ⊢; exact h.wf.bb i B hB x hx j hj
      · rw [hsr.2.2.1] at hB; exact unR j (h.wf.br i B hB x hx j hj)
    marks := by
      obtain ⟨ds, h1, h2, h3⟩ := h.marks
      refine ⟨ds, h1, h2, fun r hr => ?_⟩
      obtain ⟨h4, h5, h6⟩ := h3 r hr
      refine ⟨h4, h5, ?_⟩
      rw [same r (Array.getElem?_eq_some_iff.1 h6).1 (fun g hg e => by
        subst e
        obtain ⟨c, e, hc⟩ := (hb _ hg).2.2.2.2.2.1
        rw [h6] at hc; cases hc)]
      exact h6
    size := by rw [hsr.1]; exact h.size
    os := hgrow.os.trans h.os
    tape := hgrow.tape.trans h.tape
    output := hgrow.output.trans h.output
    grown := Nat.le_trans h.grown hgrow.size
    frame := fun k hk hk' => by
      rw [same k (by have := h.grown; omega) (fun g hg e => by
        subst e
        rcases (hb _ hg).1 with h1 | h1
        · omega
        · exact hk' (C.hbo _ h1))]
      exact h.frame k hk hk'
    m0 := h.m0
    mnew := h.mnew
    inW := hinW
    tm := fun s => by rw [hsr.2.1]; exact nod _ (h.wf.tr s) _ (h.tm s)
    bx := fun i B hB => by
      rw [hsr.2.2.1] at hB
      obtain ⟨h1, h2, h3, vs, h4, h5⟩ := h.bx i B hB
      exact ⟨h1, h2, h3, vs, by rw [same _ (box_lt h hB) (fun g hg e => (hb g hg).2.2.2.1 i B hB e)]; exact h4, h5.imp fun x hx v hv => nod x (h.wf.br i B hB x hx) v hv⟩
    inj := fun i j B B' hi hj e => by rw [hsr.2.2.1] at hi hj; exact h.inj i j B B' hi hj e
    rx := fun j R hR => by
      by_cases hjd : j = d
      · subst hjd
        rw [rOf, if_pos rfl] at hR
        cases hR
        simp only [if_true]
        refine ⟨⟨vs', hown, hcells⟩, fun g hg => ?_⟩
        obtain ⟨h1, h2, h3, h4, _⟩ := newBlk g hg
        exact ⟨h1, h2, h3, fun k B hB => by rw [hsr.2.2.1] at hB; exact h4 k B hB⟩
      · obtain ⟨h1, h2⟩ := liveOld j R hR hjd
        simp only [if_neg hjd]
        obtain ⟨⟨us, h3, h4⟩, h5⟩ := h.rx j R h1
        refine ⟨⟨us, ownsRow_same h3 fun g hg => same g (row_lt h h1 hg) (fun g' hg' e => by subst e; exact h2 g hg' hg), h4⟩, fun g hg => ?_⟩
        obtain ⟨h6, h7, h8, h9⟩ := h5 g hg
        exact ⟨h6, h7, h8, fun k B hB => by rw [hsr.2.2.1] at hB; exact h9 k B hB⟩
    rinj := fun i j R R2 hi hj g h1 h2 => by
      by_cases hid : i = d
      · subst hid
        by_cases hjd : j = i
        · exact hjd.symm
        · simp only [if_true, if_neg hjd] at h1 h2
          exact absurd h2 ((newBlk g h1).2.2.2.2 j R2 hj hjd)
      · by_cases hjd : j = d
        · subst hjd
          simp only [if_true, if_neg hid] at h1 h2
          exact absurd h1 ((newBlk g h2).2.2.2.2 i R hi hid)
        · simp only [if_neg hid, if_neg hjd] at h1 h2
          exact h.rinj i j R R2 (liveOld i R hi hid).1 (liveOld j R2 hj hjd).1 g h1 h2
    pin := h.pin
    pinr := fun i v e => by
      have : i ≠ d := by have := C.hpr i v e; omega
      simp only [if_neg this]; exact h.pinr i v e
    olt := fun b hb' => by
      obtain ⟨h1, h2⟩ := h.olt b hb'
      exact ⟨Nat.lt_of_lt_of_le h1 hgrow.size, h2⟩
    jj := by
      rw [hsr.2.2.2.1, hsr.2.2.2.2]
      exact C.jf _ _ _ _ _ _ _ h.jj (Mem.le_refl _) hinW (fun _ _ _ e => .inl e) (fun b hbb => same b (by
          rcases hbb with hbb | hbb
          · have := h.grown; omega
          · exact (h.olt b hbb).1) (fun g hg e => by
          subst e
          rcases hbb with hbb | hbb
          · rcases (hb _ hg).1 with h1 | h1
            · omega
            · exact hbb.2 h1
          · exact (hb _ hg).2.2.1 hbb)) hgrow.os hgrow.tape hgrow.output hgrow.size }

theorem HoldsAt.newRow {E : Env} {a : Act} {w w' : World} (h : HoldsAt C S E a w) {d : Nat} (hd : S.r d = .un) (hd1 : d < 1000) (old : List (Nat × RSt)) (blk : Option Nat)
    (hold : (old = [] ∧ blk = none) ∨ ∃ i R, old = [(i, .dead)] ∧ S.r i = .live R ∧ blk = (E.ν i).ownBlock)
    {R' : Row} {v' : Value} {vs' : List Value} (hown : w'.ownsRow 0 R'.E R'.sz v' R'.n vs') (hcells : SV.All E.M R'.cells vs') (hat : v'.ownBlock = blk ∨ v'.ownBlock = some w.heap.size ∨ v'.ownBlock = none) (hgrow : w.grownBy w' blk) :
    HoldsAt C (AS.setRs (old ++ [(d, .live R')]) S) { E with ν := fun j => if j = d then v' else E.ν j } a w' :=
  h.newRow' hd hd1 old blk hold hown hcells (fun g hg => by
    rcases hat with h1 | h1 | h1
    · exact .inl (by rw [← h1, hg])
    · rw [hg] at h1; cases h1; exact .inr (h.free (Nat.le_refl _))
    · rw [hg] at h1; cases h1) hgrow

/-- The values of a slice that no longer changes, one behind the other. -/
theorem slc_vals {M : Mem} {b sz : Nat} : ∀ (rows : List (List SV)) (o : Nat), (∀ (i : Nat) (row : List SV), rows[i]? = some row → row.length = sz ∧ ∀ (k : Nat) (s : SV), row[k]? = some s → ∃ y, M b (o + i * sz + k) = some y ∧ y.oneCell' = true ∧ s.h M y) →
    ∃ vs : List Value, SV.All M rows.flatten vs ∧ vs.length = rows.length * sz ∧ (∀ u ∈ vs, u.oneCell' = true) ∧ ∀ (k : Nat) (v : Value), vs[k]? = some v → M b (o + k) = some v
  | [], _, _ => ⟨[], trivial, by simp, by simp, by simp⟩
  | row :: rows, o, h => by
    obtain ⟨h1, h2⟩ := h 0 row rfl
    have one : ∀ (l : List SV) (o : Nat), (∀ (k : Nat) (s : SV), l[k]? = some s → ∃ y, M b (o + k) = some y ∧ y.oneCell' = true ∧ s.h M y) → ∃ vs : List Value, SV.All M l vs ∧ (∀ u ∈ vs, u.oneCell' = true) ∧ ∀ (k : Nat) (v : Value), vs[k]? = some v → M b (o + k) = some v := by
      intro l
      induction l with
      | nil => intro o _; exact ⟨[], trivial, by simp, by simp⟩
      | cons s l ih =>
        intro o hl
        obtain ⟨y, hy, hy1, hs⟩ := hl 0 s rfl
        obtain ⟨vs, g1, g2, g3⟩ := ih (o + 1) (fun k s hk => by
          have := hl (k + 1) s (by simpa using hk)
          rwa [show o + (k + 1) = o + 1 + k by omega] at this)
        refine ⟨y :: vs, ⟨hs, g1⟩, fun u hu => ?_, fun k v hk => ?_⟩
        · rcases List.mem_cons.1 hu with rfl | hu
          · exact hy1
          · exact g2 u hu
        · cases k with
          | zero => simp at hk; subst hk; exact hy
          | succ k => rw [show o + (k + 1) = o + 1 + k by omega]; exact g3 k v (by simpa using hk)
    obtain ⟨us, g1, g2, g3⟩ := one row o (fun k s hk => by have := h2 k s hk; simpa using this)
    obtain ⟨vs, g4, g5, g6, g7⟩ := slc_vals (M := M) (b := b) (sz := sz) rows (o + sz) (fun i r hr => by
      have := h (i + 1) r (by simpa using hr)
      rwa [show o + (i + 1) * sz = o + sz + i * sz by rw [Nat.add_mul]; omega] at this)
    have hl := g1.length
    refine ⟨us ++ vs, ?_, ?_, fun u hu => ?_, fun k v hk => ?_⟩
    · rw [List.flatten_cons]; exact SV.All.append g1 g4
    · rw [List.length_append, g5, ← hl, h1, List.length_cons, Nat.add_mul]; omega
    · rcases List.mem_append.1 hu with hu | hu
      · exact g2 u hu
      · exact g6 u hu
    · rw [List.getElem?_append] at hk
      split at hk
      · exact g3 k v hk
      · have := g7 _ v hk
        rwa [show o + sz + (k - us.length) = o + k by omega] at this

/-- append: onto nil (old = []) or onto a row. -/
theorem RT.appendG (hg : Gd ops S gd rg) {n by_ : Nat} {zv : Value} [tS : TySl P T E0 n] [tE : TyEl P E0 n by_ zv] (old : List (Nat × RSt)) (rr : List Nat) {m : Nat} {cs : List SV} {s : SV} {rows : List (List SV)} [hs : Slc s n rows]
    (hx : ∀ S' E a w, HoldsAt C S' E a w → S'.ev x = S.ev x → (∀ i ∈ rr, S'.r i = S.r i) → (∃ vs, w.ownsRow 0 E0 n (a.eval x) m vs ∧ SV.All E.M cs vs) ∧ ((old = [] ∧ (a.eval x).ownBlock = none) ∨ ∃ i R, old = [(i, .dead)] ∧ S'.r i = .live R ∧ (a.eval x).ownBlock = (E.ν i).ownBlock))
    (hy : S.ev y = .sv s) (hd : d < S.n) (hdr : S.r d = .un) (hd1 : d < 1000) (hrr : d ∈ rr) (hroom : (m + rows.length) * by_ ≤ 140737488355328) (hroom2 : m + rows.length ≤ 140737488355328) {R' : Row} (hR' : R' = ⟨E0, n, m + rows.length, cs ++ rows.flatten⟩)
    (next : RunT P C ops nd K rest (⟨rg ++ (okeys x ++ okeys y), [], rr, ⟨some (d, .row d), [], old ++ [(d, .live R')]⟩⟩ :: acc) ((AS.setRs (old ++ [(d, .live R')]) S).set d (.row d))) : RunT P C ops nd K (⟨some d, .call ⟨.builtin .append, #[x, y], #[T, T]⟩, ty, pos, aft, gd⟩ :: rest) acc S := by
  subst hR'
  refine .inl ⟨_, [], rr, _, ?_, next⟩
  rintro S' hn ht _ hr i a w L Q ho ⟨E, h⟩ hL
  refine wpOp_of (C := C) ho (hg.wanted h (fun s hs => ht s (List.mem_append_left _ hs)) rfl) ?_
  obtain ⟨⟨vs, hown, hvs⟩, hold⟩ := hx S' E a w h (ev_congr (fun _ h => List.mem_append_right _ (List.mem_append_left _ h)) ht) hr
  have h2 := h.ev y
  rw [ev_congr (fun _ h => List.mem_append_right _ (List.mem_append_right _ h)) ht, hy] at h2
  obtain ⟨info, hi, hsz, hby, hz⟩ := TyEl.info (P := P) (E := E0) (n := n) (by_ := by_) (z := zv)
  have hdu : S'.r d = .un := by rw [hr d hrr]; exact hdr
  have run : ∃ v' w' vs', (Builtin.append_ #[T, T] ty #[a.eval x, a.eval y]).run P w = .ok v' w' ∧ w'.ownsRow 0 E0 n v' (m + rows.length) vs' ∧ SV.All E.M (cs ++ rows.flatten) vs' ∧ w.grownBy w' (a.eval x).ownBlock ∧ (v'.ownBlock = (a.eval x).ownBlock ∨ v'.ownBlock = some w.heap.size ∨ v'.ownBlock = none) := by
    rcases hs.h _ _ h2 with ⟨a0, e, e2⟩ | ⟨b, o, c, e, hc, hc2, hrow⟩
    · rw [e, e2]
      cases a0 with
      | none => exact ⟨_, _, vs, run_append_owned_none w 0 T ty E0 info n tS.u hi _ m vs hown, by simpa using hown, by simpa using hvs, ⟨rfl, rfl, rfl, Nat.le_refl _, fun _ _ _ => rfl⟩, .inl rfl⟩
      | some a0 =>
        rw [e2, List.length_nil] at hroom hroom2
        obtain ⟨v', w', q1, q2, q3, _, q4⟩ := run_append_own_at (P := P) w 0 T ty E0 info zv n by_ tS.u hi hz hsz hby tE.z tE.p _ m vs hown a0 0 0 [] (by simp) (by simp) (by simp) (by unfold maxLen; omega) hroom (Nat.zero_le _)
        exact ⟨v', w', vs, q1, by simpa using q2, by simpa using hvs, q3, q4.imp id .inl⟩
    · obtain ⟨us, g1, g2, g3, g4⟩ := slc_vals rows o hrow
      rw [e]
      obtain ⟨v', w', q1, q2, q3, _, q4⟩ := run_append_own_at (P := P) w 0 T ty E0 info zv n by_ tS.u hi hz hsz hby tE.z tE.p _ m vs hown ⟨b, o, none⟩ rows.length c us g2 (fun j u hj => by rw [addr_add]; exact h.inW _ _ _ (g4 j u hj)) g3 (by unfold maxLen; omega) hroom (Nat.zero_le _)
      exact ⟨v', w', vs ++ us, q1, q2, SV.All.append hvs g1, q3, q4.imp id .inl⟩
  obtain ⟨v', w', vs', q1, q2, q3, q4, q5⟩ := run
  have hr' : (execOp a.eval ⟨some d, .call ⟨.builtin .append, #[x, y], #[T, T]⟩, ty, pos, aft, gd⟩).run P w = .ok (.value v') w' := by
    simp [execOp, resolve, invoke, builtin, q1]
  refine wpIn_of (C := C) (by intro c h; cases h) hr' (hL _ _ ⟨_, (h.newRow hdu hd1 old (a.eval x).ownBlock hold (R' := ⟨E0, n, m + rows.length, cs ++ rows.flatten⟩) q2 q3 q5 q4).put (x := .row d) (v := v') (by simp [AV.holds]) (by rw [(setRs_n _ _).1]; omega) ⟨fun _ e => e.elim, fun j e => ?_⟩⟩)
  cases e
  rw [setRs_r]
  have : ∀ l : List (Nat × RSt), lastR (l ++ [(d, RSt.live ⟨E0, n, m + rows.length, cs ++ rows.flatten⟩)]) d = some (.live ⟨E0, n, m + rows.length, cs ++ rows.flatten⟩) := by
    intro l
    induction l with
    | nil => simp [lastR]
    | cons p l ih => obtain ⟨i, R⟩ := p; rw [List.cons_append, lastR, ih]
  rw [this]; simp

theorem RT.appendN (hg : Gd ops S gd rg) {n by_ : Nat} {zv : Value} [tS : TySl P T E0 n] [tE : TyEl P E0 n by_ zv] {s : SV} {rows : List (List SV)} [hs : Slc s n rows] (hx : S.ev x = .sv (.v (.slice none 0 0))) (hy : S.ev y = .sv s) (hd : d < S.n) (hdr : S.r d = .un) (hd1 : d < 1000)
    (hroom : rows.length * by_ ≤ 140737488355328) (hroom2 : rows.length ≤ 140737488355328) (R' : Row) (hR' : R' = ⟨E0, n, rows.length, rows.flatten⟩)
    (next : RunT P C ops nd K rest (⟨rg ++ (okeys x ++ okeys y), [], [d], ⟨some (d, .row d), [], [(d, .live R')]⟩⟩ :: acc) ((AS.setRs [(d, .live R')] S).set d (.row d))) : RunT P C ops nd K (⟨some d, .call ⟨.builtin .append, #[x, y], #[T, T]⟩, ty, pos, aft, gd⟩ :: rest) acc S := by
  refine RT.appendG hg [] [d] (m := 0) (cs := []) (s := s) (rows := rows) (fun S' E a w h e _ => ?_) hy hd hdr hd1 (by simp) (by simpa using hroom) (by simpa using hroom2) (R' := R') (by rw [hR']; simp) next
  have h1 : a.eval x = .slice none 0 0 := by have h1 := h.ev x; rw [e, hx] at h1; exact h1
  rw [h1]
  exact ⟨⟨[], World.ownsRow_nil _ _ _ _, trivial⟩, .inl ⟨rfl, rfl⟩⟩

theorem RT.appendR (hg : Gd ops S gd rg) {n by_ : Nat} {zv : Value} [tS : TySl P T E0 n] [tE : TyEl P E0 n by_ zv] {s : SV} {rows : List (List SV)} [hs : Slc s n rows] {i m : Nat} {cs : List SV} (hx : S.ev x = .row i) (hR : S.r i = .live ⟨E0, n, m, cs⟩) (hy : S.ev y = .sv s) (hd : d < S.n) (hdr : S.r d = .un) (hd1 : d < 1000)
    (hroom : (m + rows.length) * by_ ≤ 140737488355328) (hroom2 : m + rows.length ≤ 140737488355328) (R' : Row) (hR' : R' = ⟨E0, n, m + rows.length, cs ++ rows.flatten⟩)
    (next : RunT P C ops nd K rest (⟨rg ++ (okeys x ++ okeys y), [], [i, d], ⟨some (d, .row d), [], [(i, .dead), (d, .live R')]⟩⟩ :: acc) ((AS.setRs [(i, .dead), (d, .live R')] S).set d (.row d))) : RunT P C ops nd K (⟨some d, .call ⟨.builtin .append, #[x, y], #[T, T]⟩, ty, pos, aft, gd⟩ :: rest) acc S := by
  refine RT.appendG hg [(i, .dead)] [i, d] (m := m) (cs := cs) (s := s) (rows := rows) (fun S' E a w h e hr => ?_) hy hd hdr hd1 (by simp) hroom hroom2 hR' next
  have h1 : a.eval x = E.ν i := by have h1 := h.ev x; rw [e, hx] at h1; exact h1
  have hR' : S'.r i = .live ⟨E0, n, m, cs⟩ := by rw [hr i (by simp)]; exact hR
  rw [h1]
  obtain ⟨⟨vs, h2, h3⟩, _⟩ := h.rx i _ hR'
  exact ⟨⟨vs, h2, h3⟩, .inr ⟨i, _, rfl, hR', rfl⟩⟩

/- make -/
theorem RT.make0 (hg : Gd ops S gd rg) {n by_ : Nat} {zv : Value} [tS : TySl P T E0 n] [tE : TyEl P E0 n by_ zv] {kl kc : IntKind} {c : Int} (hx : S.ev x = .sv (.v (.int kl 0))) (hy : S.ev y = .sv (.v (.int kc c))) (hd : d < S.n) (hdr : S.r d = .un) (hd1 : d < 1000) (h0 : 0 ≤ c) (hroom : (by_ : Int) * c ≤ 281474976710656) (hroom2 : c ≤ 140737488355328)
    (next : RunT P C ops nd K rest (⟨rg ++ (okeys x ++ okeys y), [], [d], ⟨some (d, .row d), [], [(d, .live ⟨E0, n, 0, []⟩)]⟩⟩ :: acc) ((AS.setRs [(d, .live ⟨E0, n, 0, []⟩)] S).set d (.row d))) : RunT P C ops nd K (⟨some d, .makeSlice T x y, ty, pos, aft, gd⟩ :: rest) acc S := by
  refine .inl ⟨_, [], [d], _, ?_, next⟩
  rintro S' hn ht _ hr i a w L Q ho ⟨E, h⟩ hL
  refine wpOp_of (C := C) ho (hg.wanted h (fun s hs => ht s (List.mem_append_left _ hs)) rfl) ?_
  have h1 : a.eval x = .int kl 0 := by have h1 := h.ev x; rw [ev_congr (fun _ h => List.mem_append_right _ (List.mem_append_left _ h)) ht, hx] at h1; exact h1
  have h2 : a.eval y = .int kc c := by have h2 := h.ev y; rw [ev_congr (fun _ h => List.mem_append_right _ (List.mem_append_right _ h)) ht, hy] at h2; exact h2
  obtain ⟨info, hi, hsz, hby, hz⟩ := TyEl.info (P := P) (E := E0) (n := n) (by_ := by_) (z := zv)
  obtain ⟨m, rfl⟩ := Int.eq_ofNat_of_zero_le h0
  have hm : info.bytes * m ≤ 281474976710656 := by
    rw [hby]
    have : ((by_ * m : Nat) : Int) ≤ 281474976710656 := by rw [Int.natCast_mul]; exact hroom
    omega
  obtain ⟨w', q1, q2, q3⟩ := run_make_own (P := P) w 0 T E0 info zv n tS.u hi hz hsz kl kc m hm (by unfold maxLen; omega) (Nat.zero_le _)
  have hr' : (execOp a.eval ⟨some d, .makeSlice T x y, ty, pos, aft, gd⟩).run P w = .ok (.value (.slice (some ⟨w.heap.size, 0, none⟩) 0 m)) w' := by
    simp only [execOp, h1, h2]
    simp [q1]
  have hdu : S'.r d = .un := by rw [hr d (by simp)]; exact hdr
  refine wpIn_of (C := C) (by intro c h; cases h) hr' (hL _ _ ⟨_, (h.newRow hdu hd1 [] none (.inl ⟨rfl, rfl⟩) (R' := ⟨E0, n, 0, []⟩) q2 (vs' := []) trivial (.inr (.inl rfl)) q3).put (x := .row d) (by simp [AV.holds]) (by show d < S'.n; omega) ⟨fun _ e => e.elim, fun j e => ?_⟩⟩)
  cases e
  show (AS.setR S' d _).r d ≠ _
  rw [AS.setR_same]; simp

/-- A make of n elements: a box of zeros. -/
theorem RT.make (hg : Gd ops S gd rg) {n by_ : Nat} {zv : Value} [tS : TySl P T E0 n] [tE : TyEl P E0 n by_ zv] {kl kc : IntKind} {c : Int} (hx : S.ev x = .sv (.v (.int kl c))) (hy : S.ev y = .sv (.v (.int kc c))) (hd : d < S.n) (hb : S.b d = none) (hp : C.pin d = none) (h0 : 0 ≤ c) (hroom : (by_ : Int) * c ≤ 281474976710656) (hroom2 : c ≤ 140737488355328)
    (cells : List AV) (hcells : cells = (madeCells zv.cells (c.toNat * n)).toList.map fun v => AV.sv (SV.v v)) (m : Nat) (hm : m = c.toNat)
    (next : RunT P C ops nd K rest (⟨rg ++ (okeys x ++ okeys y), [d], [], ⟨some (d, .bsl d 0 m m), [(d, ⟨E0, cells⟩)], []⟩⟩ :: acc) ((S.setB d ⟨E0, cells⟩).set d (.bsl d 0 m m))) : RunT P C ops nd K (⟨some d, .makeSlice T x y, ty, pos, aft, gd⟩ :: rest) acc S := by
  subst hcells; subst hm
  refine .inl ⟨_, [d], [], _, ?_, next⟩
  rintro S' hn ht hb' _ i a w L Q ho ⟨E, h⟩ hL
  refine wpOp_of (C := C) ho (hg.wanted h (fun s hs => ht s (List.mem_append_left _ hs)) rfl) ?_
  have h1 : a.eval x = .int kl c := by have h1 := h.ev x; rw [ev_congr (fun _ h => List.mem_append_right _ (List.mem_append_left _ h)) ht, hx] at h1; exact h1
  have h2 : a.eval y = .int kc c := by have h2 := h.ev y; rw [ev_congr (fun _ h => List.mem_append_right _ (List.mem_append_right _ h)) ht, hy] at h2; exact h2
  obtain ⟨info, hi, hsz, hby, hz⟩ := TyEl.info (P := P) (E := E0) (n := n) (by_ := by_) (z := zv)
  have hr := run_make (P := P) w T E0 info zv tS.u hi hz kl kc c c (by omega) (Int.le_refl _) (by rw [hby]; exact hroom) (by omega)
  rw [hsz] at hr
  have hr' : (execOp a.eval ⟨some d, .makeSlice T x y, ty, pos, aft, gd⟩).run P w = .ok (.value (.slice (some ⟨w.heap.size, 0, none⟩) c.toNat c.toNat)) (w.alloc (.cells ⟨(madeCells zv.cells (c.toNat * n)).toList⟩ E0)) := by
    simp only [execOp, h1, h2]
    simp [hr]
  have hb0 : S'.b d = none := by rw [hb' d (by simp)]; exact hb
  have h3 := h.newBox (T := E0) hb0 hp (all_v E (madeCells zv.cells (c.toNat * n)).toList) (fun y hy => by
    obtain ⟨s, _, rfl⟩ := List.mem_map.1 hy
    exact nomb)
  exact wpIn_of (C := C) (by intro c h; cases h) hr' (hL _ _ ⟨_, h3.put (x := .bsl d 0 c.toNat c.toNat) (by simp [AV.holds]) (by show d < S'.n; omega) ⟨fun j e => (by cases e; exact ⟨_, AS.setB_same _ _ _⟩), fun _ e => e.elim⟩⟩)
end steps
end Go.Fw
