/- Struct and slice literals; slices of slices; rows and boxes that no longer change; functions as values. Over any program. -/
import Derived.Test.YtgkafblpckcekaaFwNew
namespace Go.Fw
open Go.RowKit

/- WHAT NO LONGER CHANGES -/
def AV.frz (i : Nat) (X : SV) : AV → AV
  | .row j => bif Nat.beq j i then .sv X else .row j
  | .rptr j k => bif Nat.beq j i then .sv .any else .rptr j k
  | .rsl j o l => bif Nat.beq j i then .sv .any else .rsl j o l
  | x => x
def AS.frz (S : AS) (i : Nat) (X : SV) : AS := { S with t := fun s => (S.t s).frz i X, b := fun j => (S.b j).map fun B => ⟨B.T, B.cells.map (AV.frz i X)⟩, r := fun j => bif Nat.beq j i then .dead else S.r j }

theorem frz_mb {i : Nat} {X : SV} {x : AV} {j : Nat} (h : (x.frz i X).mb j) : x.mb j := by
  cases x with
  | row k => simp only [AV.frz] at h; cases e : Nat.beq k i <;> rw [e] at h <;> exact h.elim
  | rptr k o => simp only [AV.frz] at h; cases e : Nat.beq k i <;> rw [e] at h <;> exact h.elim
  | rsl k o l => simp only [AV.frz] at h; cases e : Nat.beq k i <;> rw [e] at h <;> exact h.elim
  | _ => exact h
theorem frz_mr {i : Nat} {X : SV} {x : AV} {j : Nat} (h : (x.frz i X).mr j) : x.mr j ∧ j ≠ i := by
  cases x with
  | row k =>
    simp only [AV.frz] at h
    cases e : Nat.beq k i with
    | true => rw [e] at h; exact h.elim
    | false =>
      rw [e] at h
      cases h
      exact ⟨rfl, by rintro rfl; simp at e⟩
  | rptr k o =>
    simp only [AV.frz] at h
    cases e : Nat.beq k i with
    | true => rw [e] at h; exact h.elim
    | false =>
      rw [e] at h
      cases h
      exact ⟨rfl, by rintro rfl; simp at e⟩
  | rsl k o l =>
    simp only [AV.frz] at h
    cases e : Nat.beq k i with
    | true => rw [e] at h; exact h.elim
    | false =>
      rw [e] at h
      cases h
      exact ⟨rfl, by rintro rfl; simp at e⟩
  | _ => exact h.elim

/-- A list of cells as rows of sz. -/
def Rows (sz : Nat) (rows : List (List SV)) (cells : List SV) : Prop := rows.flatten = cells ∧ ∀ r ∈ rows, r.length = sz
theorem rows_get {sz : Nat} : ∀ {rows : List (List SV)} {cells : List SV}, Rows sz rows cells → ∀ (i : Nat) (row : List SV), rows[i]? = some row → row.length = sz ∧ ∀ (k : Nat) (s : SV), row[k]? = some s → cells[i * sz + k]? = some s
  | [], _, _, _, _, h => by simp at h
  | r :: rows, cells, ⟨h1, h2⟩, 0, row, h => by
    simp at h; subst h
    refine ⟨h2 r (by simp), fun k s hk => ?_⟩
    rw [← h1, List.flatten_cons]
    have hk' := (List.getElem?_eq_some_iff.1 hk).1
    rw [Nat.zero_mul, Nat.zero_add, List.getElem?_append_left hk']; exact hk
  | r :: rows, cells, ⟨h1, h2⟩, i + 1, row, h => by
    have ih := rows_get (sz := sz) (rows := rows) (cells := rows.flatten) ⟨rfl, fun r hr => h2 r (List.mem_cons_of_mem _ hr)⟩ i row (by simpa using h)
    refine ⟨ih.1, fun k s hk => ?_⟩
    have hr := h2 r (by simp)
    rw [← h1, List.flatten_cons, List.getElem?_append_right (by rw [hr, Nat.add_mul]; omega), hr, show (i + 1) * sz + k - sz = i * sz + k by rw [Nat.add_mul]; omega]
    exact ih.2 k s hk
theorem rows_len {sz : Nat} : ∀ {rows : List (List SV)} {cells : List SV}, Rows sz rows cells → cells.length = rows.length * sz
  | [], _, ⟨h, _⟩ => by rw [← h]; simp
  | r :: rows, cells, ⟨h1, h2⟩ => by
    have ih := rows_len (sz := sz) (rows := rows) (cells := rows.flatten) ⟨rfl, fun r hr => h2 r (List.mem_cons_of_mem _ hr)⟩
    rw [← h1, List.flatten_cons, List.length_append, ih, h2 r (by simp), List.length_cons, Nat.add_mul]; omega

theorem HoldsAt.frz {C : Ctx} {S : AS} {E : Env} {a : Act} {w : World} (h : HoldsAt C S E a w) {i : Nat} {R : Row} (hR : S.r i = .live R) {rows : List (List SV)} (hrows : Rows R.sz rows R.cells) (hn : rows.length = R.n) (hlen : R.n ≤ 9223372036854775807) (hone : ∀ M vs, SV.All M R.cells vs → ∀ v ∈ vs, v.oneCell' = true)
    {X : SV} (hX : SV.imp (slc R.sz rows) X) : ∃ E', HoldsAt C (S.frz i X) E' a w := by
  obtain ⟨⟨vs, hown, hvs⟩, hblk⟩ := h.rx i R hR
  have hvl := hvs.length
  have hcl := rows_len hrows
  -- the memory that is now known
  obtain ⟨M', hM, hval, hnew, hin⟩ : ∃ M' : Mem, E.M.le M' ∧ (slc R.sz rows).h M' (E.ν i) ∧ (∀ b o v, M' b o = some v → E.M b o = some v ∨ (E.ν i).ownBlock = some b) ∧ M'.inW w := by
    rcases hown.2 with ⟨h1, h2⟩ | ⟨g, cap, cur, h1, _, h2, h3, _, h5, h6⟩
    · refine ⟨E.M, Mem.le_refl _, .inl ⟨none, h1, ?_⟩, fun _ _ _ e => .inl e, h.inW⟩
      rw [h2] at hn; exact List.length_eq_zero_iff.1 hn
    · have hg : (E.ν i).ownBlock = some g := by rw [h1]; rfl
      have hno := (hblk g hg).2.1
      refine ⟨fun b o => if b = g ∧ o < R.n * R.sz then vs[o]? else E.M b o, fun b o v e => ?_, ?_, fun b o v e => ?_, fun b o v e => ?_⟩
      · have : b ≠ g := by rintro rfl; rw [hno o] at e; cases e
        simp [this, e]
      · refine .inr ⟨g, 0, cap, by rw [h1, hn], by rw [hn]; exact h3, by omega, fun k row hk => ?_⟩
        obtain ⟨q1, q2⟩ := rows_get hrows k row hk
        refine ⟨q1, fun j s hs => ?_⟩
        have hs2 := q2 j s hs
        obtain ⟨y, hy, hys⟩ := hvs.get hs2
        have hlt : k * R.sz + j < R.n * R.sz := by
          have := (List.getElem?_eq_some_iff.1 hs2).1
          rw [hcl, hn] at this; exact this
        refine ⟨y, by simp [hlt, hy], hone _ _ hvs y (List.mem_of_getElem? hy), s.mono (fun b o v e => ?_) hys⟩
        have : b ≠ g := by rintro rfl; rw [hno o] at e; cases e
        simp [this, e]
      · simp only at e
        split at e
        · rename_i hc; exact .inr (by rw [hg, hc.1])
        · exact .inl e
      · simp only at e
        split at e
        · rename_i hc
          obtain ⟨rfl, hc2⟩ := hc
          simp only [World.cell?, h2]
          rw [← h6, List.getElem?_take, if_pos hc2] at e
          simpa using e
        · exact h.inW b o v e
  have hbb : ∀ b, (E.ν i).ownBlock = some b → (C.w0.heap.size ≤ b ∨ C.bor b) ∧ (∀ o, E.M b o = none) ∧ ¬ E.O b ∧ ∀ j B, S.b j = some B → E.β j ≠ b := hblk
  have keepx : ∀ x : AV, (x.mr i → True) → ∀ v, x.holds E v → (x.frz i X).holds { E with M := M' } v := by
    intro x _ v hv
    cases x with
    | row k =>
      simp only [AV.frz]
      cases e : Nat.beq k i with
      | true =>
        obtain rfl := Nat.eq_of_beq_eq_true e
        have hv : v = E.ν k := hv
        show X.h M' v
        rw [hv]; exact hX _ _ hval
      | false => exact hv
    | rptr k o =>
      simp only [AV.frz]
      cases e : Nat.beq k i with
      | true => trivial
      | false => exact hv
    | rsl k o l =>
      simp only [AV.frz]
      cases e : Nat.beq k i with
      | true => trivial
      | false => exact hv
    | _ => exact AV.holds_congr (E := E) (E' := { E with M := M' }) hM (fun _ _ => rfl) (fun _ _ => rfl) hv
  have none' : ∀ b, (∀ o, E.M b o = none) → (E.ν i).ownBlock ≠ some b → ∀ o, M' b o = none := fun b h1 h2 o => by
    cases e : M' b o with
    | none => rfl
    | some v =>
      rcases hnew b o v e with h3 | h3
      · rw [h1 o] at h3; cases h3
      · exact absurd h3 h2
  have bOf : ∀ j B', (S.frz i X).b j = some B' → ∃ B, S.b j = some B ∧ B' = ⟨B.T, B.cells.map (AV.frz i X)⟩ := by
    intro j B' hB'
    simp only [AS.frz] at hB'
    cases e : S.b j with
    | none => rw [e] at hB'; cases hB'
    | some B => rw [e] at hB'; cases hB'; exact ⟨B, rfl, rfl⟩
  have rOf : ∀ j, (S.frz i X).r j = if j = i then .dead else S.r j := by
    intro j
    simp only [AS.frz]
    by_cases e : j = i
    · subst e; simp
    · simp [beq_ne e, e]
  have liveR : ∀ j R', (S.frz i X).r j = .live R' → S.r j = .live R' ∧ j ≠ i := by
    intro j R' hj
    rw [rOf] at hj
    split at hj
    · cases hj
    · rename_i hne; exact ⟨hj, hne⟩
  have unR : ∀ j, S.r j ≠ .un → (S.frz i X).r j ≠ .un := by
    intro j hj
    rw [rOf]; split
    · simp
    · exact hj
  have bSome : ∀ j, (∃ B, S.b j = some B) → ∃ B, (S.frz i X).b j = some B := by
    rintro j ⟨B, hB⟩
    exact ⟨_, by simp only [AS.frz, hB, Option.map_some]; rfl⟩
  refine ⟨{ E with M := M' }, {
    wf := by
      refine ⟨fun s j hj => bSome j (h.wf.tb s j (frz_mb hj)), fun s j hj => unR j (h.wf.tr s j (frz_mr hj).1), fun k B' hB' x hx j hj => ?_, fun k B' hB' x hx j hj => ?_⟩
      · obtain ⟨B, hB, rfl⟩ := bOf k B' hB'
        obtain ⟨y, hy, rfl⟩ := List.mem_map.1 hx
        exact bSome j (h.wf.bb k B hB y hy j (frz_mb hj))
      · obtain ⟨B, hB, rfl⟩ := bOf k B' hB'
        obtain ⟨y, hy, rfl⟩ := List.mem_map.1 hx
        exact unR j (h.wf.br k B hB y hy j (frz_mr hj).1)
    marks := h.marks
    size := h.size
    os := h.os
    tape := h.tape
    output := h.output
    grown := h.grown
    frame := h.frame
    m0 := Mem.le_trans h.m0 hM
    mnew := fun b o v e => by
      rcases hnew b o v e with h1 | h1
      · exact h.mnew b o v h1
      · rcases (hbb b h1).1 with h2 | h2
        · exact .inr (.inl h2)
        · exact .inr (.inr (C.hbo _ h2))
    inW := hin
    tm := fun s => keepx _ (fun _ => trivial) _ (h.tm s)
    bx := fun j B' hB' => by
      obtain ⟨B, hB, rfl⟩ := bOf j B' hB'
      obtain ⟨h1, h2, h3, us, h4, h5⟩ := h.bx j B hB
      refine ⟨h1, none' _ h2 (fun e => (hbb _ e).2.2.2 j B hB rfl), h3, us, h4, ?_⟩
      have key : ∀ (l : List AV) (us : List Value), AllV E l us → AllV { E with M := M' } (l.map (AV.frz i X)) us := by
        intro l
        induction l with
        | nil => intro us h; cases us with | nil => trivial | cons _ _ => exact h.elim
        | cons x l ih =>
          intro us h
          cases us with
          | nil => exact h.elim
          | cons u us => exact ⟨keepx x (fun _ => trivial) u h.1, ih us h.2⟩
      exact key _ _ h5
    inj := fun j k B B' hj hk e => by
      obtain ⟨_, h1, _⟩ := bOf j B hj
      obtain ⟨_, h2, _⟩ := bOf k B' hk
      exact h.inj j k _ _ h1 h2 e
    rx := fun j R' hj => by
      obtain ⟨h1, h2⟩ := liveR j R' hj
      obtain ⟨⟨us, h3, h4⟩, h5⟩ := h.rx j R' h1
      refine ⟨⟨us, h3, h4.mono hM⟩, fun g hg => ?_⟩
      obtain ⟨h6, h7, h8, h9⟩ := h5 g hg
      refine ⟨h6, none' _ h7 (fun e => h2 (h.rinj j i R' R h1 hR g hg e)), h8, fun k B' hB' => ?_⟩
      obtain ⟨B, hB, _⟩ := bOf k B' hB'
      exact h9 k B hB
    rinj := fun j k R1 R2 hj hk => h.rinj j k R1 R2 (liveR j R1 hj).1 (liveR k R2 hk).1
    pin := h.pin
    pinr := h.pinr
    olt := fun b hb => by
      obtain ⟨h1, h2, h3⟩ := h.olt b hb
      exact ⟨h1, none' b h2 (fun e => (hbb b e).2.2.1 hb), h3⟩
    jj := C.jf _ _ _ _ _ _ _ h.jj hM hin (fun b o v e => by
      rcases hnew b o v e with h1 | h1
      · exact .inl h1
      · exact .inr ⟨(hbb b h1).1, (hbb b h1).2.2.1⟩) (fun _ _ => rfl) rfl rfl rfl (Nat.le_refl _) }⟩

/-- A row that no longer grows is a slice like any other. -/
theorem weak_frz {S : AS} {i : Nat} {R : Row} (hR : S.r i = .live R) (X : SV) {rows : List (List SV)} (hX : SV.imp (slc R.sz rows) X) (hrows : Rows R.sz rows R.cells) (hn : rows.length = R.n) (hlen : R.n ≤ 9223372036854775807) (hone : ∀ M vs, SV.All M R.cells vs → ∀ v ∈ vs, v.oneCell' = true) :
    Weak S (S.frz i X) := fun _ _ _ ⟨_, h⟩ => h.frz hR hrows hn hlen hone hX

theorem rows_one (cells : List SV) : Rows 1 (cells.map fun s => [s]) cells := by
  refine ⟨?_, fun r hr => ?_⟩
  · induction cells with
    | nil => rfl
    | cons s l ih => simp [ih]
  · obtain ⟨s, _, rfl⟩ := List.mem_map.1 hr; rfl
theorem ones_map {α : Type} (l : List α) (f : α → Value) (hf : ∀ x, (f x).oneCell' = true) : ∀ (M : Mem) (vs : List Value), SV.All M (l.map fun x => SV.v (f x)) vs → ∀ v ∈ vs, v.oneCell' = true := by
  intro M
  induction l with
  | nil => intro vs h; cases vs with | nil => simp | cons _ _ => exact h.elim
  | cons x l ih =>
    intro vs h
    cases vs with
    | nil => exact h.elim
    | cons v vs =>
      intro u hu
      rcases List.mem_cons.1 hu with rfl | hu
      · have : u = f x := h.1; rw [this]; exact hf x
      · exact ih vs h.2 u hu

/-- A row of words. -/
theorem weak_frzU {S : AS} {i : Nat} {E0 : TypeId} {n : Nat} {ws : List Nat} (hR : S.r i = .live ⟨E0, 1, n, ws.map fun x => .v (.int .u32 (x : Nat))⟩) (hn : ws.length = n) (hlen : n ≤ 9223372036854775807) (hw : ∀ x ∈ ws, x < 4294967296) : Weak S (S.frz i (U32 ws)) :=
  weak_frz hR (U32 ws) (rows := ws.map fun x => [.v (.int .u32 (x : Nat))]) (fun _ _ h => ⟨hw, h⟩) (by
    have := rows_one (ws.map fun x => SV.v (.int .u32 (x : Nat)))
    rwa [List.map_map] at this) (by simpa using hn) hlen (ones_map ws (fun x => .int .u32 (x : Nat)) (fun _ => rfl))
theorem weak_frzI {S : AS} {i : Nat} {E0 : TypeId} {n : Nat} {xs : List Int} (hR : S.r i = .live ⟨E0, 1, n, xs.map fun x => .v (.int .i64 x)⟩) (hn : xs.length = n) (hlen : n ≤ 9223372036854775807) (hw : ∀ x ∈ xs, -9223372036854775808 ≤ x ∧ x ≤ 9223372036854775807) : Weak S (S.frz i (Ints xs)) :=
  weak_frz hR (Ints xs) (rows := xs.map fun x => [.v (.int .i64 x)]) (fun _ _ h => ⟨hw, h⟩) (by
    have := rows_one (xs.map fun x => SV.v (.int .i64 x))
    rwa [List.map_map] at this) (by simpa using hn) hlen (ones_map xs (fun x => .int .i64 x) (fun _ => rfl))

/-- A function value that has captured values that no longer change. -/
def cloS (g : FuncId) (caps : List SV) : SV := ⟨fun M v => ∃ vs : List Value, v = .func (.func g) #[] ⟨vs⟩ ∧ SV.All M caps vs, fun hM ⟨vs, e, h⟩ => ⟨vs, e, h.mono hM⟩⟩

/- A BOX THAT NO LONGER CHANGES -/
def Cap.frz (i : Nat) (cs : List SV) : Cap → Cap
  | .box j => bif Nat.beq j i then .val (ref cs) else .box j
  | c => c
def Cap.drp (i : Nat) : Cap → Cap
  | .box j => bif Nat.beq j i then .val .any else .box j
  | c => c
/-- Nothing more is said of what points into box i. -/
def AV.drp (i : Nat) : AV → AV
  | .ptr j o => bif Nat.beq j i then .sv .any else .ptr j o
  | .bsl j o l c => bif Nat.beq j i then .sv .any else .bsl j o l c
  | .clo g js => .clo g (js.map (Cap.drp i))
  | x => x
def lkO : List (Nat × AV) → Nat → Option AV
  | [], _ => none
  | (k, x) :: l, s => bif Nat.beq s k then some x else lkO l s
def AS.frzB (S : AS) (i : Nat) (ts : List (Nat × AV)) : AS := { S with t := fun s => (lkO ts s).getD ((S.t s).drp i), b := fun j => bif Nat.beq j i then none else (S.b j).map fun B => ⟨B.T, B.cells.map (AV.drp i)⟩ }

theorem drp_mb {i : Nat} {x : AV} {j : Nat} (h : (x.drp i).mb j) : x.mb j ∧ j ≠ i := by
  cases x with
  | ptr k o =>
    simp only [AV.drp] at h
    cases e : Nat.beq k i with
    | true => rw [e] at h; exact h.elim
    | false => rw [e] at h; cases h; exact ⟨rfl, by rintro rfl; simp at e⟩
  | bsl k o l c =>
    simp only [AV.drp] at h
    cases e : Nat.beq k i with
    | true => rw [e] at h; exact h.elim
    | false => rw [e] at h; cases h; exact ⟨rfl, by rintro rfl; simp at e⟩
  | clo g js =>
    have h : Cap.box j ∈ js.map (Cap.drp i) := h
    obtain ⟨c, hc, e⟩ := List.mem_map.1 h
    cases c with
    | val s => cases e
    | box k =>
      simp only [Cap.drp] at e
      cases e2 : Nat.beq k i with
      | true => rw [e2] at e; cases e
      | false => rw [e2] at e; cases e; exact ⟨hc, by rintro rfl; simp at e2⟩
  | _ => exact h.elim
theorem drp_mr {i : Nat} {x : AV} {j : Nat} (h : (x.drp i).mr j) : x.mr j := by
  cases x with
  | ptr k o => simp only [AV.drp] at h; cases e : Nat.beq k i <;> rw [e] at h <;> exact h.elim
  | bsl k o l c => simp only [AV.drp] at h; cases e : Nat.beq k i <;> rw [e] at h <;> exact h.elim
  | clo g js => exact h.elim
  | _ => exact h

/-- What a slot that pointed into box i holds, now that the box lies still: the slice X of its L elements, a pointer to its cells, a function that has captured it. -/
inductive FT (S : AS) (i : Nat) (cs : List SV) (X : SV) (L : Nat) : Nat → AV → Prop
  | sl {s : Nat} (h : S.t s = .bsl i 0 L L) : FT S i cs X L s (.sv X)
  | ptr {s o : Nat} (h : S.t s = .ptr i o) : FT S i cs X L s (.sv (ref (cs.drop o)))
  | clo {s : Nat} {g : FuncId} {js : List Cap} (h : S.t s = .clo g js) : FT S i cs X L s (.clo g (js.map (Cap.frz i cs)))
def FTs (S : AS) (i : Nat) (cs : List SV) (X : SV) (L : Nat) : List (Nat × AV) → Prop
  | [] => True
  | (k, x) :: l => FT S i cs X L k x ∧ FTs S i cs X L l
theorem FTs.get {S : AS} {i : Nat} {cs : List SV} {X : SV} {L : Nat} : ∀ {ts : List (Nat × AV)}, FTs S i cs X L ts → ∀ s x, lkO ts s = some x → FT S i cs X L s x
  | [], _, _, _, h => by cases h
  | (k, y) :: l, hf, s, x, h => by
    by_cases e : s = k
    · subst e; simp [lkO] at h; subst h; exact hf.1
    · simp only [lkO, beq_ne e, cond_false] at h; exact FTs.get hf.2 s x h

theorem HoldsAt.frzB {C : Ctx} {S : AS} {E : Env} {a : Act} {w : World} (h : HoldsAt C S E a w) {i : Nat} {B : Box} (hB : S.b i = some B) {cs : List SV} (hseg : Seg B.cells 0 cs) {X : SV} {L : Nat}
    (hX : ∀ M b, (∀ (k : Nat) (s : SV), cs[k]? = some s → ∃ y, M b k = some y ∧ y.oneCell' = true ∧ s.h M y) → X.h M (.slice (some ⟨b, 0, none⟩) L L)) (hone : ∀ M vs, SV.All M cs vs → ∀ v ∈ vs, v.oneCell' = true)
    {ts : List (Nat × AV)} (hts : FTs S i cs X L ts) : ∃ E', HoldsAt C (S.frzB i ts) E' a w := by
  obtain ⟨hb1, hb2, hb3, vs, hv, hall⟩ := h.bx i B hB
  obtain ⟨us, hus, hget⟩ := hseg.vals hall
  let M' : Mem := fun b o => if b = E.β i then us[o]? else E.M b o
  have hM : E.M.le M' := fun b o v e => by
    have : b ≠ E.β i := by rintro rfl; rw [hb2 o] at e; cases e
    simp [M', this, e]
  have hnew : ∀ b o v, M' b o = some v → E.M b o = some v ∨ b = E.β i := fun b o v e => by
    by_cases hb : b = E.β i
    · exact .inr hb
    · simp only [M', if_neg hb] at e; exact .inl e
  have hin : M'.inW w := fun b o v e => by
    by_cases hb : b = E.β i
    · subst hb
      simp only [M', if_true] at e
      have := hget o v e
      simp [World.cell?, hv]; simpa using this
    · simp only [M', if_neg hb] at e; exact h.inW b o v e
  have hcs : ∀ (k : Nat) (s : SV), cs[k]? = some s → ∃ y, M' (E.β i) k = some y ∧ y.oneCell' = true ∧ s.h M' y := fun k s hk => by
    obtain ⟨y, hy, hs⟩ := hus.get hk
    exact ⟨y, by simp [M', hy], hone _ _ hus y (List.mem_of_getElem? hy), s.mono hM hs⟩
  have none' : ∀ b, (∀ o, E.M b o = none) → b ≠ E.β i → ∀ o, M' b o = none := fun b h1 h2 o => by simp [M', h2, h1 o]
  have href : ∀ o, (ref (cs.drop o)).h M' (.pointer (some ⟨E.β i, o, none⟩)) := fun o => ⟨E.β i, o, rfl, fun j s hj => by
    rw [List.getElem?_drop] at hj
    obtain ⟨y, h1, _, h2⟩ := hcs _ s hj
    exact ⟨y, h1, h2⟩⟩
  have keepx : ∀ x : AV, ∀ v, x.holds E v → (x.drp i).holds { E with M := M' } v := by
    intro x v hv'
    cases x with
    | ptr k o =>
      simp only [AV.drp]
      cases e : Nat.beq k i with
      | true => trivial
      | false => exact hv'
    | bsl k o l c =>
      simp only [AV.drp]
      cases e : Nat.beq k i with
      | true => trivial
      | false => exact hv'
    | clo g js =>
      obtain ⟨ws, rfl, hc⟩ := hv'
      refine ⟨ws, rfl, ?_⟩
      have key : ∀ (l : List Cap) (ws : List Value), AllC E l ws → AllC { E with M := M' } (l.map (Cap.drp i)) ws := by
        intro l
        induction l with
        | nil => intro ws h; cases ws with | nil => trivial | cons _ _ => exact h.elim
        | cons c l ih =>
          intro ws h
          cases ws with
          | nil => exact h.elim
          | cons u ws =>
            refine ⟨?_, ih ws h.2⟩
            have h1 := h.1
            cases c with
            | val s => exact s.mono hM h1
            | box k =>
              simp only [Cap.drp]
              cases e : Nat.beq k i with
              | true => trivial
              | false => exact h1
      exact key js ws hc
    | sv s => exact s.mono hM hv'
    | row k => exact hv'
    | rptr k o => exact hv'
    | rsl k o l => exact hv'
  have keept : ∀ s v, (S.t s).holds E v → ((lkO ts s).getD ((S.t s).drp i)).holds { E with M := M' } v := by
    intro s v hv'
    cases e : lkO ts s with
    | none => exact keepx _ v hv'
    | some x =>
      show x.holds _ v
      cases hts.get s x e with
      | sl h1 => rw [h1] at hv'; have hv' : v = _ := hv'; subst hv'; exact hX M' _ hcs
      | ptr h1 => rw [h1] at hv'; have hv' : v = _ := hv'; subst hv'; exact href _
      | @clo g js h1 =>
        rw [h1] at hv'
        obtain ⟨ws, rfl, hc⟩ := hv'
        refine ⟨ws, rfl, ?_⟩
        have key : ∀ (l : List Cap) (ws : List Value), AllC E l ws → AllC { E with M := M' } (l.map (Cap.frz i cs)) ws := by
          intro l
          induction l with
          | nil => intro ws h; cases ws with | nil => trivial | cons _ _ => exact h.elim
          | cons c l ih =>
            intro ws h
            cases ws with
            | nil => exact h.elim
            | cons u ws =>
              refine ⟨?_, ih ws h.2⟩
              have h1 := h.1
              cases c with
              | val s => exact s.mono hM h1
              | box k =>
                simp only [Cap.frz]
                cases e : Nat.beq k i with
                | true =>
                  obtain rfl := Nat.eq_of_beq_eq_true e
                  have h1 : u = .pointer (some ⟨E.β k, 0, none⟩) := h1
                  subst h1
                  exact href 0
                | false => exact h1
        exact key js ws hc
  have bOf : ∀ j B', (S.frzB i ts).b j = some B' → ∃ B, S.b j = some B ∧ j ≠ i ∧ B' = ⟨B.T, B.cells.map (AV.drp i)⟩ := by
    intro j B' hB'
    simp only [AS.frzB] at hB'
    by_cases hj : j = i
    · subst hj; simp at hB'
    · rw [beq_ne hj] at hB'
      cases e : S.b j with
      | none => rw [e] at hB'; cases hB'
      | some B => rw [e] at hB'; cases hB'; exact ⟨B, rfl, hj, rfl⟩
  have bSome : ∀ j, j ≠ i → (∃ B, S.b j = some B) → ∃ B, (S.frzB i ts).b j = some B := by
    rintro j hj ⟨B, hB⟩
    exact ⟨⟨B.T, B.cells.map (AV.drp i)⟩, by simp [AS.frzB, beq_ne hj, hB]⟩
  have tmb : ∀ s j, ((lkO ts s).getD ((S.t s).drp i)).mb j → (S.t s).mb j ∧ j ≠ i := by
    intro s j hj
    cases e : lkO ts s with
    | none => rw [e] at hj; exact drp_mb hj
    | some x =>
      rw [e] at hj
      cases hts.get s x e with
      | sl h1 => exact hj.elim
      | ptr h1 => exact hj.elim
      | @clo g js h1 =>
        rw [h1]
        have hj : Cap.box j ∈ js.map (Cap.frz i cs) := hj
        obtain ⟨c, hc, e2⟩ := List.mem_map.1 hj
        cases c with
        | val s => cases e2
        | box k =>
          simp only [Cap.frz] at e2
          cases e3 : Nat.beq k i with
          | true => rw [e3] at e2; cases e2
          | false => rw [e3] at e2; cases e2; exact ⟨hc, by rintro rfl; simp at e3⟩
  have tmr : ∀ s j, ((lkO ts s).getD ((S.t s).drp i)).mr j → (S.t s).mr j := by
    intro s j hj
    cases e : lkO ts s with
    | none => rw [e] at hj; exact drp_mr hj
    | some x =>
      rw [e] at hj
      cases hts.get s x e with
      | sl h1 => exact hj.elim
      | ptr h1 => exact hj.elim
      | clo h1 => exact hj.elim
  refine ⟨{ E with M := M' }, {
    wf := by
      refine ⟨fun s j hj => bSome j (tmb s j hj).2 (h.wf.tb s j (tmb s j hj).1), fun s j hj => h.wf.tr s j (tmr s j hj), fun k B' hB' x hx j hj => ?_, fun k B' hB' x hx j hj => ?_⟩
      · obtain ⟨B, hB, _, rfl⟩ := bOf k B' hB'
        obtain ⟨y, hy, rfl⟩ := List.mem_map.1 hx
        exact bSome j (drp_mb hj).2 (h.wf.bb k B hB y hy j (drp_mb hj).1)
      · obtain ⟨B, hB, _, rfl⟩ := bOf k B' hB'
        obtain ⟨y, hy, rfl⟩ := List.mem_map.1 hx
        exact h.wf.br k B hB y hy j (drp_mr hj)
    marks := h.marks
    size := h.size
    os := h.os
    tape := h.tape
    output := h.output
    grown := h.grown
    frame := h.frame
    m0 := Mem.le_trans h.m0 hM
    mnew := fun b o v e => by
      rcases hnew b o v e with h1 | rfl
      · exact h.mnew b o v h1
      · rcases hb1 with h2 | h2
        · exact .inr (.inl h2)
        · exact .inr (.inr (C.hbo _ h2))
    inW := hin
    tm := fun s => keept s _ (h.tm s)
    bx := fun j B' hB' => by
      obtain ⟨B1, hB1, hj, rfl⟩ := bOf j B' hB'
      obtain ⟨h1, h2, h3, ws, h4, h5⟩ := h.bx j B1 hB1
      refine ⟨h1, none' _ h2 (fun e => hj (h.inj j i B1 B hB1 hB e)), h3, ws, h4, ?_⟩
      have key : ∀ (l : List AV) (us : List Value), AllV E l us → AllV { E with M := M' } (l.map (AV.drp i)) us := by
        intro l
        induction l with
        | nil => intro us h; cases us with | nil => trivial | cons _ _ => exact h.elim
        | cons x l ih =>
          intro us h
          cases us with
          | nil => exact h.elim
          | cons u us => exact ⟨keepx x u h.1, ih us h.2⟩
      exact key _ _ h5
    inj := fun j k B1 B2 hj hk e => by
      obtain ⟨_, h1, _⟩ := bOf j B1 hj
      obtain ⟨_, h2, _⟩ := bOf k B2 hk
      exact h.inj j k _ _ h1 h2 e
    rx := fun j R' hj => by
      obtain ⟨⟨ws, h3, h4⟩, h5⟩ := h.rx j R' hj
      refine ⟨⟨ws, h3, h4.mono hM⟩, fun g hg => ?_⟩
      obtain ⟨h6, h7, h8, h9⟩ := h5 g hg
      refine ⟨h6, none' _ h7 (fun e => h9 i B hB e.symm), h8, fun k B' hB' => ?_⟩
      obtain ⟨B1, hB1, _⟩ := bOf k B' hB'
      exact h9 k B1 hB1
    rinj := h.rinj
    pin := h.pin
    pinr := h.pinr
    olt := fun b hb => by
      obtain ⟨h1, h2, h3⟩ := h.olt b hb
      exact ⟨h1, none' b h2 (fun e => hb3 (e ▸ hb)), h3⟩
    jj := C.jf _ _ _ _ _ _ _ h.jj hM hin (fun b o v e => by
      rcases hnew b o v e with h1 | rfl
      · exact .inl h1
      · exact .inr ⟨hb1, hb3⟩) (fun _ _ => rfl) rfl rfl rfl (Nat.le_refl _) }⟩

theorem weak_frzB {S : AS} {i : Nat} {B : Box} (hB : S.b i = some B) (cs : List SV) (hseg : Seg B.cells 0 cs) (X : SV) (L : Nat) (ts : List (Nat × AV))
    (hX : ∀ M b, (∀ (k : Nat) (s : SV), cs[k]? = some s → ∃ y, M b k = some y ∧ y.oneCell' = true ∧ s.h M y) → X.h M (.slice (some ⟨b, 0, none⟩) L L)) (hone : ∀ M vs, SV.All M cs vs → ∀ v ∈ vs, v.oneCell' = true)
    (hts : FTs S i cs X L ts) : Weak S (S.frzB i ts) := fun _ _ _ ⟨_, h⟩ => h.frzB hB hseg hX hone hts
end Go.Fw
