/- append whose result never changes. Over any program. -/
import Derived.Test.YtgkafblpckcekaaFwMore
namespace Go.Fw
open Go.RowKit

/-- What append is called on. -/
inductive Src (S : AS) (E0 : TypeId) (n : Nat) : Operand → List (Nat × RSt) → List Nat → Nat → List SV → Prop
  | nil {x : Operand} (h : S.ev x = .sv (.v (.slice none 0 0))) : Src S E0 n x [] [] 0 []
  | row {x : Operand} {i m : Nat} {cs : List SV} (h : S.ev x = .row i) (hR : S.r i = .live ⟨E0, n, m, cs⟩) : Src S E0 n x [(i, .dead)] [i] m cs

theorem frz_id {i : Nat} {X : SV} {x : AV} (h : ¬ x.mr i) : x.frz i X = x := by
  cases x with
  | row k => simp only [AV.frz]; rw [beq_ne (fun e => h e.symm)]; rfl
  | rptr k o => simp only [AV.frz]; rw [beq_ne (fun e => h e.symm)]; rfl
  | rsl k o l => simp only [AV.frz]; rw [beq_ne (fun e => h e.symm)]; rfl
  | _ => rfl

section steps
variable {P : Program} {C : Ctx} {ops : Array Oper} {S : AS} {nd : Bool} {K : List Ac → AS → Prop} {rest : List Oper} {acc : List Ac}
variable {gd : Option (Nat × Bool)} {rg : List Nat} {d : Nat} {ty : TypeId} {pos : String} {aft : Array Edge} {x y z : Operand} {T U E0 : TypeId}

theorem Src.val {E : Env} {a : Act} {w : World} {S' : AS} {n m : Nat} {old : List (Nat × RSt)} {rr : List Nat} {cs : List SV} (h : HoldsAt C S' E a w) (hx : Src S E0 n x old rr m cs) (ht : ∀ s ∈ okeys x, S'.t s = S.t s) (hr : ∀ i ∈ rr, S'.r i = S.r i) :
    (∃ vs, w.ownsRow 0 E0 n (a.eval x) m vs ∧ SV.All E.M cs vs) ∧ ((old = [] ∧ (a.eval x).ownBlock = none) ∨ ∃ i R, old = [(i, .dead)] ∧ S'.r i = .live R ∧ (a.eval x).ownBlock = (E.ν i).ownBlock) := by
  cases hx with
  | nil hx =>
    have h1 : a.eval x = .slice none 0 0 := by have h1 := h.ev x; rw [ev_congr (fun _ h => h) ht, hx] at h1; exact h1
    rw [h1]
    exact ⟨⟨[], World.ownsRow_nil _ _ _ _, trivial⟩, .inl ⟨rfl, rfl⟩⟩
  | @row i _ _ hx hR =>
    have h1 : a.eval x = E.ν i := by have h1 := h.ev x; rw [ev_congr (fun _ h => h) ht, hx] at h1; exact h1
    have hR' := (hr i (by simp)).trans hR
    rw [h1]
    obtain ⟨⟨vs, h2, h3⟩, _⟩ := h.rx i _ hR'
    exact ⟨⟨vs, h2, h3⟩, .inr ⟨i, _, rfl, hR', rfl⟩⟩

/-- append, its result never changed again. -/
theorem RT.appendI (hg : Gd ops S gd rg) {n by_ : Nat} {zv : Value} [tS : TySl P T E0 n] [tE : TyEl P E0 n by_ zv] {old : List (Nat × RSt)} {rr : List Nat} {m : Nat} {cs : List SV} {s : SV} {rows : List (List SV)} [hs : Slc s n rows]
    (hx : Src S E0 n x old rr m cs) (hy : S.ev y = .sv s) (hd : d < S.n) (hdr : S.r d = .un) (hd1 : d < 1000) (hroom : (m + rows.length) * by_ ≤ 140737488355328) (hroom2 : m + rows.length ≤ 140737488355328)
    (X : SV) {rows' : List (List SV)} (hX : SV.imp (slc n rows') X) (hrows : Rows n rows' (cs ++ rows.flatten)) (hlen : rows'.length = m + rows.length) (hone : ∀ M vs, SV.All M (cs ++ rows.flatten) vs → ∀ v ∈ vs, v.oneCell' = true)
    (next : RunT P C ops nd K rest (⟨rg ++ (okeys x ++ okeys y), [], d :: rr, ⟨some (d, .sv X), [], old ++ [(d, .dead)]⟩⟩ :: acc) ((AS.setRs (old ++ [(d, .dead)]) S).set d (.sv X))) : RunT P C ops nd K (⟨some d, .call ⟨.builtin .append, #[x, y], #[T, T]⟩, ty, pos, aft, gd⟩ :: rest) acc S := by
  refine .inl ⟨_, [], d :: rr, _, ?_, next⟩
  rintro S' hn ht _ hr i a w L Q ho ⟨E, h⟩ hL
  refine wpOp_of (C := C) ho (hg.wanted h (fun s hs => ht s (List.mem_append_left _ hs)) rfl) ?_
  obtain ⟨⟨vs, hown, hvs⟩, hold⟩ := hx.val h (fun s hs => ht s (List.mem_append_right _ (List.mem_append_left _ hs))) (fun i hi => hr i (List.mem_cons_of_mem _ hi))
  have h2 := h.ev y
  rw [ev_congr (fun _ h => List.mem_append_right _ (List.mem_append_right _ h)) ht, hy] at h2
  obtain ⟨info, hi, hsz, hby, hz⟩ := TyEl.info (P := P) (E := E0) (n := n) (by_ := by_) (z := zv)
  have hdu : S'.r d = .un := by rw [hr d (by simp)]; exact hdr
  have run : ∃ v' w' vs', (Builtin.append_ #[T, T] ty #[a.eval x, a.eval y]).run P w = .ok v' w' ∧ w'.ownsRow 0 E0 n v' (m + rows.length) vs' ∧ SV.All E.M (cs ++ rows.flatten) vs' ∧ w.grownBy w' (a.eval x).ownBlock ∧ (v'.ownBlock = (a.eval x).ownBlock ∨ v'.ownBlock = some w.heap.size ∨ v'.ownBlock = none) := by
    rcases hs.h _ _ h2 with ⟨a0, e, e2⟩ | ⟨b, o, c, e, hc, hc2, hrow⟩
    · rw [e, e2]
      cases a0 with
      | none => exact ⟨_, _, vs, run_append_owned_none w 0 T ty E0 info n tS.u hi _ m vs hown, by simpa using hown, by simpa using hvs, ⟨rfl, rfl, rfl, Nat.le_refl _, fun _ _ _ => rfl⟩, .inl rfl⟩
      | some a0 =>
        rw [e2, List.length_nil] at hroom hroom2
        obtain ⟨v', w', q1, q2, q3, _, q4⟩ := run_append_own_at (P := P) w 0 T ty E0 info zv n by_ tS.u hi hz hsz hby tE.z tE.p _ m vs hown a0 0 0 [] (by simp) (by simp) (by simp) (by unfold maxLen; omega) hroom (Nat.zero_le _)
        exact ⟨v', w', vs, q1, by simpa using q2, by simpa using hvs, q3, q4.imp id .inl⟩
    · obtain ⟨us, g1, g2, g3, g4⟩ := slc_vals rows o hrow
      rw [e]
      obtain ⟨v', w', q1, q2, q3, _, q4⟩ := run_append_own_at (P := P) w 0 T ty E0 info zv n by_ tS.u hi hz hsz hby tE.z tE.p _ m vs hown ⟨b, o, none⟩ rows.length c us g2 (fun j u hj => by rw [addr_add]; exact h.inW _ _ _ (g4 j u hj)) g3 (by unfold maxLen; omega) hroom (Nat.zero_le _)
      exact ⟨v', w', vs ++ us, q1, q2, SV.All.append hvs g1, q3, q4.imp id .inl⟩
  obtain ⟨v', w', vs', q1, q2, q3, q4, q5⟩ := run
  have hr' : (execOp a.eval ⟨some d, .call ⟨.builtin .append, #[x, y], #[T, T]⟩, ty, pos, aft, gd⟩).run P w = .ok (.value v') w' := by
    simp [execOp, resolve, invoke, builtin, q1]
  have lastL : ∀ (l : List (Nat × RSt)) (R : RSt) (j : Nat), lastR (l ++ [(d, R)]) j = if j = d then some R else lastR l j := by
    intro l R j
    induction l with
    | nil => rfl
    | cons p l ih =>
      obtain ⟨i, R'⟩ := p
      rw [List.cons_append, lastR, lastR, ih]
      by_cases e : j = d
      · simp [e]
      · simp [e]
  have h3 := (h.newRow hdu hd1 old (a.eval x).ownBlock hold (R' := ⟨E0, n, m + rows.length, cs ++ rows.flatten⟩) q2 q3 q5 q4).put (d := d) (x := .row d) (v := v') (by simp [AV.holds]) (by rw [(setRs_n _ _).1]; omega) ⟨fun _ e => e.elim, fun j e => by
    cases e
    rw [setRs_r, lastL]; simp⟩
  have hRd : (AS.set (AS.setRs (old ++ [(d, RSt.live ⟨E0, n, m + rows.length, cs ++ rows.flatten⟩)]) S') d (.row d)).r d = .live ⟨E0, n, m + rows.length, cs ++ rows.flatten⟩ := by
    show (AS.setRs _ S').r d = _
    rw [setRs_r, lastL]; simp
  obtain ⟨E', h4⟩ := h3.frz hRd hrows hlen (Nat.le_trans hroom2 (by decide)) hone hX
  have e : (AS.set (AS.setRs (old ++ [(d, RSt.live ⟨E0, n, m + rows.length, cs ++ rows.flatten⟩)]) S') d (.row d)).frz d X = S'.app ⟨some (d, .sv X), [], old ++ [(d, .dead)]⟩ := by
    have n1 := setRs_n (old ++ [(d, RSt.live ⟨E0, n, m + rows.length, cs ++ rows.flatten⟩)]) S'
    have n2 := setRs_n (old ++ [(d, RSt.dead)]) S'
    refine AS.ext' ?_ (fun t => ?_) (fun j => ?_) (fun j => ?_) ?_ ?_
    · show (AS.setRs _ S').n = (AS.setRs _ S').n
      rw [n1.1, n2.1]
    · rw [AS.app_t]
      show ((AS.set (AS.setRs _ S') d (.row d)).t t).frz d X = _
      by_cases e : t = d
      · subst e; rw [AS.set_same]; simp [AV.frz, wT]
      · rw [AS.set_other _ _ _ _ e, n1.2.1, frz_id (fun hm => h.wf.tr t d hm hdu)]; simp [wT, e]
    · rw [AS.app_b]
      show ((AS.setRs _ S').b j).map _ = _
      rw [n1.2.2.1]
      simp only [lastB, Option.getD_none]
      cases hb : S'.b j with
      | none => rfl
      | some B =>
        rw [Option.map_some]
        have : B.cells.map (AV.frz d X) = B.cells := by
          conv => rhs; rw [← List.map_id B.cells]
          exact List.map_congr_left fun c hc => frz_id (fun hm => h.wf.br j B hb c hc d hm hdu)
        rw [this]
    · rw [AS.app_r]
      show (bif Nat.beq j d then RSt.dead else (AS.setRs _ S').r j) = _
      rw [setRs_r, lastL, lastL]
      by_cases e : j = d
      · subst e; simp
      · simp [beq_ne e, e]
    · rw [(AS.app_g _ _).1]; exact n1.2.2.2.1
    · rw [(AS.app_g _ _).2]; exact n1.2.2.2.2
  exact wpIn_of (C := C) (by intro c h; cases h) hr' (hL _ _ ⟨E', e ▸ h4⟩)

theorem imp_u32 {ws : List Nat} (hw : ∀ x ∈ ws, x < 4294967296) : SV.imp (slc 1 (ws.map fun x => [.v (.int .u32 (x : Nat))])) (U32 ws) := fun _ _ h => ⟨hw, h⟩
theorem imp_ints {xs : List Int} (hw : ∀ x ∈ xs, -9223372036854775808 ≤ x ∧ x ≤ 9223372036854775807) : SV.imp (slc 1 (xs.map fun x => [.v (.int .i64 x)])) (Ints xs) := fun _ _ h => ⟨hw, h⟩
theorem rows_words {ws : List Nat} {cells : List SV} (h : cells = WC ws) : Rows 1 (ws.map fun x => [SV.v (.int .u32 (x : Nat))]) cells := by
  subst h
  have := rows_one (WC ws)
  rwa [List.map_map] at this
theorem rows_ints {xs : List Int} {cells : List SV} (h : cells = IC xs) : Rows 1 (xs.map fun x => [SV.v (.int .i64 x)]) cells := by
  subst h
  have := rows_one (IC xs)
  rwa [List.map_map] at this
theorem ones_words {ws : List Nat} {cells : List SV} (h : cells = WC ws) : ∀ M vs, SV.All M cells vs → ∀ v ∈ vs, v.oneCell' = true := by
  subst h; exact ones_map ws (fun x => .int .u32 (x : Nat)) (fun _ => rfl)
theorem ones_ints {xs : List Int} {cells : List SV} (h : cells = IC xs) : ∀ M vs, SV.All M cells vs → ∀ v ∈ vs, v.oneCell' = true := by
  subst h; exact ones_map xs (fun x => .int .i64 x) (fun _ => rfl)
end steps
end Go.Fw
