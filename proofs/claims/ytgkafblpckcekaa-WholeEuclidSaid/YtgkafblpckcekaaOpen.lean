/- What the arguments of a law read as: plain data; and the way from what a law computes to its statement. -/
import Derived.Test.YtgkafblpckcekaaRows
import Derived.Test.YtgkafblpckcekaaFwDen4
import Derived.Test.YtgkafblpckcekaaInst0
import Derived.WalkKit
import Derived.ProofKit
import Derived.OpenShut
import Derived.ShutString
import Derived.ChangeOld
import Derived.Below
import Derived.JoinedCond
import Derived.Deep.Slices
namespace Go.Proofs.Ytgkafblpckcekaa
open Go.Fw Go.RowKit

/-- All that lies in memory. -/
def snap (W : World) : Mem := fun b o => W.cell? ⟨b, o, none⟩
theorem snap_in (W : World) : (snap W).inW W := fun _ _ _ e => e

/-- What a value of a type reads as. -/
class Opn (P : Program) (T : TypeId) {α : Type} (e : α → List SV) (ok : outParam (α → Prop)) (sz : outParam (α → Nat)) : Prop where
  h : ∀ {H : Type} (enc : TypeId × Value → H) (W : World) (fuel : Nat) (cs : List Value) (d : DataW H) (p : List MemPlace), DataW.trod enc P W 0 (fun _ => true) true fuel T cs = some (d, p) →
    ∃ x : α, ok x ∧ SV.All (snap W) (e x) cs ∧ (∀ v ∈ cs, v.oneCell' = true) ∧ sz x ≤ Rows.uptoBulk d

section opn
variable {P : Program} {T : TypeId}
theorem wf_rng {k : IntKind} {n : Int} (h : (Lit.int k n).wf = true) : k.min ≤ n ∧ n ≤ k.max := by simpa [Lit.wf] using h
instance [t : TyInt P T .i64] : Opn P T eI64 (fun x => -9223372036854775808 ≤ x ∧ x ≤ 9223372036854775807) (fun _ => 1) := ⟨fun enc W fuel cs d p h => by
  obtain ⟨n, rfl, hx, hw⟩ := DataW.trod_int t.h h
  cases hx
  have := wf_rng hw
  exact ⟨n, by simpa [IntKind.min, IntKind.max, IntKind.signed, IntKind.bits] using this, ⟨rfl, trivial⟩, by simp [Value.oneCell'], by simp [Rows.uptoBulk]⟩⟩
instance [t : TyInt P T .i32] : Opn P T eI32 (fun x => -2147483648 ≤ x ∧ x ≤ 2147483647) (fun _ => 1) := ⟨fun enc W fuel cs d p h => by
  obtain ⟨n, rfl, hx, hw⟩ := DataW.trod_int t.h h
  cases hx
  have := wf_rng hw
  exact ⟨n, by simpa [IntKind.min, IntKind.max, IntKind.signed, IntKind.bits] using this, ⟨rfl, trivial⟩, by simp [Value.oneCell'], by simp [Rows.uptoBulk]⟩⟩
instance [t : TyInt P T .i16] : Opn P T eI16 (fun x => -32768 ≤ x ∧ x ≤ 32767) (fun _ => 1) := ⟨fun enc W fuel cs d p h => by
  obtain ⟨n, rfl, hx, hw⟩ := DataW.trod_int t.h h
  cases hx
  have := wf_rng hw
  exact ⟨n, by simpa [IntKind.min, IntKind.max, IntKind.signed, IntKind.bits] using this, ⟨rfl, trivial⟩, by simp [Value.oneCell'], by simp [Rows.uptoBulk]⟩⟩
theorem opn_u {k : IntKind} {M : Nat} {e : Nat → List SV} (t : TyInt P T k) (hk : k.min = 0 ∧ k.max = (M : Int) - 1) (he : ∀ n : Nat, e n = [.v (.int k (n : Int))]) : Opn P T e (fun x => x < M) (fun _ => 1) := ⟨fun enc W fuel cs d p h => by
  obtain ⟨n, rfl, hx, hw⟩ := DataW.trod_int t.h h
  cases hx
  have := wf_rng hw
  rw [hk.1, hk.2] at this
  obtain ⟨m, rfl⟩ := Int.eq_ofNat_of_zero_le this.1
  exact ⟨m, by omega, by rw [he]; exact ⟨rfl, trivial⟩, by simp [Value.oneCell'], by simp [Rows.uptoBulk]⟩⟩
instance [t : TyInt P T .u8] : Opn P T eU8 (fun x => x < 256) (fun _ => 1) := opn_u t (by decide) (fun _ => rfl)
instance [t : TyInt P T .u32] : Opn P T eU32 (fun x => x < 4294967296) (fun _ => 1) := opn_u t (by decide) (fun _ => rfl)
instance [t : TyInt P T .u64] : Opn P T eU64 (fun x => x < 18446744073709551616) (fun _ => 1) := opn_u t (by decide) (fun _ => rfl)
instance [t : TyBool P T] : Opn P T eB (fun _ => True) (fun _ => 1) := ⟨fun enc W fuel cs d p h => by
  obtain ⟨b, rfl, hx⟩ := DataW.trod_bool t.h h
  cases hx
  exact ⟨b, trivial, ⟨rfl, trivial⟩, by simp [Value.oneCell'], by simp [Rows.uptoBulk]⟩⟩
instance [t : TyStr P T] : Opn P T eStr (fun s => s.length ≤ 9223372036854775807) (fun s => s.length + 1) := ⟨fun enc W fuel cs d p h => by
  obtain ⟨s, rfl, hx, hl⟩ := DataW.trod_string t.h h
  cases hx
  refine ⟨s.data.toList, ?_, ⟨?_, trivial⟩, by simp [Value.oneCell'], by simp [Rows.uptoBulk]⟩
  · have : maxLen = 9223372036854775807 := by decide
    rw [← this]; exact hl
  · show Value.string s = Value.string (bs s.data.toList)
    rw [bs_of]⟩

theorem ring_all {M : Mem} : ∀ {l : List SV} {vs : List Value} {k : Nat} {s : SV}, SV.All M l vs → l[k]? = some s → ∃ y, vs[k]? = some y ∧ s.h M y := fun h e => h.get e

theorem bulk_all {H : Type} : ∀ (l : List (DataW H)) (k : Nat) (d : DataW H), l[k]? = some d → Rows.uptoBulk d ≤ Rows.uptoBulkAll l
  | [], _, _, h => by simp at h
  | x :: l, 0, d, h => by simp at h; subst h; simp [Rows.uptoBulkAll]
  | x :: l, k + 1, d, h => by
    have := bulk_all l k d (by simpa using h)
    simp only [Rows.uptoBulkAll]; omega
theorem bulk_sum {H α : Type} (sz : α → Nat) : ∀ (xs : List α) (ds : List (DataW H)), xs.length = ds.length → (∀ (i : Nat) (x : α) (d : DataW H), xs[i]? = some x → ds[i]? = some d → sz x ≤ Rows.uptoBulk d) → (xs.map sz).sum ≤ Rows.uptoBulkAll ds
  | [], [], _, _ => by simp
  | x :: xs, d :: ds, hl, h => by
    have h1 := h 0 x d rfl rfl
    have h2 := bulk_sum sz xs ds (by simpa using hl) (fun i x d e1 e2 => h (i + 1) x d (by simpa using e1) (by simpa using e2))
    simp only [List.map_cons, List.sum_cons, Rows.uptoBulkAll]; omega
  | [], _ :: _, hl, _ => by simp at hl
  | _ :: _, [], hl, _ => by simp at hl

instance {E : TypeId} {n : Nat} {α : Type} {e : α → List SV} {ok : α → Prop} {sz : α → Nat} {by_ : Nat} {zv : Value} [t : TySl P T E n] [tE : TyEl P E n by_ zv] [el : EL e n] [o : Opn P E e ok sz] : Opn P T (eS n e) (fun l => l.length ≤ 9223372036854775807 ∧ ∀ x ∈ l, ok x) (fun l => (l.map sz).sum + 1) := ⟨fun {H} enc W fuel cs d p h => by
  have hcell : P.cellsOf E = n := by
    have h1 := t.size W
    simp only [sizeOf, typeInfo] at h1
    cases hi : P.info? E with
    | none => simp [hi] at h1
    | some i => simp [hi] at h1; simp [Program.cellsOf, hi, h1]
  have hml : maxLen = 9223372036854775807 := by decide
  rcases Deep.open_slice t.u h with ⟨rfl, hx⟩ | ⟨a, len, cap, m, n', D, Pl, rfl, _, hl, hm, hmm, hx, hel⟩
  · cases hx
    exact ⟨[], ⟨by simp, by simp⟩, ⟨.inl ⟨none, rfl, rfl⟩, trivial⟩, by simp [Value.oneCell'], by simp [Rows.uptoBulk]⟩
  · cases hx
    rw [if_pos rfl] at hmm
    subst hmm
    have one : ∀ i, i < m → ∃ x, ok x ∧ sz x ≤ Rows.uptoBulk (D i) ∧ ∃ cs', W.cells? 0 (a.add (i * n)) n = some cs' ∧ SV.All (snap W) (e x) cs' ∧ (∀ v ∈ cs', v.oneCell' = true) := by
      intro i hi
      obtain ⟨cs', h1, h2⟩ := hel i hi
      obtain ⟨x, q1, q2, q3, q4⟩ := o.h enc W n' cs' (D i) (Pl i) h2
      rw [hcell] at h1
      exact ⟨x, q1, q4, cs', h1, q2, q3⟩
    obtain ⟨xs, hxl, hxs⟩ : ∃ xs : List α, xs.length = len ∧ ∀ (i : Nat) (x : α), xs[i]? = some x → ok x ∧ sz x ≤ Rows.uptoBulk (D i) ∧ ∃ cs', W.cells? 0 (a.add (i * n)) n = some cs' ∧ SV.All (snap W) (e x) cs' ∧ (∀ v ∈ cs', v.oneCell' = true) := by
      clear h hm hel
      have : ∀ k, k ≤ len → ∃ xs : List α, xs.length = k ∧ ∀ (i : Nat) (x : α), xs[i]? = some x → ok x ∧ sz x ≤ Rows.uptoBulk (D i) ∧ ∃ cs', W.cells? 0 (a.add (i * n)) n = some cs' ∧ SV.All (snap W) (e x) cs' ∧ (∀ v ∈ cs', v.oneCell' = true) := by
        intro k
        induction k with
        | zero => intro _; exact ⟨[], rfl, by simp⟩
        | succ k ih =>
          intro hk
          obtain ⟨xs, h1, h2⟩ := ih (by omega)
          obtain ⟨x, hx⟩ := one k (by omega)
          refine ⟨xs ++ [x], by simp [h1], fun i y hy => ?_⟩
          rcases Nat.lt_or_ge i k with hi | hi
          · exact h2 i y (by rwa [List.getElem?_append_left (by omega)] at hy)
          · rw [List.getElem?_append_right (by omega)] at hy
            have hi2 : i = k := by
              rcases Nat.lt_or_ge (i - xs.length) 1 with q | q
              · omega
              · rw [List.getElem?_eq_none (by simpa using q)] at hy; cases hy
            subst hi2
            rw [h1, Nat.sub_self] at hy
            simp at hy; subst hy; exact hx
      exact this len (Nat.le_refl _)
    refine ⟨xs, ⟨by omega, fun x hx => ?_⟩, ⟨?_, trivial⟩, by simp [Value.oneCell'], ?_⟩
    · obtain ⟨i, hi, rfl⟩ := List.getElem_of_mem hx
      exact (hxs i _ (List.getElem?_eq_getElem hi)).1
    · by_cases h0 : xs = []
      · subst h0
        simp at hxl
        subst hxl
        by_cases hc0 : m = 0
        · subst hc0; exact .inl ⟨_, rfl, rfl⟩
        · -- there is spare room: the block is there
          obtain ⟨x, _, _, cs', g1, g2, _⟩ := one 0 (by omega)
          obtain ⟨_, g3, g4⟩ := World.cells?_some g1
          have hn : 0 < n := tE.p
          have g5 := g4 0 hn
          obtain ⟨b, o', spot⟩ := a
          have hspot : spot = none := by
            have : ∃ v, W.cell? (((⟨b, o', spot⟩ : Addr).add (0 * n)).add 0) = some v := by
              rw [g5]; exact ⟨_, List.getElem?_eq_getElem (by omega)⟩
            obtain ⟨v, hv⟩ := this
            simpa [Addr.add] using World.cell?_spot hv
          subst hspot
          refine .inr ⟨b, o', m, rfl, by simp, by simp, fun i row hr => by simp at hr⟩
      · have hlen0 : 0 < len := by
          rcases Nat.eq_zero_or_pos len with hz | hz
          · exact absurd (List.eq_nil_of_length_eq_zero (by omega)) h0
          · exact hz
        have hn : 0 < n := tE.p
        obtain ⟨x, _, _, cs', g1, g2, _⟩ := one 0 (by omega)
        obtain ⟨_, g3, g4⟩ := World.cells?_some g1
        have g5 := g4 0 hn
        obtain ⟨b, o', spot⟩ := a
        have hspot : spot = none := by
          have : ∃ v, W.cell? (((⟨b, o', spot⟩ : Addr).add (0 * n)).add 0) = some v := by
            rw [g5]; exact ⟨_, List.getElem?_eq_getElem (by omega)⟩
          obtain ⟨v, hv⟩ := this
          simpa [Addr.add] using World.cell?_spot hv
        subst hspot
        refine .inr ⟨b, o', m, by rw [List.length_map, hxl], by rw [List.length_map]; omega, by rw [List.length_map]; omega, fun i row hr => ?_⟩
        rw [List.getElem?_map] at hr
        cases hx : xs[i]? with
        | none => rw [hx] at hr; cases hr
        | some y =>
          rw [hx] at hr
          have hr : e y = row := Option.some.inj hr
          subst hr
          obtain ⟨_, _, cs2, k1, k2, k3⟩ := hxs i y hx
          obtain ⟨_, k4, k5⟩ := World.cells?_some k1
          refine ⟨el.len y, fun k s hk => ?_⟩
          obtain ⟨u, hu, hs⟩ := k2.get hk
          have hkn : k < n := by have := (List.getElem?_eq_some_iff.1 hu).1; omega
          have k6 := k5 k hkn
          rw [addr_add, addr_add, hu] at k6
          exact ⟨u, k6, k3 u (List.mem_of_getElem? hu), hs⟩
    · have hb : Rows.uptoBulk (DataW.slice ((List.range len).map D) ((List.range (m - len)).map fun j => D (len + j))) = Rows.uptoBulkAll ((List.range len).map D) + Rows.uptoBulkAll ((List.range (m - len)).map fun j => D (len + j)) + 1 := rfl
      rw [hb]
      have := bulk_sum sz xs ((List.range len).map D) (by simp [hxl]) (fun i x d e1 e2 => by
        have hi : i < len := by have := (List.getElem?_eq_some_iff.1 e1).1; omega
        simp [hi] at e2; subst e2
        exact (hxs i x e1).2.1)
      omega⟩

/-- How many fields a struct has. -/
class StN (P : Program) (T : TypeId) (k : outParam Nat) : Prop where
  h : (match P.underlying T with | some (.struct fs) => some fs.size | _ => none) = some k
theorem st_open {k : Nat} [s : StN P T k] {H : Type} {enc : TypeId × Value → H} {W : World} {fuel : Nat} {cs : List Value} {d : DataW H} {p : List MemPlace} (h : DataW.trod enc P W 0 (fun _ => true) true fuel T cs = some (d, p)) :
    ∃ (xs : List (DataW H × List MemPlace)) (n : Nat), d = .agg (xs.map (·.1)) ∧ cs.length = P.cellsOf T ∧ xs.length = k ∧ ∀ (i off : Nat) (U : TypeId), Fld P T i off U → DataW.trod enc P W 0 (fun _ => true) true n U ((cs.drop off).take (P.cellsOf U)) = xs[i]? := by
  have hs := s.h
  cases hT : P.underlying T with
  | none => rw [hT] at hs; cases hs
  | some u =>
    rw [hT] at hs
    cases u with
    | struct fs =>
      have hk : fs.size = k := Option.some.inj hs
      obtain ⟨xs, n, _, hx, hl, hn, hf⟩ := DataW.trod_struct hT h
      refine ⟨xs, n, (Prod.mk.inj hx).1, hl, by omega, fun i off U F => ?_⟩
      have hF := F.h
      rw [hT] at hF
      simp only at hF
      cases hg : fs[i]? with
      | none => rw [hg] at hF; cases hF
      | some f =>
        rw [hg] at hF
        simp only [Option.map_some, Option.some.injEq, Prod.mk.injEq] at hF
        have := hf i f hg
        rw [hF.1, hF.2] at this
        exact this
    | _ => cases hs
/-- The types whose values take one cell. -/
class OneV (P : Program) (T : TypeId) : Prop where
  h : ∀ (w : World) (r : Reach) (base : Nat) (v : Value), Value.okWide P w r base T v → v.cells.toList = [v]
instance {k : IntKind} [t : TyInt P T k] : OneV P T := ⟨fun w r base v h => by
  simp only [Value.okWide, t.h, Cell.okWide, Cell.ok] at h
  cases v <;> first | rfl | cases h⟩
instance [t : TyBool P T] : OneV P T := ⟨fun w r base v h => by
  simp only [Value.okWide, t.h, Cell.okWide, Cell.ok] at h
  cases v <;> first | rfl | cases h⟩
instance [t : TyStr P T] : OneV P T := ⟨fun w r base v h => by
  simp only [Value.okWide, t.h, Cell.okWide, Cell.ok] at h
  cases v <;> first | rfl | cases h⟩
instance {E : TypeId} {n : Nat} [t : TySl P T E n] : OneV P T := ⟨fun w r base v h => by
  obtain ⟨a, l, c, rfl⟩ := WideShapes.okWide_slice t.u h
  rfl⟩
theorem arg_one {α : Type} {e : α → List SV} {ok : α → Prop} {sz : α → Nat} [o1 : OneV P T] [o : Opn P T e ok sz] {H : Type} {enc : TypeId × Value → H} {W : World} {r : Reach} {base : Nat} {v : Value} {d : DataW H} {p : List MemPlace}
    (hv : Value.okWide P W r base T v) (h : DataW.Trod enc P W 0 (fun _ => true) true T v d p) : ∃ x, ok x ∧ sz x ≤ Rows.uptoBulk d ∧ SV.All (snap W) (e x) [v] := by
  obtain ⟨fuel, h⟩ := h
  rw [o1.h W r base v hv] at h
  obtain ⟨x, h1, h2, _, h4⟩ := o.h enc W fuel _ d p h
  exact ⟨x, h1, h4, h2⟩
theorem arg_agg {α : Type} {e : α → List SV} {ok : α → Prop} {sz : α → Nat} {k : Nat} [s : StN P T k] [o : Opn P T e ok sz] {H : Type} {enc : TypeId × Value → H} {W : World} {r : Reach} {base : Nat} {v : Value} {d : DataW H} {p : List MemPlace}
    (hv : Value.okWide P W r base T v) (h : DataW.Trod enc P W 0 (fun _ => true) true T v d p) : ∃ x, ok x ∧ sz x ≤ Rows.uptoBulk d ∧ (SV.agg (e x)).h (snap W) v := by
  have hs := s.h
  cases hT : P.underlying T with
  | none => rw [hT] at hs; cases hs
  | some u =>
    rw [hT] at hs
    cases u with
    | struct fs =>
      obtain ⟨cs, rfl, _⟩ := WideShapes.okWide_struct hT hv
      obtain ⟨fuel, h⟩ := h
      obtain ⟨x, h1, h2, _, h4⟩ := o.h enc W fuel _ d p h
      exact ⟨x, h1, h4, cs.toList, rfl, h2⟩
    | _ => cases hs
end opn

/-- A bool that says true, and every old block as it was: what the statements ask of the law. -/
theorem said_of {f : FuncId} {vs : List Value} {svs : List SV} {W : World} (hp : Pure Try.prog f svs (.v (.bool true))) (h : SV.All (snap W) svs vs) :
    Calls Try.prog f ⟨vs⟩ W fun e w' => e = .returned (.bool true) ∧ Below W.heap.size W w' :=
  (hp (snap W) W vs (snap_in W) h).mono fun _ _ ⟨v, _, h1, _, _, _, h2, h3⟩ => by
    have h2 : v = .bool true := h2
    exact ⟨by rw [h1, h2], h3⟩
end Go.Proofs.Ytgkafblpckcekaa
