/- A part of the proof: the framework, the plain functions, the followed functions, the plain laws. -/
import Derived.Test.YtgkafblpckcekaaPM3
set_option linter.unusedVariables false
set_option linter.unusedSimpArgs false
namespace Go.Proofs.Ytgkafblpckcekaa
open Go.Fw Go.RowKit
theorem slices_Reverse_ok {x0 : List Nat} {r : List Nat} (h : slices_Reverse_m x0 = some r) : RowC Try.prog 58 [.row 1000] (TR 5 1 eU8 x0) (.sv .any) (List.flatMap eU8 r) := by
  refine rowC_of_ok Try.func58 rfl (Nat.le_of_ble_eq_true rfl) rfl rfl (fun wld M v0 => ?_)
  unfold slices_Reverse_m at h
  refine ok_seq ?_
  refine ok_region ?_
  refine RT.move .none (s := .row _) rfl (tl rfl) ?_
  replace h := let_some h
  obtain ⟨x5, h5, h⟩ := h
  refine RT.lenRM .none rfl rfl (tl rfl) h5 ?_
  replace h := let_some h
  obtain ⟨x6, h6, h⟩ := h
  refine RT.sub .none _ rfl rfl (tl rfl) h6 ?_
  refine RT.asg .none rfl (tl rfl) ?_
  refine RT.asg .none rfl (tl rfl) ?_
  refine RT.done ?_
  refine AThen.n ?_
  replace h := bind_some h
  obtain ⟨e10, hl10, ho10⟩ := h
  refine ok_tailP (fun (r1000e9 : (List Nat)) => AS.mkL 28 [(0, .row 1000)] [] [(1000, TR 5 1 eU8 r1000e9)]) (fun r1000e9 => r1000e9 = e10) ?_ (fun r1000e9 hx10 => ?_)
  · refine ok_block ?_
    refine ok_loopM hl10 (fun s10 => AS.mkL 28 [(0, .row 1000), (2, .sv (.v (.int .i64 s10.1))), (3, .sv (.v (.int .i64 s10.2.1)))] [] [(1000, TR 5 1 eU8 s10.2.2)]) (by (try dsimp only); exact weakL id rfl rfl rfl rfl rfl ⟨.row rfl, .sv (SV.imp_refl _), .sv (SV.imp_refl _), trivial⟩ trivial ⟨⟨_, rfl, SVIs.refl _⟩, trivial⟩ (fun _ _ => rfl)) (fun s10 y10 G10 h hG10 hE10 => ?_)
    obtain ⟨y2l5, y3l5, r1000l5⟩ := s10
    try dsimp only
    refine ok_seq ?_
    refine ok_seq ?_
    refine ok_region ?_
    refine RT.mv .none rfl (tl rfl) ?_
    refine RT.mv .none rfl (tl rfl) ?_
    replace h := let_some h
    obtain ⟨x9, h9, h⟩ := h
    refine RT.lss .none _ rfl rfl (tl rfl) h9 ?_
    refine RT.done ?_
    refine AThen.n ?_
    cases x9
    · replace h := br_f h
      refine ok_condF rfl ?_
      refine ok_exit ?_
      refine AThen.x ?_
      refine AThen.x ?_
      refine AInB.x ?_
      refine AThen.n ?_
      obtain rfl := Option.some.inj h
      refine ⟨r1000l5, hE10 _ rfl, ?_⟩
      try dsimp only
      exact weakL id rfl rfl rfl rfl rfl ⟨.row rfl, trivial⟩ trivial ⟨⟨_, rfl, SVIs.refl _⟩, trivial⟩ (fun _ _ => rfl)
    · replace h := br_t h
      refine ok_condT rfl ?_
      refine ok_skip ?_
      refine AThen.n ?_
      refine ok_seq ?_
      refine ok_block ?_
      refine ok_region_draw mixed ?_
      refine RT.move .none (s := .row _) rfl (tl rfl) ?_
      refine RT.mv .none rfl (tl rfl) ?_
      refine RT.move .none (s := .row _) rfl (tl rfl) ?_
      refine RT.mv .none rfl (tl rfl) ?_
      refine RT.move .none (s := .row _) rfl (tl rfl) ?_
      refine RT.mv .none rfl (tl rfl) ?_
      replace h := bind_some h
      obtain ⟨x20, h20, h⟩ := h
      refine RT.ixRM .none rfl rfl rfl (tl rfl) h20 ?_
      replace h := bind_some h
      obtain ⟨x21, h21, h⟩ := h
      refine RT.ldRM .none rfl rfl h21 rfl (tl rfl) ?_
      refine RT.move .none (s := .row _) rfl (tl rfl) ?_
      refine RT.mv .none rfl (tl rfl) ?_
      replace h := bind_some h
      obtain ⟨x24, h24, h⟩ := h
      refine RT.ixRM .none rfl rfl rfl (tl rfl) h24 ?_
      replace h := bind_some h
      obtain ⟨x25, h25, h⟩ := h
      refine RT.ldRM .none rfl rfl h25 rfl (tl rfl) ?_
      replace h := bind_some h
      obtain ⟨x26, h26, h⟩ := h
      refine RT.ixRM .none rfl rfl rfl (tl rfl) h26 ?_
      replace h := bind_some h
      obtain ⟨l13, hl13_, h⟩ := h
      refine RT.stRM .none x21 rfl rfl rfl rfl hl13_ ?_
      replace h := bind_some h
      obtain ⟨x27, h27, h⟩ := h
      refine RT.ixRM .none rfl rfl rfl (tl rfl) h27 ?_
      replace h := bind_some h
      obtain ⟨l14, hl14_, h⟩ := h
      refine RT.stRM .none x25 rfl rfl rfl rfl hl14_ ?_
      refine RT.done ⟨by kernel_rfl, ?_⟩
      refine AInB.n ?_
      refine AThen.n ?_
      refine ok_region ?_
      refine RT.mv .none rfl (tl rfl) ?_
      replace h := let_some h
      obtain ⟨x11, h11, h⟩ := h
      refine RT.add .none _ rfl rfl (tl rfl) h11 ?_
      refine RT.mv .none rfl (tl rfl) ?_
      replace h := let_some h
      obtain ⟨x13, h13, h⟩ := h
      refine RT.sub .none _ rfl rfl (tl rfl) h13 ?_
      refine RT.asg .none rfl (tl rfl) ?_
      refine RT.asg .none rfl (tl rfl) ?_
      refine RT.done ?_
      obtain rfl := Option.some.inj h
      refine AThen.n ⟨(x11, x13, l14), hG10 _ rfl, ?_⟩
      try dsimp only
      exact weakL id rfl rfl rfl rfl rfl ⟨.row rfl, .sv (SV.imp_refl _), .sv (SV.imp_refl _), trivial⟩ trivial ⟨⟨_, rfl, SVIs.refl _⟩, trivial⟩ (fun _ _ => rfl)
  · subst hx10
    try dsimp only
    replace ho10 := bind_some ho10
    obtain ⟨_, hle, ho10⟩ := ho10
    obtain rfl := Option.some.inj ho10
    exact ⟨.inl rfl, .sv (res_imp .nil (fun _ _ _ => trivial)), (by show _ = RSt.live ⟨5, 1, x0.length, List.flatMap eU8 r1000e9⟩; rw [← eqLen_some hle]; rfl)⟩
theorem internal_stringslite_HasPrefix_ok {x0 : Str} {x1 : Str} {r : Bool} (h : internal_stringslite_HasPrefix_m x0 x1 = some r) : Pure Try.prog 82 [.v (.string (bs x0)), .v (.string (bs x1))] (.v (.bool r)) := by
  refine pure_of_ok Try.func82 rfl (Nat.le_of_ble_eq_true rfl) (fun wld M vs hvs => ?_)
  unfold internal_stringslite_HasPrefix_m at h
  refine ok_seq ?_
  refine ok_region ?_
  refine RT.asg .none rfl (tl rfl) ?_
  refine RT.done ?_
  refine AThen.n ?_
  refine ok_seq ?_
  refine ok_tailJ h (fun j3 => AS.mkL 18 [(4, .sv (.v (.bool j3)))] [] []) (fun h => ?_) (fun y4j2 h => ?_)
  · refine ok_region ?_
    refine RT.mv .none rfl (tl rfl) ?_
    replace h := let_some h
    obtain ⟨x6, h6, h⟩ := h
    refine RT.slen (l := x0) .none rfl (tl rfl) h6 ?_
    refine RT.mv .none rfl (tl rfl) ?_
    replace h := let_some h
    obtain ⟨x8, h8, h⟩ := h
    refine RT.slen (l := x1) .none rfl (tl rfl) h8 ?_
    replace h := let_some h
    obtain ⟨x9, h9, h⟩ := h
    refine RT.geq .none _ rfl rfl (tl rfl) h9 ?_
    refine RT.mv .none rfl (tl rfl) ?_
    replace h := bind_some h
    obtain ⟨c17_4, hg4, h⟩ := h
    cases x9
    · replace hg4 := br_f hg4
      obtain rfl := Option.some.inj hg4
      refine RT.skV rfl rfl (sk rfl) (tl rfl) ?_
      refine RT.skV rfl rfl (sk rfl) (tl rfl) ?_
      refine RT.skV rfl rfl (sk rfl) (tl rfl) ?_
      refine RT.skV rfl rfl (sk rfl) (tl rfl) ?_
      refine RT.skV rfl rfl (sk rfl) (tl rfl) ?_
      refine RT.skV rfl rfl (sk rfl) (tl rfl) ?_
      refine RT.pickF .none rfl rfl (tl rfl) ?_
      refine RT.asg .none rfl (tl rfl) ?_
      refine RT.done ?_
      refine AThen.n ?_
      refine ⟨false, h, ?_⟩
      try dsimp only
      exact weakL id rfl rfl rfl rfl rfl ⟨.sv (SV.imp_refl _), trivial⟩ trivial trivial (fun _ _ => rfl)
    · replace hg4 := br_t hg4
      refine RT.mv (.some rfl rfl) rfl (tl rfl) ?_
      refine RT.mv (.some rfl rfl) rfl (tl rfl) ?_
      replace hg4 := let_some hg4
      obtain ⟨x13, h13, hg4⟩ := hg4
      refine RT.slen (l := x1) (.some rfl rfl) rfl (tl rfl) h13 ?_
      replace hg4 := bind_some hg4
      obtain ⟨x14, h14, hg4⟩ := hg4
      refine RT.ssl (.some rfl rfl) 0 x13 rfl rfl ⟨_, rfl⟩ (tl rfl) h14 ?_
      refine RT.mv (.some rfl rfl) rfl (tl rfl) ?_
      replace hg4 := let_some hg4
      obtain ⟨x16, h16, hg4⟩ := hg4
      refine RT.seql (l := x14) (k := x1) (.some rfl rfl) rfl rfl (tl rfl) h16 ?_
      obtain rfl := Option.some.inj hg4
      refine RT.pickT .none rfl rfl (tl rfl) ?_
      refine RT.asg .none rfl (tl rfl) ?_
      refine RT.done ?_
      refine AThen.n ?_
      refine ⟨x16, h, ?_⟩
      try dsimp only
      exact weakL id rfl rfl rfl rfl rfl ⟨.sv (SV.imp_refl _), trivial⟩ trivial trivial (fun _ _ => rfl)
  · try dsimp only
    refine AThen.n ?_
    refine ok_ret ?_
    obtain rfl := Option.some.inj h
    exact ⟨.inr rfl, res_imp (.tmp rfl (.nil)) (SV.imp_refl _)⟩
theorem internal_stringslite_CutPrefix_ok {x0 : Str} {x1 : Str} {r : Str × Bool} (h : internal_stringslite_CutPrefix_m x0 x1 = some r) : Pure Try.prog 75 [.v (.string (bs x0)), .v (.string (bs x1))] (.tup [.v (.string (bs r.1)), .v (.bool r.2)]) := by
  refine pure_of_ok Try.func75 rfl (Nat.le_of_ble_eq_true rfl) (fun wld M vs hvs => ?_)
  unfold internal_stringslite_CutPrefix_m at h
  refine ok_seq ?_
  refine ok_region ?_
  refine RT.asg .none rfl (tl rfl) ?_
  refine RT.asg .none rfl (tl rfl) ?_
  refine RT.done ?_
  refine AThen.n ?_
  refine ok_seq ?_
  refine ok_seq ?_
  refine ok_region ?_
  refine RT.mv .none rfl (tl rfl) ?_
  refine RT.mv .none rfl (tl rfl) ?_
  replace h := bind_some h
  obtain ⟨x8, h8, h⟩ := h
  refine RT.call .none (internal_stringslite_HasPrefix_ok h8) rfl ⟨rfl, rfl, trivial⟩ (tl rfl) ?_
  replace h := let_some h
  obtain ⟨x9, h9, h⟩ := h
  refine RT.not .none rfl (tl rfl) _ h9 ?_
  refine RT.done ?_
  refine AThen.n ?_
  cases x9
  · replace h := br_f h
    refine ok_condF rfl ?_
    refine ok_skip ?_
    refine AThen.n ?_
    refine ok_seq ?_
    refine ok_region ?_
    refine RT.mv .none rfl (tl rfl) ?_
    refine RT.mv .none rfl (tl rfl) ?_
    replace h := let_some h
    obtain ⟨x13, h13, h⟩ := h
    refine RT.slen (l := x1) .none rfl (tl rfl) h13 ?_
    replace h := bind_some h
    obtain ⟨x14, h14, h⟩ := h
    refine RT.ssl .none x13 (x0.length : Int) rfl ⟨_, rfl⟩ rfl (tl rfl) h14 ?_
    refine RT.asg .none rfl (tl rfl) ?_
    refine RT.asg .none rfl (tl rfl) ?_
    refine RT.done ?_
    refine AThen.n ?_
    refine ok_ret ?_
    obtain rfl := Option.some.inj h
    exact ⟨.inr rfl, res_imp (.tmp rfl (.tmp rfl (.nil))) (SV.imp_refl _)⟩
  · replace h := br_t h
    refine ok_condT rfl ?_
    refine ok_seq ?_
    refine ok_region ?_
    refine RT.mv .none rfl (tl rfl) ?_
    refine RT.asg .none rfl (tl rfl) ?_
    refine RT.asg .none rfl (tl rfl) ?_
    refine RT.done ?_
    refine AThen.n ?_
    refine ok_ret ?_
    refine AThen.r ?_
    obtain rfl := Option.some.inj h
    exact ⟨.inr rfl, res_imp (.tmp rfl (.tmp rfl (.nil))) (SV.imp_refl _)⟩
theorem strings_CutPrefix_ok {x0 : Str} {x1 : Str} {r : Str × Bool} (h : strings_CutPrefix_m x0 x1 = some r) : Pure Try.prog 59 [.v (.string (bs x0)), .v (.string (bs x1))] (.tup [.v (.string (bs r.1)), .v (.bool r.2)]) := by
  refine pure_of_ok Try.func59 rfl (Nat.le_of_ble_eq_true rfl) (fun wld M vs hvs => ?_)
  unfold strings_CutPrefix_m at h
  refine ok_seq ?_
  refine ok_region ?_
  refine RT.asg .none rfl (tl rfl) ?_
  refine RT.asg .none rfl (tl rfl) ?_
  refine RT.done ?_
  refine AThen.n ?_
  refine ok_seq ?_
  refine ok_region ?_
  refine RT.mv .none rfl (tl rfl) ?_
  refine RT.mv .none rfl (tl rfl) ?_
  replace h := bind_some h
  obtain ⟨⟨x8a, x8b⟩, h8, h⟩ := h
  refine RT.call .none (internal_stringslite_CutPrefix_ok h8) rfl ⟨rfl, rfl, trivial⟩ (tl rfl) ?_
  refine RT.extract .none rfl rfl (tl rfl) ?_
  refine RT.extract .none rfl rfl (tl rfl) ?_
  refine RT.asg .none rfl (tl rfl) ?_
  refine RT.asg .none rfl (tl rfl) ?_
  refine RT.done ?_
  refine AThen.n ?_
  refine ok_ret ?_
  obtain rfl := Option.some.inj h
  exact ⟨.inr rfl, res_imp (.tmp rfl (.tmp rfl (.nil))) (SV.imp_refl _)⟩
theorem whole_isDecimal_ok {x0 : Str} {r : Bool} (h : whole_isDecimal_m x0 = some r) : Pure Try.prog 60 [.v (.string (bs x0))] (.v (.bool r)) := by
  refine pure_of_ok Try.func60 rfl (Nat.le_of_ble_eq_true rfl) (fun wld M vs hvs => ?_)
  unfold whole_isDecimal_m at h
  refine ok_seq ?_
  refine ok_region ?_
  refine RT.asg .none rfl (tl rfl) ?_
  refine RT.done ?_
  refine AThen.n ?_
  refine ok_seq ?_
  refine ok_seq ?_
  refine ok_tailJ h (fun j4 => AS.mkL 32 [(0, .sv (.v (.string (bs x0)))), (15, .sv (.v (.bool j4)))] [] []) (fun h => ?_) (fun y15j3 h => ?_)
  · refine ok_region ?_
    refine RT.mv .none rfl (tl rfl) ?_
    replace h := let_some h
    obtain ⟨x5, h5, h⟩ := h
    refine RT.seql (l := x0) (k := []) .none rfl rfl (tl rfl) h5 ?_
    refine RT.mv .none rfl (tl rfl) ?_
    replace h := bind_some h
    obtain ⟨c15_19, hg19, h⟩ := h
    cases x5
    · replace hg19 := br_f hg19
      refine RT.mv (.some rfl rfl) rfl (tl rfl) ?_
      replace hg19 := bind_some hg19
      obtain ⟨x8, h8, hg19⟩ := hg19
      refine RT.six (l := x0) (.some rfl rfl) rfl rfl (tl rfl) h8 ?_
      replace hg19 := let_some hg19
      obtain ⟨x9, h9, hg19⟩ := hg19
      refine RT.eql (.some rfl rfl) _ rfl rfl (tl rfl) (eqN (p := x8) (q := 48) h9) ?_
      refine RT.mv (.some rfl rfl) rfl (tl rfl) ?_
      replace hg19 := bind_some hg19
      obtain ⟨c14_20, hg20, hg19⟩ := hg19
      cases x9
      · replace hg20 := br_f hg20
        obtain rfl := Option.some.inj hg20
        refine RT.skV rfl rfl (sk rfl) (tl rfl) ?_
        refine RT.skV rfl rfl (sk rfl) (tl rfl) ?_
        refine RT.skV rfl rfl (sk rfl) (tl rfl) ?_
        refine RT.pickF (.some rfl rfl) rfl rfl (tl rfl) ?_
        obtain rfl := Option.some.inj hg19
        refine RT.pickF .none rfl rfl (tl rfl) ?_
        refine RT.done ?_
        refine AThen.n ?_
        refine ⟨false, h, ?_⟩
        try dsimp only
        exact weakL id rfl rfl rfl rfl rfl ⟨.sv (SV.imp_refl _), .sv (SV.imp_refl _), trivial⟩ trivial trivial (fun _ _ => rfl)
      · replace hg20 := br_t hg20
        refine RT.mv (.some rfl rfl) rfl (tl rfl) ?_
        replace hg20 := let_some hg20
        obtain ⟨x12, h12, hg20⟩ := hg20
        refine RT.slen (l := x0) (.some rfl rfl) rfl (tl rfl) h12 ?_
        replace hg20 := let_some hg20
        obtain ⟨x13, h13, hg20⟩ := hg20
        refine RT.gtr (.some rfl rfl) _ rfl rfl (tl rfl) h13 ?_
        obtain rfl := Option.some.inj hg20
        refine RT.pickT (.some rfl rfl) rfl rfl (tl rfl) ?_
        obtain rfl := Option.some.inj hg19
        refine RT.pickF .none rfl rfl (tl rfl) ?_
        refine RT.done ?_
        refine AThen.n ?_
        refine ⟨x13, h, ?_⟩
        try dsimp only
        exact weakL id rfl rfl rfl rfl rfl ⟨.sv (SV.imp_refl _), .sv (SV.imp_refl _), trivial⟩ trivial trivial (fun _ _ => rfl)
    · replace hg19 := br_t hg19
      obtain rfl := Option.some.inj hg19
      refine RT.skV rfl rfl (sk rfl) (tl rfl) ?_
      refine RT.skV rfl rfl (sk rfl) (tl rfl) ?_
      refine RT.skV rfl rfl (sk rfl) (tl rfl) ?_
      refine RT.skV rfl rfl (sk rfl) (tl rfl) ?_
      refine RT.skipU rfl rfl (tl rfl) ?_
      refine RT.skipU rfl rfl (tl rfl) ?_
      refine RT.skipU rfl rfl (tl rfl) ?_
      refine RT.skV rfl rfl (sk rfl) (tl rfl) ?_
      refine RT.pickT .none rfl rfl (tl rfl) ?_
      refine RT.done ?_
      refine AThen.n ?_
      refine ⟨true, h, ?_⟩
      try dsimp only
      exact weakL id rfl rfl rfl rfl rfl ⟨.sv (SV.imp_refl _), .sv (SV.imp_refl _), trivial⟩ trivial trivial (fun _ _ => rfl)
  · try dsimp only
    refine AThen.n ?_
    cases y15j3
    · replace h := br_f h
      refine ok_condF rfl ?_
      refine ok_skip ?_
      refine AThen.n ?_
      refine ok_seq ?_
      refine ok_seq ?_
      refine ok_region ?_
      refine RT.mv .none rfl (tl rfl) ?_
      replace h := let_some h
      obtain ⟨x17, h17, h⟩ := h
      refine RT.slen (l := x0) .none rfl (tl rfl) h17 ?_
      refine RT.mv .none rfl (tl rfl) ?_
      refine RT.done ?_
      refine AThen.n ?_
      replace h := bind_some h
      obtain ⟨e14, hl14, ho14⟩ := h
      refine ok_tailP (fun (xe14 : Unit) => AS.mkL 32 [] [] []) (fun xe14 => .inl xe14 = e14) ?_ (fun xe14 hx14 => ?_)
      · refine ok_block ?_
        refine ok_loopM hl14 (fun s14 => AS.mkL 32 [(0, .sv (.v (.string (bs x0)))), (17, .sv (.v (.int .i64 x17))), (18, .sv (.v (.int .i64 s14)))] [] []) (by (try dsimp only); exact weakL id rfl rfl rfl rfl rfl ⟨.sv (SV.imp_refl _), .sv (SV.imp_refl _), .sv (SV.imp_refl _), trivial⟩ trivial trivial (fun _ _ => rfl)) (fun y18l9 y14 G14 h hG14 hE14 => ?_)
        try dsimp only
        refine ok_seq ?_
        refine ok_region ?_
        replace h := let_some h
        obtain ⟨x19, h19, h⟩ := h
        refine RT.lss .none _ rfl rfl (tl rfl) h19 ?_
        refine RT.done ?_
        refine AThen.n ?_
        refine ok_seq ?_
        cases x19
        · replace h := br_f h
          refine ok_condF rfl ?_
          refine ok_exit ?_
          refine AThen.x ?_
          refine AThen.x ?_
          refine AInB.x ?_
          refine AThen.n ?_
          obtain rfl := Option.some.inj h
          refine ⟨(), hE14 _ rfl, ?_⟩
          try dsimp only
          exact weakL id rfl rfl rfl rfl rfl trivial trivial trivial (fun _ _ => rfl)
        · replace h := br_t h
          refine ok_condT rfl ?_
          refine ok_skip ?_
          refine AThen.n ?_
          refine ok_seq ?_
          refine ok_block ?_
          refine ok_seq ?_
          refine ok_region ?_
          refine RT.mv .none rfl (tl rfl) ?_
          refine RT.asg .none rfl (tl rfl) ?_
          refine RT.done ?_
          refine AThen.n ?_
          refine ok_seq ?_
          refine ok_tailJ h (fun j17 => AS.mkL 32 [(0, .sv (.v (.string (bs x0)))), (17, .sv (.v (.int .i64 x17))), (18, .sv (.v (.int .i64 y18l9))), (30, .sv (.v (.bool j17)))] [] []) (fun h => ?_) (fun y30j16 h => ?_)
          · refine ok_region ?_
            refine RT.mv .none rfl (tl rfl) ?_
            refine RT.mv .none rfl (tl rfl) ?_
            replace h := bind_some h
            obtain ⟨x23, h23, h⟩ := h
            refine RT.six (l := x0) .none rfl rfl (tl rfl) h23 ?_
            replace h := let_some h
            obtain ⟨x24, h24, h⟩ := h
            refine RT.lss .none _ rfl rfl (tl rfl) (ltN (p := x23) (q := 48) h24) ?_
            refine RT.mv .none rfl (tl rfl) ?_
            replace h := bind_some h
            obtain ⟨c30_18, hg18, h⟩ := h
            cases x24
            · replace hg18 := br_f hg18
              refine RT.mv (.some rfl rfl) rfl (tl rfl) ?_
              refine RT.mv (.some rfl rfl) rfl (tl rfl) ?_
              replace hg18 := bind_some hg18
              obtain ⟨x28, h28, hg18⟩ := hg18
              refine RT.six (l := x0) (.some rfl rfl) rfl rfl (tl rfl) h28 ?_
              replace hg18 := let_some hg18
              obtain ⟨x29, h29, hg18⟩ := hg18
              refine RT.gtr (.some rfl rfl) _ rfl rfl (tl rfl) (ltN (p := 57) (q := x28) h29) ?_
              obtain rfl := Option.some.inj hg18
              refine RT.pickF .none rfl rfl (tl rfl) ?_
              refine RT.done ?_
              refine AThen.n ?_
              refine ⟨x29, h, ?_⟩
              try dsimp only
              exact weakL id rfl rfl rfl rfl rfl ⟨.sv (SV.imp_refl _), .sv (SV.imp_refl _), .sv (SV.imp_refl _), .sv (SV.imp_refl _), trivial⟩ trivial trivial (fun _ _ => rfl)
            · replace hg18 := br_t hg18
              obtain rfl := Option.some.inj hg18
              refine RT.skV rfl rfl (sk rfl) (tl rfl) ?_
              refine RT.skV rfl rfl (sk rfl) (tl rfl) ?_
              refine RT.skV rfl rfl (sk rfl) (tl rfl) ?_
              refine RT.skV rfl rfl (sk rfl) (tl rfl) ?_
              refine RT.pickT .none rfl rfl (tl rfl) ?_
              refine RT.done ?_
              refine AThen.n ?_
              refine ⟨true, h, ?_⟩
              try dsimp only
              exact weakL id rfl rfl rfl rfl rfl ⟨.sv (SV.imp_refl _), .sv (SV.imp_refl _), .sv (SV.imp_refl _), .sv (SV.imp_refl _), trivial⟩ trivial trivial (fun _ _ => rfl)
          · try dsimp only
            refine AThen.n ?_
            cases y30j16
            · replace h := br_f h
              refine ok_condF rfl ?_
              refine ok_skip ?_
              refine AInB.n ?_
              refine AThen.n ?_
              refine ok_region ?_
              replace h := let_some h
              obtain ⟨x31, h31, h⟩ := h
              refine RT.add .none _ rfl rfl (tl rfl) h31 ?_
              refine RT.mv .none rfl (tl rfl) ?_
              refine RT.done ?_
              obtain rfl := Option.some.inj h
              refine AThen.n ⟨x31, hG14 _ rfl, ?_⟩
              try dsimp only
              exact weakL id rfl rfl rfl rfl rfl ⟨.sv (SV.imp_refl _), .sv (SV.imp_refl _), .sv (SV.imp_refl _), trivial⟩ trivial trivial (fun _ _ => rfl)
            · replace h := br_t h
              refine ok_condT rfl ?_
              refine ok_seq ?_
              refine ok_region ?_
              refine RT.asg .none rfl (tl rfl) ?_
              refine RT.done ?_
              refine AThen.n ?_
              refine ok_ret ?_
              refine AInB.r ?_
              refine AThen.r ?_
              obtain rfl := Option.some.inj h
              have he14 := hE14 _ rfl
              subst he14
              refine AThen.r ?_
              refine AInB.r ?_
              refine AThen.r ?_
              refine AThen.r ?_
              obtain rfl := Option.some.inj ho14
              exact ⟨.inr rfl, res_imp (.tmp rfl (.nil)) (SV.imp_refl _)⟩
      · subst hx14
        try dsimp only
        refine AThen.n ?_
        refine ok_seq ?_
        refine ok_region ?_
        refine RT.asg .none rfl (tl rfl) ?_
        refine RT.done ?_
        refine AThen.n ?_
        refine ok_ret ?_
        obtain rfl := Option.some.inj ho14
        exact ⟨.inr rfl, res_imp (.tmp rfl (.nil)) (SV.imp_refl _)⟩
    · replace h := br_t h
      refine ok_condT rfl ?_
      refine ok_seq ?_
      refine ok_region ?_
      refine RT.asg .none rfl (tl rfl) ?_
      refine RT.done ?_
      refine AThen.n ?_
      refine ok_ret ?_
      refine AThen.r ?_
      obtain rfl := Option.some.inj h
      exact ⟨.inr rfl, res_imp (.tmp rfl (.nil)) (SV.imp_refl _)⟩
theorem whole_Format_ok {x0 : Zr} {r : Str} (h : whole_Format_m x0 = some r) : Pure Try.prog 17 [.agg (eZ x0)] (.v (.string (bs r))) := by
  obtain ⟨x0_0, x0_1⟩ := x0
  refine pure_of_ok Try.func17 rfl (Nat.le_of_ble_eq_true rfl) (fun wld M vs hvs => ?_)
  unfold whole_Format_m at h
  refine ok_seq ?_
  refine ok_region ?_
  refine RT.box .none rfl (tl rfl) rfl rfl ?_
  refine RT.asg .none rfl (tl rfl) ?_
  refine RT.done ?_
  refine AThen.n ?_
  refine ok_seq ?_
  refine ok_region ?_
  refine RT.fieldAddr .none rfl (tl rfl) rfl ?_
  refine RT.ldV .none rfl rfl rfl (tl rfl) ?_
  replace h := bind_some h
  obtain ⟨x8, h8, h⟩ := h
  refine RT.call .none (whole_trim_ok h8) rfl ⟨rfl, trivial⟩ (tl rfl) ?_
  replace h := bind_some h
  obtain ⟨x9, h9, h⟩ := h
  refine RT.callN .none (slices_CloneN_ok h9) rfl ⟨rfl, trivial⟩ (tl rfl) rfl (tl rfl) ?_
  refine RT.assign .none (s := .row _) rfl (tl rfl) ?_
  refine RT.done ?_
  refine AThen.n ?_
  refine ok_seq ?_
  refine ok_seq ?_
  refine ok_region ?_
  refine RT.move .none (s := .row _) rfl (tl rfl) ?_
  replace h := let_some h
  obtain ⟨x11, h11, h⟩ := h
  refine RT.lenRM .none rfl rfl (tl rfl) h11 ?_
  replace h := let_some h
  obtain ⟨x12, h12, h⟩ := h
  refine RT.eql .none _ rfl rfl (tl rfl) (eqI (p := x11) (q := 0) h12) ?_
  refine RT.done ?_
  refine AThen.n ?_
  cases x12
  · replace h := br_f h
    refine ok_condF rfl ?_
    refine ok_skip ?_
    refine AThen.n ?_
    refine ok_seq ?_
    refine ok_region ?_
    refine RT.asg .none rfl (tl rfl) ?_
    refine RT.done ?_
    refine AThen.n ?_
    refine ok_weak (weak_nil 4 304 5 1 rfl rfl (tl rfl)) ?_
    refine ok_seq ?_
    replace h := bind_some h
    obtain ⟨e18, hl18, ho18⟩ := h
    refine ok_tailP (fun (r311e17 : (List Nat)) => AS.mkL 53 [(1, .ptr 1 0), (4, .row 311)] [(1, ⟨24, [.sv (.v (.bool x0_0)), .sv (slc 1 (List.map eU32 x0_1))]⟩)] [(311, TR 5 1 eU8 r311e17)]) (fun r311e17 => r311e17 = e18) ?_ (fun r311e17 hx18 => ?_)
    · refine ok_block ?_
      refine ok_loopM hl18 (fun s18 => AS.mkL 53 [(1, .ptr 1 0), (3, .row 310), (4, .row 311)] [(1, ⟨24, [.sv (.v (.bool x0_0)), .sv (slc 1 (List.map eU32 x0_1))]⟩)] [(310, TR 51 1 eU32 s18.1), (311, TR 5 1 eU8 s18.2)]) (by (try dsimp only); exact weakL (fun i => bif Nat.beq i 310 then 9 else bif Nat.beq i 311 then 304 else i) rfl rfl rfl rfl rfl ⟨.ptr, .row rfl, .row rfl, trivial⟩ ⟨⟨_, rfl, ⟨.sv (SV.imp_refl _), .sv (SV.imp_refl _), trivial⟩⟩, trivial⟩ ⟨⟨_, rfl, SVIs.refl _⟩, ⟨_, rfl, SVIs.refl _⟩, trivial⟩ (fun i hi => by rw [beq_ne (show i ≠ 310 by omega)]; rw [beq_ne (show i ≠ 311 by omega)]; rfl)) (fun s18 y18 G18 h hG18 hE18 => ?_)
      obtain ⟨r310l9, r311l9⟩ := s18
      try dsimp only
      refine ok_seq ?_
      refine ok_seq ?_
      refine ok_region ?_
      refine RT.move .none (s := .row _) rfl (tl rfl) ?_
      replace h := let_some h
      obtain ⟨x14, h14, h⟩ := h
      refine RT.lenRM .none rfl rfl (tl rfl) h14 ?_
      replace h := let_some h
      obtain ⟨x15, h15, h⟩ := h
      refine RT.gtr .none _ rfl rfl (tl rfl) h15 ?_
      refine RT.done ?_
      refine AThen.n ?_
      cases x15
      · replace h := br_f h
        refine ok_condF rfl ?_
        refine ok_exit ?_
        refine AThen.x ?_
        refine AThen.x ?_
        refine AInB.x ?_
        refine AThen.n ?_
        obtain rfl := Option.some.inj h
        refine ⟨r311l9, hE18 _ rfl, ?_⟩
        try dsimp only
        exact weakL id rfl rfl rfl rfl rfl ⟨.ptr, .row rfl, trivial⟩ ⟨⟨_, rfl, ⟨.sv (SV.imp_refl _), .sv (SV.imp_refl _), trivial⟩⟩, trivial⟩ ⟨⟨_, rfl, SVIs.refl _⟩, trivial⟩ (fun _ _ => rfl)
      · replace h := br_t h
        refine ok_condT rfl ?_
        refine ok_skip ?_
        refine AThen.n ?_
        refine ok_block ?_
        refine ok_seq ?_
        refine ok_region ?_
        refine RT.move .none (s := .row _) rfl (tl rfl) ?_
        replace h := bind_some h
        obtain ⟨⟨x17, l20⟩, h17, h⟩ := h
        replace h := bind_some h
        obtain ⟨_, he20, h⟩ := h
        refine RT.callRM (l := r310l9) (l' := l20) (e := eU32) .none (whole_shortDiv_ok h17) (eqLen_some he20) 310 rfl rfl rfl rfl (.cons rfl (.cons rfl (.nil))) (tl rfl) ?_
        refine RT.asg .none rfl (tl rfl) ?_
        refine RT.done ?_
        refine AThen.n ?_
        refine ok_seq ?_
        refine ok_region ?_
        refine RT.move .none (s := .row _) rfl (tl rfl) ?_
        replace h := bind_some h
        obtain ⟨x19, h19, h⟩ := h
        refine RT.callT .none (whole_trimT_ok h19) (pv_flat _) 310 rfl rfl rfl (.cons rfl (.nil)) (tl rfl) rfl (tl rfl) ?_
        refine RT.assign .none (s := .row _) rfl (tl rfl) ?_
        refine RT.done ?_
        refine AThen.n ?_
        refine ok_seq ?_
        refine ok_region ?_
        refine RT.mv .none rfl (tl rfl) ?_
        refine RT.done ?_
        refine AThen.n ?_
        replace h := bind_some h
        obtain ⟨e26, hl26, ho26⟩ := h
        refine ok_tailP (fun (r318e25 : (List Nat)) => AS.mkL 53 [(1, .ptr 1 0), (3, .row 19), (4, .row 318)] [(1, ⟨24, [.sv (.v (.bool x0_0)), .sv (slc 1 (List.map eU32 x0_1))]⟩)] [(19, TR 51 1 eU32 x19), (318, TR 5 1 eU8 r318e25)]) (fun r318e25 => r318e25 = e26) ?_ (fun r318e25 hx26 => ?_)
        · refine ok_block ?_
          refine ok_loopM hl26 (fun s26 => AS.mkL 53 [(1, .ptr 1 0), (3, .row 19), (4, .row 318), (5, .sv (.v (.int .u64 ((s26.1 : Nat) : Int)))), (20, .sv (.v (.int .i64 s26.2.1)))] [(1, ⟨24, [.sv (.v (.bool x0_0)), .sv (slc 1 (List.map eU32 x0_1))]⟩)] [(19, TR 51 1 eU32 x19), (318, TR 5 1 eU8 s26.2.2)]) (by (try dsimp only); exact weakL (fun i => bif Nat.beq i 318 then 311 else i) rfl rfl rfl rfl rfl ⟨.ptr, .row rfl, .row rfl, .sv (SV.imp_refl _), .sv (SV.imp_refl _), trivial⟩ ⟨⟨_, rfl, ⟨.sv (SV.imp_refl _), .sv (SV.imp_refl _), trivial⟩⟩, trivial⟩ ⟨⟨_, rfl, SVIs.refl _⟩, ⟨_, rfl, SVIs.refl _⟩, trivial⟩ (fun i hi => by rw [beq_ne (show i ≠ 318 by omega)]; rfl)) (fun s26 y26 G26 h hG26 hE26 => ?_)
          obtain ⟨y5l23, y20l23, r318l23⟩ := s26
          try dsimp only
          refine ok_seq ?_
          refine ok_region ?_
          replace h := let_some h
          obtain ⟨x21, h21, h⟩ := h
          refine RT.lss .none _ rfl rfl (tl rfl) h21 ?_
          refine RT.done ?_
          refine AThen.n ?_
          refine ok_seq ?_
          cases x21
          · replace h := br_f h
            refine ok_condF rfl ?_
            refine ok_exit ?_
            refine AThen.x ?_
            refine AThen.x ?_
            refine AInB.x ?_
            refine AThen.n ?_
            obtain rfl := Option.some.inj h
            refine ⟨r318l23, hE26 _ rfl, ?_⟩
            try dsimp only
            exact weakL id rfl rfl rfl rfl rfl ⟨.ptr, .row rfl, .row rfl, trivial⟩ ⟨⟨_, rfl, ⟨.sv (SV.imp_refl _), .sv (SV.imp_refl _), trivial⟩⟩, trivial⟩ ⟨⟨_, rfl, SVIs.refl _⟩, ⟨_, rfl, SVIs.refl _⟩, trivial⟩ (fun _ _ => rfl)
          · replace h := br_t h
            refine ok_condT rfl ?_
            refine ok_skip ?_
            refine AThen.n ?_
            refine ok_seq ?_
            refine ok_block ?_
            refine ok_seq ?_
            refine ok_region ?_
            refine RT.move .none (s := .row _) rfl (tl rfl) ?_
            refine RT.mv .none rfl (tl rfl) ?_
            replace h := let_some h
            obtain ⟨x24, h24, h⟩ := h
            refine RT.rem .none _ rfl rfl (tl rfl) (by decide) (remU' (a := y5l23) (b := 10) h24) ?_
            replace h := let_some h
            obtain ⟨x25, h25, h⟩ := h
            refine RT.add .none _ rfl rfl (tl rfl) (UK.add (a := 48) (b := x24) h25) ?_
            replace h := let_some h
            obtain ⟨x26, h26, h⟩ := h
            refine RT.conv .none _ rfl (tl rfl) (UK.nat h26) ?_
            refine RT.buildSl (l := [x26]) (e := eU8) .none (.one rfl (.nil)) (tl rfl) rfl rfl rfl rfl rfl rfl ?_
            replace h := bind_some h
            obtain ⟨x28, h28, h⟩ := h
            refine RT.apR (k := [x26]) (e := eU8) .none rfl rfl rfl (tl rfl) rfl (tl rfl) h28 ?_
            refine RT.assign .none (s := .row _) rfl (tl rfl) ?_
            refine RT.done ?_
            refine AThen.n ?_
            refine ok_region ?_
            refine RT.mv .none rfl (tl rfl) ?_
            replace h := let_some h
            obtain ⟨x30, h30, h⟩ := h
            refine RT.quo .none _ rfl rfl (tl rfl) (by decide) (UK.quo' (a := y5l23) (b := 10) h30) ?_
            refine RT.asg .none rfl (tl rfl) ?_
            refine RT.done ?_
            refine AInB.n ?_
            refine AThen.n ?_
            refine ok_region ?_
            replace h := let_some h
            obtain ⟨x31, h31, h⟩ := h
            refine RT.add .none _ rfl rfl (tl rfl) h31 ?_
            refine RT.mv .none rfl (tl rfl) ?_
            refine RT.done ?_
            obtain rfl := Option.some.inj h
            refine AThen.n ⟨(x30, x31, x28), hG26 _ rfl, ?_⟩
            try dsimp only
            exact weakL (fun i => bif Nat.beq i 318 then 28 else i) rfl rfl rfl rfl rfl ⟨.ptr, .row rfl, .row rfl, .sv (SV.imp_refl _), .sv (SV.imp_refl _), trivial⟩ ⟨⟨_, rfl, ⟨.sv (SV.imp_refl _), .sv (SV.imp_refl _), trivial⟩⟩, trivial⟩ ⟨⟨_, rfl, SVIs.refl _⟩, ⟨_, rfl, SVIs.refl _⟩, trivial⟩ (fun i hi => by rw [beq_ne (show i ≠ 318 by omega)]; rfl)
        · subst hx26
          try dsimp only
          refine AInB.n ?_
          obtain rfl := Option.some.inj ho26
          refine AThen.n ⟨(x19, r318e25), hG18 _ rfl, ?_⟩
          try dsimp only
          exact weakL (fun i => bif Nat.beq i 310 then 19 else bif Nat.beq i 311 then 318 else i) rfl rfl rfl rfl rfl ⟨.ptr, .row rfl, .row rfl, trivial⟩ ⟨⟨_, rfl, ⟨.sv (SV.imp_refl _), .sv (SV.imp_refl _), trivial⟩⟩, trivial⟩ ⟨⟨_, rfl, SVIs.refl _⟩, ⟨_, rfl, SVIs.refl _⟩, trivial⟩ (fun i hi => by rw [beq_ne (show i ≠ 310 by omega)]; rw [beq_ne (show i ≠ 311 by omega)]; rfl)
    · subst hx18
      try dsimp only
      refine AThen.n ?_
      refine ok_seq ?_
      replace ho18 := bind_some ho18
      obtain ⟨e32, hl32, ho32⟩ := ho18
      refine ok_tailP (fun (r321e31 : (List Nat)) => AS.mkL 53 [(1, .ptr 1 0), (4, .row 321)] [(1, ⟨24, [.sv (.v (.bool x0_0)), .sv (slc 1 (List.map eU32 x0_1))]⟩)] [(321, TR 5 1 eU8 r321e31)]) (fun r321e31 => r321e31 = e32) ?_ (fun r321e31 hx32 => ?_)
      · refine ok_block ?_
        refine ok_loopM hl32 (fun s32 => AS.mkL 53 [(1, .ptr 1 0), (4, .row 321)] [(1, ⟨24, [.sv (.v (.bool x0_0)), .sv (slc 1 (List.map eU32 x0_1))]⟩)] [(321, TR 5 1 eU8 s32)]) (by (try dsimp only); exact weakL (fun i => bif Nat.beq i 321 then 311 else i) rfl rfl rfl rfl rfl ⟨.ptr, .row rfl, trivial⟩ ⟨⟨_, rfl, ⟨.sv (SV.imp_refl _), .sv (SV.imp_refl _), trivial⟩⟩, trivial⟩ ⟨⟨_, rfl, SVIs.refl _⟩, trivial⟩ (fun i hi => by rw [beq_ne (show i ≠ 321 by omega)]; rfl)) (fun r321l29 y32 G32 h hG32 hE32 => ?_)
        try dsimp only
        refine ok_seq ?_
        refine ok_seq ?_
        refine ok_region ?_
        refine RT.move .none (s := .row _) rfl (tl rfl) ?_
        refine RT.move .none (s := .row _) rfl (tl rfl) ?_
        replace h := let_some h
        obtain ⟨x34, h34, h⟩ := h
        refine RT.lenRM .none rfl rfl (tl rfl) h34 ?_
        replace h := let_some h
        obtain ⟨x35, h35, h⟩ := h
        refine RT.sub .none _ rfl rfl (tl rfl) h35 ?_
        replace h := bind_some h
        obtain ⟨x36, h36, h⟩ := h
        refine RT.ixRM .none rfl rfl rfl (tl rfl) h36 ?_
        replace h := bind_some h
        obtain ⟨x37, h37, h⟩ := h
        refine RT.ldRM .none rfl rfl h37 rfl (tl rfl) ?_
        replace h := let_some h
        obtain ⟨x38, h38, h⟩ := h
        refine RT.eql .none _ rfl rfl (tl rfl) (eqN (p := x37) (q := 48) h38) ?_
        refine RT.done ?_
        refine AThen.n ?_
        cases x38
        · replace h := br_f h
          refine ok_condF rfl ?_
          refine ok_exit ?_
          refine AThen.x ?_
          refine AThen.x ?_
          refine AInB.x ?_
          refine AThen.n ?_
          obtain rfl := Option.some.inj h
          refine ⟨r321l29, hE32 _ rfl, ?_⟩
          try dsimp only
          exact weakL id rfl rfl rfl rfl rfl ⟨.ptr, .row rfl, trivial⟩ ⟨⟨_, rfl, ⟨.sv (SV.imp_refl _), .sv (SV.imp_refl _), trivial⟩⟩, trivial⟩ ⟨⟨_, rfl, SVIs.refl _⟩, trivial⟩ (fun _ _ => rfl)
        · replace h := br_t h
          refine ok_condT rfl ?_
          refine ok_skip ?_
          refine AThen.n ?_
          refine ok_block ?_
          refine ok_region ?_
          refine RT.move .none (s := .row _) rfl (tl rfl) ?_
          refine RT.move .none (s := .row _) rfl (tl rfl) ?_
          replace h := let_some h
          obtain ⟨x41, h41, h⟩ := h
          refine RT.lenRM .none rfl rfl (tl rfl) h41 ?_
          replace h := let_some h
          obtain ⟨x42, h42, h⟩ := h
          refine RT.sub .none _ rfl rfl (tl rfl) h42 ?_
          replace h := bind_some h
          obtain ⟨x43, h43, h⟩ := h
          refine RT.truncM .none rfl rfl rfl (tl rfl) rfl (tl rfl) h43 ?_
          refine RT.assign .none (s := .row _) rfl (tl rfl) ?_
          refine RT.done ?_
          refine AInB.n ?_
          obtain rfl := Option.some.inj h
          refine AThen.n ⟨x43, hG32 _ rfl, ?_⟩
          try dsimp only
          exact weakL (fun i => bif Nat.beq i 321 then 43 else i) rfl rfl rfl rfl rfl ⟨.ptr, .row rfl, trivial⟩ ⟨⟨_, rfl, ⟨.sv (SV.imp_refl _), .sv (SV.imp_refl _), trivial⟩⟩, trivial⟩ ⟨⟨_, rfl, SVIs.refl _⟩, trivial⟩ (fun i hi => by rw [beq_ne (show i ≠ 321 by omega)]; rfl)
      · subst hx32
        try dsimp only
        refine AThen.n ?_
        refine ok_seq ?_
        refine ok_seq ?_
        refine ok_region ?_
        refine RT.fieldAddr .none rfl (tl rfl) rfl ?_
        refine RT.ldV .none rfl rfl rfl (tl rfl) ?_
        refine RT.done ?_
        refine AThen.n ?_
        refine ok_tailJ ho32 (fun j34 => AS.mkL 53 [(4, .row 323)] [] [(323, TR 5 1 eU8 j34)]) (fun ho32 => ?_) (fun r323j33 ho32 => ?_)
        · cases x0_0
          · replace ho32 := br_f ho32
            refine ok_condF rfl ?_
            refine ok_skip ?_
            refine AThen.n ?_
            refine ⟨r321e31, ho32, ?_⟩
            try dsimp only
            exact weakL (fun i => bif Nat.beq i 323 then 321 else i) rfl rfl rfl rfl rfl ⟨.row rfl, trivial⟩ trivial ⟨⟨_, rfl, SVIs.refl _⟩, trivial⟩ (fun i hi => by rw [beq_ne (show i ≠ 323 by omega)]; rfl)
          · replace ho32 := br_t ho32
            refine ok_condT rfl ?_
            refine ok_region ?_
            refine RT.move .none (s := .row _) rfl (tl rfl) ?_
            refine RT.buildSl (l := [45]) (e := eU8) .none (.one rfl (.nil)) (tl rfl) rfl rfl rfl rfl rfl rfl ?_
            replace ho32 := bind_some ho32
            obtain ⟨x48, h48, ho32⟩ := ho32
            refine RT.apR (k := [45]) (e := eU8) .none rfl rfl rfl (tl rfl) rfl (tl rfl) h48 ?_
            refine RT.assign .none (s := .row _) rfl (tl rfl) ?_
            refine RT.done ?_
            refine AThen.n ?_
            refine ⟨x48, ho32, ?_⟩
            try dsimp only
            exact weakL (fun i => bif Nat.beq i 323 then 48 else i) rfl rfl rfl rfl rfl ⟨.row rfl, trivial⟩ trivial ⟨⟨_, rfl, SVIs.refl _⟩, trivial⟩ (fun i hi => by rw [beq_ne (show i ≠ 323 by omega)]; rfl)
        · try dsimp only
          refine AThen.n ?_
          refine ok_seq ?_
          refine ok_region ?_
          refine RT.move .none (s := .row _) rfl (tl rfl) ?_
          replace ho32 := bind_some ho32
          obtain ⟨l36, h50, ho32⟩ := ho32
          replace ho32 := bind_some ho32
          obtain ⟨_, he36, ho32⟩ := ho32
          refine RT.callRM (l := r323j33) (l' := l36) (e := eU8) .none (slices_Reverse_ok h50) (eqLen_some he36) 323 rfl rfl rfl rfl (.cons rfl (.nil)) (tl rfl) ?_
          refine RT.done ?_
          refine AThen.n ?_
          refine ok_seq ?_
          refine ok_weak (weak_frzM (i := 323) (E1 := 5) (n := 1) (e := eU8) (l := l36) rfl) ?_
          refine ok_region ?_
          refine RT.mv .none rfl (tl rfl) ?_
          replace ho32 := let_some ho32
          obtain ⟨x52, h52, ho32⟩ := ho32
          refine RT.toStr (w := l36) .none rfl (tl rfl) h52 ?_
          refine RT.asg .none rfl (tl rfl) ?_
          refine RT.done ?_
          refine AThen.n ?_
          refine ok_ret ?_
          obtain rfl := Option.some.inj ho32
          exact ⟨.inr rfl, res_imp (.tmp rfl (.nil)) (SV.imp_refl _)⟩
  · replace h := br_t h
    refine ok_condT rfl ?_
    refine ok_seq ?_
    refine ok_region ?_
    refine RT.asg .none rfl (tl rfl) ?_
    refine RT.done ?_
    refine AThen.n ?_
    refine ok_ret ?_
    refine AThen.r ?_
    obtain rfl := Option.some.inj h
    exact ⟨.inr rfl, res_imp (.tmp rfl (.nil)) (SV.imp_refl _)⟩
theorem whole_Parse_ok {x0 : Str} {r : Zr × Int} (h : whole_Parse_m x0 = some r) : Pure Try.prog 18 [.v (.string (bs x0))] (.tup [.agg (eZ r.1), .v (.int .i64 r.2)]) := by
  refine pure_of_ok Try.func18 rfl (Nat.le_of_ble_eq_true rfl) (fun wld M vs hvs => ?_)
  unfold whole_Parse_m at h
  refine ok_seq ?_
  refine ok_region ?_
  refine RT.allocI .none (cs := [.v (.bool false), slc 1 (List.map eU32 [])]) (by exact ⟨SV.imp_refl _, imp_nil, trivial⟩) rfl (tl rfl) rfl rfl ?_
  refine RT.asg .none rfl (tl rfl) ?_
  refine RT.done ?_
  refine AThen.n ?_
  refine ok_seq ?_
  refine ok_region ?_
  refine RT.mv .none rfl (tl rfl) ?_
  replace h := bind_some h
  obtain ⟨⟨x13a, x13b⟩, h13, h⟩ := h
  refine RT.call .none (strings_CutPrefix_ok h13) rfl ⟨rfl, rfl, trivial⟩ (tl rfl) ?_
  refine RT.mv .none rfl (tl rfl) ?_
  refine RT.extract .none rfl rfl (tl rfl) ?_
  refine RT.extract .none rfl rfl (tl rfl) ?_
  refine RT.asg .none rfl (tl rfl) ?_
  refine RT.asg .none rfl (tl rfl) ?_
  refine RT.done ?_
  refine AThen.n ?_
  refine ok_seq ?_
  refine ok_seq ?_
  refine ok_region ?_
  refine RT.mv .none rfl (tl rfl) ?_
  replace h := let_some h
  obtain ⟨x17, h17, h⟩ := h
  refine RT.slen (l := x13a) .none rfl (tl rfl) h17 ?_
  replace h := let_some h
  obtain ⟨x18, h18, h⟩ := h
  refine RT.gtr .none _ rfl rfl (tl rfl) h18 ?_
  refine RT.done ?_
  refine AThen.n ?_
  cases x18
  · replace h := br_f h
    refine ok_condF rfl ?_
    refine ok_skip ?_
    refine AThen.n ?_
    refine ok_seq ?_
    refine ok_seq ?_
    refine ok_tailJ h (fun j4 => AS.mkL 62 [(2, .ptr 2 0), (4, .sv (.v (.string (bs x13a)))), (5, .sv (.v (.bool j4.1))), (29, .sv (.v (.bool j4.2)))] [(2, ⟨24, [.sv (.v (.bool false)), .sv (slc 1 (List.map eU32 []))]⟩)] []) (fun h => ?_) (fun j4 h => ?_)
    · refine ok_region ?_
      refine RT.mv .none rfl (tl rfl) ?_
      replace h := bind_some h
      obtain ⟨x21, h21, h⟩ := h
      refine RT.call .none (whole_isDecimal_ok h21) rfl ⟨rfl, trivial⟩ (tl rfl) ?_
      replace h := let_some h
      obtain ⟨x22, h22, h⟩ := h
      refine RT.not .none rfl (tl rfl) _ h22 ?_
      refine RT.mv .none rfl (tl rfl) ?_
      replace h := bind_some h
      obtain ⟨c29_27, hg27, h⟩ := h
      cases x22
      · replace hg27 := br_f hg27
        refine RT.mv (.some rfl rfl) rfl (tl rfl) ?_
        refine RT.mv (.some rfl rfl) rfl (tl rfl) ?_
        replace hg27 := bind_some hg27
        obtain ⟨c28_28, hg28, hg27⟩ := hg27
        cases x13b
        · replace hg28 := br_f hg28
          obtain rfl := Option.some.inj hg28
          refine RT.skV rfl rfl (sk rfl) (tl rfl) ?_
          refine RT.skV rfl rfl (sk rfl) (tl rfl) ?_
          refine RT.pickF (.some rfl rfl) rfl rfl (tl rfl) ?_
          obtain rfl := Option.some.inj hg27
          refine RT.pickF .none rfl rfl (tl rfl) ?_
          refine RT.done ?_
          refine AThen.n ?_
          refine ⟨(false, false), h, ?_⟩
          try dsimp only
          exact weakL id rfl rfl rfl rfl rfl ⟨.ptr, .sv (SV.imp_refl _), .sv (SV.imp_refl _), .sv (SV.imp_refl _), trivial⟩ ⟨⟨_, rfl, ⟨.sv (SV.imp_refl _), .sv (SV.imp_refl _), trivial⟩⟩, trivial⟩ trivial (fun _ _ => rfl)
        · replace hg28 := br_t hg28
          refine RT.mv (.some rfl rfl) rfl (tl rfl) ?_
          replace hg28 := let_some hg28
          obtain ⟨x27, h27, hg28⟩ := hg28
          refine RT.seql (l := x13a) (k := [48]) (.some rfl rfl) rfl rfl (tl rfl) h27 ?_
          obtain rfl := Option.some.inj hg28
          refine RT.pickT (.some rfl rfl) rfl rfl (tl rfl) ?_
          obtain rfl := Option.some.inj hg27
          refine RT.pickF .none rfl rfl (tl rfl) ?_
          refine RT.done ?_
          refine AThen.n ?_
          refine ⟨(true, x27), h, ?_⟩
          try dsimp only
          exact weakL id rfl rfl rfl rfl rfl ⟨.ptr, .sv (SV.imp_refl _), .sv (SV.imp_refl _), .sv (SV.imp_refl _), trivial⟩ ⟨⟨_, rfl, ⟨.sv (SV.imp_refl _), .sv (SV.imp_refl _), trivial⟩⟩, trivial⟩ trivial (fun _ _ => rfl)
      · replace hg27 := br_t hg27
        obtain rfl := Option.some.inj hg27
        refine RT.skV rfl rfl (sk rfl) (tl rfl) ?_
        refine RT.skV rfl rfl (sk rfl) (tl rfl) ?_
        refine RT.skipU rfl rfl (tl rfl) ?_
        refine RT.skipU rfl rfl (tl rfl) ?_
        refine RT.skV rfl rfl (sk rfl) (tl rfl) ?_
        refine RT.pickT .none rfl rfl (tl rfl) ?_
        refine RT.done ?_
        refine AThen.n ?_
        refine ⟨(x13b, true), h, ?_⟩
        try dsimp only
        exact weakL id rfl rfl rfl rfl rfl ⟨.ptr, .sv (SV.imp_refl _), .sv (SV.imp_refl _), .sv (SV.imp_refl _), trivial⟩ ⟨⟨_, rfl, ⟨.sv (SV.imp_refl _), .sv (SV.imp_refl _), trivial⟩⟩, trivial⟩ trivial (fun _ _ => rfl)
    · obtain ⟨y5j3, y29j3⟩ := j4
      try dsimp only
      refine AThen.n ?_
      cases y29j3
      · replace h := br_f h
        refine ok_condF rfl ?_
        refine ok_skip ?_
        refine AThen.n ?_
        refine ok_seq ?_
        refine ok_region ?_
        refine RT.asg .none rfl (tl rfl) ?_
        refine RT.done ?_
        refine AThen.n ?_
        refine ok_weak (weak_nil 6 304 51 1 rfl rfl (tl rfl)) ?_
        refine ok_seq ?_
        replace h := bind_some h
        obtain ⟨e20, hl20, ho20⟩ := h
        refine ok_tailP (fun (r306e19 : (List Nat)) => AS.mkL 62 [(2, .ptr 2 0), (5, .sv (.v (.bool y5j3))), (6, .row 306)] [(2, ⟨24, [.sv (.v (.bool false)), .sv (slc 1 (List.map eU32 []))]⟩)] [(306, TR 51 1 eU32 r306e19)]) (fun r306e19 => r306e19 = e20) ?_ (fun r306e19 hx20 => ?_)
        · refine ok_block ?_
          refine ok_loopM hl20 (fun s20 => AS.mkL 62 [(2, .ptr 2 0), (4, .sv (.v (.string (bs s20.1)))), (5, .sv (.v (.bool y5j3))), (6, .row 306)] [(2, ⟨24, [.sv (.v (.bool false)), .sv (slc 1 (List.map eU32 []))]⟩)] [(306, TR 51 1 eU32 s20.2)]) (by (try dsimp only); exact weakL (fun i => bif Nat.beq i 306 then 304 else i) rfl rfl rfl rfl rfl ⟨.ptr, .sv (SV.imp_refl _), .sv (SV.imp_refl _), .row rfl, trivial⟩ ⟨⟨_, rfl, ⟨.sv (SV.imp_refl _), .sv (SV.imp_refl _), trivial⟩⟩, trivial⟩ ⟨⟨_, rfl, SVIs.refl _⟩, trivial⟩ (fun i hi => by rw [beq_ne (show i ≠ 306 by omega)]; rfl)) (fun s20 y20 G20 h hG20 hE20 => ?_)
          obtain ⟨y4l12, r306l12⟩ := s20
          try dsimp only
          refine ok_seq ?_
          refine ok_seq ?_
          refine ok_region ?_
          refine RT.mv .none rfl (tl rfl) ?_
          replace h := let_some h
          obtain ⟨x32, h32, h⟩ := h
          refine RT.slen (l := y4l12) .none rfl (tl rfl) h32 ?_
          replace h := let_some h
          obtain ⟨x33, h33, h⟩ := h
          refine RT.gtr .none _ rfl rfl (tl rfl) h33 ?_
          refine RT.done ?_
          refine AThen.n ?_
          cases x33
          · replace h := br_f h
            refine ok_condF rfl ?_
            refine ok_exit ?_
            refine AThen.x ?_
            refine AThen.x ?_
            refine AInB.x ?_
            refine AThen.n ?_
            obtain rfl := Option.some.inj h
            refine ⟨r306l12, hE20 _ rfl, ?_⟩
            try dsimp only
            exact weakL id rfl rfl rfl rfl rfl ⟨.ptr, .sv (SV.imp_refl _), .row rfl, trivial⟩ ⟨⟨_, rfl, ⟨.sv (SV.imp_refl _), .sv (SV.imp_refl _), trivial⟩⟩, trivial⟩ ⟨⟨_, rfl, SVIs.refl _⟩, trivial⟩ (fun _ _ => rfl)
          · replace h := br_t h
            refine ok_condT rfl ?_
            refine ok_skip ?_
            refine AThen.n ?_
            refine ok_block ?_
            refine ok_seq ?_
            refine ok_region ?_
            refine RT.mv .none rfl (tl rfl) ?_
            replace h := let_some h
            obtain ⟨x35, h35, h⟩ := h
            refine RT.slen (l := y4l12) .none rfl (tl rfl) h35 ?_
            replace h := let_some h
            obtain ⟨x36, h36, h⟩ := h
            refine RT.min .none _ rfl rfl (tl rfl) (minI (p := 9) (q := x35) h36) ?_
            refine RT.asg .none rfl (tl rfl) ?_
            refine RT.done ?_
            refine AThen.n ?_
            refine ok_seq ?_
            refine ok_region ?_
            refine RT.asg .none rfl (tl rfl) ?_
            refine RT.asg .none rfl (tl rfl) ?_
            refine RT.done ?_
            refine AThen.n ?_
            refine ok_seq ?_
            refine ok_seq ?_
            refine ok_region ?_
            refine RT.mv .none rfl (tl rfl) ?_
            refine RT.mv .none rfl (tl rfl) ?_
            refine RT.done ?_
            refine AThen.n ?_
            replace h := bind_some h
            obtain ⟨e26, hl26, ho26⟩ := h
            refine ok_tailP (fun (xe26 : Nat × Nat) => AS.mkL 62 [(2, .ptr 2 0), (4, .sv (.v (.string (bs y4l12)))), (5, .sv (.v (.bool y5j3))), (6, .row 306), (7, .sv (.v (.int .i64 x36))), (8, .sv (.v (.int .u64 ((xe26.1 : Nat) : Int)))), (9, .sv (.v (.int .u64 ((xe26.2 : Nat) : Int))))] [(2, ⟨24, [.sv (.v (.bool false)), .sv (slc 1 (List.map eU32 []))]⟩)] [(306, TR 51 1 eU32 r306l12)]) (fun xe26 => xe26 = e26) ?_ (fun xe26 hx26 => ?_)
            · refine ok_block ?_
              refine ok_loopM hl26 (fun s26 => AS.mkL 62 [(2, .ptr 2 0), (4, .sv (.v (.string (bs y4l12)))), (5, .sv (.v (.bool y5j3))), (6, .row 306), (7, .sv (.v (.int .i64 x36))), (8, .sv (.v (.int .u64 ((s26.1 : Nat) : Int)))), (9, .sv (.v (.int .u64 ((s26.2.1 : Nat) : Int)))), (37, .sv (.v (.int .i64 x36))), (38, .sv (.v (.int .i64 s26.2.2)))] [(2, ⟨24, [.sv (.v (.bool false)), .sv (slc 1 (List.map eU32 []))]⟩)] [(306, TR 51 1 eU32 r306l12)]) (by (try dsimp only); exact weakL id rfl rfl rfl rfl rfl ⟨.ptr, .sv (SV.imp_refl _), .sv (SV.imp_refl _), .row rfl, .sv (SV.imp_refl _), .sv (SV.imp_refl _), .sv (SV.imp_refl _), .sv (SV.imp_refl _), .sv (SV.imp_refl _), trivial⟩ ⟨⟨_, rfl, ⟨.sv (SV.imp_refl _), .sv (SV.imp_refl _), trivial⟩⟩, trivial⟩ ⟨⟨_, rfl, SVIs.refl _⟩, trivial⟩ (fun _ _ => rfl)) (fun s26 y26 G26 h hG26 hE26 => ?_)
              obtain ⟨y8l23, y9l23, y38l23⟩ := s26
              try dsimp only
              refine ok_seq ?_
              refine ok_region ?_
              replace h := let_some h
              obtain ⟨x39, h39, h⟩ := h
              refine RT.lss .none _ rfl rfl (tl rfl) h39 ?_
              refine RT.done ?_
              refine AThen.n ?_
              refine ok_seq ?_
              cases x39
              · replace h := br_f h
                refine ok_condF rfl ?_
                refine ok_exit ?_
                refine AThen.x ?_
                refine AThen.x ?_
                refine AInB.x ?_
                refine AThen.n ?_
                obtain rfl := Option.some.inj h
                refine ⟨(y8l23, y9l23), hE26 _ rfl, ?_⟩
                try dsimp only
                exact weakL id rfl rfl rfl rfl rfl ⟨.ptr, .sv (SV.imp_refl _), .sv (SV.imp_refl _), .row rfl, .sv (SV.imp_refl _), .sv (SV.imp_refl _), .sv (SV.imp_refl _), trivial⟩ ⟨⟨_, rfl, ⟨.sv (SV.imp_refl _), .sv (SV.imp_refl _), trivial⟩⟩, trivial⟩ ⟨⟨_, rfl, SVIs.refl _⟩, trivial⟩ (fun _ _ => rfl)
              · replace h := br_t h
                refine ok_condT rfl ?_
                refine ok_skip ?_
                refine AThen.n ?_
                refine ok_seq ?_
                refine ok_block ?_
                refine ok_seq ?_
                refine ok_region ?_
                refine RT.mv .none rfl (tl rfl) ?_
                refine RT.asg .none rfl (tl rfl) ?_
                refine RT.done ?_
                refine AThen.n ?_
                refine ok_seq ?_
                refine ok_region ?_
                refine RT.mv .none rfl (tl rfl) ?_
                replace h := let_some h
                obtain ⟨x42, h42, h⟩ := h
                refine RT.mul .none _ rfl rfl (tl rfl) (UK.mul (a := y8l23) (b := 10) h42) ?_
                refine RT.mv .none rfl (tl rfl) ?_
                refine RT.mv .none rfl (tl rfl) ?_
                replace h := bind_some h
                obtain ⟨x45, h45, h⟩ := h
                refine RT.six (l := y4l12) .none rfl rfl (tl rfl) h45 ?_
                replace h := let_some h
                obtain ⟨x46, h46, h⟩ := h
                refine RT.sub .none _ rfl rfl (tl rfl) (UK.sub (a := x45) (b := 48) h46) ?_
                replace h := let_some h
                obtain ⟨x47, h47, h⟩ := h
                refine RT.conv .none _ rfl (tl rfl) (UK.nat h47) ?_
                replace h := let_some h
                obtain ⟨x48, h48, h⟩ := h
                refine RT.add .none _ rfl rfl (tl rfl) (UK.add (a := x42) (b := x47) h48) ?_
                refine RT.asg .none rfl (tl rfl) ?_
                refine RT.done ?_
                refine AThen.n ?_
                refine ok_region ?_
                refine RT.mv .none rfl (tl rfl) ?_
                replace h := let_some h
                obtain ⟨x50, h50, h⟩ := h
                refine RT.mul .none _ rfl rfl (tl rfl) (UK.mul (a := y9l23) (b := 10) h50) ?_
                refine RT.asg .none rfl (tl rfl) ?_
                refine RT.done ?_
                refine AInB.n ?_
                refine AThen.n ?_
                refine ok_region ?_
                replace h := let_some h
                obtain ⟨x51, h51, h⟩ := h
                refine RT.add .none _ rfl rfl (tl rfl) h51 ?_
                refine RT.mv .none rfl (tl rfl) ?_
                refine RT.done ?_
                obtain rfl := Option.some.inj h
                refine AThen.n ⟨(x48, x50, x51), hG26 _ rfl, ?_⟩
                try dsimp only
                exact weakL id rfl rfl rfl rfl rfl ⟨.ptr, .sv (SV.imp_refl _), .sv (SV.imp_refl _), .row rfl, .sv (SV.imp_refl _), .sv (SV.imp_refl _), .sv (SV.imp_refl _), .sv (SV.imp_refl _), .sv (SV.imp_refl _), trivial⟩ ⟨⟨_, rfl, ⟨.sv (SV.imp_refl _), .sv (SV.imp_refl _), trivial⟩⟩, trivial⟩ ⟨⟨_, rfl, SVIs.refl _⟩, trivial⟩ (fun _ _ => rfl)
            · subst hx26
              obtain ⟨y8e25, y9e25⟩ := xe26
              try dsimp only
              refine AThen.n ?_
              refine ok_seq ?_
              refine ok_region ?_
              refine RT.move .none (s := .row _) rfl (tl rfl) ?_
              refine RT.mv .none rfl (tl rfl) ?_
              refine RT.mv .none rfl (tl rfl) ?_
              replace ho26 := bind_some ho26
              obtain ⟨x55, h55, ho26⟩ := ho26
              refine RT.callT .none (whole_scaleWordsT_ok h55) (pv_flat _) 306 rfl rfl rfl (.cons rfl (.cons rfl (.cons rfl (.nil)))) (tl rfl) rfl (tl rfl) ?_
              refine RT.assign .none (s := .row _) rfl (tl rfl) ?_
              refine RT.done ?_
              refine AThen.n ?_
              refine ok_region ?_
              refine RT.mv .none rfl (tl rfl) ?_
              refine RT.mv .none rfl (tl rfl) ?_
              replace ho26 := bind_some ho26
              obtain ⟨x58, h58, ho26⟩ := ho26
              refine RT.ssl .none x36 (y4l12.length : Int) rfl ⟨_, rfl⟩ rfl (tl rfl) h58 ?_
              refine RT.asg .none rfl (tl rfl) ?_
              refine RT.done ?_
              refine AInB.n ?_
              obtain rfl := Option.some.inj ho26
              refine AThen.n ⟨(x58, x55), hG20 _ rfl, ?_⟩
              try dsimp only
              exact weakL (fun i => bif Nat.beq i 306 then 55 else i) rfl rfl rfl rfl rfl ⟨.ptr, .sv (SV.imp_refl _), .sv (SV.imp_refl _), .row rfl, trivial⟩ ⟨⟨_, rfl, ⟨.sv (SV.imp_refl _), .sv (SV.imp_refl _), trivial⟩⟩, trivial⟩ ⟨⟨_, rfl, SVIs.refl _⟩, trivial⟩ (fun i hi => by rw [beq_ne (show i ≠ 306 by omega)]; rfl)
        · subst hx20
          try dsimp only
          refine AThen.n ?_
          refine ok_seq ?_
          refine ok_weak (weak_frzM (i := 306) (E1 := 51) (n := 1) (e := eU32) (l := r306e19) rfl) ?_
          refine ok_region ?_
          refine RT.mv .none rfl (tl rfl) ?_
          refine RT.mv .none rfl (tl rfl) ?_
          replace ho20 := bind_some ho20
          obtain ⟨⟨x61_0, x61_1⟩, h61, ho20⟩ := ho20
          refine RT.call .none (whole_build_ok h61) rfl ⟨rfl, rfl, trivial⟩ (tl rfl) ?_
          refine RT.store .none rfl rfl rfl rfl rfl ?_
          refine RT.asg .none rfl (tl rfl) ?_
          refine RT.done ?_
          refine AThen.n ?_
          refine ok_ret ?_
          obtain rfl := Option.some.inj ho20
          exact ⟨.inr rfl, res_imp (.agg rfl rfl (.cons rfl (.cons rfl (.nil))) rfl (.tmp rfl (.nil))) (SV.imp_refl _)⟩
      · replace h := br_t h
        refine ok_condT rfl ?_
        refine ok_seq ?_
        refine ok_region ?_
        refine RT.buildI (cs := [_, _]) (cs' := [.v (.bool false), slc 1 (List.map eU32 [])]) .none (.nil) rfl ⟨SV.imp_refl _, imp_nil, trivial⟩ (tl rfl) ?_
        refine RT.store .none rfl rfl rfl rfl rfl ?_
        refine RT.asg .none rfl (tl rfl) ?_
        refine RT.done ?_
        refine AThen.n ?_
        refine ok_ret ?_
        refine AThen.r ?_
        obtain rfl := Option.some.inj h
        exact ⟨.inr rfl, res_imp (.agg rfl rfl (.cons rfl (.cons rfl (.nil))) rfl (.tmp rfl (.nil))) (SV.imp_refl _)⟩
  · replace h := br_t h
    refine ok_condT rfl ?_
    refine ok_seq ?_
    refine ok_region ?_
    refine RT.buildI (cs := [_, _]) (cs' := [.v (.bool false), slc 1 (List.map eU32 [])]) .none (.nil) rfl ⟨SV.imp_refl _, imp_nil, trivial⟩ (tl rfl) ?_
    refine RT.store .none rfl rfl rfl rfl rfl ?_
    refine RT.asg .none rfl (tl rfl) ?_
    refine RT.done ?_
    refine AThen.n ?_
    refine ok_ret ?_
    refine AThen.r ?_
    obtain rfl := Option.some.inj h
    exact ⟨.inr rfl, res_imp (.agg rfl rfl (.cons rfl (.cons rfl (.nil))) rfl (.tmp rfl (.nil))) (SV.imp_refl _)⟩
end Go.Proofs.Ytgkafblpckcekaa
namespace Go.Proofs.Ytgkafblpckcekaa
open Go.Fw
noncomputable def ref01_trim_m (x0 : List Int) : Option (List Int) :=
  (some (x0.length : Int)).bind fun x5 =>
  (loopM (fun (y3l5 : Int) =>
      (show Option ((Int) ⊕ (Int)) from
        letJ (fun (y15j12 : Bool) =>
            (bif y15j12 then
                (some (IntKind.i64.wrap (y3l5 - 1))).bind fun x17 =>
                some (.inl x17)
              else
                some (.inr y3l5))) fun K13 =>
        (some (decide ((0 : Int) < y3l5))).bind fun x7 =>
        (bif x7 then
            (some (IntKind.i64.wrap (y3l5 - 1))).bind fun x11 =>
            (geti x0 x11).bind fun x12 =>
            (some (decide ((x12 : Int) = 0))).bind fun x14 =>
            some x14
          else
            some false).bind fun c15_14 =>
        K13 c15_14)) x5).bind fun y3e9 =>
      (subM x0 0 y3e9).bind fun x20 =>
      some x20
noncomputable def ref01_halves_m (x0 : List Nat) : Option (List Int) :=
  (loopM (fun (s6 : Int × (List Int)) =>
    match s6 with
    | ⟨y4l3, r306l3⟩ =>
      (show Option ((Int × (List Int)) ⊕ ((List Int))) from
        (some (x0.length : Int)).bind fun x7 =>
        (some (decide ((y4l3 : Int) < x7))).bind fun x8 =>
        (bif x8 then
            (geti x0 y4l3).bind fun x14 =>
            (some (x14 % 65536)).bind fun x16 =>
            (some (IntKind.i64.wrap (x16 : Int))).bind fun x17 =>
            (geti x0 y4l3).bind fun x20 =>
            (some (x20 / 65536 % 4294967296)).bind fun x22 =>
            (some (IntKind.i64.wrap (x22 : Int))).bind fun x23 =>
            (apM 8 r306l3 [x17, x23]).bind fun x25 =>
            (some (IntKind.i64.wrap (y4l3 + 1))).bind fun x10 =>
            some (.inl (x10, x25))
          else
            some (.inr r306l3)))) (0, [])).bind fun r306e5 =>
      (ref01_trim_m r306e5).bind fun x27 =>
      some x27
noncomputable def ref01_at_m (x0 : List Int) (x1 : Int) : Option (Int) :=
  (some (x0.length : Int)).bind fun x7 =>
  (some (decide ((x1 : Int) < x7))).bind fun x8 =>
  (bif x8 then
      (geti x0 x1).bind fun x11 =>
      some x11
    else
      some 0)
noncomputable def ref01_of_m (x0 : Bool) (x1 : List Int) : Option (Zr) :=
  (ref01_trim_m x1).bind fun x8 =>
  (loopM (fun (s6 : Int × (List Nat)) =>
    match s6 with
    | ⟨y6l3, r306l3⟩ =>
      (show Option ((Int × (List Nat)) ⊕ ((List Nat))) from
        (some (x8.length : Int)).bind fun x11 =>
        (some (decide ((y6l3 : Int) < x11))).bind fun x12 =>
        (bif x12 then
            (ref01_at_m x8 y6l3).bind fun x18 =>
            (some ((x18 % 4294967296).toNat)).bind fun x19 =>
            (some (IntKind.i64.wrap (y6l3 + 1))).bind fun x22 =>
            (ref01_at_m x8 x22).bind fun x23 =>
            (some ((x23 % 4294967296).toNat)).bind fun x24 =>
            (some ((x24 * 65536) % 4294967296)).bind fun x25 =>
            (some ((x19 + x25) % 4294967296)).bind fun x26 =>
            (apM 4 r306l3 [x26]).bind fun x28 =>
            (some (IntKind.i64.wrap (y6l3 + 2))).bind fun x14 =>
            some (.inl (x14, x28))
          else
            some (.inr r306l3)))) (0, [])).bind fun r306e5 =>
      letJ (fun (b4_0j8 : Bool) =>
          some ⟨b4_0j8, r306e5⟩) fun K9 =>
      (bif x0 then
          (some (r306e5.length : Int)).bind fun x32 =>
          (some (decide ((0 : Int) < x32))).bind fun x33 =>
          some x33
        else
          some false).bind fun c34_10 =>
      K9 c34_10
noncomputable def ref01_Least_m (x0 : Zr) : Option (Zr) :=
  match x0 with
  | ⟨x0_0, x0_1⟩ =>
    (ref01_halves_m x0_1).bind fun x7 =>
    (ref01_of_m x0_0 x7).bind fun ⟨x8_0, x8_1⟩ =>
    some ⟨x8_0, x8_1⟩
noncomputable def ref01_Same_m (x0 : Zr) (x1 : Zr) : Option (Bool) :=
  match x0 with
  | ⟨x0_0, x0_1⟩ =>
    match x1 with
    | ⟨x1_0, x1_1⟩ =>
      letJ (fun (y19j2 : Bool) =>
          (bif y19j2 then
              some false
            else
              (loopM (fun (y5l6 : Int) =>
                  (show Option ((Int) ⊕ ((Unit) ⊕ (Bool))) from
                    (some (x0_1.length : Int)).bind fun x23 =>
                    (some (decide ((y5l6 : Int) < x23))).bind fun x24 =>
                    (bif x24 then
                        (geti x0_1 y5l6).bind fun x30 =>
                        (geti x1_1 y5l6).bind fun x35 =>
                        (some (decide ((x30 : Nat) ≠ x35))).bind fun x37 =>
                        (bif x37 then
                            some (.inr (.inr false))
                          else
                            (some (IntKind.i64.wrap (y5l6 + 1))).bind fun x26 =>
                            some (.inl x26))
                      else
                        some (.inr (.inl ()))))) 0).bind fun e9 =>
                match e9 with
                | .inr v9 => some v9
                | .inl _ =>
                  some true)) fun K3 =>
      (some (!(x0_0 == x1_0))).bind fun x10 =>
      (bif x10 then
          some true
        else
          (some (x0_1.length : Int)).bind fun x14 =>
          (some (x1_1.length : Int)).bind fun x17 =>
          (some (decide ((x14 : Int) ≠ x17))).bind fun x18 =>
          some x18).bind fun c19_10 =>
      K3 c19_10
noncomputable def ref01_From_m (x0 : Int) : Option (Zr) :=
  (some ((x0 % 18446744073709551616).toNat)).bind fun x5 =>
  (some (decide ((x0 : Int) < 0))).bind fun x7 =>
  letJ (fun (y3j1 : Nat) =>
      (some (decide ((x0 : Int) < 0))).bind fun x11 =>
      (some (y3j1 % 4294967296)).bind fun x13 =>
      (some (x13 % 4294967296)).bind fun x14 =>
      (some (y3j1 / 4294967296 % 18446744073709551616)).bind fun x16 =>
      (some (x16 % 4294967296)).bind fun x17 =>
      (ref01_Least_m ⟨x11, [x14, x17]⟩).bind fun ⟨x20_0, x20_1⟩ =>
      some ⟨x20_0, x20_1⟩) fun K2 =>
  (bif x7 then
      (some (usub 18446744073709551616 0 x5)).bind fun x9 =>
      K2 x9
    else
      K2 x5)
noncomputable def ref01_cmp_m (x0 : List Int) (x1 : List Int) : Option (Int) :=
  (some (x0.length : Int)).bind fun x7 =>
  (some (x1.length : Int)).bind fun x9 =>
  (some (max (x7 : Int) x9)).bind fun x10 =>
  (some (IntKind.i64.wrap (x10 - 1))).bind fun x11 =>
  (loopM (fun (y5l3 : Int) =>
      (show Option ((Int) ⊕ ((Unit) ⊕ (Int))) from
        (some (decide ((0 : Int) ≤ y5l3))).bind fun x13 =>
        (bif x13 then
            (ref01_at_m x0 y5l3).bind fun x18 =>
            (ref01_at_m x1 y5l3).bind fun x21 =>
            (some (decide ((x18 : Int) < x21))).bind fun x22 =>
            (bif x22 then
                some (.inr (.inr (-1)))
              else
                (ref01_at_m x0 y5l3).bind fun x25 =>
                (ref01_at_m x1 y5l3).bind fun x28 =>
                (some (decide ((x28 : Int) < x25))).bind fun x29 =>
                (bif x29 then
                    some (.inr (.inr 1))
                  else
                    (some (IntKind.i64.wrap (y5l3 - 1))).bind fun x15 =>
                    some (.inl x15)))
          else
            some (.inr (.inl ()))))) x11).bind fun e6 =>
    match e6 with
    | .inr v6 => some v6
    | .inl _ =>
      some 0
noncomputable def ref01_add_m (x0 : List Int) (x1 : List Int) : Option (List Int) :=
  (loopM (fun (s16 : Int × Int × (List Int)) =>
    match s16 with
    | ⟨y6l8, y7l8, r306l8⟩ =>
      (show Option ((Int × Int × (List Int)) ⊕ ((List Int))) from
        letJ (fun (y22j21 : Bool) =>
            (bif y22j21 then
                (ref01_at_m x0 y7l8).bind fun x27 =>
                (ref01_at_m x1 y7l8).bind fun x30 =>
                (some (IntKind.i64.wrap (x27 + x30))).bind fun x31 =>
                (some (IntKind.i64.wrap (x31 + y6l8))).bind fun x33 =>
                (some (Int.tmod x33 65536)).bind fun x36 =>
                (apM 8 r306l8 [x36]).bind fun x38 =>
                (some (IntKind.i64.wrap (Int.tdiv x33 65536))).bind fun x40 =>
                (some (IntKind.i64.wrap (y7l8 + 1))).bind fun x24 =>
                some (.inl (x40, x24, x38))
              else
                some (.inr r306l8))) fun K22 =>
        (some (x0.length : Int)).bind fun x11 =>
        (some (decide ((y7l8 : Int) < x11))).bind fun x12 =>
        (bif x12 then
            some true
          else
            (some (x1.length : Int)).bind fun x16 =>
            (some (decide ((y7l8 : Int) < x16))).bind fun x17 =>
            some x17).bind fun c18_23 =>
        (bif c18_23 then
            some true
          else
            (some (decide ((0 : Int) < y6l8))).bind fun x21 =>
            some x21).bind fun c22_26 =>
        K22 c22_26)) (0, 0, [])).bind fun r306e15 =>
      (ref01_trim_m r306e15).bind fun x42 =>
      some x42
noncomputable def ref01_sub_m (x0 : List Int) (x1 : List Int) : Option (List Int) :=
  (loopM (fun (s8 : Int × Int × (List Int)) =>
    match s8 with
    | ⟨y6l4, y7l4, r306l4⟩ =>
      (show Option ((Int × Int × (List Int)) ⊕ ((List Int))) from
        (some (x0.length : Int)).bind fun x11 =>
        (some (decide ((y7l4 : Int) < x11))).bind fun x12 =>
        (bif x12 then
            (ref01_at_m x0 y7l4).bind fun x17 =>
            (ref01_at_m x1 y7l4).bind fun x20 =>
            (some (IntKind.i64.wrap (x17 - x20))).bind fun x21 =>
            (some (IntKind.i64.wrap (x21 - y6l4))).bind fun x23 =>
            (some (decide ((x23 : Int) < 0))).bind fun x25 =>
            letJ (fun (j10 : Int × Int) =>
              match j10 with
              | ⟨y6j9, y8j9⟩ =>
                (apM 8 r306l4 [y8j9]).bind fun x31 =>
                (some (IntKind.i64.wrap (y7l4 + 1))).bind fun x14 =>
                some (.inl (y6j9, x14, x31))) fun K10 =>
            (bif x25 then
                (some (IntKind.i64.wrap (x23 + 65536))).bind fun x27 =>
                K10 (1, x27)
              else
                K10 (0, x23))
          else
            some (.inr r306l4)))) (0, 0, [])).bind fun r306e7 =>
      (ref01_trim_m r306e7).bind fun x33 =>
      some x33
noncomputable def ref01_small_m (x0 : List Int) : Option (Int) :=
  (some (x0.length : Int)).bind fun x6 =>
  (some (IntKind.i64.wrap (x6 - 1))).bind fun x7 =>
  (loopM (fun (s6 : Int × Int) =>
    match s6 with
    | ⟨y3l3, y4l3⟩ =>
      (show Option ((Int × Int) ⊕ (Int)) from
        (some (decide ((0 : Int) ≤ y4l3))).bind fun x9 =>
        (bif x9 then
            (some (IntKind.i64.wrap (y3l3 * 65536))).bind fun x13 =>
            (geti x0 y4l3).bind fun x16 =>
            (some (IntKind.i64.wrap (x13 + x16))).bind fun x18 =>
            (some (IntKind.i64.wrap (y4l3 - 1))).bind fun x11 =>
            some (.inl (x18, x11))
          else
            some (.inr y3l3)))) (0, x7)).bind fun y3e5 =>
      some y3e5
noncomputable def ref01_back_m (x0 : Int) : Option (List Int) :=
  (some (Int.tmod x0 65536)).bind fun x4 =>
  (some (IntKind.i64.wrap (Int.tdiv x0 65536))).bind fun x6 =>
  (some (Int.tmod x6 65536)).bind fun x7 =>
  (some (IntKind.i64.wrap (Int.tdiv x0 65536))).bind fun x9 =>
  (some (IntKind.i64.wrap (Int.tdiv x9 65536))).bind fun x10 =>
  (ref01_trim_m [x4, x7, x10]).bind fun x12 =>
  some x12
noncomputable def ref01_times_m (x0 : List Int) (x1 : Int) : Option (List Int) :=
  (loopM (fun (s10 : Int × Int × (List Int)) =>
    match s10 with
    | ⟨y6l5, y7l5, r306l5⟩ =>
      (show Option ((Int × Int × (List Int)) ⊕ ((List Int))) from
        letJ (fun (y16j12 : Bool) =>
            (bif y16j12 then
                (ref01_at_m x0 y7l5).bind fun x21 =>
                (some (IntKind.i64.wrap (x21 * x1))).bind fun x23 =>
                (some (IntKind.i64.wrap (x23 + y6l5))).bind fun x25 =>
                (some (Int.tmod x25 65536)).bind fun x28 =>
                (apM 8 r306l5 [x28]).bind fun x30 =>
                (some (IntKind.i64.wrap (Int.tdiv x25 65536))).bind fun x32 =>
                (some (IntKind.i64.wrap (y7l5 + 1))).bind fun x18 =>
                some (.inl (x32, x18, x30))
              else
                some (.inr r306l5))) fun K13 =>
        (some (x0.length : Int)).bind fun x11 =>
        (some (decide ((y7l5 : Int) < x11))).bind fun x12 =>
        (bif x12 then
            some true
          else
            (some (decide ((0 : Int) < y6l5))).bind fun x15 =>
            some x15).bind fun c16_14 =>
        K13 c16_14)) (0, 0, [])).bind fun r306e9 =>
      (ref01_trim_m r306e9).bind fun x34 =>
      some x34
noncomputable def ref01_mul_m (x0 : List Int) (x1 : List Int) : Option (List Int) :=
  (some (x0.length : Int)).bind fun x9 =>
  (some (x1.length : Int)).bind fun x11 =>
  (some (IntKind.i64.wrap (x9 + x11))).bind fun x12 =>
  (some (decide ((x12 : Int) ≤ 3))).bind fun x13 =>
  (bif x13 then
      (ref01_small_m x0).bind fun x15 =>
      (ref01_small_m x1).bind fun x17 =>
      (some (IntKind.i64.wrap (x15 * x17))).bind fun x18 =>
      (ref01_back_m x18).bind fun x19 =>
      some x19
    else
      (some (x0.length : Int)).bind fun x21 =>
      (some (IntKind.i64.wrap (x21 - 1))).bind fun x22 =>
      (loopM (fun (s16 : (List Int) × Int) =>
        match s16 with
        | ⟨y5l8, y6l8⟩ =>
          (show Option (((List Int) × Int) ⊕ ((List Int))) from
            (some (decide ((0 : Int) ≤ y6l8))).bind fun x24 =>
            (bif x24 then
                (apM 8 [0] y5l8).bind fun x29 =>
                (loopM (fun (s22 : (List Int) × Int) =>
                  match s22 with
                  | ⟨y5l19, y7l19⟩ =>
                    (show Option (((List Int) × Int) ⊕ ((List Int))) from
                      (geti x0 y6l8).bind fun x33 =>
                      (some (decide ((y7l19 : Int) < x33))).bind fun x35 =>
                      (bif x35 then
                          (geti x0 y6l8).bind fun x42 =>
                          (some (IntKind.i64.wrap (x42 - y7l19))).bind fun x45 =>
                          (some (min (1024 : Int) x45)).bind fun x46 =>
                          (ref01_times_m x1 x46).bind fun x47 =>
                          (ref01_add_m y5l19 x47).bind fun x48 =>
                          (some (IntKind.i64.wrap (y7l19 + 1024))).bind fun x37 =>
                          some (.inl (x48, x37))
                        else
                          some (.inr y5l19)))) (x29, 0)).bind fun y5e21 =>
                    (some (IntKind.i64.wrap (y6l8 - 1))).bind fun x26 =>
                    some (.inl (y5e21, x26))
              else
                some (.inr y5l8)))) ([], x22)).bind fun y5e15 =>
          (ref01_trim_m y5e15).bind fun x50 =>
          some x50)
noncomputable def ref01_Sign_m (x0 : Zr) : Option (Int) :=
  match x0 with
  | ⟨x0_0, x0_1⟩ =>
    (ref01_halves_m x0_1).bind fun x5 =>
    (some (x5.length : Int)).bind fun x6 =>
    (some (decide ((x6 : Int) = 0))).bind fun x7 =>
    (bif x7 then
        some 0
      else
        (bif x0_0 then
            some (-1)
          else
            some 1))
noncomputable def ref01_Cmp_m (x0 : Zr) (x1 : Zr) : Option (Int) :=
  match x0 with
  | ⟨x0_0, x0_1⟩ =>
    match x1 with
    | ⟨x1_0, x1_1⟩ =>
      (ref01_Sign_m ⟨x0_0, x0_1⟩).bind fun x7 =>
      (ref01_Sign_m ⟨x1_0, x1_1⟩).bind fun x9 =>
      (some (decide ((x7 : Int) ≠ x9))).bind fun x10 =>
      (bif x10 then
          (ref01_Sign_m ⟨x0_0, x0_1⟩).bind fun x12 =>
          (ref01_Sign_m ⟨x1_0, x1_1⟩).bind fun x14 =>
          (some (decide ((x12 : Int) < x14))).bind fun x15 =>
          (bif x15 then
              some (-1)
            else
              some 1)
        else
          (ref01_halves_m x0_1).bind fun x18 =>
          (ref01_halves_m x1_1).bind fun x21 =>
          (ref01_cmp_m x18 x21).bind fun x22 =>
          (ref01_Sign_m ⟨x0_0, x0_1⟩).bind fun x24 =>
          (some (decide ((x24 : Int) < 0))).bind fun x25 =>
          (bif x25 then
              (some (IntKind.i64.wrap (0 - x22))).bind fun x27 =>
              some x27
            else
              some x22))
noncomputable def ref01_Neg_m (x0 : Zr) : Option (Zr) :=
  match x0 with
  | ⟨x0_0, x0_1⟩ =>
    (some (!x0_0)).bind fun x5 =>
    (ref01_halves_m x0_1).bind fun x8 =>
    (ref01_of_m x5 x8).bind fun ⟨x9_0, x9_1⟩ =>
    some ⟨x9_0, x9_1⟩
noncomputable def ref01_Abs_m (x0 : Zr) : Option (Zr) :=
  match x0 with
  | ⟨x0_0, x0_1⟩ =>
    (ref01_halves_m x0_1).bind fun x5 =>
    (ref01_of_m false x5).bind fun ⟨x6_0, x6_1⟩ =>
    some ⟨x6_0, x6_1⟩
noncomputable def ref01_Add_m (x0 : Zr) (x1 : Zr) : Option (Zr) :=
  match x0 with
  | ⟨x0_0, x0_1⟩ =>
    match x1 with
    | ⟨x1_0, x1_1⟩ =>
      (ref01_halves_m x0_1).bind fun x9 =>
      (ref01_halves_m x1_1).bind fun x12 =>
      (some (x0_0 == x1_0)).bind fun x17 =>
      (bif x17 then
          (ref01_add_m x9 x12).bind fun x22 =>
          (ref01_of_m x0_0 x22).bind fun ⟨x23_0, x23_1⟩ =>
          some ⟨x23_0, x23_1⟩
        else
          (ref01_cmp_m x9 x12).bind fun x26 =>
          (some (decide ((0 : Int) ≤ x26))).bind fun x27 =>
          (bif x27 then
              (ref01_sub_m x9 x12).bind fun x32 =>
              (ref01_of_m x0_0 x32).bind fun ⟨x33_0, x33_1⟩ =>
              some ⟨x33_0, x33_1⟩
            else
              (ref01_sub_m x12 x9).bind fun x38 =>
              (ref01_of_m x1_0 x38).bind fun ⟨x39_0, x39_1⟩ =>
              some ⟨x39_0, x39_1⟩))
noncomputable def ref01_Sub_m (x0 : Zr) (x1 : Zr) : Option (Zr) :=
  match x0 with
  | ⟨x0_0, x0_1⟩ =>
    match x1 with
    | ⟨x1_0, x1_1⟩ =>
      (ref01_Neg_m ⟨x1_0, x1_1⟩).bind fun ⟨x7_0, x7_1⟩ =>
      (ref01_Add_m ⟨x0_0, x0_1⟩ ⟨x7_0, x7_1⟩).bind fun ⟨x8_0, x8_1⟩ =>
      some ⟨x8_0, x8_1⟩
noncomputable def ref01_Mul_m (x0 : Zr) (x1 : Zr) : Option (Zr) :=
  match x0 with
  | ⟨x0_0, x0_1⟩ =>
    match x1 with
    | ⟨x1_0, x1_1⟩ =>
      (some (!(x0_0 == x1_0))).bind fun x9 =>
      (ref01_halves_m x0_1).bind fun x12 =>
      (ref01_halves_m x1_1).bind fun x15 =>
      (ref01_mul_m x12 x15).bind fun x16 =>
      (ref01_of_m x9 x16).bind fun ⟨x17_0, x17_1⟩ =>
      some ⟨x17_0, x17_1⟩
noncomputable def ref01_Int_m (x0 : Zr) : Option (Int × Bool) :=
  match x0 with
  | ⟨x0_0, x0_1⟩ =>
    letJ (fun (y16j2 : Bool) =>
        (bif y16j2 then
            some (0, false)
          else
            (ref01_halves_m x0_1).bind fun x19 =>
            (some (x19.length : Int)).bind fun x21 =>
            (some (IntKind.i64.wrap (x21 - 1))).bind fun x22 =>
            (loopM (fun (s9 : Nat × Int) =>
              match s9 with
              | ⟨y4l6, y6l6⟩ =>
                (show Option ((Nat × Int) ⊕ (Nat)) from
                  (some (decide ((0 : Int) ≤ y6l6))).bind fun x24 =>
                  (bif x24 then
                      (some ((y4l6 * 65536) % 18446744073709551616)).bind fun x28 =>
                      (geti x19 y6l6).bind fun x31 =>
                      (some ((x31 % 18446744073709551616).toNat)).bind fun x33 =>
                      (some ((x28 + x33) % 18446744073709551616)).bind fun x34 =>
                      (some (IntKind.i64.wrap (y6l6 - 1))).bind fun x26 =>
                      some (.inl (x34, x26))
                    else
                      some (.inr y4l6)))) (0, x22)).bind fun y4e8 =>
                letJ (fun (y4j10 : Nat) =>
                    (some (IntKind.i64.wrap (y4j10 : Int))).bind fun x40 =>
                    some (x40, true)) fun K11 =>
                (bif x0_0 then
                    (some (usub 18446744073709551616 0 y4e8)).bind fun x38 =>
                    K11 x38
                  else
                    K11 y4e8))) fun K3 =>
    (ref01_From_m (-9223372036854775808)).bind fun ⟨x8_0, x8_1⟩ =>
    (ref01_Cmp_m ⟨x0_0, x0_1⟩ ⟨x8_0, x8_1⟩).bind fun x9 =>
    (some (decide ((x9 : Int) < 0))).bind fun x10 =>
    (bif x10 then
        some true
      else
        (ref01_From_m 9223372036854775807).bind fun ⟨x13_0, x13_1⟩ =>
        (ref01_Cmp_m ⟨x0_0, x0_1⟩ ⟨x13_0, x13_1⟩).bind fun x14 =>
        (some (decide ((0 : Int) < x14))).bind fun x15 =>
        some x15).bind fun c16_12 =>
    K3 c16_12
end Go.Proofs.Ytgkafblpckcekaa
namespace Go.Proofs.Ytgkafblpckcekaa
open Go.Fw Go.RowKit
theorem ref01_trim_ok {x0 : List Int} {r : List Int} (h : ref01_trim_m x0 = some r) : Pure Try.prog 63 [slc 1 (List.map eI64 x0)] (slc 1 (List.map eI64 r)) := by
  refine pure_of_ok Try.func63 rfl (Nat.le_of_ble_eq_true rfl) (fun wld M vs hvs => ?_)
  unfold ref01_trim_m at h
  refine ok_seq ?_
  refine ok_region ?_
  refine RT.asgI .none rfl (imp_nil (n := 1) (e := eI64)) (tl rfl) ?_
  refine RT.done ?_
  refine AThen.n ?_
  refine ok_seq ?_
  refine ok_region ?_
  refine RT.mv .none rfl (tl rfl) ?_
  replace h := let_some h
  obtain ⟨x5, h5, h⟩ := h
  refine RT.lenM .none rfl (tl rfl) h5 ?_
  refine RT.asg .none rfl (tl rfl) ?_
  refine RT.done ?_
  refine AThen.n ?_
  refine ok_seq ?_
  replace h := bind_some h
  obtain ⟨e10, hl10, ho10⟩ := h
  refine ok_tailP (fun (y3e9 : Int) => AS.mkL 21 [(0, .sv (slc 1 (List.map eI64 x0))), (3, .sv (.v (.int .i64 y3e9)))] [] []) (fun y3e9 => y3e9 = e10) ?_ (fun y3e9 hx10 => ?_)
  · refine ok_block ?_
    refine ok_loopM hl10 (fun s10 => AS.mkL 21 [(0, .sv (slc 1 (List.map eI64 x0))), (3, .sv (.v (.int .i64 s10)))] [] []) (by (try dsimp only); exact weakL id rfl rfl rfl rfl rfl ⟨.sv (SV.imp_refl _), .sv (SV.imp_refl _), trivial⟩ trivial trivial (fun _ _ => rfl)) (fun y3l5 y10 G10 h hG10 hE10 => ?_)
    try dsimp only
    refine ok_seq ?_
    refine ok_seq ?_
    refine ok_tailJ h (fun j13 => AS.mkL 21 [(0, .sv (slc 1 (List.map eI64 x0))), (3, .sv (.v (.int .i64 y3l5))), (15, .sv (.v (.bool j13)))] [] []) (fun h => ?_) (fun y15j12 h => ?_)
    · refine ok_region ?_
      refine RT.mv .none rfl (tl rfl) ?_
      replace h := let_some h
      obtain ⟨x7, h7, h⟩ := h
      refine RT.gtr .none _ rfl rfl (tl rfl) h7 ?_
      refine RT.mv .none rfl (tl rfl) ?_
      replace h := bind_some h
      obtain ⟨c15_14, hg14, h⟩ := h
      cases x7
      · replace hg14 := br_f hg14
        obtain rfl := Option.some.inj hg14
        refine RT.skV rfl rfl (sk rfl) (tl rfl) ?_
        refine RT.skV rfl rfl (sk rfl) (tl rfl) ?_
        refine RT.skV rfl rfl (sk rfl) (tl rfl) ?_
        refine RT.skV rfl rfl (sk rfl) (tl rfl) ?_
        refine RT.skV rfl rfl (sk rfl) (tl rfl) ?_
        refine RT.skV rfl rfl (sk rfl) (tl rfl) ?_
        refine RT.pickF .none rfl rfl (tl rfl) ?_
        refine RT.done ?_
        refine AThen.n ?_
        refine ⟨false, h, ?_⟩
        try dsimp only
        exact weakL id rfl rfl rfl rfl rfl ⟨.sv (SV.imp_refl _), .sv (SV.imp_refl _), .sv (SV.imp_refl _), trivial⟩ trivial trivial (fun _ _ => rfl)
      · replace hg14 := br_t hg14
        refine RT.mv (.some rfl rfl) rfl (tl rfl) ?_
        refine RT.mv (.some rfl rfl) rfl (tl rfl) ?_
        replace hg14 := let_some hg14
        obtain ⟨x11, h11, hg14⟩ := hg14
        refine RT.sub (.some rfl rfl) _ rfl rfl (tl rfl) h11 ?_
        replace hg14 := bind_some hg14
        obtain ⟨x12, h12, hg14⟩ := hg14
        refine RT.ixM (.some rfl rfl) rfl rfl (tl rfl) h12 ?_
        refine RT.loadRV (.some rfl rfl) rfl rfl (tl rfl) ?_
        replace hg14 := let_some hg14
        obtain ⟨x14, h14, hg14⟩ := hg14
        refine RT.eql (.some rfl rfl) _ rfl rfl (tl rfl) (eqI (p := x12) (q := 0) h14) ?_
        obtain rfl := Option.some.inj hg14
        refine RT.pickT .none rfl rfl (tl rfl) ?_
        refine RT.done ?_
        refine AThen.n ?_
        refine ⟨x14, h, ?_⟩
        try dsimp only
        exact weakL id rfl rfl rfl rfl rfl ⟨.sv (SV.imp_refl _), .sv (SV.imp_refl _), .sv (SV.imp_refl _), trivial⟩ trivial trivial (fun _ _ => rfl)
    · try dsimp only
      refine AThen.n ?_
      cases y15j12
      · replace h := br_f h
        refine ok_condF rfl ?_
        refine ok_exit ?_
        refine AThen.x ?_
        refine AThen.x ?_
        refine AInB.x ?_
        refine AThen.n ?_
        obtain rfl := Option.some.inj h
        refine ⟨y3l5, hE10 _ rfl, ?_⟩
        try dsimp only
        exact weakL id rfl rfl rfl rfl rfl ⟨.sv (SV.imp_refl _), .sv (SV.imp_refl _), trivial⟩ trivial trivial (fun _ _ => rfl)
      · replace h := br_t h
        refine ok_condT rfl ?_
        refine ok_skip ?_
        refine AThen.n ?_
        refine ok_block ?_
        refine ok_region ?_
        refine RT.mv .none rfl (tl rfl) ?_
        replace h := let_some h
        obtain ⟨x17, h17, h⟩ := h
        refine RT.sub .none _ rfl rfl (tl rfl) h17 ?_
        refine RT.asg .none rfl (tl rfl) ?_
        refine RT.done ?_
        refine AInB.n ?_
        obtain rfl := Option.some.inj h
        refine AThen.n ⟨x17, hG10 _ rfl, ?_⟩
        try dsimp only
        exact weakL id rfl rfl rfl rfl rfl ⟨.sv (SV.imp_refl _), .sv (SV.imp_refl _), trivial⟩ trivial trivial (fun _ _ => rfl)
  · subst hx10
    try dsimp only
    refine AThen.n ?_
    refine ok_seq ?_
    refine ok_region ?_
    refine RT.mv .none rfl (tl rfl) ?_
    refine RT.mv .none rfl (tl rfl) ?_
    replace ho10 := bind_some ho10
    obtain ⟨x20, h20, ho10⟩ := ho10
    refine RT.sliceM .none 0 y3e9 rfl rfl ⟨_, rfl⟩ (tl rfl) h20 ?_
    refine RT.asg .none rfl (tl rfl) ?_
    refine RT.done ?_
    refine AThen.n ?_
    refine ok_ret ?_
    obtain rfl := Option.some.inj ho10
    exact ⟨.inr rfl, res_imp (.tmp rfl (.nil)) (SV.imp_refl _)⟩
theorem ref01_halves_ok {x0 : List Nat} {r : List Int} (h : ref01_halves_m x0 = some r) : Pure Try.prog 49 [slc 1 (List.map eU32 x0)] (slc 1 (List.map eI64 r)) := by
  refine pure_of_ok Try.func49 rfl (Nat.le_of_ble_eq_true rfl) (fun wld M vs hvs => ?_)
  unfold ref01_halves_m at h
  refine ok_seq ?_
  refine ok_region ?_
  refine RT.asgI .none rfl (imp_nil (n := 1) (e := eI64)) (tl rfl) ?_
  refine RT.done ?_
  refine AThen.n ?_
  refine ok_seq ?_
  refine ok_region ?_
  refine RT.asg .none rfl (tl rfl) ?_
  refine RT.done ?_
  refine AThen.n ?_
  refine ok_weak (weak_nil 3 304 3 1 rfl rfl (tl rfl)) ?_
  refine ok_seq ?_
  refine ok_seq ?_
  refine ok_region ?_
  refine RT.asg .none rfl (tl rfl) ?_
  refine RT.done ?_
  refine AThen.n ?_
  replace h := bind_some h
  obtain ⟨e6, hl6, ho6⟩ := h
  refine ok_tailP (fun (r306e5 : (List Int)) => AS.mkL 28 [(3, .row 306)] [] [(306, TR 3 1 eI64 r306e5)]) (fun r306e5 => r306e5 = e6) ?_ (fun r306e5 hx6 => ?_)
  · refine ok_block ?_
    refine ok_loopM hl6 (fun s6 => AS.mkL 28 [(0, .sv (slc 1 (List.map eU32 x0))), (3, .row 306), (4, .sv (.v (.int .i64 s6.1)))] [] [(306, TR 3 1 eI64 s6.2)]) (by (try dsimp only); exact weakL (fun i => bif Nat.beq i 306 then 304 else i) rfl rfl rfl rfl rfl ⟨.sv (SV.imp_refl _), .row rfl, .sv (SV.imp_refl _), trivial⟩ trivial ⟨⟨_, rfl, SVIs.refl _⟩, trivial⟩ (fun i hi => by rw [beq_ne (show i ≠ 306 by omega)]; rfl)) (fun s6 y6 G6 h hG6 hE6 => ?_)
    obtain ⟨y4l3, r306l3⟩ := s6
    try dsimp only
    refine ok_seq ?_
    refine ok_seq ?_
    refine ok_region ?_
    refine RT.mv .none rfl (tl rfl) ?_
    refine RT.mv .none rfl (tl rfl) ?_
    replace h := let_some h
    obtain ⟨x7, h7, h⟩ := h
    refine RT.lenM .none rfl (tl rfl) h7 ?_
    replace h := let_some h
    obtain ⟨x8, h8, h⟩ := h
    refine RT.lss .none _ rfl rfl (tl rfl) h8 ?_
    refine RT.done ?_
    refine AThen.n ?_
    cases x8
    · replace h := br_f h
      refine ok_condF rfl ?_
      refine ok_exit ?_
      refine AThen.x ?_
      refine AThen.x ?_
      refine AInB.x ?_
      refine AThen.n ?_
      obtain rfl := Option.some.inj h
      refine ⟨r306l3, hE6 _ rfl, ?_⟩
      try dsimp only
      exact weakL id rfl rfl rfl rfl rfl ⟨.row rfl, trivial⟩ trivial ⟨⟨_, rfl, SVIs.refl _⟩, trivial⟩ (fun _ _ => rfl)
    · replace h := br_t h
      refine ok_condT rfl ?_
      refine ok_skip ?_
      refine AThen.n ?_
      refine ok_seq ?_
      refine ok_block ?_
      refine ok_region_draw mixed ?_
      refine RT.move .none (s := .row _) rfl (tl rfl) ?_
      refine RT.mv .none rfl (tl rfl) ?_
      refine RT.mv .none rfl (tl rfl) ?_
      replace h := bind_some h
      obtain ⟨x14, h14, h⟩ := h
      refine RT.ixM .none rfl rfl (tl rfl) h14 ?_
      refine RT.loadRV .none rfl rfl (tl rfl) ?_
      replace h := let_some h
      obtain ⟨x16, h16, h⟩ := h
      refine RT.rem .none _ rfl rfl (tl rfl) (by decide) (remU' (a := x14) (b := 65536) h16) ?_
      replace h := let_some h
      obtain ⟨x17, h17, h⟩ := h
      refine RT.conv .none _ rfl (tl rfl) h17 ?_
      refine RT.mv .none rfl (tl rfl) ?_
      refine RT.mv .none rfl (tl rfl) ?_
      replace h := bind_some h
      obtain ⟨x20, h20, h⟩ := h
      refine RT.ixM .none rfl rfl (tl rfl) h20 ?_
      refine RT.loadRV .none rfl rfl (tl rfl) ?_
      replace h := let_some h
      obtain ⟨x22, h22, h⟩ := h
      refine RT.quo .none _ rfl rfl (tl rfl) (by decide) (UK.quo' (a := x20) (b := 65536) h22) ?_
      replace h := let_some h
      obtain ⟨x23, h23, h⟩ := h
      refine RT.conv .none _ rfl (tl rfl) h23 ?_
      refine RT.buildSl (l := [x17, x23]) (e := eI64) .none (.one rfl (.one rfl (.nil))) (tl rfl) rfl rfl rfl rfl rfl rfl ?_
      replace h := bind_some h
      obtain ⟨x25, h25, h⟩ := h
      refine RT.apR (k := [x17, x23]) (e := eI64) .none rfl rfl rfl (tl rfl) rfl (tl rfl) h25 ?_
      refine RT.assign .none (s := .row _) rfl (tl rfl) ?_
      refine RT.done ⟨by kernel_rfl, ?_⟩
      refine AInB.n ?_
      refine AThen.n ?_
      refine ok_region ?_
      refine RT.mv .none rfl (tl rfl) ?_
      replace h := let_some h
      obtain ⟨x10, h10, h⟩ := h
      refine RT.add .none _ rfl rfl (tl rfl) h10 ?_
      refine RT.asg .none rfl (tl rfl) ?_
      refine RT.done ?_
      obtain rfl := Option.some.inj h
      refine AThen.n ⟨(x10, x25), hG6 _ rfl, ?_⟩
      try dsimp only
      exact weakL (fun i => bif Nat.beq i 306 then 25 else i) rfl rfl rfl rfl rfl ⟨.sv (SV.imp_refl _), .row rfl, .sv (SV.imp_refl _), trivial⟩ trivial ⟨⟨_, rfl, SVIs.refl _⟩, trivial⟩ (fun i hi => by rw [beq_ne (show i ≠ 306 by omega)]; rfl)
  · subst hx6
    try dsimp only
    refine AThen.n ?_
    refine ok_seq ?_
    refine ok_weak (weak_frzM (i := 306) (E1 := 3) (n := 1) (e := eI64) (l := r306e5) rfl) ?_
    refine ok_region ?_
    refine RT.mv .none rfl (tl rfl) ?_
    replace ho6 := bind_some ho6
    obtain ⟨x27, h27, ho6⟩ := ho6
    refine RT.call .none (ref01_trim_ok h27) rfl ⟨rfl, trivial⟩ (tl rfl) ?_
    refine RT.asg .none rfl (tl rfl) ?_
    refine RT.done ?_
    refine AThen.n ?_
    refine ok_ret ?_
    obtain rfl := Option.some.inj ho6
    exact ⟨.inr rfl, res_imp (.tmp rfl (.nil)) (SV.imp_refl _)⟩
theorem ref01_at_ok {x0 : List Int} {x1 : Int} {r : Int} (h : ref01_at_m x0 x1 = some r) : Pure Try.prog 64 [slc 1 (List.map eI64 x0), .v (.int .i64 x1)] (.v (.int .i64 r)) := by
  refine pure_of_ok Try.func64 rfl (Nat.le_of_ble_eq_true rfl) (fun wld M vs hvs => ?_)
  unfold ref01_at_m at h
  refine ok_seq ?_
  refine ok_region ?_
  refine RT.asg .none rfl (tl rfl) ?_
  refine RT.done ?_
  refine AThen.n ?_
  refine ok_seq ?_
  refine ok_seq ?_
  refine ok_region ?_
  refine RT.mv .none rfl (tl rfl) ?_
  refine RT.mv .none rfl (tl rfl) ?_
  replace h := let_some h
  obtain ⟨x7, h7, h⟩ := h
  refine RT.lenM .none rfl (tl rfl) h7 ?_
  replace h := let_some h
  obtain ⟨x8, h8, h⟩ := h
  refine RT.lss .none _ rfl rfl (tl rfl) h8 ?_
  refine RT.done ?_
  refine AThen.n ?_
  cases x8
  · replace h := br_f h
    refine ok_condF rfl ?_
    refine ok_skip ?_
    refine AThen.n ?_
    refine ok_seq ?_
    refine ok_region ?_
    refine RT.asg .none rfl (tl rfl) ?_
    refine RT.done ?_
    refine AThen.n ?_
    refine ok_ret ?_
    obtain rfl := Option.some.inj h
    exact ⟨.inr rfl, res_imp (.tmp rfl (.nil)) (SV.imp_refl _)⟩
  · replace h := br_t h
    refine ok_condT rfl ?_
    refine ok_seq ?_
    refine ok_region ?_
    refine RT.mv .none rfl (tl rfl) ?_
    refine RT.mv .none rfl (tl rfl) ?_
    replace h := bind_some h
    obtain ⟨x11, h11, h⟩ := h
    refine RT.ixM .none rfl rfl (tl rfl) h11 ?_
    refine RT.loadRV .none rfl rfl (tl rfl) ?_
    refine RT.asg .none rfl (tl rfl) ?_
    refine RT.done ?_
    refine AThen.n ?_
    refine ok_ret ?_
    refine AThen.r ?_
    obtain rfl := Option.some.inj h
    exact ⟨.inr rfl, res_imp (.tmp rfl (.nil)) (SV.imp_refl _)⟩
theorem ref01_of_ok {x0 : Bool} {x1 : List Int} {r : Zr} (h : ref01_of_m x0 x1 = some r) : Pure Try.prog 53 [.v (.bool x0), slc 1 (List.map eI64 x1)] (.agg (eZ r)) := by
  refine pure_of_ok Try.func53 rfl (Nat.le_of_ble_eq_true rfl) (fun wld M vs hvs => ?_)
  unfold ref01_of_m at h
  refine ok_seq ?_
  refine ok_region ?_
  refine RT.allocI .none (cs := [.v (.bool false), slc 1 (List.map eU32 [])]) (by exact ⟨SV.imp_refl _, imp_nil, trivial⟩) rfl (tl rfl) rfl rfl ?_
  refine RT.done ?_
  refine AThen.n ?_
  refine ok_seq ?_
  refine ok_region ?_
  refine RT.mv .none rfl (tl rfl) ?_
  replace h := bind_some h
  obtain ⟨x8, h8, h⟩ := h
  refine RT.call .none (ref01_trim_ok h8) rfl ⟨rfl, trivial⟩ (tl rfl) ?_
  refine RT.asg .none rfl (tl rfl) ?_
  refine RT.done ?_
  refine AThen.n ?_
  refine ok_seq ?_
  refine ok_region ?_
  refine RT.asg .none rfl (tl rfl) ?_
  refine RT.done ?_
  refine AThen.n ?_
  refine ok_weak (weak_nil 5 304 51 1 rfl rfl (tl rfl)) ?_
  refine ok_seq ?_
  refine ok_seq ?_
  refine ok_region ?_
  refine RT.asg .none rfl (tl rfl) ?_
  refine RT.done ?_
  refine AThen.n ?_
  replace h := bind_some h
  obtain ⟨e6, hl6, ho6⟩ := h
  refine ok_tailP (fun (r306e5 : (List Nat)) => AS.mkL 37 [(0, .sv (.v (.bool x0))), (4, .ptr 4 0), (5, .row 306)] [(4, ⟨24, [.sv (.v (.bool false)), .sv (slc 1 (List.map eU32 []))]⟩)] [(306, TR 51 1 eU32 r306e5)]) (fun r306e5 => r306e5 = e6) ?_ (fun r306e5 hx6 => ?_)
  · refine ok_block ?_
    refine ok_loopM hl6 (fun s6 => AS.mkL 37 [(0, .sv (.v (.bool x0))), (1, .sv (slc 1 (List.map eI64 x8))), (4, .ptr 4 0), (5, .row 306), (6, .sv (.v (.int .i64 s6.1)))] [(4, ⟨24, [.sv (.v (.bool false)), .sv (slc 1 (List.map eU32 []))]⟩)] [(306, TR 51 1 eU32 s6.2)]) (by (try dsimp only); exact weakL (fun i => bif Nat.beq i 306 then 304 else i) rfl rfl rfl rfl rfl ⟨.sv (SV.imp_refl _), .sv (SV.imp_refl _), .ptr, .row rfl, .sv (SV.imp_refl _), trivial⟩ ⟨⟨_, rfl, ⟨.sv (SV.imp_refl _), .sv (SV.imp_refl _), trivial⟩⟩, trivial⟩ ⟨⟨_, rfl, SVIs.refl _⟩, trivial⟩ (fun i hi => by rw [beq_ne (show i ≠ 306 by omega)]; rfl)) (fun s6 y6 G6 h hG6 hE6 => ?_)
    obtain ⟨y6l3, r306l3⟩ := s6
    try dsimp only
    refine ok_seq ?_
    refine ok_seq ?_
    refine ok_region ?_
    refine RT.mv .none rfl (tl rfl) ?_
    refine RT.mv .none rfl (tl rfl) ?_
    replace h := let_some h
    obtain ⟨x11, h11, h⟩ := h
    refine RT.lenM .none rfl (tl rfl) h11 ?_
    replace h := let_some h
    obtain ⟨x12, h12, h⟩ := h
    refine RT.lss .none _ rfl rfl (tl rfl) h12 ?_
    refine RT.done ?_
    refine AThen.n ?_
    cases x12
    · replace h := br_f h
      refine ok_condF rfl ?_
      refine ok_exit ?_
      refine AThen.x ?_
      refine AThen.x ?_
      refine AInB.x ?_
      refine AThen.n ?_
      obtain rfl := Option.some.inj h
      refine ⟨r306l3, hE6 _ rfl, ?_⟩
      try dsimp only
      exact weakL id rfl rfl rfl rfl rfl ⟨.sv (SV.imp_refl _), .ptr, .row rfl, trivial⟩ ⟨⟨_, rfl, ⟨.sv (SV.imp_refl _), .sv (SV.imp_refl _), trivial⟩⟩, trivial⟩ ⟨⟨_, rfl, SVIs.refl _⟩, trivial⟩ (fun _ _ => rfl)
    · replace h := br_t h
      refine ok_condT rfl ?_
      refine ok_skip ?_
      refine AThen.n ?_
      refine ok_seq ?_
      refine ok_block ?_
      refine ok_region ?_
      refine RT.move .none (s := .row _) rfl (tl rfl) ?_
      refine RT.mv .none rfl (tl rfl) ?_
      refine RT.mv .none rfl (tl rfl) ?_
      replace h := bind_some h
      obtain ⟨x18, h18, h⟩ := h
      refine RT.call .none (ref01_at_ok h18) rfl ⟨rfl, rfl, trivial⟩ (tl rfl) ?_
      replace h := let_some h
      obtain ⟨x19, h19, h⟩ := h
      refine RT.conv .none _ rfl (tl rfl) (UK.conv h19) ?_
      refine RT.mv .none rfl (tl rfl) ?_
      refine RT.mv .none rfl (tl rfl) ?_
      replace h := let_some h
      obtain ⟨x22, h22, h⟩ := h
      refine RT.add .none _ rfl rfl (tl rfl) h22 ?_
      replace h := bind_some h
      obtain ⟨x23, h23, h⟩ := h
      refine RT.call .none (ref01_at_ok h23) rfl ⟨rfl, rfl, trivial⟩ (tl rfl) ?_
      replace h := let_some h
      obtain ⟨x24, h24, h⟩ := h
      refine RT.conv .none _ rfl (tl rfl) (UK.conv h24) ?_
      replace h := let_some h
      obtain ⟨x25, h25, h⟩ := h
      refine RT.mul .none _ rfl rfl (tl rfl) (UK.mul (a := x24) (b := 65536) h25) ?_
      replace h := let_some h
      obtain ⟨x26, h26, h⟩ := h
      refine RT.add .none _ rfl rfl (tl rfl) (UK.add (a := x19) (b := x25) h26) ?_
      refine RT.buildSl (l := [x26]) (e := eU32) .none (.one rfl (.nil)) (tl rfl) rfl rfl rfl rfl rfl rfl ?_
      replace h := bind_some h
      obtain ⟨x28, h28, h⟩ := h
      refine RT.apR (k := [x26]) (e := eU32) .none rfl rfl rfl (tl rfl) rfl (tl rfl) h28 ?_
      refine RT.assign .none (s := .row _) rfl (tl rfl) ?_
      refine RT.done ?_
      refine AInB.n ?_
      refine AThen.n ?_
      refine ok_region ?_
      refine RT.mv .none rfl (tl rfl) ?_
      replace h := let_some h
      obtain ⟨x14, h14, h⟩ := h
      refine RT.add .none _ rfl rfl (tl rfl) h14 ?_
      refine RT.asg .none rfl (tl rfl) ?_
      refine RT.done ?_
      obtain rfl := Option.some.inj h
      refine AThen.n ⟨(x14, x28), hG6 _ rfl, ?_⟩
      try dsimp only
      exact weakL (fun i => bif Nat.beq i 306 then 28 else i) rfl rfl rfl rfl rfl ⟨.sv (SV.imp_refl _), .sv (SV.imp_refl _), .ptr, .row rfl, .sv (SV.imp_refl _), trivial⟩ ⟨⟨_, rfl, ⟨.sv (SV.imp_refl _), .sv (SV.imp_refl _), trivial⟩⟩, trivial⟩ ⟨⟨_, rfl, SVIs.refl _⟩, trivial⟩ (fun i hi => by rw [beq_ne (show i ≠ 306 by omega)]; rfl)
  · subst hx6
    try dsimp only
    refine AThen.n ?_
    refine ok_seq ?_
    refine ok_tailJ ho6 (fun j9 => AS.mkL 37 [(4, .ptr 4 0)] [(4, ⟨24, [.sv (.v (.bool j9)), .sv (slc 1 (List.map eU32 r306e5))]⟩)] []) (fun ho6 => ?_) (fun b4_0j8 ho6 => ?_)
    · refine ok_weak (weak_frzM (i := 306) (E1 := 51) (n := 1) (e := eU32) (l := r306e5) rfl) ?_
      refine ok_region ?_
      refine RT.mv .none rfl (tl rfl) ?_
      refine RT.mv .none rfl (tl rfl) ?_
      replace ho6 := bind_some ho6
      obtain ⟨c34_10, hg10, ho6⟩ := ho6
      cases x0
      · replace hg10 := br_f hg10
        obtain rfl := Option.some.inj hg10
        refine RT.skV rfl rfl (sk rfl) (tl rfl) ?_
        refine RT.skV rfl rfl (sk rfl) (tl rfl) ?_
        refine RT.skV rfl rfl (sk rfl) (tl rfl) ?_
        refine RT.pickF .none rfl rfl (tl rfl) ?_
        refine RT.mv .none rfl (tl rfl) ?_
        refine RT.buildI (cs := [_, _]) (cs' := [.v (.bool false), slc 1 (List.map eU32 r306e5)]) .none (.one rfl (.one rfl (.nil))) rfl ⟨SV.imp_refl _, SV.imp_refl _, trivial⟩ (tl rfl) ?_
        refine RT.store .none rfl rfl rfl rfl rfl ?_
        refine RT.done ?_
        refine AThen.n ?_
        refine ⟨false, ho6, ?_⟩
        try dsimp only
        exact weakL id rfl rfl rfl rfl rfl ⟨.ptr, trivial⟩ ⟨⟨_, rfl, ⟨.sv (SV.imp_refl _), .sv (SV.imp_refl _), trivial⟩⟩, trivial⟩ trivial (fun _ _ => rfl)
      · replace hg10 := br_t hg10
        refine RT.mv (.some rfl rfl) rfl (tl rfl) ?_
        replace hg10 := let_some hg10
        obtain ⟨x32, h32, hg10⟩ := hg10
        refine RT.lenM (.some rfl rfl) rfl (tl rfl) h32 ?_
        replace hg10 := let_some hg10
        obtain ⟨x33, h33, hg10⟩ := hg10
        refine RT.gtr (.some rfl rfl) _ rfl rfl (tl rfl) h33 ?_
        obtain rfl := Option.some.inj hg10
        refine RT.pickT .none rfl rfl (tl rfl) ?_
        refine RT.mv .none rfl (tl rfl) ?_
        refine RT.buildI (cs := [_, _]) (cs' := [.v (.bool x33), slc 1 (List.map eU32 r306e5)]) .none (.one rfl (.one rfl (.nil))) rfl ⟨SV.imp_refl _, SV.imp_refl _, trivial⟩ (tl rfl) ?_
        refine RT.store .none rfl rfl rfl rfl rfl ?_
        refine RT.done ?_
        refine AThen.n ?_
        refine ⟨x33, ho6, ?_⟩
        try dsimp only
        exact weakL id rfl rfl rfl rfl rfl ⟨.ptr, trivial⟩ ⟨⟨_, rfl, ⟨.sv (SV.imp_refl _), .sv (SV.imp_refl _), trivial⟩⟩, trivial⟩ trivial (fun _ _ => rfl)
    · try dsimp only
      refine AThen.n ?_
      refine ok_ret ?_
      obtain rfl := Option.some.inj ho6
      exact ⟨.inr rfl, res_imp (.agg rfl rfl (.cons rfl (.cons rfl (.nil))) rfl (.nil)) (SV.imp_refl _)⟩
theorem ref01_Least_ok {x0 : Zr} {r : Zr} (h : ref01_Least_m x0 = some r) : Pure Try.prog 21 [.agg (eZ x0)] (.agg (eZ r)) := by
  obtain ⟨x0_0, x0_1⟩ := x0
  refine pure_of_ok Try.func21 rfl (Nat.le_of_ble_eq_true rfl) (fun wld M vs hvs => ?_)
  unfold ref01_Least_m at h
  refine ok_seq ?_
  refine ok_region ?_
  refine RT.box .none rfl (tl rfl) rfl rfl ?_
  refine RT.allocI .none (cs := [.v (.bool false), slc 1 (List.map eU32 [])]) (by exact ⟨SV.imp_refl _, imp_nil, trivial⟩) rfl (tl rfl) rfl rfl ?_
  refine RT.done ?_
  refine AThen.n ?_
  refine ok_seq ?_
  refine ok_region_draw mixed ?_
  refine RT.fieldAddr .none rfl (tl rfl) rfl ?_
  refine RT.ldV .none rfl rfl rfl (tl rfl) ?_
  refine RT.fieldAddr .none rfl (tl rfl) rfl ?_
  refine RT.ldV .none rfl rfl rfl (tl rfl) ?_
  replace h := bind_some h
  obtain ⟨x7, h7, h⟩ := h
  refine RT.call .none (ref01_halves_ok h7) rfl ⟨rfl, trivial⟩ (tl rfl) ?_
  replace h := bind_some h
  obtain ⟨⟨x8_0, x8_1⟩, h8, h⟩ := h
  refine RT.call .none (ref01_of_ok h8) rfl ⟨rfl, rfl, trivial⟩ (tl rfl) ?_
  refine RT.store .none rfl rfl rfl rfl rfl ?_
  refine RT.done ⟨by kernel_rfl, ?_⟩
  refine AThen.n ?_
  refine ok_ret ?_
  obtain rfl := Option.some.inj h
  exact ⟨.inr rfl, res_imp (.agg rfl rfl (.cons rfl (.cons rfl (.nil))) rfl (.nil)) (SV.imp_refl _)⟩
theorem ref01_Same_ok {x0 : Zr} {x1 : Zr} {r : Bool} (h : ref01_Same_m x0 x1 = some r) : Pure Try.prog 14 [.agg (eZ x0), .agg (eZ x1)] (.v (.bool r)) := by
  obtain ⟨x0_0, x0_1⟩ := x0
  obtain ⟨x1_0, x1_1⟩ := x1
  refine pure_of_ok Try.func14 rfl (Nat.le_of_ble_eq_true rfl) (fun wld M vs hvs => ?_)
  unfold ref01_Same_m at h
  refine ok_seq ?_
  refine ok_region ?_
  refine RT.box .none rfl (tl rfl) rfl rfl ?_
  refine RT.box .none rfl (tl rfl) rfl rfl ?_
  refine RT.asg .none rfl (tl rfl) ?_
  refine RT.done ?_
  refine AThen.n ?_
  refine ok_seq ?_
  refine ok_seq ?_
  refine ok_tailJ h (fun j3 => AS.mkL 38 [(2, .ptr 2 0), (3, .ptr 3 0), (19, .sv (.v (.bool j3)))] [(3, ⟨24, [.sv (.v (.bool x1_0)), .sv (slc 1 (List.map eU32 x1_1))]⟩), (2, ⟨24, [.sv (.v (.bool x0_0)), .sv (slc 1 (List.map eU32 x0_1))]⟩)] []) (fun h => ?_) (fun y19j2 h => ?_)
  · refine ok_region ?_
    refine RT.fieldAddr .none rfl (tl rfl) rfl ?_
    refine RT.ldV .none rfl rfl rfl (tl rfl) ?_
    refine RT.fieldAddr .none rfl (tl rfl) rfl ?_
    refine RT.ldV .none rfl rfl rfl (tl rfl) ?_
    replace h := let_some h
    obtain ⟨x10, h10, h⟩ := h
    refine RT.bneq .none _ rfl rfl (tl rfl) h10 ?_
    refine RT.mv .none rfl (tl rfl) ?_
    replace h := bind_some h
    obtain ⟨c19_10, hg10, h⟩ := h
    cases x10
    · replace hg10 := br_f hg10
      refine RT.fieldAddr (.some rfl rfl) rfl (tl rfl) rfl ?_
      refine RT.ldV (.some rfl rfl) rfl rfl rfl (tl rfl) ?_
      replace hg10 := let_some hg10
      obtain ⟨x14, h14, hg10⟩ := hg10
      refine RT.lenM (.some rfl rfl) rfl (tl rfl) h14 ?_
      refine RT.fieldAddr (.some rfl rfl) rfl (tl rfl) rfl ?_
      refine RT.ldV (.some rfl rfl) rfl rfl rfl (tl rfl) ?_
      replace hg10 := let_some hg10
      obtain ⟨x17, h17, hg10⟩ := hg10
      refine RT.lenM (.some rfl rfl) rfl (tl rfl) h17 ?_
      replace hg10 := let_some hg10
      obtain ⟨x18, h18, hg10⟩ := hg10
      refine RT.neq (.some rfl rfl) _ rfl rfl (tl rfl) (neI (p := x14) (q := x17) h18) ?_
      obtain rfl := Option.some.inj hg10
      refine RT.pickF .none rfl rfl (tl rfl) ?_
      refine RT.done ?_
      refine AThen.n ?_
      refine ⟨x18, h, ?_⟩
      try dsimp only
      exact weakL id rfl rfl rfl rfl rfl ⟨.ptr, .ptr, .sv (SV.imp_refl _), trivial⟩ ⟨⟨_, rfl, ⟨.sv (SV.imp_refl _), .sv (SV.imp_refl _), trivial⟩⟩, ⟨_, rfl, ⟨.sv (SV.imp_refl _), .sv (SV.imp_refl _), trivial⟩⟩, trivial⟩ trivial (fun _ _ => rfl)
    · replace hg10 := br_t hg10
      obtain rfl := Option.some.inj hg10
      refine RT.skV rfl rfl (sk rfl) (tl rfl) ?_
      refine RT.skV rfl rfl (sk rfl) (tl rfl) ?_
      refine RT.skV rfl rfl (sk rfl) (tl rfl) ?_
      refine RT.skV rfl rfl (sk rfl) (tl rfl) ?_
      refine RT.skV rfl rfl (sk rfl) (tl rfl) ?_
      refine RT.skV rfl rfl (sk rfl) (tl rfl) ?_
      refine RT.skV rfl rfl (sk rfl) (tl rfl) ?_
      refine RT.pickT .none rfl rfl (tl rfl) ?_
      refine RT.done ?_
      refine AThen.n ?_
      refine ⟨true, h, ?_⟩
      try dsimp only
      exact weakL id rfl rfl rfl rfl rfl ⟨.ptr, .ptr, .sv (SV.imp_refl _), trivial⟩ ⟨⟨_, rfl, ⟨.sv (SV.imp_refl _), .sv (SV.imp_refl _), trivial⟩⟩, ⟨_, rfl, ⟨.sv (SV.imp_refl _), .sv (SV.imp_refl _), trivial⟩⟩, trivial⟩ trivial (fun _ _ => rfl)
  · try dsimp only
    refine AThen.n ?_
    cases y19j2
    · replace h := br_f h
      refine ok_condF rfl ?_
      refine ok_skip ?_
      refine AThen.n ?_
      refine ok_seq ?_
      refine ok_seq ?_
      refine ok_region ?_
      refine RT.asg .none rfl (tl rfl) ?_
      refine RT.done ?_
      refine AThen.n ?_
      replace h := bind_some h
      obtain ⟨e9, hl9, ho9⟩ := h
      refine ok_tailP (fun (xe9 : Unit) => AS.mkL 38 [] [] []) (fun xe9 => .inl xe9 = e9) ?_ (fun xe9 hx9 => ?_)
      · refine ok_block ?_
        refine ok_loopM hl9 (fun s9 => AS.mkL 38 [(2, .ptr 2 0), (3, .ptr 3 0), (5, .sv (.v (.int .i64 s9)))] [(3, ⟨24, [.sv (.v (.bool x1_0)), .sv (slc 1 (List.map eU32 x1_1))]⟩), (2, ⟨24, [.sv (.v (.bool x0_0)), .sv (slc 1 (List.map eU32 x0_1))]⟩)] []) (by (try dsimp only); exact weakL id rfl rfl rfl rfl rfl ⟨.ptr, .ptr, .sv (SV.imp_refl _), trivial⟩ ⟨⟨_, rfl, ⟨.sv (SV.imp_refl _), .sv (SV.imp_refl _), trivial⟩⟩, ⟨_, rfl, ⟨.sv (SV.imp_refl _), .sv (SV.imp_refl _), trivial⟩⟩, trivial⟩ trivial (fun _ _ => rfl)) (fun y5l6 y9 G9 h hG9 hE9 => ?_)
        try dsimp only
        refine ok_seq ?_
        refine ok_seq ?_
        refine ok_region ?_
        refine RT.mv .none rfl (tl rfl) ?_
        refine RT.fieldAddr .none rfl (tl rfl) rfl ?_
        refine RT.ldV .none rfl rfl rfl (tl rfl) ?_
        replace h := let_some h
        obtain ⟨x23, h23, h⟩ := h
        refine RT.lenM .none rfl (tl rfl) h23 ?_
        replace h := let_some h
        obtain ⟨x24, h24, h⟩ := h
        refine RT.lss .none _ rfl rfl (tl rfl) h24 ?_
        refine RT.done ?_
        refine AThen.n ?_
        cases x24
        · replace h := br_f h
          refine ok_condF rfl ?_
          refine ok_exit ?_
          refine AThen.x ?_
          refine AThen.x ?_
          refine AInB.x ?_
          refine AThen.n ?_
          obtain rfl := Option.some.inj h
          refine ⟨(), hE9 _ rfl, ?_⟩
          try dsimp only
          exact weakL id rfl rfl rfl rfl rfl trivial trivial trivial (fun _ _ => rfl)
        · replace h := br_t h
          refine ok_condT rfl ?_
          refine ok_skip ?_
          refine AThen.n ?_
          refine ok_seq ?_
          refine ok_block ?_
          refine ok_seq ?_
          refine ok_region_draw mixed ?_
          refine RT.fieldAddr .none rfl (tl rfl) rfl ?_
          refine RT.ldV .none rfl rfl rfl (tl rfl) ?_
          refine RT.mv .none rfl (tl rfl) ?_
          replace h := bind_some h
          obtain ⟨x30, h30, h⟩ := h
          refine RT.ixM .none rfl rfl (tl rfl) h30 ?_
          refine RT.loadRV .none rfl rfl (tl rfl) ?_
          refine RT.fieldAddr .none rfl (tl rfl) rfl ?_
          refine RT.ldV .none rfl rfl rfl (tl rfl) ?_
          refine RT.mv .none rfl (tl rfl) ?_
          replace h := bind_some h
          obtain ⟨x35, h35, h⟩ := h
          refine RT.ixM .none rfl rfl (tl rfl) h35 ?_
          refine RT.loadRV .none rfl rfl (tl rfl) ?_
          replace h := let_some h
          obtain ⟨x37, h37, h⟩ := h
          refine RT.neq .none _ rfl rfl (tl rfl) (neN (p := x30) (q := x35) h37) ?_
          refine RT.done ⟨by kernel_rfl, ?_⟩
          refine AThen.n ?_
          cases x37
          · replace h := br_f h
            refine ok_condF rfl ?_
            refine ok_skip ?_
            refine AInB.n ?_
            refine AThen.n ?_
            refine ok_region ?_
            refine RT.mv .none rfl (tl rfl) ?_
            replace h := let_some h
            obtain ⟨x26, h26, h⟩ := h
            refine RT.add .none _ rfl rfl (tl rfl) h26 ?_
            refine RT.asg .none rfl (tl rfl) ?_
            refine RT.done ?_
            obtain rfl := Option.some.inj h
            refine AThen.n ⟨x26, hG9 _ rfl, ?_⟩
            try dsimp only
            exact weakL id rfl rfl rfl rfl rfl ⟨.ptr, .ptr, .sv (SV.imp_refl _), trivial⟩ ⟨⟨_, rfl, ⟨.sv (SV.imp_refl _), .sv (SV.imp_refl _), trivial⟩⟩, ⟨_, rfl, ⟨.sv (SV.imp_refl _), .sv (SV.imp_refl _), trivial⟩⟩, trivial⟩ trivial (fun _ _ => rfl)
          · replace h := br_t h
            refine ok_condT rfl ?_
            refine ok_seq ?_
            refine ok_region ?_
            refine RT.asg .none rfl (tl rfl) ?_
            refine RT.done ?_
            refine AThen.n ?_
            refine ok_ret ?_
            refine AInB.r ?_
            refine AThen.r ?_
            obtain rfl := Option.some.inj h
            have he9 := hE9 _ rfl
            subst he9
            refine AThen.r ?_
            refine AInB.r ?_
            refine AThen.r ?_
            refine AThen.r ?_
            obtain rfl := Option.some.inj ho9
            exact ⟨.inr rfl, res_imp (.tmp rfl (.nil)) (SV.imp_refl _)⟩
      · subst hx9
        try dsimp only
        refine AThen.n ?_
        refine ok_seq ?_
        refine ok_region ?_
        refine RT.asg .none rfl (tl rfl) ?_
        refine RT.done ?_
        refine AThen.n ?_
        refine ok_ret ?_
        obtain rfl := Option.some.inj ho9
        exact ⟨.inr rfl, res_imp (.tmp rfl (.nil)) (SV.imp_refl _)⟩
    · replace h := br_t h
      refine ok_condT rfl ?_
      refine ok_seq ?_
      refine ok_region ?_
      refine RT.asg .none rfl (tl rfl) ?_
      refine RT.done ?_
      refine AThen.n ?_
      refine ok_ret ?_
      refine AThen.r ?_
      obtain rfl := Option.some.inj h
      exact ⟨.inr rfl, res_imp (.tmp rfl (.nil)) (SV.imp_refl _)⟩
theorem ref01_From_ok {x0 : Int} {r : Zr} (h : ref01_From_m x0 = some r) : Pure Try.prog 33 [.v (.int .i64 x0)] (.agg (eZ r)) := by
  refine pure_of_ok Try.func33 rfl (Nat.le_of_ble_eq_true rfl) (fun wld M vs hvs => ?_)
  unfold ref01_From_m at h
  refine ok_seq ?_
  refine ok_region ?_
  refine RT.allocI .none (cs := [.v (.bool false), slc 1 (List.map eU32 [])]) (by exact ⟨SV.imp_refl _, imp_nil, trivial⟩) rfl (tl rfl) rfl rfl ?_
  refine RT.done ?_
  refine AThen.n ?_
  refine ok_seq ?_
  refine ok_region ?_
  refine RT.mv .none rfl (tl rfl) ?_
  replace h := let_some h
  obtain ⟨x5, h5, h⟩ := h
  refine RT.conv .none _ rfl (tl rfl) (UK.conv h5) ?_
  refine RT.asg .none rfl (tl rfl) ?_
  refine RT.done ?_
  refine AThen.n ?_
  refine ok_seq ?_
  refine ok_seq ?_
  refine ok_region ?_
  refine RT.mv .none rfl (tl rfl) ?_
  replace h := let_some h
  obtain ⟨x7, h7, h⟩ := h
  refine RT.lss .none _ rfl rfl (tl rfl) h7 ?_
  refine RT.done ?_
  refine AThen.n ?_
  refine ok_tailJ h (fun j2 => AS.mkL 21 [(0, .sv (.v (.int .i64 x0))), (2, .ptr 2 0), (3, .sv (.v (.int .u64 ((j2 : Nat) : Int))))] [(2, ⟨24, [.sv (.v (.bool false)), .sv (slc 1 (List.map eU32 []))]⟩)] []) (fun h => ?_) (fun y3j1 h => ?_)
  · cases x7
    · replace h := br_f h
      refine ok_condF rfl ?_
      refine ok_skip ?_
      refine AThen.n ?_
      refine ⟨x5, h, ?_⟩
      try dsimp only
      exact weakL id rfl rfl rfl rfl rfl ⟨.sv (SV.imp_refl _), .ptr, .sv (SV.imp_refl _), trivial⟩ ⟨⟨_, rfl, ⟨.sv (SV.imp_refl _), .sv (SV.imp_refl _), trivial⟩⟩, trivial⟩ trivial (fun _ _ => rfl)
    · replace h := br_t h
      refine ok_condT rfl ?_
      refine ok_region ?_
      refine RT.mv .none rfl (tl rfl) ?_
      replace h := let_some h
      obtain ⟨x9, h9, h⟩ := h
      refine RT.neg .none _ rfl (tl rfl) (UK.neg h9) ?_
      refine RT.asg .none rfl (tl rfl) ?_
      refine RT.done ?_
      refine AThen.n ?_
      refine ⟨x9, h, ?_⟩
      try dsimp only
      exact weakL id rfl rfl rfl rfl rfl ⟨.sv (SV.imp_refl _), .ptr, .sv (SV.imp_refl _), trivial⟩ ⟨⟨_, rfl, ⟨.sv (SV.imp_refl _), .sv (SV.imp_refl _), trivial⟩⟩, trivial⟩ trivial (fun _ _ => rfl)
  · try dsimp only
    refine AThen.n ?_
    refine ok_seq ?_
    refine ok_region ?_
    refine RT.mv .none rfl (tl rfl) ?_
    replace h := let_some h
    obtain ⟨x11, h11, h⟩ := h
    refine RT.lss .none _ rfl rfl (tl rfl) h11 ?_
    refine RT.mv .none rfl (tl rfl) ?_
    replace h := let_some h
    obtain ⟨x13, h13, h⟩ := h
    refine RT.rem .none _ rfl rfl (tl rfl) (by decide) (remU' (a := y3j1) (b := 4294967296) h13) ?_
    replace h := let_some h
    obtain ⟨x14, h14, h⟩ := h
    refine RT.conv .none _ rfl (tl rfl) (UK.nat h14) ?_
    refine RT.mv .none rfl (tl rfl) ?_
    replace h := let_some h
    obtain ⟨x16, h16, h⟩ := h
    refine RT.quo .none _ rfl rfl (tl rfl) (by decide) (UK.quo' (a := y3j1) (b := 4294967296) h16) ?_
    replace h := let_some h
    obtain ⟨x17, h17, h⟩ := h
    refine RT.conv .none _ rfl (tl rfl) (UK.nat h17) ?_
    refine RT.buildSl (l := [x14, x17]) (e := eU32) .none (.one rfl (.one rfl (.nil))) (tl rfl) rfl rfl rfl rfl rfl rfl ?_
    refine RT.buildI (cs := [_, _]) (cs' := [.v (.bool x11), slc 1 (List.map eU32 [x14, x17])]) .none (.one rfl (.one rfl (.nil))) rfl ⟨SV.imp_refl _, SV.imp_refl _, trivial⟩ (tl rfl) ?_
    replace h := bind_some h
    obtain ⟨⟨x20_0, x20_1⟩, h20, h⟩ := h
    refine RT.call .none (ref01_Least_ok h20) rfl ⟨rfl, trivial⟩ (tl rfl) ?_
    refine RT.store .none rfl rfl rfl rfl rfl ?_
    refine RT.done ?_
    refine AThen.n ?_
    refine ok_ret ?_
    obtain rfl := Option.some.inj h
    exact ⟨.inr rfl, res_imp (.agg rfl rfl (.cons rfl (.cons rfl (.nil))) rfl (.nil)) (SV.imp_refl _)⟩
end Go.Proofs.Ytgkafblpckcekaa
namespace Go.Proofs.Ytgkafblpckcekaa
open Go.Fw
noncomputable def law01_n_m (x0 : Int) : Option (Zr) :=
  (whole_FromInt64_m x0).bind fun ⟨x4_0, x4_1⟩ =>
  some ⟨x4_0, x4_1⟩
noncomputable def law01_is_m (x0 : Zr) (x1 : Int) : Option (Bool) :=
  match x0 with
  | ⟨x0_0, x0_1⟩ =>
    (ref01_From_m x1).bind fun ⟨x7_0, x7_1⟩ =>
    (ref01_Same_m ⟨x0_0, x0_1⟩ ⟨x7_0, x7_1⟩).bind fun x8 =>
    some x8
noncomputable def law01_alive_m  : Option (Bool) :=
  (law01_n_m (-7)).bind fun ⟨x13_0, x13_1⟩ =>
  (law01_n_m 2).bind fun ⟨x14_0, x14_1⟩ =>
  (whole_DivMod_m ⟨x13_0, x13_1⟩ ⟨x14_0, x14_1⟩).bind fun ⟨⟨x15a_0, x15a_1⟩, ⟨x15b_0, x15b_1⟩, x15c⟩ =>
  (law01_n_m (-7)).bind fun ⟨x20_0, x20_1⟩ =>
  (law01_n_m (-2)).bind fun ⟨x21_0, x21_1⟩ =>
  (whole_DivMod_m ⟨x20_0, x20_1⟩ ⟨x21_0, x21_1⟩).bind fun ⟨⟨x22a_0, x22a_1⟩, ⟨x22b_0, x22b_1⟩, x22c⟩ =>
  (law01_n_m 7).bind fun ⟨x27_0, x27_1⟩ =>
  (law01_n_m (-2)).bind fun ⟨x28_0, x28_1⟩ =>
  (whole_DivMod_m ⟨x27_0, x27_1⟩ ⟨x28_0, x28_1⟩).bind fun ⟨⟨x29a_0, x29a_1⟩, ⟨x29b_0, x29b_1⟩, x29c⟩ =>
  (whole_Parse_m [45, 48]).bind fun ⟨⟨x34a_0, x34a_1⟩, x34b⟩ =>
  letJ (fun (y50j9 : Bool) =>
      (bif y50j9 then
          some false
        else
          letJ (fun (y0j54 : Bool) =>
              some y0j54) fun K55 =>
          (law01_is_m ⟨x15a_0, x15a_1⟩ (-4)).bind fun x52 =>
          (bif x52 then
              (law01_is_m ⟨x15b_0, x15b_1⟩ 1).bind fun x55 =>
              some x55
            else
              some false).bind fun c56_56 =>
          (bif c56_56 then
              (law01_is_m ⟨x22a_0, x22a_1⟩ 4).bind fun x59 =>
              some x59
            else
              some false).bind fun c60_92 =>
          (bif c60_92 then
              (law01_is_m ⟨x22b_0, x22b_1⟩ 1).bind fun x63 =>
              some x63
            else
              some false).bind fun c64_93 =>
          (bif c64_93 then
              (law01_is_m ⟨x29a_0, x29a_1⟩ (-3)).bind fun x67 =>
              some x67
            else
              some false).bind fun c68_94 =>
          (bif c68_94 then
              (law01_is_m ⟨x29b_0, x29b_1⟩ 1).bind fun x71 =>
              some x71
            else
              some false).bind fun c72_95 =>
          (bif c72_95 then
              (law01_n_m (-12)).bind fun ⟨x74_0, x74_1⟩ =>
              (law01_n_m 18).bind fun ⟨x75_0, x75_1⟩ =>
              (whole_GCD_m ⟨x74_0, x74_1⟩ ⟨x75_0, x75_1⟩).bind fun ⟨x76_0, x76_1⟩ =>
              (law01_is_m ⟨x76_0, x76_1⟩ 6).bind fun x77 =>
              some x77
            else
              some false).bind fun c78_96 =>
          (bif c78_96 then
              (law01_n_m 0).bind fun ⟨x80_0, x80_1⟩ =>
              (law01_n_m (-5)).bind fun ⟨x81_0, x81_1⟩ =>
              (whole_GCD_m ⟨x80_0, x80_1⟩ ⟨x81_0, x81_1⟩).bind fun ⟨x82_0, x82_1⟩ =>
              (law01_is_m ⟨x82_0, x82_1⟩ 5).bind fun x83 =>
              some x83
            else
              some false).bind fun c84_97 =>
          (bif c84_97 then
              (law01_n_m (-9223372036854775808)).bind fun ⟨x86_0, x86_1⟩ =>
              (whole_Format_m ⟨x86_0, x86_1⟩).bind fun x87 =>
              (some (decide ((x87 : Str) = [45, 57, 50, 50, 51, 51, 55, 50, 48, 51, 54, 56, 53, 52, 55, 55, 53, 56, 48, 56]))).bind fun x88 =>
              some x88
            else
              some false).bind fun c89_98 =>
          K55 c89_98)) fun K10 =>
  (some (decide ((x15c : Int) ≠ 0))).bind fun x38 =>
  (bif x38 then
      some true
    else
      (some (decide ((x22c : Int) ≠ 0))).bind fun x41 =>
      some x41).bind fun c42_99 =>
  (bif c42_99 then
      some true
    else
      (some (decide ((x29c : Int) ≠ 0))).bind fun x45 =>
      some x45).bind fun c46_105 =>
  (bif c46_105 then
      some true
    else
      (some (decide ((x34b : Int) ≠ 3))).bind fun x49 =>
      some x49).bind fun c50_106 =>
  K10 c50_106
noncomputable def law01_Long_m (x0 : List Zr) : Option (Bool) :=
  (loopM (fun (y3l3 : Int) =>
      (show Option ((Int) ⊕ ((Unit) ⊕ (Bool))) from
        (some (x0.length : Int)).bind fun x6 =>
        (some (decide ((y3l3 : Int) < x6))).bind fun x7 =>
        (bif x7 then
            (geti x0 y3l3).bind fun ⟨x12_0, x12_1⟩ =>
            (some (x12_1.length : Int)).bind fun x15 =>
            (some (decide ((12 : Int) < x15))).bind fun x16 =>
            (bif x16 then
                some (.inr (.inr true))
              else
                (some (IntKind.i64.wrap (y3l3 + 1))).bind fun x9 =>
                some (.inl x9))
          else
            some (.inr (.inl ()))))) 0).bind fun e6 =>
    match e6 with
    | .inr v6 => some v6
    | .inl _ =>
      some false
noncomputable def law01_Own_m (x0 : Zr) : Option (Zr) :=
  match x0 with
  | ⟨x0_0, x0_1⟩ =>
    (apM 4 [] x0_1).bind fun x7 =>
    some ⟨x0_0, x7⟩
noncomputable def law01_WholeMatches_m (x0 : Zr) (x1 : Zr) (x2 : Int) : Option (Bool) :=
  match x0 with
  | ⟨x0_0, x0_1⟩ =>
    match x1 with
    | ⟨x1_0, x1_1⟩ =>
      (law01_Long_m [⟨x0_0, x0_1⟩, ⟨x1_0, x1_1⟩]).bind fun x16 =>
      (bif x16 then
          (law01_alive_m).bind fun x17 =>
          some x17
        else
          (law01_Own_m ⟨x0_0, x0_1⟩).bind fun ⟨x19_0, x19_1⟩ =>
          (law01_Own_m ⟨x1_0, x1_1⟩).bind fun ⟨x21_0, x21_1⟩ =>
          (whole_Int64_m ⟨x19_0, x19_1⟩).bind fun ⟨x24a, x24b⟩ =>
          (ref01_Int_m ⟨x0_0, x0_1⟩).bind fun ⟨x29a, x29b⟩ =>
          letJ (fun (y56j9 : Bool) =>
              (bif y56j9 then
                  some false
                else
                  letJ (fun (y84j15 : Bool) =>
                      (bif y84j15 then
                          some false
                        else
                          letJ (fun (y114j25 : Bool) =>
                              (bif y114j25 then
                                  some false
                                else
                                  letJ (fun (y6j31 : Bool) =>
                                      some y6j31) fun K32 =>
                                  (ref01_Same_m ⟨x19_0, x19_1⟩ ⟨x0_0, x0_1⟩).bind fun x117 =>
                                  (bif x117 then
                                      (ref01_Same_m ⟨x21_0, x21_1⟩ ⟨x1_0, x1_1⟩).bind fun x121 =>
                                      some x121
                                    else
                                      some false).bind fun c122_33 =>
                                  (bif c122_33 then
                                      (law01_alive_m).bind fun x124 =>
                                      some x124
                                    else
                                      some false).bind fun c125_36 =>
                                  K32 c125_36)) fun K26 =>
                          (whole_Neg_m ⟨x19_0, x19_1⟩).bind fun ⟨x86_0, x86_1⟩ =>
                          (ref01_Neg_m ⟨x0_0, x0_1⟩).bind fun ⟨x88_0, x88_1⟩ =>
                          (ref01_Same_m ⟨x86_0, x86_1⟩ ⟨x88_0, x88_1⟩).bind fun x89 =>
                          (some (!x89)).bind fun x90 =>
                          (bif x90 then
                              some true
                            else
                              (whole_Abs_m ⟨x19_0, x19_1⟩).bind fun ⟨x93_0, x93_1⟩ =>
                              (ref01_Abs_m ⟨x0_0, x0_1⟩).bind fun ⟨x95_0, x95_1⟩ =>
                              (ref01_Same_m ⟨x93_0, x93_1⟩ ⟨x95_0, x95_1⟩).bind fun x96 =>
                              (some (!x96)).bind fun x97 =>
                              some x97).bind fun c98_37 =>
                          (bif c98_37 then
                              some true
                            else
                              (whole_Sign_m ⟨x19_0, x19_1⟩).bind fun x101 =>
                              (ref01_Sign_m ⟨x0_0, x0_1⟩).bind fun x103 =>
                              (some (decide ((x101 : Int) ≠ x103))).bind fun x104 =>
                              some x104).bind fun c105_43 =>
                          (bif c105_43 then
                              some true
                            else
                              (whole_Cmp_m ⟨x19_0, x19_1⟩ ⟨x21_0, x21_1⟩).bind fun x109 =>
                              (ref01_Cmp_m ⟨x0_0, x0_1⟩ ⟨x1_0, x1_1⟩).bind fun x112 =>
                              (some (decide ((x109 : Int) ≠ x112))).bind fun x113 =>
                              some x113).bind fun c114_44 =>
                          K26 c114_44)) fun K16 =>
                  (whole_Add_m ⟨x19_0, x19_1⟩ ⟨x21_0, x21_1⟩).bind fun ⟨x59_0, x59_1⟩ =>
                  (ref01_Add_m ⟨x0_0, x0_1⟩ ⟨x1_0, x1_1⟩).bind fun ⟨x62_0, x62_1⟩ =>
                  (ref01_Same_m ⟨x59_0, x59_1⟩ ⟨x62_0, x62_1⟩).bind fun x63 =>
                  (some (!x63)).bind fun x64 =>
                  (bif x64 then
                      some true
                    else
                      (whole_Sub_m ⟨x19_0, x19_1⟩ ⟨x21_0, x21_1⟩).bind fun ⟨x68_0, x68_1⟩ =>
                      (ref01_Sub_m ⟨x0_0, x0_1⟩ ⟨x1_0, x1_1⟩).bind fun ⟨x71_0, x71_1⟩ =>
                      (ref01_Same_m ⟨x68_0, x68_1⟩ ⟨x71_0, x71_1⟩).bind fun x72 =>
                      (some (!x72)).bind fun x73 =>
                      some x73).bind fun c74_45 =>
                  (bif c74_45 then
                      some true
                    else
                      (whole_Mul_m ⟨x19_0, x19_1⟩ ⟨x21_0, x21_1⟩).bind fun ⟨x78_0, x78_1⟩ =>
                      (ref01_Mul_m ⟨x0_0, x0_1⟩ ⟨x1_0, x1_1⟩).bind fun ⟨x81_0, x81_1⟩ =>
                      (ref01_Same_m ⟨x78_0, x78_1⟩ ⟨x81_0, x81_1⟩).bind fun x82 =>
                      (some (!x82)).bind fun x83 =>
                      some x83).bind fun c84_48 =>
                  K16 c84_48)) fun K10 =>
          (some (decide ((x24a : Int) ≠ x29a))).bind fun x34 =>
          (bif x34 then
              some true
            else
              (some (!(x24b == x29b))).bind fun x38 =>
              some x38).bind fun c39_49 =>
          (bif c39_49 then
              some true
            else
              (whole_FromInt64_m x2).bind fun ⟨x42_0, x42_1⟩ =>
              (ref01_From_m x2).bind fun ⟨x44_0, x44_1⟩ =>
              (ref01_Same_m ⟨x42_0, x42_1⟩ ⟨x44_0, x44_1⟩).bind fun x45 =>
              (some (!x45)).bind fun x46 =>
              some x46).bind fun c47_55 =>
          (bif c47_55 then
              some true
            else
              (whole_IsCanonical_m ⟨x19_0, x19_1⟩).bind fun x50 =>
              (ref01_Least_m ⟨x0_0, x0_1⟩).bind fun ⟨x53_0, x53_1⟩ =>
              (ref01_Same_m ⟨x0_0, x0_1⟩ ⟨x53_0, x53_1⟩).bind fun x54 =>
              (some (!(x50 == x54))).bind fun x55 =>
              some x55).bind fun c56_56 =>
          K10 c56_56)
end Go.Proofs.Ytgkafblpckcekaa
namespace Go.Proofs.Ytgkafblpckcekaa
open Go.Fw Go.RowKit
theorem law01_n_ok {x0 : Int} {r : Zr} (h : law01_n_m x0 = some r) : Pure Try.prog 42 [.v (.int .i64 x0)] (.agg (eZ r)) := by
  refine pure_of_ok Try.func42 rfl (Nat.le_of_ble_eq_true rfl) (fun wld M vs hvs => ?_)
  unfold law01_n_m at h
  refine ok_seq ?_
  refine ok_region ?_
  refine RT.allocI .none (cs := [.v (.bool false), slc 1 (List.map eU32 [])]) (by exact ⟨SV.imp_refl _, imp_nil, trivial⟩) rfl (tl rfl) rfl rfl ?_
  refine RT.done ?_
  refine AThen.n ?_
  refine ok_seq ?_
  refine ok_region ?_
  refine RT.mv .none rfl (tl rfl) ?_
  replace h := bind_some h
  obtain ⟨⟨x4_0, x4_1⟩, h4, h⟩ := h
  refine RT.call .none (whole_FromInt64_ok h4) rfl ⟨rfl, trivial⟩ (tl rfl) ?_
  refine RT.store .none rfl rfl rfl rfl rfl ?_
  refine RT.done ?_
  refine AThen.n ?_
  refine ok_ret ?_
  obtain rfl := Option.some.inj h
  exact ⟨.inr rfl, res_imp (.agg rfl rfl (.cons rfl (.cons rfl (.nil))) rfl (.nil)) (SV.imp_refl _)⟩
theorem law01_is_ok {x0 : Zr} {x1 : Int} {r : Bool} (h : law01_is_m x0 x1 = some r) : Pure Try.prog 43 [.agg (eZ x0), .v (.int .i64 x1)] (.v (.bool r)) := by
  obtain ⟨x0_0, x0_1⟩ := x0
  refine pure_of_ok Try.func43 rfl (Nat.le_of_ble_eq_true rfl) (fun wld M vs hvs => ?_)
  unfold law01_is_m at h
  refine ok_seq ?_
  refine ok_region ?_
  refine RT.box .none rfl (tl rfl) rfl rfl ?_
  refine RT.asg .none rfl (tl rfl) ?_
  refine RT.done ?_
  refine AThen.n ?_
  refine ok_seq ?_
  refine ok_region_draw mixed ?_
  refine RT.load .none rfl rfl (.cons rfl (.cons rfl (.nil))) rfl (tl rfl) ?_
  refine RT.mv .none rfl (tl rfl) ?_
  replace h := bind_some h
  obtain ⟨⟨x7_0, x7_1⟩, h7, h⟩ := h
  refine RT.call .none (ref01_From_ok h7) rfl ⟨rfl, trivial⟩ (tl rfl) ?_
  replace h := bind_some h
  obtain ⟨x8, h8, h⟩ := h
  refine RT.call .none (ref01_Same_ok h8) rfl ⟨rfl, rfl, trivial⟩ (tl rfl) ?_
  refine RT.asg .none rfl (tl rfl) ?_
  refine RT.done ⟨by kernel_rfl, ?_⟩
  refine AThen.n ?_
  refine ok_ret ?_
  obtain rfl := Option.some.inj h
  exact ⟨.inr rfl, res_imp (.tmp rfl (.nil)) (SV.imp_refl _)⟩
theorem law01_alive_ok  {r : Bool} (h : law01_alive_m = some r) : Pure Try.prog 10 [] (.v (.bool r)) := by
  refine pure_of_ok Try.func10 rfl (Nat.le_of_ble_eq_true rfl) (fun wld M vs hvs => ?_)
  unfold law01_alive_m at h
  refine ok_seq ?_
  refine ok_region ?_
  refine RT.asg .none rfl (tl rfl) ?_
  refine RT.done ?_
  refine AThen.n ?_
  refine ok_seq ?_
  refine ok_region ?_
  replace h := bind_some h
  obtain ⟨⟨x13_0, x13_1⟩, h13, h⟩ := h
  refine RT.call .none (law01_n_ok h13) rfl ⟨rfl, trivial⟩ (tl rfl) ?_
  replace h := bind_some h
  obtain ⟨⟨x14_0, x14_1⟩, h14, h⟩ := h
  refine RT.call .none (law01_n_ok h14) rfl ⟨rfl, trivial⟩ (tl rfl) ?_
  replace h := bind_some h
  obtain ⟨⟨⟨x15a_0, x15a_1⟩, ⟨x15b_0, x15b_1⟩, x15c⟩, h15, h⟩ := h
  refine RT.call .none (whole_DivMod_ok h15) rfl ⟨rfl, rfl, trivial⟩ (tl rfl) ?_
  refine RT.mv .none rfl (tl rfl) ?_
  refine RT.extract .none rfl rfl (tl rfl) ?_
  refine RT.extract .none rfl rfl (tl rfl) ?_
  refine RT.extract .none rfl rfl (tl rfl) ?_
  refine RT.allocI .none (cs := [.v (.bool false), slc 1 (List.map eU32 [])]) (by exact ⟨SV.imp_refl _, imp_nil, trivial⟩) rfl (tl rfl) rfl rfl ?_
  refine RT.allocI .none (cs := [.v (.bool false), slc 1 (List.map eU32 [])]) (by exact ⟨SV.imp_refl _, imp_nil, trivial⟩) rfl (tl rfl) rfl rfl ?_
  refine RT.store .none rfl rfl rfl rfl rfl ?_
  refine RT.store .none rfl rfl rfl rfl rfl ?_
  refine RT.asg .none rfl (tl rfl) ?_
  refine RT.done ?_
  refine AThen.n ?_
  refine ok_seq ?_
  refine ok_region ?_
  replace h := bind_some h
  obtain ⟨⟨x20_0, x20_1⟩, h20, h⟩ := h
  refine RT.call .none (law01_n_ok h20) rfl ⟨rfl, trivial⟩ (tl rfl) ?_
  replace h := bind_some h
  obtain ⟨⟨x21_0, x21_1⟩, h21, h⟩ := h
  refine RT.call .none (law01_n_ok h21) rfl ⟨rfl, trivial⟩ (tl rfl) ?_
  replace h := bind_some h
  obtain ⟨⟨⟨x22a_0, x22a_1⟩, ⟨x22b_0, x22b_1⟩, x22c⟩, h22, h⟩ := h
  refine RT.call .none (whole_DivMod_ok h22) rfl ⟨rfl, rfl, trivial⟩ (tl rfl) ?_
  refine RT.mv .none rfl (tl rfl) ?_
  refine RT.extract .none rfl rfl (tl rfl) ?_
  refine RT.extract .none rfl rfl (tl rfl) ?_
  refine RT.extract .none rfl rfl (tl rfl) ?_
  refine RT.allocI .none (cs := [.v (.bool false), slc 1 (List.map eU32 [])]) (by exact ⟨SV.imp_refl _, imp_nil, trivial⟩) rfl (tl rfl) rfl rfl ?_
  refine RT.allocI .none (cs := [.v (.bool false), slc 1 (List.map eU32 [])]) (by exact ⟨SV.imp_refl _, imp_nil, trivial⟩) rfl (tl rfl) rfl rfl ?_
  refine RT.store .none rfl rfl rfl rfl rfl ?_
  refine RT.store .none rfl rfl rfl rfl rfl ?_
  refine RT.asg .none rfl (tl rfl) ?_
  refine RT.done ?_
  refine AThen.n ?_
  refine ok_seq ?_
  refine ok_region ?_
  replace h := bind_some h
  obtain ⟨⟨x27_0, x27_1⟩, h27, h⟩ := h
  refine RT.call .none (law01_n_ok h27) rfl ⟨rfl, trivial⟩ (tl rfl) ?_
  replace h := bind_some h
  obtain ⟨⟨x28_0, x28_1⟩, h28, h⟩ := h
  refine RT.call .none (law01_n_ok h28) rfl ⟨rfl, trivial⟩ (tl rfl) ?_
  replace h := bind_some h
  obtain ⟨⟨⟨x29a_0, x29a_1⟩, ⟨x29b_0, x29b_1⟩, x29c⟩, h29, h⟩ := h
  refine RT.call .none (whole_DivMod_ok h29) rfl ⟨rfl, rfl, trivial⟩ (tl rfl) ?_
  refine RT.mv .none rfl (tl rfl) ?_
  refine RT.extract .none rfl rfl (tl rfl) ?_
  refine RT.extract .none rfl rfl (tl rfl) ?_
  refine RT.extract .none rfl rfl (tl rfl) ?_
  refine RT.allocI .none (cs := [.v (.bool false), slc 1 (List.map eU32 [])]) (by exact ⟨SV.imp_refl _, imp_nil, trivial⟩) rfl (tl rfl) rfl rfl ?_
  refine RT.allocI .none (cs := [.v (.bool false), slc 1 (List.map eU32 [])]) (by exact ⟨SV.imp_refl _, imp_nil, trivial⟩) rfl (tl rfl) rfl rfl ?_
  refine RT.store .none rfl rfl rfl rfl rfl ?_
  refine RT.store .none rfl rfl rfl rfl rfl ?_
  refine RT.asg .none rfl (tl rfl) ?_
  refine RT.done ?_
  refine AThen.n ?_
  refine ok_seq ?_
  refine ok_region ?_
  replace h := bind_some h
  obtain ⟨⟨⟨x34a_0, x34a_1⟩, x34b⟩, h34, h⟩ := h
  refine RT.call .none (whole_Parse_ok h34) rfl ⟨rfl, trivial⟩ (tl rfl) ?_
  refine RT.mv .none rfl (tl rfl) ?_
  refine RT.extract .none rfl rfl (tl rfl) ?_
  refine RT.extract .none rfl rfl (tl rfl) ?_
  refine RT.allocI .none (cs := [.v (.bool false), slc 1 (List.map eU32 [])]) (by exact ⟨SV.imp_refl _, imp_nil, trivial⟩) rfl (tl rfl) rfl rfl ?_
  refine RT.store .none rfl rfl rfl rfl rfl ?_
  refine RT.asg .none rfl (tl rfl) ?_
  refine RT.done ?_
  refine AThen.n ?_
  refine ok_seq ?_
  refine ok_seq ?_
  refine ok_tailJ h (fun j10 => AS.mkL 90 [(1, .ptr 1 0), (2, .ptr 2 0), (4, .ptr 4 0), (5, .ptr 5 0), (7, .ptr 7 0), (8, .ptr 8 0), (50, .sv (.v (.bool j10)))] [(8, ⟨24, [.sv (.v (.bool x29b_0)), .sv (slc 1 (List.map eU32 x29b_1))]⟩), (7, ⟨24, [.sv (.v (.bool x29a_0)), .sv (slc 1 (List.map eU32 x29a_1))]⟩), (5, ⟨24, [.sv (.v (.bool x22b_0)), .sv (slc 1 (List.map eU32 x22b_1))]⟩), (4, ⟨24, [.sv (.v (.bool x22a_0)), .sv (slc 1 (List.map eU32 x22a_1))]⟩), (2, ⟨24, [.sv (.v (.bool x15b_0)), .sv (slc 1 (List.map eU32 x15b_1))]⟩), (1, ⟨24, [.sv (.v (.bool x15a_0)), .sv (slc 1 (List.map eU32 x15a_1))]⟩)] []) (fun h => ?_) (fun y50j9 h => ?_)
  · refine ok_region ?_
    refine RT.mv .none rfl (tl rfl) ?_
    replace h := let_some h
    obtain ⟨x38, h38, h⟩ := h
    refine RT.neq .none _ rfl rfl (tl rfl) (neI (p := x15c) (q := 0) h38) ?_
    refine RT.mv .none rfl (tl rfl) ?_
    replace h := bind_some h
    obtain ⟨c42_99, hg99, h⟩ := h
    cases x38
    · replace hg99 := br_f hg99
      refine RT.mv (.some rfl rfl) rfl (tl rfl) ?_
      replace hg99 := let_some hg99
      obtain ⟨x41, h41, hg99⟩ := hg99
      refine RT.neq (.some rfl rfl) _ rfl rfl (tl rfl) (neI (p := x22c) (q := 0) h41) ?_
      obtain rfl := Option.some.inj hg99
      refine RT.pickF .none rfl rfl (tl rfl) ?_
      refine RT.mv .none rfl (tl rfl) ?_
      replace h := bind_some h
      obtain ⟨c46_100, hg100, h⟩ := h
      cases x41
      · replace hg100 := br_f hg100
        refine RT.mv (.some rfl rfl) rfl (tl rfl) ?_
        replace hg100 := let_some hg100
        obtain ⟨x45, h45, hg100⟩ := hg100
        refine RT.neq (.some rfl rfl) _ rfl rfl (tl rfl) (neI (p := x29c) (q := 0) h45) ?_
        obtain rfl := Option.some.inj hg100
        refine RT.pickF .none rfl rfl (tl rfl) ?_
        refine RT.mv .none rfl (tl rfl) ?_
        replace h := bind_some h
        obtain ⟨c50_101, hg101, h⟩ := h
        cases x45
        · replace hg101 := br_f hg101
          refine RT.mv (.some rfl rfl) rfl (tl rfl) ?_
          replace hg101 := let_some hg101
          obtain ⟨x49, h49, hg101⟩ := hg101
          refine RT.neq (.some rfl rfl) _ rfl rfl (tl rfl) (neI (p := x34b) (q := 3) h49) ?_
          obtain rfl := Option.some.inj hg101
          refine RT.pickF .none rfl rfl (tl rfl) ?_
          refine RT.done ?_
          refine AThen.n ?_
          refine ⟨x49, h, ?_⟩
          try dsimp only
          exact weakL id rfl rfl rfl rfl rfl ⟨.ptr, .ptr, .ptr, .ptr, .ptr, .ptr, .sv (SV.imp_refl _), trivial⟩ ⟨⟨_, rfl, ⟨.sv (SV.imp_refl _), .sv (SV.imp_refl _), trivial⟩⟩, ⟨_, rfl, ⟨.sv (SV.imp_refl _), .sv (SV.imp_refl _), trivial⟩⟩, ⟨_, rfl, ⟨.sv (SV.imp_refl _), .sv (SV.imp_refl _), trivial⟩⟩, ⟨_, rfl, ⟨.sv (SV.imp_refl _), .sv (SV.imp_refl _), trivial⟩⟩, ⟨_, rfl, ⟨.sv (SV.imp_refl _), .sv (SV.imp_refl _), trivial⟩⟩, ⟨_, rfl, ⟨.sv (SV.imp_refl _), .sv (SV.imp_refl _), trivial⟩⟩, trivial⟩ trivial (fun _ _ => rfl)
        · replace hg101 := br_t hg101
          obtain rfl := Option.some.inj hg101
          refine RT.skV rfl rfl (sk rfl) (tl rfl) ?_
          refine RT.skV rfl rfl (sk rfl) (tl rfl) ?_
          refine RT.pickT .none rfl rfl (tl rfl) ?_
          refine RT.done ?_
          refine AThen.n ?_
          refine ⟨true, h, ?_⟩
          try dsimp only
          exact weakL id rfl rfl rfl rfl rfl ⟨.ptr, .ptr, .ptr, .ptr, .ptr, .ptr, .sv (SV.imp_refl _), trivial⟩ ⟨⟨_, rfl, ⟨.sv (SV.imp_refl _), .sv (SV.imp_refl _), trivial⟩⟩, ⟨_, rfl, ⟨.sv (SV.imp_refl _), .sv (SV.imp_refl _), trivial⟩⟩, ⟨_, rfl, ⟨.sv (SV.imp_refl _), .sv (SV.imp_refl _), trivial⟩⟩, ⟨_, rfl, ⟨.sv (SV.imp_refl _), .sv (SV.imp_refl _), trivial⟩⟩, ⟨_, rfl, ⟨.sv (SV.imp_refl _), .sv (SV.imp_refl _), trivial⟩⟩, ⟨_, rfl, ⟨.sv (SV.imp_refl _), .sv (SV.imp_refl _), trivial⟩⟩, trivial⟩ trivial (fun _ _ => rfl)
      · replace hg100 := br_t hg100
        obtain rfl := Option.some.inj hg100
        refine RT.skV rfl rfl (sk rfl) (tl rfl) ?_
        refine RT.skV rfl rfl (sk rfl) (tl rfl) ?_
        refine RT.pickT .none rfl rfl (tl rfl) ?_
        refine RT.mv .none rfl (tl rfl) ?_
        replace h := bind_some h
        obtain ⟨c50_102, hg102, h⟩ := h
        replace hg102 := br_t hg102
        obtain rfl := Option.some.inj hg102
        refine RT.skV rfl rfl (sk rfl) (tl rfl) ?_
        refine RT.skV rfl rfl (sk rfl) (tl rfl) ?_
        refine RT.pickT .none rfl rfl (tl rfl) ?_
        refine RT.done ?_
        refine AThen.n ?_
        refine ⟨true, h, ?_⟩
        try dsimp only
        exact weakL id rfl rfl rfl rfl rfl ⟨.ptr, .ptr, .ptr, .ptr, .ptr, .ptr, .sv (SV.imp_refl _), trivial⟩ ⟨⟨_, rfl, ⟨.sv (SV.imp_refl _), .sv (SV.imp_refl _), trivial⟩⟩, ⟨_, rfl, ⟨.sv (SV.imp_refl _), .sv (SV.imp_refl _), trivial⟩⟩, ⟨_, rfl, ⟨.sv (SV.imp_refl _), .sv (SV.imp_refl _), trivial⟩⟩, ⟨_, rfl, ⟨.sv (SV.imp_refl _), .sv (SV.imp_refl _), trivial⟩⟩, ⟨_, rfl, ⟨.sv (SV.imp_refl _), .sv (SV.imp_refl _), trivial⟩⟩, ⟨_, rfl, ⟨.sv (SV.imp_refl _), .sv (SV.imp_refl _), trivial⟩⟩, trivial⟩ trivial (fun _ _ => rfl)
    · replace hg99 := br_t hg99
      obtain rfl := Option.some.inj hg99
      refine RT.skV rfl rfl (sk rfl) (tl rfl) ?_
      refine RT.skV rfl rfl (sk rfl) (tl rfl) ?_
      refine RT.pickT .none rfl rfl (tl rfl) ?_
      refine RT.mv .none rfl (tl rfl) ?_
      replace h := bind_some h
      obtain ⟨c46_103, hg103, h⟩ := h
      replace hg103 := br_t hg103
      obtain rfl := Option.some.inj hg103
      refine RT.skV rfl rfl (sk rfl) (tl rfl) ?_
      refine RT.skV rfl rfl (sk rfl) (tl rfl) ?_
      refine RT.pickT .none rfl rfl (tl rfl) ?_
      refine RT.mv .none rfl (tl rfl) ?_
      replace h := bind_some h
      obtain ⟨c50_104, hg104, h⟩ := h
      replace hg104 := br_t hg104
      obtain rfl := Option.some.inj hg104
      refine RT.skV rfl rfl (sk rfl) (tl rfl) ?_
      refine RT.skV rfl rfl (sk rfl) (tl rfl) ?_
      refine RT.pickT .none rfl rfl (tl rfl) ?_
      refine RT.done ?_
      refine AThen.n ?_
      refine ⟨true, h, ?_⟩
      try dsimp only
      exact weakL id rfl rfl rfl rfl rfl ⟨.ptr, .ptr, .ptr, .ptr, .ptr, .ptr, .sv (SV.imp_refl _), trivial⟩ ⟨⟨_, rfl, ⟨.sv (SV.imp_refl _), .sv (SV.imp_refl _), trivial⟩⟩, ⟨_, rfl, ⟨.sv (SV.imp_refl _), .sv (SV.imp_refl _), trivial⟩⟩, ⟨_, rfl, ⟨.sv (SV.imp_refl _), .sv (SV.imp_refl _), trivial⟩⟩, ⟨_, rfl, ⟨.sv (SV.imp_refl _), .sv (SV.imp_refl _), trivial⟩⟩, ⟨_, rfl, ⟨.sv (SV.imp_refl _), .sv (SV.imp_refl _), trivial⟩⟩, ⟨_, rfl, ⟨.sv (SV.imp_refl _), .sv (SV.imp_refl _), trivial⟩⟩, trivial⟩ trivial (fun _ _ => rfl)
  · try dsimp only
    refine AThen.n ?_
    cases y50j9
    · replace h := br_f h
      refine ok_condF rfl ?_
      refine ok_skip ?_
      refine AThen.n ?_
      refine ok_seq ?_
      refine ok_tailJ h (fun j55 => AS.mkL 90 [(0, .sv (.v (.bool j55)))] [] []) (fun h => ?_) (fun y0j54 h => ?_)
      · refine ok_region ?_
        refine RT.load .none rfl rfl (.cons rfl (.cons rfl (.nil))) rfl (tl rfl) ?_
        replace h := bind_some h
        obtain ⟨x52, h52, h⟩ := h
        refine RT.call .none (law01_is_ok h52) rfl ⟨rfl, rfl, trivial⟩ (tl rfl) ?_
        refine RT.mv .none rfl (tl rfl) ?_
        replace h := bind_some h
        obtain ⟨c56_56, hg56, h⟩ := h
        cases x52
        · replace hg56 := br_f hg56
          obtain rfl := Option.some.inj hg56
          refine RT.skV rfl rfl (sk rfl) (tl rfl) ?_
          refine RT.skV rfl rfl (sk rfl) (tl rfl) ?_
          refine RT.pickF .none rfl rfl (tl rfl) ?_
          refine RT.mv .none rfl (tl rfl) ?_
          replace h := bind_some h
          obtain ⟨c60_85, hg85, h⟩ := h
          replace hg85 := br_f hg85
          obtain rfl := Option.some.inj hg85
          refine RT.skV rfl rfl (sk rfl) (tl rfl) ?_
          refine RT.skV rfl rfl (sk rfl) (tl rfl) ?_
          refine RT.pickF .none rfl rfl (tl rfl) ?_
          refine RT.mv .none rfl (tl rfl) ?_
          replace h := bind_some h
          obtain ⟨c64_86, hg86, h⟩ := h
          replace hg86 := br_f hg86
          obtain rfl := Option.some.inj hg86
          refine RT.skV rfl rfl (sk rfl) (tl rfl) ?_
          refine RT.skV rfl rfl (sk rfl) (tl rfl) ?_
          refine RT.pickF .none rfl rfl (tl rfl) ?_
          refine RT.mv .none rfl (tl rfl) ?_
          replace h := bind_some h
          obtain ⟨c68_87, hg87, h⟩ := h
          replace hg87 := br_f hg87
          obtain rfl := Option.some.inj hg87
          refine RT.skV rfl rfl (sk rfl) (tl rfl) ?_
          refine RT.skV rfl rfl (sk rfl) (tl rfl) ?_
          refine RT.pickF .none rfl rfl (tl rfl) ?_
          refine RT.mv .none rfl (tl rfl) ?_
          replace h := bind_some h
          obtain ⟨c72_88, hg88, h⟩ := h
          replace hg88 := br_f hg88
          obtain rfl := Option.some.inj hg88
          refine RT.skV rfl rfl (sk rfl) (tl rfl) ?_
          refine RT.skV rfl rfl (sk rfl) (tl rfl) ?_
          refine RT.pickF .none rfl rfl (tl rfl) ?_
          refine RT.mv .none rfl (tl rfl) ?_
          replace h := bind_some h
          obtain ⟨c78_89, hg89, h⟩ := h
          replace hg89 := br_f hg89
          obtain rfl := Option.some.inj hg89
          refine RT.skV rfl rfl (sk rfl) (tl rfl) ?_
          refine RT.skV rfl rfl (sk rfl) (tl rfl) ?_
          refine RT.skV rfl rfl (sk rfl) (tl rfl) ?_
          refine RT.skV rfl rfl (sk rfl) (tl rfl) ?_
          refine RT.pickF .none rfl rfl (tl rfl) ?_
          refine RT.mv .none rfl (tl rfl) ?_
          replace h := bind_some h
          obtain ⟨c84_90, hg90, h⟩ := h
          replace hg90 := br_f hg90
          obtain rfl := Option.some.inj hg90
          refine RT.skV rfl rfl (sk rfl) (tl rfl) ?_
          refine RT.skV rfl rfl (sk rfl) (tl rfl) ?_
          refine RT.skV rfl rfl (sk rfl) (tl rfl) ?_
          refine RT.skV rfl rfl (sk rfl) (tl rfl) ?_
          refine RT.pickF .none rfl rfl (tl rfl) ?_
          refine RT.mv .none rfl (tl rfl) ?_
          replace h := bind_some h
          obtain ⟨c89_91, hg91, h⟩ := h
          replace hg91 := br_f hg91
          obtain rfl := Option.some.inj hg91
          refine RT.skV rfl rfl (sk rfl) (tl rfl) ?_
          refine RT.skV rfl rfl (sk rfl) (tl rfl) ?_
          refine RT.skV rfl rfl (sk rfl) (tl rfl) ?_
          refine RT.pickF .none rfl rfl (tl rfl) ?_
          refine RT.asg .none rfl (tl rfl) ?_
          refine RT.done ?_
          refine AThen.n ?_
          refine ⟨false, h, ?_⟩
          try dsimp only
          exact weakL id rfl rfl rfl rfl rfl ⟨.sv (SV.imp_refl _), trivial⟩ trivial trivial (fun _ _ => rfl)
        · replace hg56 := br_t hg56
          refine RT.load (.some rfl rfl) rfl rfl (.cons rfl (.cons rfl (.nil))) rfl (tl rfl) ?_
          replace hg56 := bind_some hg56
          obtain ⟨x55, h55, hg56⟩ := hg56
          refine RT.call (.some rfl rfl) (law01_is_ok h55) rfl ⟨rfl, rfl, trivial⟩ (tl rfl) ?_
          obtain rfl := Option.some.inj hg56
          refine RT.pickT .none rfl rfl (tl rfl) ?_
          refine RT.mv .none rfl (tl rfl) ?_
          replace h := bind_some h
          obtain ⟨c60_57, hg57, h⟩ := h
          cases x55
          · replace hg57 := br_f hg57
            obtain rfl := Option.some.inj hg57
            refine RT.skV rfl rfl (sk rfl) (tl rfl) ?_
            refine RT.skV rfl rfl (sk rfl) (tl rfl) ?_
            refine RT.pickF .none rfl rfl (tl rfl) ?_
            refine RT.mv .none rfl (tl rfl) ?_
            replace h := bind_some h
            obtain ⟨c64_79, hg79, h⟩ := h
            replace hg79 := br_f hg79
            obtain rfl := Option.some.inj hg79
            refine RT.skV rfl rfl (sk rfl) (tl rfl) ?_
            refine RT.skV rfl rfl (sk rfl) (tl rfl) ?_
            refine RT.pickF .none rfl rfl (tl rfl) ?_
            refine RT.mv .none rfl (tl rfl) ?_
            replace h := bind_some h
            obtain ⟨c68_80, hg80, h⟩ := h
            replace hg80 := br_f hg80
            obtain rfl := Option.some.inj hg80
            refine RT.skV rfl rfl (sk rfl) (tl rfl) ?_
            refine RT.skV rfl rfl (sk rfl) (tl rfl) ?_
            refine RT.pickF .none rfl rfl (tl rfl) ?_
            refine RT.mv .none rfl (tl rfl) ?_
            replace h := bind_some h
            obtain ⟨c72_81, hg81, h⟩ := h
            replace hg81 := br_f hg81
            obtain rfl := Option.some.inj hg81
            refine RT.skV rfl rfl (sk rfl) (tl rfl) ?_
            refine RT.skV rfl rfl (sk rfl) (tl rfl) ?_
            refine RT.pickF .none rfl rfl (tl rfl) ?_
            refine RT.mv .none rfl (tl rfl) ?_
            replace h := bind_some h
            obtain ⟨c78_82, hg82, h⟩ := h
            replace hg82 := br_f hg82
            obtain rfl := Option.some.inj hg82
            refine RT.skV rfl rfl (sk rfl) (tl rfl) ?_
            refine RT.skV rfl rfl (sk rfl) (tl rfl) ?_
            refine RT.skV rfl rfl (sk rfl) (tl rfl) ?_
            refine RT.skV rfl rfl (sk rfl) (tl rfl) ?_
            refine RT.pickF .none rfl rfl (tl rfl) ?_
            refine RT.mv .none rfl (tl rfl) ?_
            replace h := bind_some h
            obtain ⟨c84_83, hg83, h⟩ := h
            replace hg83 := br_f hg83
            obtain rfl := Option.some.inj hg83
            refine RT.skV rfl rfl (sk rfl) (tl rfl) ?_
            refine RT.skV rfl rfl (sk rfl) (tl rfl) ?_
            refine RT.skV rfl rfl (sk rfl) (tl rfl) ?_
            refine RT.skV rfl rfl (sk rfl) (tl rfl) ?_
            refine RT.pickF .none rfl rfl (tl rfl) ?_
            refine RT.mv .none rfl (tl rfl) ?_
            replace h := bind_some h
            obtain ⟨c89_84, hg84, h⟩ := h
            replace hg84 := br_f hg84
            obtain rfl := Option.some.inj hg84
            refine RT.skV rfl rfl (sk rfl) (tl rfl) ?_
            refine RT.skV rfl rfl (sk rfl) (tl rfl) ?_
            refine RT.skV rfl rfl (sk rfl) (tl rfl) ?_
            refine RT.pickF .none rfl rfl (tl rfl) ?_
            refine RT.asg .none rfl (tl rfl) ?_
            refine RT.done ?_
            refine AThen.n ?_
            refine ⟨false, h, ?_⟩
            try dsimp only
            exact weakL id rfl rfl rfl rfl rfl ⟨.sv (SV.imp_refl _), trivial⟩ trivial trivial (fun _ _ => rfl)
          · replace hg57 := br_t hg57
            refine RT.load (.some rfl rfl) rfl rfl (.cons rfl (.cons rfl (.nil))) rfl (tl rfl) ?_
            replace hg57 := bind_some hg57
            obtain ⟨x59, h59, hg57⟩ := hg57
            refine RT.call (.some rfl rfl) (law01_is_ok h59) rfl ⟨rfl, rfl, trivial⟩ (tl rfl) ?_
            obtain rfl := Option.some.inj hg57
            refine RT.pickT .none rfl rfl (tl rfl) ?_
            refine RT.mv .none rfl (tl rfl) ?_
            replace h := bind_some h
            obtain ⟨c64_58, hg58, h⟩ := h
            cases x59
            · replace hg58 := br_f hg58
              obtain rfl := Option.some.inj hg58
              refine RT.skV rfl rfl (sk rfl) (tl rfl) ?_
              refine RT.skV rfl rfl (sk rfl) (tl rfl) ?_
              refine RT.pickF .none rfl rfl (tl rfl) ?_
              refine RT.mv .none rfl (tl rfl) ?_
              replace h := bind_some h
              obtain ⟨c68_74, hg74, h⟩ := h
              replace hg74 := br_f hg74
              obtain rfl := Option.some.inj hg74
              refine RT.skV rfl rfl (sk rfl) (tl rfl) ?_
              refine RT.skV rfl rfl (sk rfl) (tl rfl) ?_
              refine RT.pickF .none rfl rfl (tl rfl) ?_
              refine RT.mv .none rfl (tl rfl) ?_
              replace h := bind_some h
              obtain ⟨c72_75, hg75, h⟩ := h
              replace hg75 := br_f hg75
              obtain rfl := Option.some.inj hg75
              refine RT.skV rfl rfl (sk rfl) (tl rfl) ?_
              refine RT.skV rfl rfl (sk rfl) (tl rfl) ?_
              refine RT.pickF .none rfl rfl (tl rfl) ?_
              refine RT.mv .none rfl (tl rfl) ?_
              replace h := bind_some h
              obtain ⟨c78_76, hg76, h⟩ := h
              replace hg76 := br_f hg76
              obtain rfl := Option.some.inj hg76
              refine RT.skV rfl rfl (sk rfl) (tl rfl) ?_
              refine RT.skV rfl rfl (sk rfl) (tl rfl) ?_
              refine RT.skV rfl rfl (sk rfl) (tl rfl) ?_
              refine RT.skV rfl rfl (sk rfl) (tl rfl) ?_
              refine RT.pickF .none rfl rfl (tl rfl) ?_
              refine RT.mv .none rfl (tl rfl) ?_
              replace h := bind_some h
              obtain ⟨c84_77, hg77, h⟩ := h
              replace hg77 := br_f hg77
              obtain rfl := Option.some.inj hg77
              refine RT.skV rfl rfl (sk rfl) (tl rfl) ?_
              refine RT.skV rfl rfl (sk rfl) (tl rfl) ?_
              refine RT.skV rfl rfl (sk rfl) (tl rfl) ?_
              refine RT.skV rfl rfl (sk rfl) (tl rfl) ?_
              refine RT.pickF .none rfl rfl (tl rfl) ?_
              refine RT.mv .none rfl (tl rfl) ?_
              replace h := bind_some h
              obtain ⟨c89_78, hg78, h⟩ := h
              replace hg78 := br_f hg78
              obtain rfl := Option.some.inj hg78
              refine RT.skV rfl rfl (sk rfl) (tl rfl) ?_
              refine RT.skV rfl rfl (sk rfl) (tl rfl) ?_
              refine RT.skV rfl rfl (sk rfl) (tl rfl) ?_
              refine RT.pickF .none rfl rfl (tl rfl) ?_
              refine RT.asg .none rfl (tl rfl) ?_
              refine RT.done ?_
              refine AThen.n ?_
              refine ⟨false, h, ?_⟩
              try dsimp only
              exact weakL id rfl rfl rfl rfl rfl ⟨.sv (SV.imp_refl _), trivial⟩ trivial trivial (fun _ _ => rfl)
            · replace hg58 := br_t hg58
              refine RT.load (.some rfl rfl) rfl rfl (.cons rfl (.cons rfl (.nil))) rfl (tl rfl) ?_
              replace hg58 := bind_some hg58
              obtain ⟨x63, h63, hg58⟩ := hg58
              refine RT.call (.some rfl rfl) (law01_is_ok h63) rfl ⟨rfl, rfl, trivial⟩ (tl rfl) ?_
              obtain rfl := Option.some.inj hg58
              refine RT.pickT .none rfl rfl (tl rfl) ?_
              refine RT.mv .none rfl (tl rfl) ?_
              replace h := bind_some h
              obtain ⟨c68_59, hg59, h⟩ := h
              cases x63
              · replace hg59 := br_f hg59
                obtain rfl := Option.some.inj hg59
                refine RT.skV rfl rfl (sk rfl) (tl rfl) ?_
                refine RT.skV rfl rfl (sk rfl) (tl rfl) ?_
                refine RT.pickF .none rfl rfl (tl rfl) ?_
                refine RT.mv .none rfl (tl rfl) ?_
                replace h := bind_some h
                obtain ⟨c72_70, hg70, h⟩ := h
                replace hg70 := br_f hg70
                obtain rfl := Option.some.inj hg70
                refine RT.skV rfl rfl (sk rfl) (tl rfl) ?_
                refine RT.skV rfl rfl (sk rfl) (tl rfl) ?_
                refine RT.pickF .none rfl rfl (tl rfl) ?_
                refine RT.mv .none rfl (tl rfl) ?_
                replace h := bind_some h
                obtain ⟨c78_71, hg71, h⟩ := h
                replace hg71 := br_f hg71
                obtain rfl := Option.some.inj hg71
                refine RT.skV rfl rfl (sk rfl) (tl rfl) ?_
                refine RT.skV rfl rfl (sk rfl) (tl rfl) ?_
                refine RT.skV rfl rfl (sk rfl) (tl rfl) ?_
                refine RT.skV rfl rfl (sk rfl) (tl rfl) ?_
                refine RT.pickF .none rfl rfl (tl rfl) ?_
                refine RT.mv .none rfl (tl rfl) ?_
                replace h := bind_some h
                obtain ⟨c84_72, hg72, h⟩ := h
                replace hg72 := br_f hg72
                obtain rfl := Option.some.inj hg72
                refine RT.skV rfl rfl (sk rfl) (tl rfl) ?_
                refine RT.skV rfl rfl (sk rfl) (tl rfl) ?_
                refine RT.skV rfl rfl (sk rfl) (tl rfl) ?_
                refine RT.skV rfl rfl (sk rfl) (tl rfl) ?_
                refine RT.pickF .none rfl rfl (tl rfl) ?_
                refine RT.mv .none rfl (tl rfl) ?_
                replace h := bind_some h
                obtain ⟨c89_73, hg73, h⟩ := h
                replace hg73 := br_f hg73
                obtain rfl := Option.some.inj hg73
                refine RT.skV rfl rfl (sk rfl) (tl rfl) ?_
                refine RT.skV rfl rfl (sk rfl) (tl rfl) ?_
                refine RT.skV rfl rfl (sk rfl) (tl rfl) ?_
                refine RT.pickF .none rfl rfl (tl rfl) ?_
                refine RT.asg .none rfl (tl rfl) ?_
                refine RT.done ?_
                refine AThen.n ?_
                refine ⟨false, h, ?_⟩
                try dsimp only
                exact weakL id rfl rfl rfl rfl rfl ⟨.sv (SV.imp_refl _), trivial⟩ trivial trivial (fun _ _ => rfl)
              · replace hg59 := br_t hg59
                refine RT.load (.some rfl rfl) rfl rfl (.cons rfl (.cons rfl (.nil))) rfl (tl rfl) ?_
                replace hg59 := bind_some hg59
                obtain ⟨x67, h67, hg59⟩ := hg59
                refine RT.call (.some rfl rfl) (law01_is_ok h67) rfl ⟨rfl, rfl, trivial⟩ (tl rfl) ?_
                obtain rfl := Option.some.inj hg59
                refine RT.pickT .none rfl rfl (tl rfl) ?_
                refine RT.mv .none rfl (tl rfl) ?_
                replace h := bind_some h
                obtain ⟨c72_60, hg60, h⟩ := h
                cases x67
                · replace hg60 := br_f hg60
                  obtain rfl := Option.some.inj hg60
                  refine RT.skV rfl rfl (sk rfl) (tl rfl) ?_
                  refine RT.skV rfl rfl (sk rfl) (tl rfl) ?_
                  refine RT.pickF .none rfl rfl (tl rfl) ?_
                  refine RT.mv .none rfl (tl rfl) ?_
                  replace h := bind_some h
                  obtain ⟨c78_67, hg67, h⟩ := h
                  replace hg67 := br_f hg67
                  obtain rfl := Option.some.inj hg67
                  refine RT.skV rfl rfl (sk rfl) (tl rfl) ?_
                  refine RT.skV rfl rfl (sk rfl) (tl rfl) ?_
                  refine RT.skV rfl rfl (sk rfl) (tl rfl) ?_
                  refine RT.skV rfl rfl (sk rfl) (tl rfl) ?_
                  refine RT.pickF .none rfl rfl (tl rfl) ?_
                  refine RT.mv .none rfl (tl rfl) ?_
                  replace h := bind_some h
                  obtain ⟨c84_68, hg68, h⟩ := h
                  replace hg68 := br_f hg68
                  obtain rfl := Option.some.inj hg68
                  refine RT.skV rfl rfl (sk rfl) (tl rfl) ?_
                  refine RT.skV rfl rfl (sk rfl) (tl rfl) ?_
                  refine RT.skV rfl rfl (sk rfl) (tl rfl) ?_
                  refine RT.skV rfl rfl (sk rfl) (tl rfl) ?_
                  refine RT.pickF .none rfl rfl (tl rfl) ?_
                  refine RT.mv .none rfl (tl rfl) ?_
                  replace h := bind_some h
                  obtain ⟨c89_69, hg69, h⟩ := h
                  replace hg69 := br_f hg69
                  obtain rfl := Option.some.inj hg69
                  refine RT.skV rfl rfl (sk rfl) (tl rfl) ?_
                  refine RT.skV rfl rfl (sk rfl) (tl rfl) ?_
                  refine RT.skV rfl rfl (sk rfl) (tl rfl) ?_
                  refine RT.pickF .none rfl rfl (tl rfl) ?_
                  refine RT.asg .none rfl (tl rfl) ?_
                  refine RT.done ?_
                  refine AThen.n ?_
                  refine ⟨false, h, ?_⟩
                  try dsimp only
                  exact weakL id rfl rfl rfl rfl rfl ⟨.sv (SV.imp_refl _), trivial⟩ trivial trivial (fun _ _ => rfl)
                · replace hg60 := br_t hg60
                  refine RT.load (.some rfl rfl) rfl rfl (.cons rfl (.cons rfl (.nil))) rfl (tl rfl) ?_
                  replace hg60 := bind_some hg60
                  obtain ⟨x71, h71, hg60⟩ := hg60
                  refine RT.call (.some rfl rfl) (law01_is_ok h71) rfl ⟨rfl, rfl, trivial⟩ (tl rfl) ?_
                  obtain rfl := Option.some.inj hg60
                  refine RT.pickT .none rfl rfl (tl rfl) ?_
                  refine RT.mv .none rfl (tl rfl) ?_
                  replace h := bind_some h
                  obtain ⟨c78_61, hg61, h⟩ := h
                  cases x71
                  · replace hg61 := br_f hg61
                    obtain rfl := Option.some.inj hg61
                    refine RT.skV rfl rfl (sk rfl) (tl rfl) ?_
                    refine RT.skV rfl rfl (sk rfl) (tl rfl) ?_
                    refine RT.skV rfl rfl (sk rfl) (tl rfl) ?_
                    refine RT.skV rfl rfl (sk rfl) (tl rfl) ?_
                    refine RT.pickF .none rfl rfl (tl rfl) ?_
                    refine RT.mv .none rfl (tl rfl) ?_
                    replace h := bind_some h
                    obtain ⟨c84_65, hg65, h⟩ := h
                    replace hg65 := br_f hg65
                    obtain rfl := Option.some.inj hg65
                    refine RT.skV rfl rfl (sk rfl) (tl rfl) ?_
                    refine RT.skV rfl rfl (sk rfl) (tl rfl) ?_
                    refine RT.skV rfl rfl (sk rfl) (tl rfl) ?_
                    refine RT.skV rfl rfl (sk rfl) (tl rfl) ?_
                    refine RT.pickF .none rfl rfl (tl rfl) ?_
                    refine RT.mv .none rfl (tl rfl) ?_
                    replace h := bind_some h
                    obtain ⟨c89_66, hg66, h⟩ := h
                    replace hg66 := br_f hg66
                    obtain rfl := Option.some.inj hg66
                    refine RT.skV rfl rfl (sk rfl) (tl rfl) ?_
                    refine RT.skV rfl rfl (sk rfl) (tl rfl) ?_
                    refine RT.skV rfl rfl (sk rfl) (tl rfl) ?_
                    refine RT.pickF .none rfl rfl (tl rfl) ?_
                    refine RT.asg .none rfl (tl rfl) ?_
                    refine RT.done ?_
                    refine AThen.n ?_
                    refine ⟨false, h, ?_⟩
                    try dsimp only
                    exact weakL id rfl rfl rfl rfl rfl ⟨.sv (SV.imp_refl _), trivial⟩ trivial trivial (fun _ _ => rfl)
                  · replace hg61 := br_t hg61
                    replace hg61 := bind_some hg61
                    obtain ⟨⟨x74_0, x74_1⟩, h74, hg61⟩ := hg61
                    refine RT.call (.some rfl rfl) (law01_n_ok h74) rfl ⟨rfl, trivial⟩ (tl rfl) ?_
                    replace hg61 := bind_some hg61
                    obtain ⟨⟨x75_0, x75_1⟩, h75, hg61⟩ := hg61
                    refine RT.call (.some rfl rfl) (law01_n_ok h75) rfl ⟨rfl, trivial⟩ (tl rfl) ?_
                    replace hg61 := bind_some hg61
                    obtain ⟨⟨x76_0, x76_1⟩, h76, hg61⟩ := hg61
                    refine RT.call (.some rfl rfl) (whole_GCD_ok h76) rfl ⟨rfl, rfl, trivial⟩ (tl rfl) ?_
                    replace hg61 := bind_some hg61
                    obtain ⟨x77, h77, hg61⟩ := hg61
                    refine RT.call (.some rfl rfl) (law01_is_ok h77) rfl ⟨rfl, rfl, trivial⟩ (tl rfl) ?_
                    obtain rfl := Option.some.inj hg61
                    refine RT.pickT .none rfl rfl (tl rfl) ?_
                    refine RT.mv .none rfl (tl rfl) ?_
                    replace h := bind_some h
                    obtain ⟨c84_62, hg62, h⟩ := h
                    cases x77
                    · replace hg62 := br_f hg62
                      obtain rfl := Option.some.inj hg62
                      refine RT.skV rfl rfl (sk rfl) (tl rfl) ?_
                      refine RT.skV rfl rfl (sk rfl) (tl rfl) ?_
                      refine RT.skV rfl rfl (sk rfl) (tl rfl) ?_
                      refine RT.skV rfl rfl (sk rfl) (tl rfl) ?_
                      refine RT.pickF .none rfl rfl (tl rfl) ?_
                      refine RT.mv .none rfl (tl rfl) ?_
                      replace h := bind_some h
                      obtain ⟨c89_64, hg64, h⟩ := h
                      replace hg64 := br_f hg64
                      obtain rfl := Option.some.inj hg64
                      refine RT.skV rfl rfl (sk rfl) (tl rfl) ?_
                      refine RT.skV rfl rfl (sk rfl) (tl rfl) ?_
                      refine RT.skV rfl rfl (sk rfl) (tl rfl) ?_
                      refine RT.pickF .none rfl rfl (tl rfl) ?_
                      refine RT.asg .none rfl (tl rfl) ?_
                      refine RT.done ?_
                      refine AThen.n ?_
                      refine ⟨false, h, ?_⟩
                      try dsimp only
                      exact weakL id rfl rfl rfl rfl rfl ⟨.sv (SV.imp_refl _), trivial⟩ trivial trivial (fun _ _ => rfl)
                    · replace hg62 := br_t hg62
                      replace hg62 := bind_some hg62
                      obtain ⟨⟨x80_0, x80_1⟩, h80, hg62⟩ := hg62
                      refine RT.call (.some rfl rfl) (law01_n_ok h80) rfl ⟨rfl, trivial⟩ (tl rfl) ?_
                      replace hg62 := bind_some hg62
                      obtain ⟨⟨x81_0, x81_1⟩, h81, hg62⟩ := hg62
                      refine RT.call (.some rfl rfl) (law01_n_ok h81) rfl ⟨rfl, trivial⟩ (tl rfl) ?_
                      replace hg62 := bind_some hg62
                      obtain ⟨⟨x82_0, x82_1⟩, h82, hg62⟩ := hg62
                      refine RT.call (.some rfl rfl) (whole_GCD_ok h82) rfl ⟨rfl, rfl, trivial⟩ (tl rfl) ?_
                      replace hg62 := bind_some hg62
                      obtain ⟨x83, h83, hg62⟩ := hg62
                      refine RT.call (.some rfl rfl) (law01_is_ok h83) rfl ⟨rfl, rfl, trivial⟩ (tl rfl) ?_
                      obtain rfl := Option.some.inj hg62
                      refine RT.pickT .none rfl rfl (tl rfl) ?_
                      refine RT.mv .none rfl (tl rfl) ?_
                      replace h := bind_some h
                      obtain ⟨c89_63, hg63, h⟩ := h
                      cases x83
                      · replace hg63 := br_f hg63
                        obtain rfl := Option.some.inj hg63
                        refine RT.skV rfl rfl (sk rfl) (tl rfl) ?_
                        refine RT.skV rfl rfl (sk rfl) (tl rfl) ?_
                        refine RT.skV rfl rfl (sk rfl) (tl rfl) ?_
                        refine RT.pickF .none rfl rfl (tl rfl) ?_
                        refine RT.asg .none rfl (tl rfl) ?_
                        refine RT.done ?_
                        refine AThen.n ?_
                        refine ⟨false, h, ?_⟩
                        try dsimp only
                        exact weakL id rfl rfl rfl rfl rfl ⟨.sv (SV.imp_refl _), trivial⟩ trivial trivial (fun _ _ => rfl)
                      · replace hg63 := br_t hg63
                        replace hg63 := bind_some hg63
                        obtain ⟨⟨x86_0, x86_1⟩, h86, hg63⟩ := hg63
                        refine RT.call (.some rfl rfl) (law01_n_ok h86) rfl ⟨rfl, trivial⟩ (tl rfl) ?_
                        replace hg63 := bind_some hg63
                        obtain ⟨x87, h87, hg63⟩ := hg63
                        refine RT.call (.some rfl rfl) (whole_Format_ok h87) rfl ⟨rfl, trivial⟩ (tl rfl) ?_
                        replace hg63 := let_some hg63
                        obtain ⟨x88, h88, hg63⟩ := hg63
                        refine RT.seql (l := x87) (k := [45, 57, 50, 50, 51, 51, 55, 50, 48, 51, 54, 56, 53, 52, 55, 55, 53, 56, 48, 56]) (.some rfl rfl) rfl rfl (tl rfl) h88 ?_
                        obtain rfl := Option.some.inj hg63
                        refine RT.pickT .none rfl rfl (tl rfl) ?_
                        refine RT.asg .none rfl (tl rfl) ?_
                        refine RT.done ?_
                        refine AThen.n ?_
                        refine ⟨x88, h, ?_⟩
                        try dsimp only
                        exact weakL id rfl rfl rfl rfl rfl ⟨.sv (SV.imp_refl _), trivial⟩ trivial trivial (fun _ _ => rfl)
      · try dsimp only
        refine AThen.n ?_
        refine ok_ret ?_
        obtain rfl := Option.some.inj h
        exact ⟨.inr rfl, res_imp (.tmp rfl (.nil)) (SV.imp_refl _)⟩
    · replace h := br_t h
      refine ok_condT rfl ?_
      refine ok_seq ?_
      refine ok_region ?_
      refine RT.asg .none rfl (tl rfl) ?_
      refine RT.done ?_
      refine AThen.n ?_
      refine ok_ret ?_
      refine AThen.r ?_
      obtain rfl := Option.some.inj h
      exact ⟨.inr rfl, res_imp (.tmp rfl (.nil)) (SV.imp_refl _)⟩
theorem law01_Long_ok {x0 : List Zr} {r : Bool} (h : law01_Long_m x0 = some r) : Pure Try.prog 9 [slc 2 (List.map eZ x0)] (.v (.bool r)) := by
  refine pure_of_ok Try.func9 rfl (Nat.le_of_ble_eq_true rfl) (fun wld M vs hvs => ?_)
  unfold law01_Long_m at h
  refine ok_seq ?_
  refine ok_region ?_
  refine RT.asg .none rfl (tl rfl) ?_
  refine RT.done ?_
  refine AThen.n ?_
  refine ok_seq ?_
  refine ok_seq ?_
  refine ok_region ?_
  refine RT.asg .none rfl (tl rfl) ?_
  refine RT.done ?_
  refine AThen.n ?_
  replace h := bind_some h
  obtain ⟨e6, hl6, ho6⟩ := h
  refine ok_tailP (fun (xe6 : Unit) => AS.mkL 17 [] [] []) (fun xe6 => .inl xe6 = e6) ?_ (fun xe6 hx6 => ?_)
  · refine ok_block ?_
    refine ok_loopM hl6 (fun s6 => AS.mkL 17 [(0, .sv (slc 2 (List.map eZ x0))), (3, .sv (.v (.int .i64 s6)))] [] []) (by (try dsimp only); exact weakL id rfl rfl rfl rfl rfl ⟨.sv (SV.imp_refl _), .sv (SV.imp_refl _), trivial⟩ trivial trivial (fun _ _ => rfl)) (fun y3l3 y6 G6 h hG6 hE6 => ?_)
    try dsimp only
    refine ok_seq ?_
    refine ok_seq ?_
    refine ok_region ?_
    refine RT.mv .none rfl (tl rfl) ?_
    refine RT.mv .none rfl (tl rfl) ?_
    replace h := let_some h
    obtain ⟨x6, h6, h⟩ := h
    refine RT.lenM .none rfl (tl rfl) h6 ?_
    replace h := let_some h
    obtain ⟨x7, h7, h⟩ := h
    refine RT.lss .none _ rfl rfl (tl rfl) h7 ?_
    refine RT.done ?_
    refine AThen.n ?_
    cases x7
    · replace h := br_f h
      refine ok_condF rfl ?_
      refine ok_exit ?_
      refine AThen.x ?_
      refine AThen.x ?_
      refine AInB.x ?_
      refine AThen.n ?_
      obtain rfl := Option.some.inj h
      refine ⟨(), hE6 _ rfl, ?_⟩
      try dsimp only
      exact weakL id rfl rfl rfl rfl rfl trivial trivial trivial (fun _ _ => rfl)
    · replace h := br_t h
      refine ok_condT rfl ?_
      refine ok_skip ?_
      refine AThen.n ?_
      refine ok_seq ?_
      refine ok_block ?_
      refine ok_seq ?_
      refine ok_region ?_
      refine RT.mv .none rfl (tl rfl) ?_
      refine RT.mv .none rfl (tl rfl) ?_
      replace h := bind_some h
      obtain ⟨⟨x12_0, x12_1⟩, h12, h⟩ := h
      refine RT.ixM .none rfl rfl (tl rfl) h12 ?_
      refine RT.fieldAddrR .none rfl (tl rfl) rfl ?_
      refine RT.loadRV .none rfl rfl (tl rfl) ?_
      replace h := let_some h
      obtain ⟨x15, h15, h⟩ := h
      refine RT.lenM .none rfl (tl rfl) h15 ?_
      replace h := let_some h
      obtain ⟨x16, h16, h⟩ := h
      refine RT.gtr .none _ rfl rfl (tl rfl) h16 ?_
      refine RT.done ?_
      refine AThen.n ?_
      cases x16
      · replace h := br_f h
        refine ok_condF rfl ?_
        refine ok_skip ?_
        refine AInB.n ?_
        refine AThen.n ?_
        refine ok_region ?_
        refine RT.mv .none rfl (tl rfl) ?_
        replace h := let_some h
        obtain ⟨x9, h9, h⟩ := h
        refine RT.add .none _ rfl rfl (tl rfl) h9 ?_
        refine RT.asg .none rfl (tl rfl) ?_
        refine RT.done ?_
        obtain rfl := Option.some.inj h
        refine AThen.n ⟨x9, hG6 _ rfl, ?_⟩
        try dsimp only
        exact weakL id rfl rfl rfl rfl rfl ⟨.sv (SV.imp_refl _), .sv (SV.imp_refl _), trivial⟩ trivial trivial (fun _ _ => rfl)
      · replace h := br_t h
        refine ok_condT rfl ?_
        refine ok_seq ?_
        refine ok_region ?_
        refine RT.asg .none rfl (tl rfl) ?_
        refine RT.done ?_
        refine AThen.n ?_
        refine ok_ret ?_
        refine AInB.r ?_
        refine AThen.r ?_
        obtain rfl := Option.some.inj h
        have he6 := hE6 _ rfl
        subst he6
        refine AThen.r ?_
        refine AInB.r ?_
        refine AThen.r ?_
        refine AThen.r ?_
        obtain rfl := Option.some.inj ho6
        exact ⟨.inr rfl, res_imp (.tmp rfl (.nil)) (SV.imp_refl _)⟩
  · subst hx6
    try dsimp only
    refine AThen.n ?_
    refine ok_seq ?_
    refine ok_region ?_
    refine RT.asg .none rfl (tl rfl) ?_
    refine RT.done ?_
    refine AThen.n ?_
    refine ok_ret ?_
    obtain rfl := Option.some.inj ho6
    exact ⟨.inr rfl, res_imp (.tmp rfl (.nil)) (SV.imp_refl _)⟩
theorem law01_Own_ok {x0 : Zr} {r : Zr} (h : law01_Own_m x0 = some r) : Pure Try.prog 11 [.agg (eZ x0)] (.agg (eZ r)) := by
  obtain ⟨x0_0, x0_1⟩ := x0
  refine pure_of_ok Try.func11 rfl (Nat.le_of_ble_eq_true rfl) (fun wld M vs hvs => ?_)
  unfold law01_Own_m at h
  refine ok_seq ?_
  refine ok_region ?_
  refine RT.box .none rfl (tl rfl) rfl rfl ?_
  refine RT.allocI .none (cs := [.v (.bool false), slc 1 (List.map eU32 [])]) (by exact ⟨SV.imp_refl _, imp_nil, trivial⟩) rfl (tl rfl) rfl rfl ?_
  refine RT.done ?_
  refine AThen.n ?_
  refine ok_seq ?_
  refine ok_region_draw mixed ?_
  refine RT.fieldAddr .none rfl (tl rfl) rfl ?_
  refine RT.ldV .none rfl rfl rfl (tl rfl) ?_
  refine RT.fieldAddr .none rfl (tl rfl) rfl ?_
  refine RT.ldV .none rfl rfl rfl (tl rfl) ?_
  replace h := bind_some h
  obtain ⟨x7, h7, h⟩ := h
  refine RT.apIN (k := x0_1) (e := eU32) .none rfl rfl (tl rfl) rfl (tl rfl) h7 ?_
  refine RT.buildI (cs := [_, _]) (cs' := [.v (.bool x0_0), slc 1 (List.map eU32 x7)]) .none (.one rfl (.one rfl (.nil))) rfl ⟨SV.imp_refl _, SV.imp_refl _, trivial⟩ (tl rfl) ?_
  refine RT.store .none rfl rfl rfl rfl rfl ?_
  refine RT.done ⟨by kernel_rfl, ?_⟩
  refine AThen.n ?_
  refine ok_ret ?_
  obtain rfl := Option.some.inj h
  exact ⟨.inr rfl, res_imp (.agg rfl rfl (.cons rfl (.cons rfl (.nil))) rfl (.nil)) (SV.imp_refl _)⟩
end Go.Proofs.Ytgkafblpckcekaa
namespace Go.Proofs.Ytgkafblpckcekaa
open Go.Fw Go.RowKit
theorem ref01_cmp_ok {x0 : List Int} {x1 : List Int} {r : Int} (h : ref01_cmp_m x0 x1 = some r) : Pure Try.prog 68 [slc 1 (List.map eI64 x0), slc 1 (List.map eI64 x1)] (.v (.int .i64 r)) := by
  refine pure_of_ok Try.func68 rfl (Nat.le_of_ble_eq_true rfl) (fun wld M vs hvs => ?_)
  unfold ref01_cmp_m at h
  refine ok_seq ?_
  refine ok_region ?_
  refine RT.asg .none rfl (tl rfl) ?_
  refine RT.done ?_
  refine AThen.n ?_
  refine ok_seq ?_
  refine ok_seq ?_
  refine ok_region ?_
  refine RT.mv .none rfl (tl rfl) ?_
  replace h := let_some h
  obtain ⟨x7, h7, h⟩ := h
  refine RT.lenM .none rfl (tl rfl) h7 ?_
  refine RT.mv .none rfl (tl rfl) ?_
  replace h := let_some h
  obtain ⟨x9, h9, h⟩ := h
  refine RT.lenM .none rfl (tl rfl) h9 ?_
  replace h := let_some h
  obtain ⟨x10, h10, h⟩ := h
  refine RT.max .none _ rfl rfl (tl rfl) (maxI (p := x7) (q := x9) h10) ?_
  replace h := let_some h
  obtain ⟨x11, h11, h⟩ := h
  refine RT.sub .none _ rfl rfl (tl rfl) h11 ?_
  refine RT.asg .none rfl (tl rfl) ?_
  refine RT.done ?_
  refine AThen.n ?_
  replace h := bind_some h
  obtain ⟨e6, hl6, ho6⟩ := h
  refine ok_tailP (fun (xe6 : Unit) => AS.mkL 30 [] [] []) (fun xe6 => .inl xe6 = e6) ?_ (fun xe6 hx6 => ?_)
  · refine ok_block ?_
    refine ok_loopM hl6 (fun s6 => AS.mkL 30 [(0, .sv (slc 1 (List.map eI64 x0))), (1, .sv (slc 1 (List.map eI64 x1))), (5, .sv (.v (.int .i64 s6)))] [] []) (by (try dsimp only); exact weakL id rfl rfl rfl rfl rfl ⟨.sv (SV.imp_refl _), .sv (SV.imp_refl _), .sv (SV.imp_refl _), trivial⟩ trivial trivial (fun _ _ => rfl)) (fun y5l3 y6 G6 h hG6 hE6 => ?_)
    try dsimp only
    refine ok_seq ?_
    refine ok_seq ?_
    refine ok_region ?_
    refine RT.mv .none rfl (tl rfl) ?_
    replace h := let_some h
    obtain ⟨x13, h13, h⟩ := h
    refine RT.geq .none _ rfl rfl (tl rfl) h13 ?_
    refine RT.done ?_
    refine AThen.n ?_
    cases x13
    · replace h := br_f h
      refine ok_condF rfl ?_
      refine ok_exit ?_
      refine AThen.x ?_
      refine AThen.x ?_
      refine AInB.x ?_
      refine AThen.n ?_
      obtain rfl := Option.some.inj h
      refine ⟨(), hE6 _ rfl, ?_⟩
      try dsimp only
      exact weakL id rfl rfl rfl rfl rfl trivial trivial trivial (fun _ _ => rfl)
    · replace h := br_t h
      refine ok_condT rfl ?_
      refine ok_skip ?_
      refine AThen.n ?_
      refine ok_seq ?_
      refine ok_block ?_
      refine ok_seq ?_
      refine ok_seq ?_
      refine ok_region ?_
      refine RT.mv .none rfl (tl rfl) ?_
      refine RT.mv .none rfl (tl rfl) ?_
      replace h := bind_some h
      obtain ⟨x18, h18, h⟩ := h
      refine RT.call .none (ref01_at_ok h18) rfl ⟨rfl, rfl, trivial⟩ (tl rfl) ?_
      refine RT.mv .none rfl (tl rfl) ?_
      refine RT.mv .none rfl (tl rfl) ?_
      replace h := bind_some h
      obtain ⟨x21, h21, h⟩ := h
      refine RT.call .none (ref01_at_ok h21) rfl ⟨rfl, rfl, trivial⟩ (tl rfl) ?_
      replace h := let_some h
      obtain ⟨x22, h22, h⟩ := h
      refine RT.lss .none _ rfl rfl (tl rfl) h22 ?_
      refine RT.done ?_
      refine AThen.n ?_
      cases x22
      · replace h := br_f h
        refine ok_condF rfl ?_
        refine ok_skip ?_
        refine AThen.n ?_
        refine ok_seq ?_
        refine ok_region ?_
        refine RT.mv .none rfl (tl rfl) ?_
        refine RT.mv .none rfl (tl rfl) ?_
        replace h := bind_some h
        obtain ⟨x25, h25, h⟩ := h
        refine RT.call .none (ref01_at_ok h25) rfl ⟨rfl, rfl, trivial⟩ (tl rfl) ?_
        refine RT.mv .none rfl (tl rfl) ?_
        refine RT.mv .none rfl (tl rfl) ?_
        replace h := bind_some h
        obtain ⟨x28, h28, h⟩ := h
        refine RT.call .none (ref01_at_ok h28) rfl ⟨rfl, rfl, trivial⟩ (tl rfl) ?_
        replace h := let_some h
        obtain ⟨x29, h29, h⟩ := h
        refine RT.gtr .none _ rfl rfl (tl rfl) h29 ?_
        refine RT.done ?_
        refine AThen.n ?_
        cases x29
        · replace h := br_f h
          refine ok_condF rfl ?_
          refine ok_skip ?_
          refine AInB.n ?_
          refine AThen.n ?_
          refine ok_region ?_
          refine RT.mv .none rfl (tl rfl) ?_
          replace h := let_some h
          obtain ⟨x15, h15, h⟩ := h
          refine RT.sub .none _ rfl rfl (tl rfl) h15 ?_
          refine RT.asg .none rfl (tl rfl) ?_
          refine RT.done ?_
          obtain rfl := Option.some.inj h
          refine AThen.n ⟨x15, hG6 _ rfl, ?_⟩
          try dsimp only
          exact weakL id rfl rfl rfl rfl rfl ⟨.sv (SV.imp_refl _), .sv (SV.imp_refl _), .sv (SV.imp_refl _), trivial⟩ trivial trivial (fun _ _ => rfl)
        · replace h := br_t h
          refine ok_condT rfl ?_
          refine ok_seq ?_
          refine ok_region ?_
          refine RT.asg .none rfl (tl rfl) ?_
          refine RT.done ?_
          refine AThen.n ?_
          refine ok_ret ?_
          refine AInB.r ?_
          refine AThen.r ?_
          obtain rfl := Option.some.inj h
          have he6 := hE6 _ rfl
          subst he6
          refine AThen.r ?_
          refine AInB.r ?_
          refine AThen.r ?_
          refine AThen.r ?_
          obtain rfl := Option.some.inj ho6
          exact ⟨.inr rfl, res_imp (.tmp rfl (.nil)) (SV.imp_refl _)⟩
      · replace h := br_t h
        refine ok_condT rfl ?_
        refine ok_seq ?_
        refine ok_region ?_
        refine RT.asg .none rfl (tl rfl) ?_
        refine RT.done ?_
        refine AThen.n ?_
        refine ok_ret ?_
        refine AThen.r ?_
        refine AInB.r ?_
        refine AThen.r ?_
        obtain rfl := Option.some.inj h
        have he6 := hE6 _ rfl
        subst he6
        refine AThen.r ?_
        refine AInB.r ?_
        refine AThen.r ?_
        refine AThen.r ?_
        obtain rfl := Option.some.inj ho6
        exact ⟨.inr rfl, res_imp (.tmp rfl (.nil)) (SV.imp_refl _)⟩
  · subst hx6
    try dsimp only
    refine AThen.n ?_
    refine ok_seq ?_
    refine ok_region ?_
    refine RT.asg .none rfl (tl rfl) ?_
    refine RT.done ?_
    refine AThen.n ?_
    refine ok_ret ?_
    obtain rfl := Option.some.inj ho6
    exact ⟨.inr rfl, res_imp (.tmp rfl (.nil)) (SV.imp_refl _)⟩
theorem ref01_add_ok {x0 : List Int} {x1 : List Int} {r : List Int} (h : ref01_add_m x0 x1 = some r) : Pure Try.prog 51 [slc 1 (List.map eI64 x0), slc 1 (List.map eI64 x1)] (slc 1 (List.map eI64 r)) := by
  refine pure_of_ok Try.func51 rfl (Nat.le_of_ble_eq_true rfl) (fun wld M vs hvs => ?_)
  unfold ref01_add_m at h
  refine ok_seq ?_
  refine ok_region ?_
  refine RT.asgI .none rfl (imp_nil (n := 1) (e := eI64)) (tl rfl) ?_
  refine RT.done ?_
  refine AThen.n ?_
  refine ok_seq ?_
  refine ok_region ?_
  refine RT.asg .none rfl (tl rfl) ?_
  refine RT.done ?_
  refine AThen.n ?_
  refine ok_weak (weak_nil 5 304 3 1 rfl rfl (tl rfl)) ?_
  refine ok_seq ?_
  refine ok_region ?_
  refine RT.asg .none rfl (tl rfl) ?_
  refine RT.done ?_
  refine AThen.n ?_
  refine ok_seq ?_
  refine ok_seq ?_
  refine ok_region ?_
  refine RT.asg .none rfl (tl rfl) ?_
  refine RT.done ?_
  refine AThen.n ?_
  replace h := bind_some h
  obtain ⟨e16, hl16, ho16⟩ := h
  refine ok_tailP (fun (r306e15 : (List Int)) => AS.mkL 43 [(5, .row 306)] [] [(306, TR 3 1 eI64 r306e15)]) (fun r306e15 => r306e15 = e16) ?_ (fun r306e15 hx16 => ?_)
  · refine ok_block ?_
    refine ok_loopM hl16 (fun s16 => AS.mkL 43 [(0, .sv (slc 1 (List.map eI64 x0))), (1, .sv (slc 1 (List.map eI64 x1))), (5, .row 306), (6, .sv (.v (.int .i64 s16.1))), (7, .sv (.v (.int .i64 s16.2.1)))] [] [(306, TR 3 1 eI64 s16.2.2)]) (by (try dsimp only); exact weakL (fun i => bif Nat.beq i 306 then 304 else i) rfl rfl rfl rfl rfl ⟨.sv (SV.imp_refl _), .sv (SV.imp_refl _), .row rfl, .sv (SV.imp_refl _), .sv (SV.imp_refl _), trivial⟩ trivial ⟨⟨_, rfl, SVIs.refl _⟩, trivial⟩ (fun i hi => by rw [beq_ne (show i ≠ 306 by omega)]; rfl)) (fun s16 y16 G16 h hG16 hE16 => ?_)
    obtain ⟨y6l8, y7l8, r306l8⟩ := s16
    try dsimp only
    refine ok_seq ?_
    refine ok_seq ?_
    refine ok_tailJ h (fun j22 => AS.mkL 43 [(0, .sv (slc 1 (List.map eI64 x0))), (1, .sv (slc 1 (List.map eI64 x1))), (5, .row 306), (6, .sv (.v (.int .i64 y6l8))), (7, .sv (.v (.int .i64 y7l8))), (22, .sv (.v (.bool j22)))] [] [(306, TR 3 1 eI64 r306l8)]) (fun h => ?_) (fun y22j21 h => ?_)
    · refine ok_region ?_
      refine RT.mv .none rfl (tl rfl) ?_
      refine RT.mv .none rfl (tl rfl) ?_
      replace h := let_some h
      obtain ⟨x11, h11, h⟩ := h
      refine RT.lenM .none rfl (tl rfl) h11 ?_
      replace h := let_some h
      obtain ⟨x12, h12, h⟩ := h
      refine RT.lss .none _ rfl rfl (tl rfl) h12 ?_
      refine RT.mv .none rfl (tl rfl) ?_
      replace h := bind_some h
      obtain ⟨c18_23, hg23, h⟩ := h
      cases x12
      · replace hg23 := br_f hg23
        refine RT.mv (.some rfl rfl) rfl (tl rfl) ?_
        refine RT.mv (.some rfl rfl) rfl (tl rfl) ?_
        replace hg23 := let_some hg23
        obtain ⟨x16, h16, hg23⟩ := hg23
        refine RT.lenM (.some rfl rfl) rfl (tl rfl) h16 ?_
        replace hg23 := let_some hg23
        obtain ⟨x17, h17, hg23⟩ := hg23
        refine RT.lss (.some rfl rfl) _ rfl rfl (tl rfl) h17 ?_
        obtain rfl := Option.some.inj hg23
        refine RT.pickF .none rfl rfl (tl rfl) ?_
        refine RT.mv .none rfl (tl rfl) ?_
        replace h := bind_some h
        obtain ⟨c22_24, hg24, h⟩ := h
        cases x17
        · replace hg24 := br_f hg24
          refine RT.mv (.some rfl rfl) rfl (tl rfl) ?_
          replace hg24 := let_some hg24
          obtain ⟨x21, h21, hg24⟩ := hg24
          refine RT.gtr (.some rfl rfl) _ rfl rfl (tl rfl) h21 ?_
          obtain rfl := Option.some.inj hg24
          refine RT.pickF .none rfl rfl (tl rfl) ?_
          refine RT.done ?_
          refine AThen.n ?_
          refine ⟨x21, h, ?_⟩
          try dsimp only
          exact weakL id rfl rfl rfl rfl rfl ⟨.sv (SV.imp_refl _), .sv (SV.imp_refl _), .row rfl, .sv (SV.imp_refl _), .sv (SV.imp_refl _), .sv (SV.imp_refl _), trivial⟩ trivial ⟨⟨_, rfl, SVIs.refl _⟩, trivial⟩ (fun _ _ => rfl)
        · replace hg24 := br_t hg24
          obtain rfl := Option.some.inj hg24
          refine RT.skV rfl rfl (sk rfl) (tl rfl) ?_
          refine RT.skV rfl rfl (sk rfl) (tl rfl) ?_
          refine RT.pickT .none rfl rfl (tl rfl) ?_
          refine RT.done ?_
          refine AThen.n ?_
          refine ⟨true, h, ?_⟩
          try dsimp only
          exact weakL id rfl rfl rfl rfl rfl ⟨.sv (SV.imp_refl _), .sv (SV.imp_refl _), .row rfl, .sv (SV.imp_refl _), .sv (SV.imp_refl _), .sv (SV.imp_refl _), trivial⟩ trivial ⟨⟨_, rfl, SVIs.refl _⟩, trivial⟩ (fun _ _ => rfl)
      · replace hg23 := br_t hg23
        obtain rfl := Option.some.inj hg23
        refine RT.skV rfl rfl (sk rfl) (tl rfl) ?_
        refine RT.skV rfl rfl (sk rfl) (tl rfl) ?_
        refine RT.skV rfl rfl (sk rfl) (tl rfl) ?_
        refine RT.skV rfl rfl (sk rfl) (tl rfl) ?_
        refine RT.pickT .none rfl rfl (tl rfl) ?_
        refine RT.mv .none rfl (tl rfl) ?_
        replace h := bind_some h
        obtain ⟨c22_25, hg25, h⟩ := h
        replace hg25 := br_t hg25
        obtain rfl := Option.some.inj hg25
        refine RT.skV rfl rfl (sk rfl) (tl rfl) ?_
        refine RT.skV rfl rfl (sk rfl) (tl rfl) ?_
        refine RT.pickT .none rfl rfl (tl rfl) ?_
        refine RT.done ?_
        refine AThen.n ?_
        refine ⟨true, h, ?_⟩
        try dsimp only
        exact weakL id rfl rfl rfl rfl rfl ⟨.sv (SV.imp_refl _), .sv (SV.imp_refl _), .row rfl, .sv (SV.imp_refl _), .sv (SV.imp_refl _), .sv (SV.imp_refl _), trivial⟩ trivial ⟨⟨_, rfl, SVIs.refl _⟩, trivial⟩ (fun _ _ => rfl)
    · try dsimp only
      refine AThen.n ?_
      cases y22j21
      · replace h := br_f h
        refine ok_condF rfl ?_
        refine ok_exit ?_
        refine AThen.x ?_
        refine AThen.x ?_
        refine AInB.x ?_
        refine AThen.n ?_
        obtain rfl := Option.some.inj h
        refine ⟨r306l8, hE16 _ rfl, ?_⟩
        try dsimp only
        exact weakL id rfl rfl rfl rfl rfl ⟨.row rfl, trivial⟩ trivial ⟨⟨_, rfl, SVIs.refl _⟩, trivial⟩ (fun _ _ => rfl)
      · replace h := br_t h
        refine ok_condT rfl ?_
        refine ok_skip ?_
        refine AThen.n ?_
        refine ok_seq ?_
        refine ok_block ?_
        refine ok_seq ?_
        refine ok_region ?_
        refine RT.mv .none rfl (tl rfl) ?_
        refine RT.mv .none rfl (tl rfl) ?_
        replace h := bind_some h
        obtain ⟨x27, h27, h⟩ := h
        refine RT.call .none (ref01_at_ok h27) rfl ⟨rfl, rfl, trivial⟩ (tl rfl) ?_
        refine RT.mv .none rfl (tl rfl) ?_
        refine RT.mv .none rfl (tl rfl) ?_
        replace h := bind_some h
        obtain ⟨x30, h30, h⟩ := h
        refine RT.call .none (ref01_at_ok h30) rfl ⟨rfl, rfl, trivial⟩ (tl rfl) ?_
        replace h := let_some h
        obtain ⟨x31, h31, h⟩ := h
        refine RT.add .none _ rfl rfl (tl rfl) h31 ?_
        refine RT.mv .none rfl (tl rfl) ?_
        replace h := let_some h
        obtain ⟨x33, h33, h⟩ := h
        refine RT.add .none _ rfl rfl (tl rfl) h33 ?_
        refine RT.asg .none rfl (tl rfl) ?_
        refine RT.done ?_
        refine AThen.n ?_
        refine ok_seq ?_
        refine ok_region ?_
        refine RT.move .none (s := .row _) rfl (tl rfl) ?_
        refine RT.mv .none rfl (tl rfl) ?_
        replace h := let_some h
        obtain ⟨x36, h36, h⟩ := h
        refine RT.rem .none _ rfl rfl (tl rfl) (by decide) h36 ?_
        refine RT.buildSl (l := [x36]) (e := eI64) .none (.one rfl (.nil)) (tl rfl) rfl rfl rfl rfl rfl rfl ?_
        replace h := bind_some h
        obtain ⟨x38, h38, h⟩ := h
        refine RT.apR (k := [x36]) (e := eI64) .none rfl rfl rfl (tl rfl) rfl (tl rfl) h38 ?_
        refine RT.assign .none (s := .row _) rfl (tl rfl) ?_
        refine RT.done ?_
        refine AThen.n ?_
        refine ok_region ?_
        refine RT.mv .none rfl (tl rfl) ?_
        replace h := let_some h
        obtain ⟨x40, h40, h⟩ := h
        refine RT.quo .none _ rfl rfl (tl rfl) (by decide) h40 ?_
        refine RT.asg .none rfl (tl rfl) ?_
        refine RT.done ?_
        refine AInB.n ?_
        refine AThen.n ?_
        refine ok_region ?_
        refine RT.mv .none rfl (tl rfl) ?_
        replace h := let_some h
        obtain ⟨x24, h24, h⟩ := h
        refine RT.add .none _ rfl rfl (tl rfl) h24 ?_
        refine RT.asg .none rfl (tl rfl) ?_
        refine RT.done ?_
        obtain rfl := Option.some.inj h
        refine AThen.n ⟨(x40, x24, x38), hG16 _ rfl, ?_⟩
        try dsimp only
        exact weakL (fun i => bif Nat.beq i 306 then 38 else i) rfl rfl rfl rfl rfl ⟨.sv (SV.imp_refl _), .sv (SV.imp_refl _), .row rfl, .sv (SV.imp_refl _), .sv (SV.imp_refl _), trivial⟩ trivial ⟨⟨_, rfl, SVIs.refl _⟩, trivial⟩ (fun i hi => by rw [beq_ne (show i ≠ 306 by omega)]; rfl)
  · subst hx16
    try dsimp only
    refine AThen.n ?_
    refine ok_seq ?_
    refine ok_weak (weak_frzM (i := 306) (E1 := 3) (n := 1) (e := eI64) (l := r306e15) rfl) ?_
    refine ok_region ?_
    refine RT.mv .none rfl (tl rfl) ?_
    replace ho16 := bind_some ho16
    obtain ⟨x42, h42, ho16⟩ := ho16
    refine RT.call .none (ref01_trim_ok h42) rfl ⟨rfl, trivial⟩ (tl rfl) ?_
    refine RT.asg .none rfl (tl rfl) ?_
    refine RT.done ?_
    refine AThen.n ?_
    refine ok_ret ?_
    obtain rfl := Option.some.inj ho16
    exact ⟨.inr rfl, res_imp (.tmp rfl (.nil)) (SV.imp_refl _)⟩
theorem ref01_sub_ok {x0 : List Int} {x1 : List Int} {r : List Int} (h : ref01_sub_m x0 x1 = some r) : Pure Try.prog 52 [slc 1 (List.map eI64 x0), slc 1 (List.map eI64 x1)] (slc 1 (List.map eI64 r)) := by
  refine pure_of_ok Try.func52 rfl (Nat.le_of_ble_eq_true rfl) (fun wld M vs hvs => ?_)
  unfold ref01_sub_m at h
  refine ok_seq ?_
  refine ok_region ?_
  refine RT.asgI .none rfl (imp_nil (n := 1) (e := eI64)) (tl rfl) ?_
  refine RT.done ?_
  refine AThen.n ?_
  refine ok_seq ?_
  refine ok_region ?_
  refine RT.asg .none rfl (tl rfl) ?_
  refine RT.done ?_
  refine AThen.n ?_
  refine ok_weak (weak_nil 5 304 3 1 rfl rfl (tl rfl)) ?_
  refine ok_seq ?_
  refine ok_region ?_
  refine RT.asg .none rfl (tl rfl) ?_
  refine RT.done ?_
  refine AThen.n ?_
  refine ok_seq ?_
  refine ok_seq ?_
  refine ok_region ?_
  refine RT.asg .none rfl (tl rfl) ?_
  refine RT.done ?_
  refine AThen.n ?_
  replace h := bind_some h
  obtain ⟨e8, hl8, ho8⟩ := h
  refine ok_tailP (fun (r306e7 : (List Int)) => AS.mkL 34 [(5, .row 306)] [] [(306, TR 3 1 eI64 r306e7)]) (fun r306e7 => r306e7 = e8) ?_ (fun r306e7 hx8 => ?_)
  · refine ok_block ?_
    refine ok_loopM hl8 (fun s8 => AS.mkL 34 [(0, .sv (slc 1 (List.map eI64 x0))), (1, .sv (slc 1 (List.map eI64 x1))), (5, .row 306), (6, .sv (.v (.int .i64 s8.1))), (7, .sv (.v (.int .i64 s8.2.1)))] [] [(306, TR 3 1 eI64 s8.2.2)]) (by (try dsimp only); exact weakL (fun i => bif Nat.beq i 306 then 304 else i) rfl rfl rfl rfl rfl ⟨.sv (SV.imp_refl _), .sv (SV.imp_refl _), .row rfl, .sv (SV.imp_refl _), .sv (SV.imp_refl _), trivial⟩ trivial ⟨⟨_, rfl, SVIs.refl _⟩, trivial⟩ (fun i hi => by rw [beq_ne (show i ≠ 306 by omega)]; rfl)) (fun s8 y8 G8 h hG8 hE8 => ?_)
    obtain ⟨y6l4, y7l4, r306l4⟩ := s8
    try dsimp only
    refine ok_seq ?_
    refine ok_seq ?_
    refine ok_region ?_
    refine RT.mv .none rfl (tl rfl) ?_
    refine RT.mv .none rfl (tl rfl) ?_
    replace h := let_some h
    obtain ⟨x11, h11, h⟩ := h
    refine RT.lenM .none rfl (tl rfl) h11 ?_
    replace h := let_some h
    obtain ⟨x12, h12, h⟩ := h
    refine RT.lss .none _ rfl rfl (tl rfl) h12 ?_
    refine RT.done ?_
    refine AThen.n ?_
    cases x12
    · replace h := br_f h
      refine ok_condF rfl ?_
      refine ok_exit ?_
      refine AThen.x ?_
      refine AThen.x ?_
      refine AInB.x ?_
      refine AThen.n ?_
      obtain rfl := Option.some.inj h
      refine ⟨r306l4, hE8 _ rfl, ?_⟩
      try dsimp only
      exact weakL id rfl rfl rfl rfl rfl ⟨.row rfl, trivial⟩ trivial ⟨⟨_, rfl, SVIs.refl _⟩, trivial⟩ (fun _ _ => rfl)
    · replace h := br_t h
      refine ok_condT rfl ?_
      refine ok_skip ?_
      refine AThen.n ?_
      refine ok_seq ?_
      refine ok_block ?_
      refine ok_seq ?_
      refine ok_region ?_
      refine RT.mv .none rfl (tl rfl) ?_
      refine RT.mv .none rfl (tl rfl) ?_
      replace h := bind_some h
      obtain ⟨x17, h17, h⟩ := h
      refine RT.call .none (ref01_at_ok h17) rfl ⟨rfl, rfl, trivial⟩ (tl rfl) ?_
      refine RT.mv .none rfl (tl rfl) ?_
      refine RT.mv .none rfl (tl rfl) ?_
      replace h := bind_some h
      obtain ⟨x20, h20, h⟩ := h
      refine RT.call .none (ref01_at_ok h20) rfl ⟨rfl, rfl, trivial⟩ (tl rfl) ?_
      replace h := let_some h
      obtain ⟨x21, h21, h⟩ := h
      refine RT.sub .none _ rfl rfl (tl rfl) h21 ?_
      refine RT.mv .none rfl (tl rfl) ?_
      replace h := let_some h
      obtain ⟨x23, h23, h⟩ := h
      refine RT.sub .none _ rfl rfl (tl rfl) h23 ?_
      refine RT.asg .none rfl (tl rfl) ?_
      refine RT.done ?_
      refine AThen.n ?_
      refine ok_seq ?_
      refine ok_region ?_
      refine RT.asg .none rfl (tl rfl) ?_
      refine RT.done ?_
      refine AThen.n ?_
      refine ok_seq ?_
      refine ok_seq ?_
      refine ok_region ?_
      refine RT.mv .none rfl (tl rfl) ?_
      replace h := let_some h
      obtain ⟨x25, h25, h⟩ := h
      refine RT.lss .none _ rfl rfl (tl rfl) h25 ?_
      refine RT.done ?_
      refine AThen.n ?_
      refine ok_tailJ h (fun j10 => AS.mkL 34 [(0, .sv (slc 1 (List.map eI64 x0))), (1, .sv (slc 1 (List.map eI64 x1))), (5, .row 306), (6, .sv (.v (.int .i64 j10.1))), (7, .sv (.v (.int .i64 y7l4))), (8, .sv (.v (.int .i64 j10.2)))] [] [(306, TR 3 1 eI64 r306l4)]) (fun h => ?_) (fun j10 h => ?_)
      · cases x25
        · replace h := br_f h
          refine ok_condF rfl ?_
          refine ok_skip ?_
          refine AThen.n ?_
          refine ⟨(0, x23), h, ?_⟩
          try dsimp only
          exact weakL id rfl rfl rfl rfl rfl ⟨.sv (SV.imp_refl _), .sv (SV.imp_refl _), .row rfl, .sv (SV.imp_refl _), .sv (SV.imp_refl _), .sv (SV.imp_refl _), trivial⟩ trivial ⟨⟨_, rfl, SVIs.refl _⟩, trivial⟩ (fun _ _ => rfl)
        · replace h := br_t h
          refine ok_condT rfl ?_
          refine ok_seq ?_
          refine ok_region ?_
          refine RT.mv .none rfl (tl rfl) ?_
          replace h := let_some h
          obtain ⟨x27, h27, h⟩ := h
          refine RT.add .none _ rfl rfl (tl rfl) h27 ?_
          refine RT.asg .none rfl (tl rfl) ?_
          refine RT.done ?_
          refine AThen.n ?_
          refine ok_region ?_
          refine RT.asg .none rfl (tl rfl) ?_
          refine RT.done ?_
          refine AThen.n ?_
          refine ⟨(1, x27), h, ?_⟩
          try dsimp only
          exact weakL id rfl rfl rfl rfl rfl ⟨.sv (SV.imp_refl _), .sv (SV.imp_refl _), .row rfl, .sv (SV.imp_refl _), .sv (SV.imp_refl _), .sv (SV.imp_refl _), trivial⟩ trivial ⟨⟨_, rfl, SVIs.refl _⟩, trivial⟩ (fun _ _ => rfl)
      · obtain ⟨y6j9, y8j9⟩ := j10
        try dsimp only
        refine AThen.n ?_
        refine ok_region ?_
        refine RT.move .none (s := .row _) rfl (tl rfl) ?_
        refine RT.mv .none rfl (tl rfl) ?_
        refine RT.buildSl (l := [y8j9]) (e := eI64) .none (.one rfl (.nil)) (tl rfl) rfl rfl rfl rfl rfl rfl ?_
        replace h := bind_some h
        obtain ⟨x31, h31, h⟩ := h
        refine RT.apR (k := [y8j9]) (e := eI64) .none rfl rfl rfl (tl rfl) rfl (tl rfl) h31 ?_
        refine RT.assign .none (s := .row _) rfl (tl rfl) ?_
        refine RT.done ?_
        refine AInB.n ?_
        refine AThen.n ?_
        refine ok_region ?_
        refine RT.mv .none rfl (tl rfl) ?_
        replace h := let_some h
        obtain ⟨x14, h14, h⟩ := h
        refine RT.add .none _ rfl rfl (tl rfl) h14 ?_
        refine RT.asg .none rfl (tl rfl) ?_
        refine RT.done ?_
        obtain rfl := Option.some.inj h
        refine AThen.n ⟨(y6j9, x14, x31), hG8 _ rfl, ?_⟩
        try dsimp only
        exact weakL (fun i => bif Nat.beq i 306 then 31 else i) rfl rfl rfl rfl rfl ⟨.sv (SV.imp_refl _), .sv (SV.imp_refl _), .row rfl, .sv (SV.imp_refl _), .sv (SV.imp_refl _), trivial⟩ trivial ⟨⟨_, rfl, SVIs.refl _⟩, trivial⟩ (fun i hi => by rw [beq_ne (show i ≠ 306 by omega)]; rfl)
  · subst hx8
    try dsimp only
    refine AThen.n ?_
    refine ok_seq ?_
    refine ok_weak (weak_frzM (i := 306) (E1 := 3) (n := 1) (e := eI64) (l := r306e7) rfl) ?_
    refine ok_region ?_
    refine RT.mv .none rfl (tl rfl) ?_
    replace ho8 := bind_some ho8
    obtain ⟨x33, h33, ho8⟩ := ho8
    refine RT.call .none (ref01_trim_ok h33) rfl ⟨rfl, trivial⟩ (tl rfl) ?_
    refine RT.asg .none rfl (tl rfl) ?_
    refine RT.done ?_
    refine AThen.n ?_
    refine ok_ret ?_
    obtain rfl := Option.some.inj ho8
    exact ⟨.inr rfl, res_imp (.tmp rfl (.nil)) (SV.imp_refl _)⟩
theorem ref01_small_ok {x0 : List Int} {r : Int} (h : ref01_small_m x0 = some r) : Pure Try.prog 74 [slc 1 (List.map eI64 x0)] (.v (.int .i64 r)) := by
  refine pure_of_ok Try.func74 rfl (Nat.le_of_ble_eq_true rfl) (fun wld M vs hvs => ?_)
  unfold ref01_small_m at h
  refine ok_seq ?_
  refine ok_region ?_
  refine RT.asg .none rfl (tl rfl) ?_
  refine RT.done ?_
  refine AThen.n ?_
  refine ok_seq ?_
  refine ok_region ?_
  refine RT.asg .none rfl (tl rfl) ?_
  refine RT.done ?_
  refine AThen.n ?_
  refine ok_seq ?_
  refine ok_seq ?_
  refine ok_region ?_
  refine RT.mv .none rfl (tl rfl) ?_
  replace h := let_some h
  obtain ⟨x6, h6, h⟩ := h
  refine RT.lenM .none rfl (tl rfl) h6 ?_
  replace h := let_some h
  obtain ⟨x7, h7, h⟩ := h
  refine RT.sub .none _ rfl rfl (tl rfl) h7 ?_
  refine RT.asg .none rfl (tl rfl) ?_
  refine RT.done ?_
  refine AThen.n ?_
  replace h := bind_some h
  obtain ⟨e6, hl6, ho6⟩ := h
  refine ok_tailP (fun (y3e5 : Int) => AS.mkL 20 [(3, .sv (.v (.int .i64 y3e5)))] [] []) (fun y3e5 => y3e5 = e6) ?_ (fun y3e5 hx6 => ?_)
  · refine ok_block ?_
    refine ok_loopM hl6 (fun s6 => AS.mkL 20 [(0, .sv (slc 1 (List.map eI64 x0))), (3, .sv (.v (.int .i64 s6.1))), (4, .sv (.v (.int .i64 s6.2)))] [] []) (by (try dsimp only); exact weakL id rfl rfl rfl rfl rfl ⟨.sv (SV.imp_refl _), .sv (SV.imp_refl _), .sv (SV.imp_refl _), trivial⟩ trivial trivial (fun _ _ => rfl)) (fun s6 y6 G6 h hG6 hE6 => ?_)
    obtain ⟨y3l3, y4l3⟩ := s6
    try dsimp only
    refine ok_seq ?_
    refine ok_seq ?_
    refine ok_region ?_
    refine RT.mv .none rfl (tl rfl) ?_
    replace h := let_some h
    obtain ⟨x9, h9, h⟩ := h
    refine RT.geq .none _ rfl rfl (tl rfl) h9 ?_
    refine RT.done ?_
    refine AThen.n ?_
    cases x9
    · replace h := br_f h
      refine ok_condF rfl ?_
      refine ok_exit ?_
      refine AThen.x ?_
      refine AThen.x ?_
      refine AInB.x ?_
      refine AThen.n ?_
      obtain rfl := Option.some.inj h
      refine ⟨y3l3, hE6 _ rfl, ?_⟩
      try dsimp only
      exact weakL id rfl rfl rfl rfl rfl ⟨.sv (SV.imp_refl _), trivial⟩ trivial trivial (fun _ _ => rfl)
    · replace h := br_t h
      refine ok_condT rfl ?_
      refine ok_skip ?_
      refine AThen.n ?_
      refine ok_seq ?_
      refine ok_block ?_
      refine ok_region ?_
      refine RT.mv .none rfl (tl rfl) ?_
      replace h := let_some h
      obtain ⟨x13, h13, h⟩ := h
      refine RT.mul .none _ rfl rfl (tl rfl) h13 ?_
      refine RT.mv .none rfl (tl rfl) ?_
      refine RT.mv .none rfl (tl rfl) ?_
      replace h := bind_some h
      obtain ⟨x16, h16, h⟩ := h
      refine RT.ixM .none rfl rfl (tl rfl) h16 ?_
      refine RT.loadRV .none rfl rfl (tl rfl) ?_
      replace h := let_some h
      obtain ⟨x18, h18, h⟩ := h
      refine RT.add .none _ rfl rfl (tl rfl) h18 ?_
      refine RT.asg .none rfl (tl rfl) ?_
      refine RT.done ?_
      refine AInB.n ?_
      refine AThen.n ?_
      refine ok_region ?_
      refine RT.mv .none rfl (tl rfl) ?_
      replace h := let_some h
      obtain ⟨x11, h11, h⟩ := h
      refine RT.sub .none _ rfl rfl (tl rfl) h11 ?_
      refine RT.asg .none rfl (tl rfl) ?_
      refine RT.done ?_
      obtain rfl := Option.some.inj h
      refine AThen.n ⟨(x18, x11), hG6 _ rfl, ?_⟩
      try dsimp only
      exact weakL id rfl rfl rfl rfl rfl ⟨.sv (SV.imp_refl _), .sv (SV.imp_refl _), .sv (SV.imp_refl _), trivial⟩ trivial trivial (fun _ _ => rfl)
  · subst hx6
    try dsimp only
    refine AThen.n ?_
    refine ok_seq ?_
    refine ok_region ?_
    refine RT.mv .none rfl (tl rfl) ?_
    refine RT.asg .none rfl (tl rfl) ?_
    refine RT.done ?_
    refine AThen.n ?_
    refine ok_ret ?_
    obtain rfl := Option.some.inj ho6
    exact ⟨.inr rfl, res_imp (.tmp rfl (.nil)) (SV.imp_refl _)⟩
theorem ref01_back_ok {x0 : Int} {r : List Int} (h : ref01_back_m x0 = some r) : Pure Try.prog 73 [.v (.int .i64 x0)] (slc 1 (List.map eI64 r)) := by
  refine pure_of_ok Try.func73 rfl (Nat.le_of_ble_eq_true rfl) (fun wld M vs hvs => ?_)
  unfold ref01_back_m at h
  refine ok_seq ?_
  refine ok_region ?_
  refine RT.asgI .none rfl (imp_nil (n := 1) (e := eI64)) (tl rfl) ?_
  refine RT.done ?_
  refine AThen.n ?_
  refine ok_seq ?_
  refine ok_region ?_
  refine RT.mv .none rfl (tl rfl) ?_
  replace h := let_some h
  obtain ⟨x4, h4, h⟩ := h
  refine RT.rem .none _ rfl rfl (tl rfl) (by decide) h4 ?_
  refine RT.mv .none rfl (tl rfl) ?_
  replace h := let_some h
  obtain ⟨x6, h6, h⟩ := h
  refine RT.quo .none _ rfl rfl (tl rfl) (by decide) h6 ?_
  replace h := let_some h
  obtain ⟨x7, h7, h⟩ := h
  refine RT.rem .none _ rfl rfl (tl rfl) (by decide) h7 ?_
  refine RT.mv .none rfl (tl rfl) ?_
  replace h := let_some h
  obtain ⟨x9, h9, h⟩ := h
  refine RT.quo .none _ rfl rfl (tl rfl) (by decide) h9 ?_
  replace h := let_some h
  obtain ⟨x10, h10, h⟩ := h
  refine RT.quo .none _ rfl rfl (tl rfl) (by decide) h10 ?_
  refine RT.buildSl (l := [x4, x7, x10]) (e := eI64) .none (.one rfl (.one rfl (.one rfl (.nil)))) (tl rfl) rfl rfl rfl rfl rfl rfl ?_
  replace h := bind_some h
  obtain ⟨x12, h12, h⟩ := h
  refine RT.call .none (ref01_trim_ok h12) rfl ⟨rfl, trivial⟩ (tl rfl) ?_
  refine RT.asg .none rfl (tl rfl) ?_
  refine RT.done ?_
  refine AThen.n ?_
  refine ok_ret ?_
  obtain rfl := Option.some.inj h
  exact ⟨.inr rfl, res_imp (.tmp rfl (.nil)) (SV.imp_refl _)⟩
theorem ref01_times_ok {x0 : List Int} {x1 : Int} {r : List Int} (h : ref01_times_m x0 x1 = some r) : Pure Try.prog 62 [slc 1 (List.map eI64 x0), .v (.int .i64 x1)] (slc 1 (List.map eI64 r)) := by
  refine pure_of_ok Try.func62 rfl (Nat.le_of_ble_eq_true rfl) (fun wld M vs hvs => ?_)
  unfold ref01_times_m at h
  refine ok_seq ?_
  refine ok_region ?_
  refine RT.asgI .none rfl (imp_nil (n := 1) (e := eI64)) (tl rfl) ?_
  refine RT.done ?_
  refine AThen.n ?_
  refine ok_seq ?_
  refine ok_region ?_
  refine RT.asg .none rfl (tl rfl) ?_
  refine RT.done ?_
  refine AThen.n ?_
  refine ok_weak (weak_nil 5 304 3 1 rfl rfl (tl rfl)) ?_
  refine ok_seq ?_
  refine ok_region ?_
  refine RT.asg .none rfl (tl rfl) ?_
  refine RT.done ?_
  refine AThen.n ?_
  refine ok_seq ?_
  refine ok_seq ?_
  refine ok_region ?_
  refine RT.asg .none rfl (tl rfl) ?_
  refine RT.done ?_
  refine AThen.n ?_
  replace h := bind_some h
  obtain ⟨e10, hl10, ho10⟩ := h
  refine ok_tailP (fun (r306e9 : (List Int)) => AS.mkL 35 [(5, .row 306)] [] [(306, TR 3 1 eI64 r306e9)]) (fun r306e9 => r306e9 = e10) ?_ (fun r306e9 hx10 => ?_)
  · refine ok_block ?_
    refine ok_loopM hl10 (fun s10 => AS.mkL 35 [(0, .sv (slc 1 (List.map eI64 x0))), (1, .sv (.v (.int .i64 x1))), (5, .row 306), (6, .sv (.v (.int .i64 s10.1))), (7, .sv (.v (.int .i64 s10.2.1)))] [] [(306, TR 3 1 eI64 s10.2.2)]) (by (try dsimp only); exact weakL (fun i => bif Nat.beq i 306 then 304 else i) rfl rfl rfl rfl rfl ⟨.sv (SV.imp_refl _), .sv (SV.imp_refl _), .row rfl, .sv (SV.imp_refl _), .sv (SV.imp_refl _), trivial⟩ trivial ⟨⟨_, rfl, SVIs.refl _⟩, trivial⟩ (fun i hi => by rw [beq_ne (show i ≠ 306 by omega)]; rfl)) (fun s10 y10 G10 h hG10 hE10 => ?_)
    obtain ⟨y6l5, y7l5, r306l5⟩ := s10
    try dsimp only
    refine ok_seq ?_
    refine ok_seq ?_
    refine ok_tailJ h (fun j13 => AS.mkL 35 [(0, .sv (slc 1 (List.map eI64 x0))), (1, .sv (.v (.int .i64 x1))), (5, .row 306), (6, .sv (.v (.int .i64 y6l5))), (7, .sv (.v (.int .i64 y7l5))), (16, .sv (.v (.bool j13)))] [] [(306, TR 3 1 eI64 r306l5)]) (fun h => ?_) (fun y16j12 h => ?_)
    · refine ok_region ?_
      refine RT.mv .none rfl (tl rfl) ?_
      refine RT.mv .none rfl (tl rfl) ?_
      replace h := let_some h
      obtain ⟨x11, h11, h⟩ := h
      refine RT.lenM .none rfl (tl rfl) h11 ?_
      replace h := let_some h
      obtain ⟨x12, h12, h⟩ := h
      refine RT.lss .none _ rfl rfl (tl rfl) h12 ?_
      refine RT.mv .none rfl (tl rfl) ?_
      replace h := bind_some h
      obtain ⟨c16_14, hg14, h⟩ := h
      cases x12
      · replace hg14 := br_f hg14
        refine RT.mv (.some rfl rfl) rfl (tl rfl) ?_
        replace hg14 := let_some hg14
        obtain ⟨x15, h15, hg14⟩ := hg14
        refine RT.gtr (.some rfl rfl) _ rfl rfl (tl rfl) h15 ?_
        obtain rfl := Option.some.inj hg14
        refine RT.pickF .none rfl rfl (tl rfl) ?_
        refine RT.done ?_
        refine AThen.n ?_
        refine ⟨x15, h, ?_⟩
        try dsimp only
        exact weakL id rfl rfl rfl rfl rfl ⟨.sv (SV.imp_refl _), .sv (SV.imp_refl _), .row rfl, .sv (SV.imp_refl _), .sv (SV.imp_refl _), .sv (SV.imp_refl _), trivial⟩ trivial ⟨⟨_, rfl, SVIs.refl _⟩, trivial⟩ (fun _ _ => rfl)
      · replace hg14 := br_t hg14
        obtain rfl := Option.some.inj hg14
        refine RT.skV rfl rfl (sk rfl) (tl rfl) ?_
        refine RT.skV rfl rfl (sk rfl) (tl rfl) ?_
        refine RT.pickT .none rfl rfl (tl rfl) ?_
        refine RT.done ?_
        refine AThen.n ?_
        refine ⟨true, h, ?_⟩
        try dsimp only
        exact weakL id rfl rfl rfl rfl rfl ⟨.sv (SV.imp_refl _), .sv (SV.imp_refl _), .row rfl, .sv (SV.imp_refl _), .sv (SV.imp_refl _), .sv (SV.imp_refl _), trivial⟩ trivial ⟨⟨_, rfl, SVIs.refl _⟩, trivial⟩ (fun _ _ => rfl)
    · try dsimp only
      refine AThen.n ?_
      cases y16j12
      · replace h := br_f h
        refine ok_condF rfl ?_
        refine ok_exit ?_
        refine AThen.x ?_
        refine AThen.x ?_
        refine AInB.x ?_
        refine AThen.n ?_
        obtain rfl := Option.some.inj h
        refine ⟨r306l5, hE10 _ rfl, ?_⟩
        try dsimp only
        exact weakL id rfl rfl rfl rfl rfl ⟨.row rfl, trivial⟩ trivial ⟨⟨_, rfl, SVIs.refl _⟩, trivial⟩ (fun _ _ => rfl)
      · replace h := br_t h
        refine ok_condT rfl ?_
        refine ok_skip ?_
        refine AThen.n ?_
        refine ok_seq ?_
        refine ok_block ?_
        refine ok_seq ?_
        refine ok_region ?_
        refine RT.mv .none rfl (tl rfl) ?_
        refine RT.mv .none rfl (tl rfl) ?_
        replace h := bind_some h
        obtain ⟨x21, h21, h⟩ := h
        refine RT.call .none (ref01_at_ok h21) rfl ⟨rfl, rfl, trivial⟩ (tl rfl) ?_
        refine RT.mv .none rfl (tl rfl) ?_
        replace h := let_some h
        obtain ⟨x23, h23, h⟩ := h
        refine RT.mul .none _ rfl rfl (tl rfl) h23 ?_
        refine RT.mv .none rfl (tl rfl) ?_
        replace h := let_some h
        obtain ⟨x25, h25, h⟩ := h
        refine RT.add .none _ rfl rfl (tl rfl) h25 ?_
        refine RT.asg .none rfl (tl rfl) ?_
        refine RT.done ?_
        refine AThen.n ?_
        refine ok_seq ?_
        refine ok_region ?_
        refine RT.move .none (s := .row _) rfl (tl rfl) ?_
        refine RT.mv .none rfl (tl rfl) ?_
        replace h := let_some h
        obtain ⟨x28, h28, h⟩ := h
        refine RT.rem .none _ rfl rfl (tl rfl) (by decide) h28 ?_
        refine RT.buildSl (l := [x28]) (e := eI64) .none (.one rfl (.nil)) (tl rfl) rfl rfl rfl rfl rfl rfl ?_
        replace h := bind_some h
        obtain ⟨x30, h30, h⟩ := h
        refine RT.apR (k := [x28]) (e := eI64) .none rfl rfl rfl (tl rfl) rfl (tl rfl) h30 ?_
        refine RT.assign .none (s := .row _) rfl (tl rfl) ?_
        refine RT.done ?_
        refine AThen.n ?_
        refine ok_region ?_
        refine RT.mv .none rfl (tl rfl) ?_
        replace h := let_some h
        obtain ⟨x32, h32, h⟩ := h
        refine RT.quo .none _ rfl rfl (tl rfl) (by decide) h32 ?_
        refine RT.asg .none rfl (tl rfl) ?_
        refine RT.done ?_
        refine AInB.n ?_
        refine AThen.n ?_
        refine ok_region ?_
        refine RT.mv .none rfl (tl rfl) ?_
        replace h := let_some h
        obtain ⟨x18, h18, h⟩ := h
        refine RT.add .none _ rfl rfl (tl rfl) h18 ?_
        refine RT.asg .none rfl (tl rfl) ?_
        refine RT.done ?_
        obtain rfl := Option.some.inj h
        refine AThen.n ⟨(x32, x18, x30), hG10 _ rfl, ?_⟩
        try dsimp only
        exact weakL (fun i => bif Nat.beq i 306 then 30 else i) rfl rfl rfl rfl rfl ⟨.sv (SV.imp_refl _), .sv (SV.imp_refl _), .row rfl, .sv (SV.imp_refl _), .sv (SV.imp_refl _), trivial⟩ trivial ⟨⟨_, rfl, SVIs.refl _⟩, trivial⟩ (fun i hi => by rw [beq_ne (show i ≠ 306 by omega)]; rfl)
  · subst hx10
    try dsimp only
    refine AThen.n ?_
    refine ok_seq ?_
    refine ok_weak (weak_frzM (i := 306) (E1 := 3) (n := 1) (e := eI64) (l := r306e9) rfl) ?_
    refine ok_region ?_
    refine RT.mv .none rfl (tl rfl) ?_
    replace ho10 := bind_some ho10
    obtain ⟨x34, h34, ho10⟩ := ho10
    refine RT.call .none (ref01_trim_ok h34) rfl ⟨rfl, trivial⟩ (tl rfl) ?_
    refine RT.asg .none rfl (tl rfl) ?_
    refine RT.done ?_
    refine AThen.n ?_
    refine ok_ret ?_
    obtain rfl := Option.some.inj ho10
    exact ⟨.inr rfl, res_imp (.tmp rfl (.nil)) (SV.imp_refl _)⟩
theorem ref01_mul_ok {x0 : List Int} {x1 : List Int} {r : List Int} (h : ref01_mul_m x0 x1 = some r) : Pure Try.prog 69 [slc 1 (List.map eI64 x0), slc 1 (List.map eI64 x1)] (slc 1 (List.map eI64 r)) := by
  refine pure_of_ok Try.func69 rfl (Nat.le_of_ble_eq_true rfl) (fun wld M vs hvs => ?_)
  unfold ref01_mul_m at h
  refine ok_seq ?_
  refine ok_region ?_
  refine RT.asgI .none rfl (imp_nil (n := 1) (e := eI64)) (tl rfl) ?_
  refine RT.done ?_
  refine AThen.n ?_
  refine ok_seq ?_
  refine ok_seq ?_
  refine ok_region ?_
  refine RT.mv .none rfl (tl rfl) ?_
  replace h := let_some h
  obtain ⟨x9, h9, h⟩ := h
  refine RT.lenM .none rfl (tl rfl) h9 ?_
  refine RT.mv .none rfl (tl rfl) ?_
  replace h := let_some h
  obtain ⟨x11, h11, h⟩ := h
  refine RT.lenM .none rfl (tl rfl) h11 ?_
  replace h := let_some h
  obtain ⟨x12, h12, h⟩ := h
  refine RT.add .none _ rfl rfl (tl rfl) h12 ?_
  replace h := let_some h
  obtain ⟨x13, h13, h⟩ := h
  refine RT.leq .none _ rfl rfl (tl rfl) h13 ?_
  refine RT.done ?_
  refine AThen.n ?_
  cases x13
  · replace h := br_f h
    refine ok_condF rfl ?_
    refine ok_skip ?_
    refine AThen.n ?_
    refine ok_seq ?_
    refine ok_region ?_
    refine RT.asgI .none rfl (imp_nil (n := 1) (e := eI64)) (tl rfl) ?_
    refine RT.done ?_
    refine AThen.n ?_
    refine ok_seq ?_
    refine ok_seq ?_
    refine ok_region ?_
    refine RT.mv .none rfl (tl rfl) ?_
    replace h := let_some h
    obtain ⟨x21, h21, h⟩ := h
    refine RT.lenM .none rfl (tl rfl) h21 ?_
    replace h := let_some h
    obtain ⟨x22, h22, h⟩ := h
    refine RT.sub .none _ rfl rfl (tl rfl) h22 ?_
    refine RT.asg .none rfl (tl rfl) ?_
    refine RT.done ?_
    refine AThen.n ?_
    replace h := bind_some h
    obtain ⟨e16, hl16, ho16⟩ := h
    refine ok_tailP (fun (y5e15 : (List Int)) => AS.mkL 51 [(5, .sv (slc 1 (List.map eI64 y5e15)))] [] []) (fun y5e15 => y5e15 = e16) ?_ (fun y5e15 hx16 => ?_)
    · refine ok_block ?_
      refine ok_loopM hl16 (fun s16 => AS.mkL 51 [(0, .sv (slc 1 (List.map eI64 x0))), (1, .sv (slc 1 (List.map eI64 x1))), (5, .sv (slc 1 (List.map eI64 s16.1))), (6, .sv (.v (.int .i64 s16.2)))] [] []) (by (try dsimp only); exact weakL id rfl rfl rfl rfl rfl ⟨.sv (SV.imp_refl _), .sv (SV.imp_refl _), .sv (SV.imp_refl _), .sv (SV.imp_refl _), trivial⟩ trivial trivial (fun _ _ => rfl)) (fun s16 y16 G16 h hG16 hE16 => ?_)
      obtain ⟨y5l8, y6l8⟩ := s16
      try dsimp only
      refine ok_seq ?_
      refine ok_seq ?_
      refine ok_region ?_
      refine RT.mv .none rfl (tl rfl) ?_
      replace h := let_some h
      obtain ⟨x24, h24, h⟩ := h
      refine RT.geq .none _ rfl rfl (tl rfl) h24 ?_
      refine RT.done ?_
      refine AThen.n ?_
      cases x24
      · replace h := br_f h
        refine ok_condF rfl ?_
        refine ok_exit ?_
        refine AThen.x ?_
        refine AThen.x ?_
        refine AInB.x ?_
        refine AThen.n ?_
        obtain rfl := Option.some.inj h
        refine ⟨y5l8, hE16 _ rfl, ?_⟩
        try dsimp only
        exact weakL id rfl rfl rfl rfl rfl ⟨.sv (SV.imp_refl _), trivial⟩ trivial trivial (fun _ _ => rfl)
      · replace h := br_t h
        refine ok_condT rfl ?_
        refine ok_skip ?_
        refine AThen.n ?_
        refine ok_seq ?_
        refine ok_block ?_
        refine ok_seq ?_
        refine ok_region ?_
        refine RT.buildRw (l := [0]) (e := eI64) .none (.one rfl (.nil)) (tl rfl) rfl (tl rfl) rfl rfl rfl rfl rfl rfl ?_
        refine RT.mv .none rfl (tl rfl) ?_
        replace h := bind_some h
        obtain ⟨x29, h29, h⟩ := h
        refine RT.apIR (k := y5l8) (e := eI64) .none rfl rfl rfl (tl rfl) rfl (tl rfl) h29 ?_
        refine RT.asg .none rfl (tl rfl) ?_
        refine RT.done ?_
        refine AThen.n ?_
        refine ok_seq ?_
        refine ok_region ?_
        refine RT.asg .none rfl (tl rfl) ?_
        refine RT.done ?_
        refine AThen.n ?_
        replace h := bind_some h
        obtain ⟨e22, hl22, ho22⟩ := h
        refine ok_tailP (fun (y5e21 : (List Int)) => AS.mkL 51 [(0, .sv (slc 1 (List.map eI64 x0))), (1, .sv (slc 1 (List.map eI64 x1))), (5, .sv (slc 1 (List.map eI64 y5e21))), (6, .sv (.v (.int .i64 y6l8)))] [] []) (fun y5e21 => y5e21 = e22) ?_ (fun y5e21 hx22 => ?_)
        · refine ok_block ?_
          refine ok_loopM hl22 (fun s22 => AS.mkL 51 [(0, .sv (slc 1 (List.map eI64 x0))), (1, .sv (slc 1 (List.map eI64 x1))), (5, .sv (slc 1 (List.map eI64 s22.1))), (6, .sv (.v (.int .i64 y6l8))), (7, .sv (.v (.int .i64 s22.2)))] [] []) (by (try dsimp only); exact weakL id rfl rfl rfl rfl rfl ⟨.sv (SV.imp_refl _), .sv (SV.imp_refl _), .sv (SV.imp_refl _), .sv (SV.imp_refl _), .sv (SV.imp_refl _), trivial⟩ trivial trivial (fun _ _ => rfl)) (fun s22 y22 G22 h hG22 hE22 => ?_)
          obtain ⟨y5l19, y7l19⟩ := s22
          try dsimp only
          refine ok_seq ?_
          refine ok_seq ?_
          refine ok_region ?_
          refine RT.mv .none rfl (tl rfl) ?_
          refine RT.mv .none rfl (tl rfl) ?_
          refine RT.mv .none rfl (tl rfl) ?_
          replace h := bind_some h
          obtain ⟨x33, h33, h⟩ := h
          refine RT.ixM .none rfl rfl (tl rfl) h33 ?_
          refine RT.loadRV .none rfl rfl (tl rfl) ?_
          replace h := let_some h
          obtain ⟨x35, h35, h⟩ := h
          refine RT.lss .none _ rfl rfl (tl rfl) h35 ?_
          refine RT.done ?_
          refine AThen.n ?_
          cases x35
          · replace h := br_f h
            refine ok_condF rfl ?_
            refine ok_exit ?_
            refine AThen.x ?_
            refine AThen.x ?_
            refine AInB.x ?_
            refine AThen.n ?_
            obtain rfl := Option.some.inj h
            refine ⟨y5l19, hE22 _ rfl, ?_⟩
            try dsimp only
            exact weakL id rfl rfl rfl rfl rfl ⟨.sv (SV.imp_refl _), .sv (SV.imp_refl _), .sv (SV.imp_refl _), .sv (SV.imp_refl _), trivial⟩ trivial trivial (fun _ _ => rfl)
          · replace h := br_t h
            refine ok_condT rfl ?_
            refine ok_skip ?_
            refine AThen.n ?_
            refine ok_seq ?_
            refine ok_block ?_
            refine ok_region ?_
            refine RT.mv .none rfl (tl rfl) ?_
            refine RT.mv .none rfl (tl rfl) ?_
            refine RT.mv .none rfl (tl rfl) ?_
            refine RT.mv .none rfl (tl rfl) ?_
            replace h := bind_some h
            obtain ⟨x42, h42, h⟩ := h
            refine RT.ixM .none rfl rfl (tl rfl) h42 ?_
            refine RT.loadRV .none rfl rfl (tl rfl) ?_
            refine RT.mv .none rfl (tl rfl) ?_
            replace h := let_some h
            obtain ⟨x45, h45, h⟩ := h
            refine RT.sub .none _ rfl rfl (tl rfl) h45 ?_
            replace h := let_some h
            obtain ⟨x46, h46, h⟩ := h
            refine RT.min .none _ rfl rfl (tl rfl) (minI (p := 1024) (q := x45) h46) ?_
            replace h := bind_some h
            obtain ⟨x47, h47, h⟩ := h
            refine RT.call .none (ref01_times_ok h47) rfl ⟨rfl, rfl, trivial⟩ (tl rfl) ?_
            replace h := bind_some h
            obtain ⟨x48, h48, h⟩ := h
            refine RT.call .none (ref01_add_ok h48) rfl ⟨rfl, rfl, trivial⟩ (tl rfl) ?_
            refine RT.asg .none rfl (tl rfl) ?_
            refine RT.done ?_
            refine AInB.n ?_
            refine AThen.n ?_
            refine ok_region ?_
            refine RT.mv .none rfl (tl rfl) ?_
            replace h := let_some h
            obtain ⟨x37, h37, h⟩ := h
            refine RT.add .none _ rfl rfl (tl rfl) h37 ?_
            refine RT.asg .none rfl (tl rfl) ?_
            refine RT.done ?_
            obtain rfl := Option.some.inj h
            refine AThen.n ⟨(x48, x37), hG22 _ rfl, ?_⟩
            try dsimp only
            exact weakL id rfl rfl rfl rfl rfl ⟨.sv (SV.imp_refl _), .sv (SV.imp_refl _), .sv (SV.imp_refl _), .sv (SV.imp_refl _), .sv (SV.imp_refl _), trivial⟩ trivial trivial (fun _ _ => rfl)
        · subst hx22
          try dsimp only
          refine AInB.n ?_
          refine AThen.n ?_
          refine ok_region ?_
          refine RT.mv .none rfl (tl rfl) ?_
          replace ho22 := let_some ho22
          obtain ⟨x26, h26, ho22⟩ := ho22
          refine RT.sub .none _ rfl rfl (tl rfl) h26 ?_
          refine RT.asg .none rfl (tl rfl) ?_
          refine RT.done ?_
          obtain rfl := Option.some.inj ho22
          refine AThen.n ⟨(y5e21, x26), hG16 _ rfl, ?_⟩
          try dsimp only
          exact weakL id rfl rfl rfl rfl rfl ⟨.sv (SV.imp_refl _), .sv (SV.imp_refl _), .sv (SV.imp_refl _), .sv (SV.imp_refl _), trivial⟩ trivial trivial (fun _ _ => rfl)
    · subst hx16
      try dsimp only
      refine AThen.n ?_
      refine ok_seq ?_
      refine ok_region ?_
      refine RT.mv .none rfl (tl rfl) ?_
      replace ho16 := bind_some ho16
      obtain ⟨x50, h50, ho16⟩ := ho16
      refine RT.call .none (ref01_trim_ok h50) rfl ⟨rfl, trivial⟩ (tl rfl) ?_
      refine RT.asg .none rfl (tl rfl) ?_
      refine RT.done ?_
      refine AThen.n ?_
      refine ok_ret ?_
      obtain rfl := Option.some.inj ho16
      exact ⟨.inr rfl, res_imp (.tmp rfl (.nil)) (SV.imp_refl _)⟩
  · replace h := br_t h
    refine ok_condT rfl ?_
    refine ok_seq ?_
    refine ok_region ?_
    refine RT.mv .none rfl (tl rfl) ?_
    replace h := bind_some h
    obtain ⟨x15, h15, h⟩ := h
    refine RT.call .none (ref01_small_ok h15) rfl ⟨rfl, trivial⟩ (tl rfl) ?_
    refine RT.mv .none rfl (tl rfl) ?_
    replace h := bind_some h
    obtain ⟨x17, h17, h⟩ := h
    refine RT.call .none (ref01_small_ok h17) rfl ⟨rfl, trivial⟩ (tl rfl) ?_
    replace h := let_some h
    obtain ⟨x18, h18, h⟩ := h
    refine RT.mul .none _ rfl rfl (tl rfl) h18 ?_
    replace h := bind_some h
    obtain ⟨x19, h19, h⟩ := h
    refine RT.call .none (ref01_back_ok h19) rfl ⟨rfl, trivial⟩ (tl rfl) ?_
    refine RT.asg .none rfl (tl rfl) ?_
    refine RT.done ?_
    refine AThen.n ?_
    refine ok_ret ?_
    refine AThen.r ?_
    obtain rfl := Option.some.inj h
    exact ⟨.inr rfl, res_imp (.tmp rfl (.nil)) (SV.imp_refl _)⟩
end Go.Proofs.Ytgkafblpckcekaa
namespace Go.Proofs.Ytgkafblpckcekaa
open Go.Fw Go.RowKit
theorem ref01_Sign_ok {x0 : Zr} {r : Int} (h : ref01_Sign_m x0 = some r) : Pure Try.prog 40 [.agg (eZ x0)] (.v (.int .i64 r)) := by
  obtain ⟨x0_0, x0_1⟩ := x0
  refine pure_of_ok Try.func40 rfl (Nat.le_of_ble_eq_true rfl) (fun wld M vs hvs => ?_)
  unfold ref01_Sign_m at h
  refine ok_seq ?_
  refine ok_region ?_
  refine RT.box .none rfl (tl rfl) rfl rfl ?_
  refine RT.asg .none rfl (tl rfl) ?_
  refine RT.done ?_
  refine AThen.n ?_
  refine ok_seq ?_
  refine ok_seq ?_
  refine ok_region ?_
  refine RT.fieldAddr .none rfl (tl rfl) rfl ?_
  refine RT.ldV .none rfl rfl rfl (tl rfl) ?_
  replace h := bind_some h
  obtain ⟨x5, h5, h⟩ := h
  refine RT.call .none (ref01_halves_ok h5) rfl ⟨rfl, trivial⟩ (tl rfl) ?_
  replace h := let_some h
  obtain ⟨x6, h6, h⟩ := h
  refine RT.lenM .none rfl (tl rfl) h6 ?_
  replace h := let_some h
  obtain ⟨x7, h7, h⟩ := h
  refine RT.eql .none _ rfl rfl (tl rfl) (eqI (p := x6) (q := 0) h7) ?_
  refine RT.done ?_
  refine AThen.n ?_
  cases x7
  · replace h := br_f h
    refine ok_condF rfl ?_
    refine ok_skip ?_
    refine AThen.n ?_
    refine ok_seq ?_
    refine ok_seq ?_
    refine ok_region ?_
    refine RT.fieldAddr .none rfl (tl rfl) rfl ?_
    refine RT.ldV .none rfl rfl rfl (tl rfl) ?_
    refine RT.done ?_
    refine AThen.n ?_
    cases x0_0
    · replace h := br_f h
      refine ok_condF rfl ?_
      refine ok_skip ?_
      refine AThen.n ?_
      refine ok_seq ?_
      refine ok_region ?_
      refine RT.asg .none rfl (tl rfl) ?_
      refine RT.done ?_
      refine AThen.n ?_
      refine ok_ret ?_
      obtain rfl := Option.some.inj h
      exact ⟨.inr rfl, res_imp (.tmp rfl (.nil)) (SV.imp_refl _)⟩
    · replace h := br_t h
      refine ok_condT rfl ?_
      refine ok_seq ?_
      refine ok_region ?_
      refine RT.asg .none rfl (tl rfl) ?_
      refine RT.done ?_
      refine AThen.n ?_
      refine ok_ret ?_
      refine AThen.r ?_
      obtain rfl := Option.some.inj h
      exact ⟨.inr rfl, res_imp (.tmp rfl (.nil)) (SV.imp_refl _)⟩
  · replace h := br_t h
    refine ok_condT rfl ?_
    refine ok_seq ?_
    refine ok_region ?_
    refine RT.asg .none rfl (tl rfl) ?_
    refine RT.done ?_
    refine AThen.n ?_
    refine ok_ret ?_
    refine AThen.r ?_
    obtain rfl := Option.some.inj h
    exact ⟨.inr rfl, res_imp (.tmp rfl (.nil)) (SV.imp_refl _)⟩
theorem ref01_Cmp_ok {x0 : Zr} {x1 : Zr} {r : Int} (h : ref01_Cmp_m x0 x1 = some r) : Pure Try.prog 41 [.agg (eZ x0), .agg (eZ x1)] (.v (.int .i64 r)) := by
  obtain ⟨x0_0, x0_1⟩ := x0
  obtain ⟨x1_0, x1_1⟩ := x1
  refine pure_of_ok Try.func41 rfl (Nat.le_of_ble_eq_true rfl) (fun wld M vs hvs => ?_)
  unfold ref01_Cmp_m at h
  refine ok_seq ?_
  refine ok_region ?_
  refine RT.box .none rfl (tl rfl) rfl rfl ?_
  refine RT.box .none rfl (tl rfl) rfl rfl ?_
  refine RT.asg .none rfl (tl rfl) ?_
  refine RT.done ?_
  refine AThen.n ?_
  refine ok_seq ?_
  refine ok_seq ?_
  refine ok_region_draw mixed ?_
  refine RT.load .none rfl rfl (.cons rfl (.cons rfl (.nil))) rfl (tl rfl) ?_
  replace h := bind_some h
  obtain ⟨x7, h7, h⟩ := h
  refine RT.call .none (ref01_Sign_ok h7) rfl ⟨rfl, trivial⟩ (tl rfl) ?_
  refine RT.load .none rfl rfl (.cons rfl (.cons rfl (.nil))) rfl (tl rfl) ?_
  replace h := bind_some h
  obtain ⟨x9, h9, h⟩ := h
  refine RT.call .none (ref01_Sign_ok h9) rfl ⟨rfl, trivial⟩ (tl rfl) ?_
  replace h := let_some h
  obtain ⟨x10, h10, h⟩ := h
  refine RT.neq .none _ rfl rfl (tl rfl) (neI (p := x7) (q := x9) h10) ?_
  refine RT.done ⟨by kernel_rfl, ?_⟩
  refine AThen.n ?_
  cases x10
  · replace h := br_f h
    refine ok_condF rfl ?_
    refine ok_skip ?_
    refine AThen.n ?_
    refine ok_seq ?_
    refine ok_region_draw mixed ?_
    refine RT.fieldAddr .none rfl (tl rfl) rfl ?_
    refine RT.ldV .none rfl rfl rfl (tl rfl) ?_
    replace h := bind_some h
    obtain ⟨x18, h18, h⟩ := h
    refine RT.call .none (ref01_halves_ok h18) rfl ⟨rfl, trivial⟩ (tl rfl) ?_
    refine RT.fieldAddr .none rfl (tl rfl) rfl ?_
    refine RT.ldV .none rfl rfl rfl (tl rfl) ?_
    replace h := bind_some h
    obtain ⟨x21, h21, h⟩ := h
    refine RT.call .none (ref01_halves_ok h21) rfl ⟨rfl, trivial⟩ (tl rfl) ?_
    replace h := bind_some h
    obtain ⟨x22, h22, h⟩ := h
    refine RT.call .none (ref01_cmp_ok h22) rfl ⟨rfl, rfl, trivial⟩ (tl rfl) ?_
    refine RT.asg .none rfl (tl rfl) ?_
    refine RT.done ⟨by kernel_rfl, ?_⟩
    refine AThen.n ?_
    refine ok_seq ?_
    refine ok_seq ?_
    refine ok_region ?_
    refine RT.load .none rfl rfl (.cons rfl (.cons rfl (.nil))) rfl (tl rfl) ?_
    replace h := bind_some h
    obtain ⟨x24, h24, h⟩ := h
    refine RT.call .none (ref01_Sign_ok h24) rfl ⟨rfl, trivial⟩ (tl rfl) ?_
    replace h := let_some h
    obtain ⟨x25, h25, h⟩ := h
    refine RT.lss .none _ rfl rfl (tl rfl) h25 ?_
    refine RT.done ?_
    refine AThen.n ?_
    cases x25
    · replace h := br_f h
      refine ok_condF rfl ?_
      refine ok_skip ?_
      refine AThen.n ?_
      refine ok_seq ?_
      refine ok_region ?_
      refine RT.mv .none rfl (tl rfl) ?_
      refine RT.asg .none rfl (tl rfl) ?_
      refine RT.done ?_
      refine AThen.n ?_
      refine ok_ret ?_
      obtain rfl := Option.some.inj h
      exact ⟨.inr rfl, res_imp (.tmp rfl (.nil)) (SV.imp_refl _)⟩
    · replace h := br_t h
      refine ok_condT rfl ?_
      refine ok_seq ?_
      refine ok_region ?_
      refine RT.mv .none rfl (tl rfl) ?_
      replace h := let_some h
      obtain ⟨x27, h27, h⟩ := h
      refine RT.neg .none _ rfl (tl rfl) h27 ?_
      refine RT.asg .none rfl (tl rfl) ?_
      refine RT.done ?_
      refine AThen.n ?_
      refine ok_ret ?_
      refine AThen.r ?_
      obtain rfl := Option.some.inj h
      exact ⟨.inr rfl, res_imp (.tmp rfl (.nil)) (SV.imp_refl _)⟩
  · replace h := br_t h
    refine ok_condT rfl ?_
    refine ok_seq ?_
    refine ok_seq ?_
    refine ok_region_draw mixed ?_
    refine RT.load .none rfl rfl (.cons rfl (.cons rfl (.nil))) rfl (tl rfl) ?_
    replace h := bind_some h
    obtain ⟨x12, h12, h⟩ := h
    refine RT.call .none (ref01_Sign_ok h12) rfl ⟨rfl, trivial⟩ (tl rfl) ?_
    refine RT.load .none rfl rfl (.cons rfl (.cons rfl (.nil))) rfl (tl rfl) ?_
    replace h := bind_some h
    obtain ⟨x14, h14, h⟩ := h
    refine RT.call .none (ref01_Sign_ok h14) rfl ⟨rfl, trivial⟩ (tl rfl) ?_
    replace h := let_some h
    obtain ⟨x15, h15, h⟩ := h
    refine RT.lss .none _ rfl rfl (tl rfl) h15 ?_
    refine RT.done ⟨by kernel_rfl, ?_⟩
    refine AThen.n ?_
    cases x15
    · replace h := br_f h
      refine ok_condF rfl ?_
      refine ok_skip ?_
      refine AThen.n ?_
      refine ok_seq ?_
      refine ok_region ?_
      refine RT.asg .none rfl (tl rfl) ?_
      refine RT.done ?_
      refine AThen.n ?_
      refine ok_ret ?_
      refine AThen.r ?_
      obtain rfl := Option.some.inj h
      exact ⟨.inr rfl, res_imp (.tmp rfl (.nil)) (SV.imp_refl _)⟩
    · replace h := br_t h
      refine ok_condT rfl ?_
      refine ok_seq ?_
      refine ok_region ?_
      refine RT.asg .none rfl (tl rfl) ?_
      refine RT.done ?_
      refine AThen.n ?_
      refine ok_ret ?_
      refine AThen.r ?_
      refine AThen.r ?_
      obtain rfl := Option.some.inj h
      exact ⟨.inr rfl, res_imp (.tmp rfl (.nil)) (SV.imp_refl _)⟩
theorem ref01_Neg_ok {x0 : Zr} {r : Zr} (h : ref01_Neg_m x0 = some r) : Pure Try.prog 38 [.agg (eZ x0)] (.agg (eZ r)) := by
  obtain ⟨x0_0, x0_1⟩ := x0
  refine pure_of_ok Try.func38 rfl (Nat.le_of_ble_eq_true rfl) (fun wld M vs hvs => ?_)
  unfold ref01_Neg_m at h
  refine ok_seq ?_
  refine ok_region ?_
  refine RT.box .none rfl (tl rfl) rfl rfl ?_
  refine RT.allocI .none (cs := [.v (.bool false), slc 1 (List.map eU32 [])]) (by exact ⟨SV.imp_refl _, imp_nil, trivial⟩) rfl (tl rfl) rfl rfl ?_
  refine RT.done ?_
  refine AThen.n ?_
  refine ok_seq ?_
  refine ok_region_draw mixed ?_
  refine RT.fieldAddr .none rfl (tl rfl) rfl ?_
  refine RT.ldV .none rfl rfl rfl (tl rfl) ?_
  replace h := let_some h
  obtain ⟨x5, h5, h⟩ := h
  refine RT.not .none rfl (tl rfl) _ h5 ?_
  refine RT.fieldAddr .none rfl (tl rfl) rfl ?_
  refine RT.ldV .none rfl rfl rfl (tl rfl) ?_
  replace h := bind_some h
  obtain ⟨x8, h8, h⟩ := h
  refine RT.call .none (ref01_halves_ok h8) rfl ⟨rfl, trivial⟩ (tl rfl) ?_
  replace h := bind_some h
  obtain ⟨⟨x9_0, x9_1⟩, h9, h⟩ := h
  refine RT.call .none (ref01_of_ok h9) rfl ⟨rfl, rfl, trivial⟩ (tl rfl) ?_
  refine RT.store .none rfl rfl rfl rfl rfl ?_
  refine RT.done ⟨by kernel_rfl, ?_⟩
  refine AThen.n ?_
  refine ok_ret ?_
  obtain rfl := Option.some.inj h
  exact ⟨.inr rfl, res_imp (.agg rfl rfl (.cons rfl (.cons rfl (.nil))) rfl (.nil)) (SV.imp_refl _)⟩
theorem ref01_Abs_ok {x0 : Zr} {r : Zr} (h : ref01_Abs_m x0 = some r) : Pure Try.prog 39 [.agg (eZ x0)] (.agg (eZ r)) := by
  obtain ⟨x0_0, x0_1⟩ := x0
  refine pure_of_ok Try.func39 rfl (Nat.le_of_ble_eq_true rfl) (fun wld M vs hvs => ?_)
  unfold ref01_Abs_m at h
  refine ok_seq ?_
  refine ok_region ?_
  refine RT.box .none rfl (tl rfl) rfl rfl ?_
  refine RT.allocI .none (cs := [.v (.bool false), slc 1 (List.map eU32 [])]) (by exact ⟨SV.imp_refl _, imp_nil, trivial⟩) rfl (tl rfl) rfl rfl ?_
  refine RT.done ?_
  refine AThen.n ?_
  refine ok_seq ?_
  refine ok_region ?_
  refine RT.fieldAddr .none rfl (tl rfl) rfl ?_
  refine RT.ldV .none rfl rfl rfl (tl rfl) ?_
  replace h := bind_some h
  obtain ⟨x5, h5, h⟩ := h
  refine RT.call .none (ref01_halves_ok h5) rfl ⟨rfl, trivial⟩ (tl rfl) ?_
  replace h := bind_some h
  obtain ⟨⟨x6_0, x6_1⟩, h6, h⟩ := h
  refine RT.call .none (ref01_of_ok h6) rfl ⟨rfl, rfl, trivial⟩ (tl rfl) ?_
  refine RT.store .none rfl rfl rfl rfl rfl ?_
  refine RT.done ?_
  refine AThen.n ?_
  refine ok_ret ?_
  obtain rfl := Option.some.inj h
  exact ⟨.inr rfl, res_imp (.agg rfl rfl (.cons rfl (.cons rfl (.nil))) rfl (.nil)) (SV.imp_refl _)⟩
theorem ref01_Add_ok {x0 : Zr} {x1 : Zr} {r : Zr} (h : ref01_Add_m x0 x1 = some r) : Pure Try.prog 34 [.agg (eZ x0), .agg (eZ x1)] (.agg (eZ r)) := by
  obtain ⟨x0_0, x0_1⟩ := x0
  obtain ⟨x1_0, x1_1⟩ := x1
  refine pure_of_ok Try.func34 rfl (Nat.le_of_ble_eq_true rfl) (fun wld M vs hvs => ?_)
  unfold ref01_Add_m at h
  refine ok_seq ?_
  refine ok_region ?_
  refine RT.box .none rfl (tl rfl) rfl rfl ?_
  refine RT.box .none rfl (tl rfl) rfl rfl ?_
  refine RT.allocI .none (cs := [.v (.bool false), slc 1 (List.map eU32 [])]) (by exact ⟨SV.imp_refl _, imp_nil, trivial⟩) rfl (tl rfl) rfl rfl ?_
  refine RT.done ?_
  refine AThen.n ?_
  refine ok_seq ?_
  refine ok_region_draw mixed ?_
  refine RT.fieldAddr .none rfl (tl rfl) rfl ?_
  refine RT.ldV .none rfl rfl rfl (tl rfl) ?_
  replace h := bind_some h
  obtain ⟨x9, h9, h⟩ := h
  refine RT.call .none (ref01_halves_ok h9) rfl ⟨rfl, trivial⟩ (tl rfl) ?_
  refine RT.fieldAddr .none rfl (tl rfl) rfl ?_
  refine RT.ldV .none rfl rfl rfl (tl rfl) ?_
  replace h := bind_some h
  obtain ⟨x12, h12, h⟩ := h
  refine RT.call .none (ref01_halves_ok h12) rfl ⟨rfl, trivial⟩ (tl rfl) ?_
  refine RT.asg .none rfl (tl rfl) ?_
  refine RT.asg .none rfl (tl rfl) ?_
  refine RT.done ⟨by kernel_rfl, ?_⟩
  refine AThen.n ?_
  refine ok_seq ?_
  refine ok_seq ?_
  refine ok_region ?_
  refine RT.fieldAddr .none rfl (tl rfl) rfl ?_
  refine RT.ldV .none rfl rfl rfl (tl rfl) ?_
  refine RT.fieldAddr .none rfl (tl rfl) rfl ?_
  refine RT.ldV .none rfl rfl rfl (tl rfl) ?_
  replace h := let_some h
  obtain ⟨x17, h17, h⟩ := h
  refine RT.beql .none _ rfl rfl (tl rfl) h17 ?_
  refine RT.done ?_
  refine AThen.n ?_
  cases x17
  · replace h := br_f h
    refine ok_condF rfl ?_
    refine ok_skip ?_
    refine AThen.n ?_
    refine ok_seq ?_
    refine ok_seq ?_
    refine ok_region ?_
    refine RT.mv .none rfl (tl rfl) ?_
    refine RT.mv .none rfl (tl rfl) ?_
    replace h := bind_some h
    obtain ⟨x26, h26, h⟩ := h
    refine RT.call .none (ref01_cmp_ok h26) rfl ⟨rfl, rfl, trivial⟩ (tl rfl) ?_
    replace h := let_some h
    obtain ⟨x27, h27, h⟩ := h
    refine RT.geq .none _ rfl rfl (tl rfl) h27 ?_
    refine RT.done ?_
    refine AThen.n ?_
    cases x27
    · replace h := br_f h
      refine ok_condF rfl ?_
      refine ok_skip ?_
      refine AThen.n ?_
      refine ok_seq ?_
      refine ok_region_draw mixed ?_
      refine RT.fieldAddr .none rfl (tl rfl) rfl ?_
      refine RT.ldV .none rfl rfl rfl (tl rfl) ?_
      refine RT.mv .none rfl (tl rfl) ?_
      refine RT.mv .none rfl (tl rfl) ?_
      replace h := bind_some h
      obtain ⟨x38, h38, h⟩ := h
      refine RT.call .none (ref01_sub_ok h38) rfl ⟨rfl, rfl, trivial⟩ (tl rfl) ?_
      replace h := bind_some h
      obtain ⟨⟨x39_0, x39_1⟩, h39, h⟩ := h
      refine RT.call .none (ref01_of_ok h39) rfl ⟨rfl, rfl, trivial⟩ (tl rfl) ?_
      refine RT.store .none rfl rfl rfl rfl rfl ?_
      refine RT.done ⟨by kernel_rfl, ?_⟩
      refine AThen.n ?_
      refine ok_ret ?_
      obtain rfl := Option.some.inj h
      exact ⟨.inr rfl, res_imp (.agg rfl rfl (.cons rfl (.cons rfl (.nil))) rfl (.nil)) (SV.imp_refl _)⟩
    · replace h := br_t h
      refine ok_condT rfl ?_
      refine ok_seq ?_
      refine ok_region_draw mixed ?_
      refine RT.fieldAddr .none rfl (tl rfl) rfl ?_
      refine RT.ldV .none rfl rfl rfl (tl rfl) ?_
      refine RT.mv .none rfl (tl rfl) ?_
      refine RT.mv .none rfl (tl rfl) ?_
      replace h := bind_some h
      obtain ⟨x32, h32, h⟩ := h
      refine RT.call .none (ref01_sub_ok h32) rfl ⟨rfl, rfl, trivial⟩ (tl rfl) ?_
      replace h := bind_some h
      obtain ⟨⟨x33_0, x33_1⟩, h33, h⟩ := h
      refine RT.call .none (ref01_of_ok h33) rfl ⟨rfl, rfl, trivial⟩ (tl rfl) ?_
      refine RT.store .none rfl rfl rfl rfl rfl ?_
      refine RT.done ⟨by kernel_rfl, ?_⟩
      refine AThen.n ?_
      refine ok_ret ?_
      refine AThen.r ?_
      obtain rfl := Option.some.inj h
      exact ⟨.inr rfl, res_imp (.agg rfl rfl (.cons rfl (.cons rfl (.nil))) rfl (.nil)) (SV.imp_refl _)⟩
  · replace h := br_t h
    refine ok_condT rfl ?_
    refine ok_seq ?_
    refine ok_region_draw mixed ?_
    refine RT.fieldAddr .none rfl (tl rfl) rfl ?_
    refine RT.ldV .none rfl rfl rfl (tl rfl) ?_
    refine RT.mv .none rfl (tl rfl) ?_
    refine RT.mv .none rfl (tl rfl) ?_
    replace h := bind_some h
    obtain ⟨x22, h22, h⟩ := h
    refine RT.call .none (ref01_add_ok h22) rfl ⟨rfl, rfl, trivial⟩ (tl rfl) ?_
    replace h := bind_some h
    obtain ⟨⟨x23_0, x23_1⟩, h23, h⟩ := h
    refine RT.call .none (ref01_of_ok h23) rfl ⟨rfl, rfl, trivial⟩ (tl rfl) ?_
    refine RT.store .none rfl rfl rfl rfl rfl ?_
    refine RT.done ⟨by kernel_rfl, ?_⟩
    refine AThen.n ?_
    refine ok_ret ?_
    refine AThen.r ?_
    obtain rfl := Option.some.inj h
    exact ⟨.inr rfl, res_imp (.agg rfl rfl (.cons rfl (.cons rfl (.nil))) rfl (.nil)) (SV.imp_refl _)⟩
theorem ref01_Sub_ok {x0 : Zr} {x1 : Zr} {r : Zr} (h : ref01_Sub_m x0 x1 = some r) : Pure Try.prog 35 [.agg (eZ x0), .agg (eZ x1)] (.agg (eZ r)) := by
  obtain ⟨x0_0, x0_1⟩ := x0
  obtain ⟨x1_0, x1_1⟩ := x1
  refine pure_of_ok Try.func35 rfl (Nat.le_of_ble_eq_true rfl) (fun wld M vs hvs => ?_)
  unfold ref01_Sub_m at h
  refine ok_seq ?_
  refine ok_region ?_
  refine RT.box .none rfl (tl rfl) rfl rfl ?_
  refine RT.box .none rfl (tl rfl) rfl rfl ?_
  refine RT.allocI .none (cs := [.v (.bool false), slc 1 (List.map eU32 [])]) (by exact ⟨SV.imp_refl _, imp_nil, trivial⟩) rfl (tl rfl) rfl rfl ?_
  refine RT.done ?_
  refine AThen.n ?_
  refine ok_seq ?_
  refine ok_region_draw mixed ?_
  refine RT.load .none rfl rfl (.cons rfl (.cons rfl (.nil))) rfl (tl rfl) ?_
  refine RT.load .none rfl rfl (.cons rfl (.cons rfl (.nil))) rfl (tl rfl) ?_
  replace h := bind_some h
  obtain ⟨⟨x7_0, x7_1⟩, h7, h⟩ := h
  refine RT.call .none (ref01_Neg_ok h7) rfl ⟨rfl, trivial⟩ (tl rfl) ?_
  replace h := bind_some h
  obtain ⟨⟨x8_0, x8_1⟩, h8, h⟩ := h
  refine RT.call .none (ref01_Add_ok h8) rfl ⟨rfl, rfl, trivial⟩ (tl rfl) ?_
  refine RT.store .none rfl rfl rfl rfl rfl ?_
  refine RT.done ⟨by kernel_rfl, ?_⟩
  refine AThen.n ?_
  refine ok_ret ?_
  obtain rfl := Option.some.inj h
  exact ⟨.inr rfl, res_imp (.agg rfl rfl (.cons rfl (.cons rfl (.nil))) rfl (.nil)) (SV.imp_refl _)⟩
theorem ref01_Mul_ok {x0 : Zr} {x1 : Zr} {r : Zr} (h : ref01_Mul_m x0 x1 = some r) : Pure Try.prog 36 [.agg (eZ x0), .agg (eZ x1)] (.agg (eZ r)) := by
  obtain ⟨x0_0, x0_1⟩ := x0
  obtain ⟨x1_0, x1_1⟩ := x1
  refine pure_of_ok Try.func36 rfl (Nat.le_of_ble_eq_true rfl) (fun wld M vs hvs => ?_)
  unfold ref01_Mul_m at h
  refine ok_seq ?_
  refine ok_region ?_
  refine RT.box .none rfl (tl rfl) rfl rfl ?_
  refine RT.box .none rfl (tl rfl) rfl rfl ?_
  refine RT.allocI .none (cs := [.v (.bool false), slc 1 (List.map eU32 [])]) (by exact ⟨SV.imp_refl _, imp_nil, trivial⟩) rfl (tl rfl) rfl rfl ?_
  refine RT.done ?_
  refine AThen.n ?_
  refine ok_seq ?_
  refine ok_region_draw mixed ?_
  refine RT.fieldAddr .none rfl (tl rfl) rfl ?_
  refine RT.ldV .none rfl rfl rfl (tl rfl) ?_
  refine RT.fieldAddr .none rfl (tl rfl) rfl ?_
  refine RT.ldV .none rfl rfl rfl (tl rfl) ?_
  replace h := let_some h
  obtain ⟨x9, h9, h⟩ := h
  refine RT.bneq .none _ rfl rfl (tl rfl) h9 ?_
  refine RT.fieldAddr .none rfl (tl rfl) rfl ?_
  refine RT.ldV .none rfl rfl rfl (tl rfl) ?_
  replace h := bind_some h
  obtain ⟨x12, h12, h⟩ := h
  refine RT.call .none (ref01_halves_ok h12) rfl ⟨rfl, trivial⟩ (tl rfl) ?_
  refine RT.fieldAddr .none rfl (tl rfl) rfl ?_
  refine RT.ldV .none rfl rfl rfl (tl rfl) ?_
  replace h := bind_some h
  obtain ⟨x15, h15, h⟩ := h
  refine RT.call .none (ref01_halves_ok h15) rfl ⟨rfl, trivial⟩ (tl rfl) ?_
  replace h := bind_some h
  obtain ⟨x16, h16, h⟩ := h
  refine RT.call .none (ref01_mul_ok h16) rfl ⟨rfl, rfl, trivial⟩ (tl rfl) ?_
  replace h := bind_some h
  obtain ⟨⟨x17_0, x17_1⟩, h17, h⟩ := h
  refine RT.call .none (ref01_of_ok h17) rfl ⟨rfl, rfl, trivial⟩ (tl rfl) ?_
  refine RT.store .none rfl rfl rfl rfl rfl ?_
  refine RT.done ⟨by kernel_rfl, ?_⟩
  refine AThen.n ?_
  refine ok_ret ?_
  obtain rfl := Option.some.inj h
  exact ⟨.inr rfl, res_imp (.agg rfl rfl (.cons rfl (.cons rfl (.nil))) rfl (.nil)) (SV.imp_refl _)⟩
theorem ref01_Int_ok {x0 : Zr} {r : Int × Bool} (h : ref01_Int_m x0 = some r) : Pure Try.prog 31 [.agg (eZ x0)] (.tup [.v (.int .i64 r.1), .v (.bool r.2)]) := by
  obtain ⟨x0_0, x0_1⟩ := x0
  refine pure_of_ok Try.func31 rfl (Nat.le_of_ble_eq_true rfl) (fun wld M vs hvs => ?_)
  unfold ref01_Int_m at h
  refine ok_seq ?_
  refine ok_region ?_
  refine RT.box .none rfl (tl rfl) rfl rfl ?_
  refine RT.asg .none rfl (tl rfl) ?_
  refine RT.asg .none rfl (tl rfl) ?_
  refine RT.done ?_
  refine AThen.n ?_
  refine ok_seq ?_
  refine ok_seq ?_
  refine ok_tailJ h (fun j3 => AS.mkL 41 [(1, .ptr 1 0), (16, .sv (.v (.bool j3)))] [(1, ⟨24, [.sv (.v (.bool x0_0)), .sv (slc 1 (List.map eU32 x0_1))]⟩)] []) (fun h => ?_) (fun y16j2 h => ?_)
  · refine ok_region_draw mixed ?_
    refine RT.load .none rfl rfl (.cons rfl (.cons rfl (.nil))) rfl (tl rfl) ?_
    replace h := bind_some h
    obtain ⟨⟨x8_0, x8_1⟩, h8, h⟩ := h
    refine RT.call .none (ref01_From_ok h8) rfl ⟨rfl, trivial⟩ (tl rfl) ?_
    replace h := bind_some h
    obtain ⟨x9, h9, h⟩ := h
    refine RT.call .none (ref01_Cmp_ok h9) rfl ⟨rfl, rfl, trivial⟩ (tl rfl) ?_
    replace h := let_some h
    obtain ⟨x10, h10, h⟩ := h
    refine RT.lss .none _ rfl rfl (tl rfl) h10 ?_
    refine RT.mv .none rfl (tl rfl) ?_
    replace h := bind_some h
    obtain ⟨c16_12, hg12, h⟩ := h
    cases x10
    · replace hg12 := br_f hg12
      refine RT.load (.some rfl rfl) rfl rfl (.cons rfl (.cons rfl (.nil))) rfl (tl rfl) ?_
      replace hg12 := bind_some hg12
      obtain ⟨⟨x13_0, x13_1⟩, h13, hg12⟩ := hg12
      refine RT.call (.some rfl rfl) (ref01_From_ok h13) rfl ⟨rfl, trivial⟩ (tl rfl) ?_
      replace hg12 := bind_some hg12
      obtain ⟨x14, h14, hg12⟩ := hg12
      refine RT.call (.some rfl rfl) (ref01_Cmp_ok h14) rfl ⟨rfl, rfl, trivial⟩ (tl rfl) ?_
      replace hg12 := let_some hg12
      obtain ⟨x15, h15, hg12⟩ := hg12
      refine RT.gtr (.some rfl rfl) _ rfl rfl (tl rfl) h15 ?_
      obtain rfl := Option.some.inj hg12
      refine RT.pickF .none rfl rfl (tl rfl) ?_
      refine RT.done ⟨by kernel_rfl, ?_⟩
      refine AThen.n ?_
      refine ⟨x15, h, ?_⟩
      try dsimp only
      exact weakL id rfl rfl rfl rfl rfl ⟨.ptr, .sv (SV.imp_refl _), trivial⟩ ⟨⟨_, rfl, ⟨.sv (SV.imp_refl _), .sv (SV.imp_refl _), trivial⟩⟩, trivial⟩ trivial (fun _ _ => rfl)
    · replace hg12 := br_t hg12
      obtain rfl := Option.some.inj hg12
      refine RT.skV rfl rfl (sk rfl) (tl rfl) ?_
      refine RT.skV rfl rfl (sk rfl) (tl rfl) ?_
      refine RT.skV rfl rfl (sk rfl) (tl rfl) ?_
      refine RT.skV rfl rfl (sk rfl) (tl rfl) ?_
      refine RT.pickT .none rfl rfl (tl rfl) ?_
      refine RT.done ⟨by kernel_rfl, ?_⟩
      refine AThen.n ?_
      refine ⟨true, h, ?_⟩
      try dsimp only
      exact weakL id rfl rfl rfl rfl rfl ⟨.ptr, .sv (SV.imp_refl _), trivial⟩ ⟨⟨_, rfl, ⟨.sv (SV.imp_refl _), .sv (SV.imp_refl _), trivial⟩⟩, trivial⟩ trivial (fun _ _ => rfl)
  · try dsimp only
    refine AThen.n ?_
    cases y16j2
    · replace h := br_f h
      refine ok_condF rfl ?_
      refine ok_skip ?_
      refine AThen.n ?_
      refine ok_seq ?_
      refine ok_region ?_
      refine RT.asg .none rfl (tl rfl) ?_
      refine RT.done ?_
      refine AThen.n ?_
      refine ok_seq ?_
      refine ok_region ?_
      refine RT.fieldAddr .none rfl (tl rfl) rfl ?_
      refine RT.ldV .none rfl rfl rfl (tl rfl) ?_
      replace h := bind_some h
      obtain ⟨x19, h19, h⟩ := h
      refine RT.call .none (ref01_halves_ok h19) rfl ⟨rfl, trivial⟩ (tl rfl) ?_
      refine RT.asg .none rfl (tl rfl) ?_
      refine RT.done ?_
      refine AThen.n ?_
      refine ok_seq ?_
      refine ok_seq ?_
      refine ok_region ?_
      refine RT.mv .none rfl (tl rfl) ?_
      replace h := let_some h
      obtain ⟨x21, h21, h⟩ := h
      refine RT.lenM .none rfl (tl rfl) h21 ?_
      replace h := let_some h
      obtain ⟨x22, h22, h⟩ := h
      refine RT.sub .none _ rfl rfl (tl rfl) h22 ?_
      refine RT.asg .none rfl (tl rfl) ?_
      refine RT.done ?_
      refine AThen.n ?_
      replace h := bind_some h
      obtain ⟨e9, hl9, ho9⟩ := h
      refine ok_tailP (fun (y4e8 : Nat) => AS.mkL 41 [(1, .ptr 1 0), (4, .sv (.v (.int .u64 ((y4e8 : Nat) : Int))))] [(1, ⟨24, [.sv (.v (.bool x0_0)), .sv (slc 1 (List.map eU32 x0_1))]⟩)] []) (fun y4e8 => y4e8 = e9) ?_ (fun y4e8 hx9 => ?_)
      · refine ok_block ?_
        refine ok_loopM hl9 (fun s9 => AS.mkL 41 [(1, .ptr 1 0), (4, .sv (.v (.int .u64 ((s9.1 : Nat) : Int)))), (5, .sv (slc 1 (List.map eI64 x19))), (6, .sv (.v (.int .i64 s9.2)))] [(1, ⟨24, [.sv (.v (.bool x0_0)), .sv (slc 1 (List.map eU32 x0_1))]⟩)] []) (by (try dsimp only); exact weakL id rfl rfl rfl rfl rfl ⟨.ptr, .sv (SV.imp_refl _), .sv (SV.imp_refl _), .sv (SV.imp_refl _), trivial⟩ ⟨⟨_, rfl, ⟨.sv (SV.imp_refl _), .sv (SV.imp_refl _), trivial⟩⟩, trivial⟩ trivial (fun _ _ => rfl)) (fun s9 y9 G9 h hG9 hE9 => ?_)
        obtain ⟨y4l6, y6l6⟩ := s9
        try dsimp only
        refine ok_seq ?_
        refine ok_seq ?_
        refine ok_region ?_
        refine RT.mv .none rfl (tl rfl) ?_
        replace h := let_some h
        obtain ⟨x24, h24, h⟩ := h
        refine RT.geq .none _ rfl rfl (tl rfl) h24 ?_
        refine RT.done ?_
        refine AThen.n ?_
        cases x24
        · replace h := br_f h
          refine ok_condF rfl ?_
          refine ok_exit ?_
          refine AThen.x ?_
          refine AThen.x ?_
          refine AInB.x ?_
          refine AThen.n ?_
          obtain rfl := Option.some.inj h
          refine ⟨y4l6, hE9 _ rfl, ?_⟩
          try dsimp only
          exact weakL id rfl rfl rfl rfl rfl ⟨.ptr, .sv (SV.imp_refl _), trivial⟩ ⟨⟨_, rfl, ⟨.sv (SV.imp_refl _), .sv (SV.imp_refl _), trivial⟩⟩, trivial⟩ trivial (fun _ _ => rfl)
        · replace h := br_t h
          refine ok_condT rfl ?_
          refine ok_skip ?_
          refine AThen.n ?_
          refine ok_seq ?_
          refine ok_block ?_
          refine ok_region ?_
          refine RT.mv .none rfl (tl rfl) ?_
          replace h := let_some h
          obtain ⟨x28, h28, h⟩ := h
          refine RT.mul .none _ rfl rfl (tl rfl) (UK.mul (a := y4l6) (b := 65536) h28) ?_
          refine RT.mv .none rfl (tl rfl) ?_
          refine RT.mv .none rfl (tl rfl) ?_
          replace h := bind_some h
          obtain ⟨x31, h31, h⟩ := h
          refine RT.ixM .none rfl rfl (tl rfl) h31 ?_
          refine RT.loadRV .none rfl rfl (tl rfl) ?_
          replace h := let_some h
          obtain ⟨x33, h33, h⟩ := h
          refine RT.conv .none _ rfl (tl rfl) (UK.conv h33) ?_
          replace h := let_some h
          obtain ⟨x34, h34, h⟩ := h
          refine RT.add .none _ rfl rfl (tl rfl) (UK.add (a := x28) (b := x33) h34) ?_
          refine RT.asg .none rfl (tl rfl) ?_
          refine RT.done ?_
          refine AInB.n ?_
          refine AThen.n ?_
          refine ok_region ?_
          refine RT.mv .none rfl (tl rfl) ?_
          replace h := let_some h
          obtain ⟨x26, h26, h⟩ := h
          refine RT.sub .none _ rfl rfl (tl rfl) h26 ?_
          refine RT.asg .none rfl (tl rfl) ?_
          refine RT.done ?_
          obtain rfl := Option.some.inj h
          refine AThen.n ⟨(x34, x26), hG9 _ rfl, ?_⟩
          try dsimp only
          exact weakL id rfl rfl rfl rfl rfl ⟨.ptr, .sv (SV.imp_refl _), .sv (SV.imp_refl _), .sv (SV.imp_refl _), trivial⟩ ⟨⟨_, rfl, ⟨.sv (SV.imp_refl _), .sv (SV.imp_refl _), trivial⟩⟩, trivial⟩ trivial (fun _ _ => rfl)
      · subst hx9
        try dsimp only
        refine AThen.n ?_
        refine ok_seq ?_
        refine ok_seq ?_
        refine ok_region ?_
        refine RT.fieldAddr .none rfl (tl rfl) rfl ?_
        refine RT.ldV .none rfl rfl rfl (tl rfl) ?_
        refine RT.done ?_
        refine AThen.n ?_
        refine ok_tailJ ho9 (fun j11 => AS.mkL 41 [(4, .sv (.v (.int .u64 ((j11 : Nat) : Int))))] [] []) (fun ho9 => ?_) (fun y4j10 ho9 => ?_)
        · cases x0_0
          · replace ho9 := br_f ho9
            refine ok_condF rfl ?_
            refine ok_skip ?_
            refine AThen.n ?_
            refine ⟨y4e8, ho9, ?_⟩
            try dsimp only
            exact weakL id rfl rfl rfl rfl rfl ⟨.sv (SV.imp_refl _), trivial⟩ trivial trivial (fun _ _ => rfl)
          · replace ho9 := br_t ho9
            refine ok_condT rfl ?_
            refine ok_region ?_
            refine RT.mv .none rfl (tl rfl) ?_
            replace ho9 := let_some ho9
            obtain ⟨x38, h38, ho9⟩ := ho9
            refine RT.neg .none _ rfl (tl rfl) (UK.neg h38) ?_
            refine RT.asg .none rfl (tl rfl) ?_
            refine RT.done ?_
            refine AThen.n ?_
            refine ⟨x38, ho9, ?_⟩
            try dsimp only
            exact weakL id rfl rfl rfl rfl rfl ⟨.sv (SV.imp_refl _), trivial⟩ trivial trivial (fun _ _ => rfl)
        · try dsimp only
          refine AThen.n ?_
          refine ok_seq ?_
          refine ok_region ?_
          refine RT.mv .none rfl (tl rfl) ?_
          replace ho9 := let_some ho9
          obtain ⟨x40, h40, ho9⟩ := ho9
          refine RT.conv .none _ rfl (tl rfl) h40 ?_
          refine RT.asg .none rfl (tl rfl) ?_
          refine RT.asg .none rfl (tl rfl) ?_
          refine RT.done ?_
          refine AThen.n ?_
          refine ok_ret ?_
          obtain rfl := Option.some.inj ho9
          exact ⟨.inr rfl, res_imp (.tmp rfl (.tmp rfl (.nil))) (SV.imp_refl _)⟩
    · replace h := br_t h
      refine ok_condT rfl ?_
      refine ok_seq ?_
      refine ok_region ?_
      refine RT.asg .none rfl (tl rfl) ?_
      refine RT.asg .none rfl (tl rfl) ?_
      refine RT.done ?_
      refine AThen.n ?_
      refine ok_ret ?_
      refine AThen.r ?_
      obtain rfl := Option.some.inj h
      exact ⟨.inr rfl, res_imp (.tmp rfl (.tmp rfl (.nil))) (SV.imp_refl _)⟩
end Go.Proofs.Ytgkafblpckcekaa
