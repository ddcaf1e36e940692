/- The proofs that the code computes the plain functions. Made by program. -/
import Derived.Test.YtgkafblpckcekaaW3
import Derived.Test.YtgkafblpckcekaaMW
namespace Go.Proofs.Ytgkafblpckcekaa
open Go.Fw Go.RowKit
theorem slices_Reverse_ok {x0 : List Nat} {r : List Nat} (h : slices_Reverse_m x0 = some r) : RowC Try.prog 58 [.row 1000] (TR 5 1 eU8 x0) (.sv .any) (List.flatMap eU8 r) := by
  refine rowC_of_ok Try.func58 rfl (Nat.le_of_ble_eq_true rfl) rfl rfl (fun wld M v0 => ?_)
  unfold slices_Reverse_m at h
  refine ok_seq ?_
  refine ok_region ?_
  refine RT.move .none (s := .row _) rfl (tl rfl) ?_
  replace h := let_some h
  obtain ⟨x5, h5, h⟩ := h
  refine RT.lenRM .none rfl rfl (tl rfl) h5 ?_
  replace h := let_some h
  obtain ⟨x6, h6, h⟩ := h
  refine RT.sub .none _ rfl rfl (tl rfl) h6 ?_
  refine RT.asg .none rfl (tl rfl) ?_
  refine RT.asg .none rfl (tl rfl) ?_
  refine RT.done ?_
  refine AThen.n ?_
  replace h := bind_some h
  obtain ⟨e10, hl10, ho10⟩ := h
  refine ok_tailP (fun (r1000e9 : (List Nat)) => AS.mkL 28 [(0, .row 1000)] [] [(1000, TR 5 1 eU8 r1000e9)]) (fun r1000e9 => r1000e9 = e10) ?_ (fun r1000e9 hx10 => ?_)
  · refine ok_block ?_
    refine ok_loopM hl10 (fun s10 => AS.mkL 28 [(0, .row 1000), (2, .sv (.v (.int .i64 s10.1))), (3, .sv (.v (.int .i64 s10.2.1)))] [] [(1000, TR 5 1 eU8 s10.2.2)]) (by (try dsimp only); exact weakL id rfl rfl rfl rfl rfl ⟨.row rfl, .sv (SV.imp_refl _), .sv (SV.imp_refl _), trivial⟩ trivial ⟨⟨_, rfl, SVIs.refl _⟩, trivial⟩ (fun _ _ => rfl)) (fun s10 y10 G10 h hG10 hE10 => ?_)
    obtain ⟨y2l5, y3l5, r1000l5⟩ := s10
    try dsimp only
    refine ok_seq ?_
    refine ok_seq ?_
    refine ok_region ?_
    refine RT.mv .none rfl (tl rfl) ?_
    refine RT.mv .none rfl (tl rfl) ?_
    replace h := let_some h
    obtain ⟨x9, h9, h⟩ := h
    refine RT.lss .none _ rfl rfl (tl rfl) h9 ?_
    refine RT.done ?_
    refine AThen.n ?_
    cases x9
    · replace h := br_f h
      refine ok_condF rfl ?_
      refine ok_exit ?_
      refine AThen.x ?_
      refine AThen.x ?_
      refine AInB.x ?_
      refine AThen.n ?_
      obtain rfl := Option.some.inj h
      refine ⟨r1000l5, hE10 _ rfl, ?_⟩
      try dsimp only
      exact weakL id rfl rfl rfl rfl rfl ⟨.row rfl, trivial⟩ trivial ⟨⟨_, rfl, SVIs.refl _⟩, trivial⟩ (fun _ _ => rfl)
    · replace h := br_t h
      refine ok_condT rfl ?_
      refine ok_skip ?_
      refine AThen.n ?_
      refine ok_seq ?_
      refine ok_block ?_
      refine ok_region_draw mixed ?_
      refine RT.move .none (s := .row _) rfl (tl rfl) ?_
      refine RT.mv .none rfl (tl rfl) ?_
      refine RT.move .none (s := .row _) rfl (tl rfl) ?_
      refine RT.mv .none rfl (tl rfl) ?_
      refine RT.move .none (s := .row _) rfl (tl rfl) ?_
      refine RT.mv .none rfl (tl rfl) ?_
      replace h := bind_some h
      obtain ⟨x20, h20, h⟩ := h
      refine RT.ixRM .none rfl rfl rfl (tl rfl) h20 ?_
      replace h := bind_some h
      obtain ⟨x21, h21, h⟩ := h
      refine RT.ldRM .none rfl rfl h21 rfl (tl rfl) ?_
      refine RT.move .none (s := .row _) rfl (tl rfl) ?_
      refine RT.mv .none rfl (tl rfl) ?_
      replace h := bind_some h
      obtain ⟨x24, h24, h⟩ := h
      refine RT.ixRM .none rfl rfl rfl (tl rfl) h24 ?_
      replace h := bind_some h
      obtain ⟨x25, h25, h⟩ := h
      refine RT.ldRM .none rfl rfl h25 rfl (tl rfl) ?_
      replace h := bind_some h
      obtain ⟨x26, h26, h⟩ := h
      refine RT.ixRM .none rfl rfl rfl (tl rfl) h26 ?_
      replace h := bind_some h
      obtain ⟨l13, hl13_, h⟩ := h
      refine RT.stRM .none x21 rfl rfl rfl rfl hl13_ ?_
      replace h := bind_some h
      obtain ⟨x27, h27, h⟩ := h
      refine RT.ixRM .none rfl rfl rfl (tl rfl) h27 ?_
      replace h := bind_some h
      obtain ⟨l14, hl14_, h⟩ := h
      refine RT.stRM .none x25 rfl rfl rfl rfl hl14_ ?_
      refine RT.done ⟨by kernel_rfl, ?_⟩
      refine AInB.n ?_
      refine AThen.n ?_
      refine ok_region ?_
      refine RT.mv .none rfl (tl rfl) ?_
      replace h := let_some h
      obtain ⟨x11, h11, h⟩ := h
      refine RT.add .none _ rfl rfl (tl rfl) h11 ?_
      refine RT.mv .none rfl (tl rfl) ?_
      replace h := let_some h
      obtain ⟨x13, h13, h⟩ := h
      refine RT.sub .none _ rfl rfl (tl rfl) h13 ?_
      refine RT.asg .none rfl (tl rfl) ?_
      refine RT.asg .none rfl (tl rfl) ?_
      refine RT.done ?_
      obtain rfl := Option.some.inj h
      refine AThen.n ⟨(x11, x13, l14), hG10 _ rfl, ?_⟩
      try dsimp only
      exact weakL id rfl rfl rfl rfl rfl ⟨.row rfl, .sv (SV.imp_refl _), .sv (SV.imp_refl _), trivial⟩ trivial ⟨⟨_, rfl, SVIs.refl _⟩, trivial⟩ (fun _ _ => rfl)
  · subst hx10
    try dsimp only
    replace ho10 := bind_some ho10
    obtain ⟨_, hle, ho10⟩ := ho10
    obtain rfl := Option.some.inj ho10
    exact ⟨.inl rfl, .sv (res_imp .nil (fun _ _ _ => trivial)), (by show _ = RSt.live ⟨5, 1, x0.length, List.flatMap eU8 r1000e9⟩; rw [← eqLen_some hle]; rfl)⟩
theorem internal_stringslite_HasPrefix_ok {x0 : Str} {x1 : Str} {r : Bool} (h : internal_stringslite_HasPrefix_m x0 x1 = some r) : Pure Try.prog 82 [.v (.string (bs x0)), .v (.string (bs x1))] (.v (.bool r)) := by
  refine pure_of_ok Try.func82 rfl (Nat.le_of_ble_eq_true rfl) (fun wld M vs hvs => ?_)
  unfold internal_stringslite_HasPrefix_m at h
  refine ok_seq ?_
  refine ok_region ?_
  refine RT.asg .none rfl (tl rfl) ?_
  refine RT.done ?_
  refine AThen.n ?_
  refine ok_seq ?_
  refine ok_tailJ h (fun j3 => AS.mkL 18 [(4, .sv (.v (.bool j3)))] [] []) (fun h => ?_) (fun y4j2 h => ?_)
  · refine ok_region ?_
    refine RT.mv .none rfl (tl rfl) ?_
    replace h := let_some h
    obtain ⟨x6, h6, h⟩ := h
    refine RT.slen (l := x0) .none rfl (tl rfl) h6 ?_
    refine RT.mv .none rfl (tl rfl) ?_
    replace h := let_some h
    obtain ⟨x8, h8, h⟩ := h
    refine RT.slen (l := x1) .none rfl (tl rfl) h8 ?_
    replace h := let_some h
    obtain ⟨x9, h9, h⟩ := h
    refine RT.geq .none _ rfl rfl (tl rfl) h9 ?_
    refine RT.mv .none rfl (tl rfl) ?_
    replace h := bind_some h
    obtain ⟨c17_4, hg4, h⟩ := h
    cases x9
    · replace hg4 := br_f hg4
      obtain rfl := Option.some.inj hg4
      refine RT.skV rfl rfl (sk rfl) (tl rfl) ?_
      refine RT.skV rfl rfl (sk rfl) (tl rfl) ?_
      refine RT.skV rfl rfl (sk rfl) (tl rfl) ?_
      refine RT.skV rfl rfl (sk rfl) (tl rfl) ?_
      refine RT.skV rfl rfl (sk rfl) (tl rfl) ?_
      refine RT.skV rfl rfl (sk rfl) (tl rfl) ?_
      refine RT.pickF .none rfl rfl (tl rfl) ?_
      refine RT.asg .none rfl (tl rfl) ?_
      refine RT.done ?_
      refine AThen.n ?_
      refine ⟨false, h, ?_⟩
      try dsimp only
      exact weakL id rfl rfl rfl rfl rfl ⟨.sv (SV.imp_refl _), trivial⟩ trivial trivial (fun _ _ => rfl)
    · replace hg4 := br_t hg4
      refine RT.mv (.some rfl rfl) rfl (tl rfl) ?_
      refine RT.mv (.some rfl rfl) rfl (tl rfl) ?_
      replace hg4 := let_some hg4
      obtain ⟨x13, h13, hg4⟩ := hg4
      refine RT.slen (l := x1) (.some rfl rfl) rfl (tl rfl) h13 ?_
      replace hg4 := bind_some hg4
      obtain ⟨x14, h14, hg4⟩ := hg4
      refine RT.ssl (.some rfl rfl) 0 x13 rfl rfl ⟨_, rfl⟩ (tl rfl) h14 ?_
      refine RT.mv (.some rfl rfl) rfl (tl rfl) ?_
      replace hg4 := let_some hg4
      obtain ⟨x16, h16, hg4⟩ := hg4
      refine RT.seql (l := x14) (k := x1) (.some rfl rfl) rfl rfl (tl rfl) h16 ?_
      obtain rfl := Option.some.inj hg4
      refine RT.pickT .none rfl rfl (tl rfl) ?_
      refine RT.asg .none rfl (tl rfl) ?_
      refine RT.done ?_
      refine AThen.n ?_
      refine ⟨x16, h, ?_⟩
      try dsimp only
      exact weakL id rfl rfl rfl rfl rfl ⟨.sv (SV.imp_refl _), trivial⟩ trivial trivial (fun _ _ => rfl)
  · try dsimp only
    refine AThen.n ?_
    refine ok_ret ?_
    obtain rfl := Option.some.inj h
    exact ⟨.inr rfl, res_imp (.tmp rfl (.nil)) (SV.imp_refl _)⟩
theorem internal_stringslite_CutPrefix_ok {x0 : Str} {x1 : Str} {r : Str × Bool} (h : internal_stringslite_CutPrefix_m x0 x1 = some r) : Pure Try.prog 75 [.v (.string (bs x0)), .v (.string (bs x1))] (.tup [.v (.string (bs r.1)), .v (.bool r.2)]) := by
  refine pure_of_ok Try.func75 rfl (Nat.le_of_ble_eq_true rfl) (fun wld M vs hvs => ?_)
  unfold internal_stringslite_CutPrefix_m at h
  refine ok_seq ?_
  refine ok_region ?_
  refine RT.asg .none rfl (tl rfl) ?_
  refine RT.asg .none rfl (tl rfl) ?_
  refine RT.done ?_
  refine AThen.n ?_
  refine ok_seq ?_
  refine ok_seq ?_
  refine ok_region ?_
  refine RT.mv .none rfl (tl rfl) ?_
  refine RT.mv .none rfl (tl rfl) ?_
  replace h := bind_some h
  obtain ⟨x8, h8, h⟩ := h
  refine RT.call .none (internal_stringslite_HasPrefix_ok h8) rfl ⟨rfl, rfl, trivial⟩ (tl rfl) ?_
  replace h := let_some h
  obtain ⟨x9, h9, h⟩ := h
  refine RT.not .none rfl (tl rfl) _ h9 ?_
  refine RT.done ?_
  refine AThen.n ?_
  cases x9
  · replace h := br_f h
    refine ok_condF rfl ?_
    refine ok_skip ?_
    refine AThen.n ?_
    refine ok_seq ?_
    refine ok_region ?_
    refine RT.mv .none rfl (tl rfl) ?_
    refine RT.mv .none rfl (tl rfl) ?_
    replace h := let_some h
    obtain ⟨x13, h13, h⟩ := h
    refine RT.slen (l := x1) .none rfl (tl rfl) h13 ?_
    replace h := bind_some h
    obtain ⟨x14, h14, h⟩ := h
    refine RT.ssl .none x13 (x0.length : Int) rfl ⟨_, rfl⟩ rfl (tl rfl) h14 ?_
    refine RT.asg .none rfl (tl rfl) ?_
    refine RT.asg .none rfl (tl rfl) ?_
    refine RT.done ?_
    refine AThen.n ?_
    refine ok_ret ?_
    obtain rfl := Option.some.inj h
    exact ⟨.inr rfl, res_imp (.tmp rfl (.tmp rfl (.nil))) (SV.imp_refl _)⟩
  · replace h := br_t h
    refine ok_condT rfl ?_
    refine ok_seq ?_
    refine ok_region ?_
    refine RT.mv .none rfl (tl rfl) ?_
    refine RT.asg .none rfl (tl rfl) ?_
    refine RT.asg .none rfl (tl rfl) ?_
    refine RT.done ?_
    refine AThen.n ?_
    refine ok_ret ?_
    refine AThen.r ?_
    obtain rfl := Option.some.inj h
    exact ⟨.inr rfl, res_imp (.tmp rfl (.tmp rfl (.nil))) (SV.imp_refl _)⟩
theorem strings_CutPrefix_ok {x0 : Str} {x1 : Str} {r : Str × Bool} (h : strings_CutPrefix_m x0 x1 = some r) : Pure Try.prog 59 [.v (.string (bs x0)), .v (.string (bs x1))] (.tup [.v (.string (bs r.1)), .v (.bool r.2)]) := by
  refine pure_of_ok Try.func59 rfl (Nat.le_of_ble_eq_true rfl) (fun wld M vs hvs => ?_)
  unfold strings_CutPrefix_m at h
  refine ok_seq ?_
  refine ok_region ?_
  refine RT.asg .none rfl (tl rfl) ?_
  refine RT.asg .none rfl (tl rfl) ?_
  refine RT.done ?_
  refine AThen.n ?_
  refine ok_seq ?_
  refine ok_region ?_
  refine RT.mv .none rfl (tl rfl) ?_
  refine RT.mv .none rfl (tl rfl) ?_
  replace h := bind_some h
  obtain ⟨⟨x8a, x8b⟩, h8, h⟩ := h
  refine RT.call .none (internal_stringslite_CutPrefix_ok h8) rfl ⟨rfl, rfl, trivial⟩ (tl rfl) ?_
  refine RT.extract .none rfl rfl (tl rfl) ?_
  refine RT.extract .none rfl rfl (tl rfl) ?_
  refine RT.asg .none rfl (tl rfl) ?_
  refine RT.asg .none rfl (tl rfl) ?_
  refine RT.done ?_
  refine AThen.n ?_
  refine ok_ret ?_
  obtain rfl := Option.some.inj h
  exact ⟨.inr rfl, res_imp (.tmp rfl (.tmp rfl (.nil))) (SV.imp_refl _)⟩
theorem whole_isDecimal_ok {x0 : Str} {r : Bool} (h : whole_isDecimal_m x0 = some r) : Pure Try.prog 60 [.v (.string (bs x0))] (.v (.bool r)) := by
  refine pure_of_ok Try.func60 rfl (Nat.le_of_ble_eq_true rfl) (fun wld M vs hvs => ?_)
  unfold whole_isDecimal_m at h
  refine ok_seq ?_
  refine ok_region ?_
  refine RT.asg .none rfl (tl rfl) ?_
  refine RT.done ?_
  refine AThen.n ?_
  refine ok_seq ?_
  refine ok_seq ?_
  refine ok_tailJ h (fun j4 => AS.mkL 32 [(0, .sv (.v (.string (bs x0)))), (15, .sv (.v (.bool j4)))] [] []) (fun h => ?_) (fun y15j3 h => ?_)
  · refine ok_region ?_
    refine RT.mv .none rfl (tl rfl) ?_
    replace h := let_some h
    obtain ⟨x5, h5, h⟩ := h
    refine RT.seql (l := x0) (k := []) .none rfl rfl (tl rfl) h5 ?_
    refine RT.mv .none rfl (tl rfl) ?_
    replace h := bind_some h
    obtain ⟨c15_19, hg19, h⟩ := h
    cases x5
    · replace hg19 := br_f hg19
      refine RT.mv (.some rfl rfl) rfl (tl rfl) ?_
      replace hg19 := bind_some hg19
      obtain ⟨x8, h8, hg19⟩ := hg19
      refine RT.six (l := x0) (.some rfl rfl) rfl rfl (tl rfl) h8 ?_
      replace hg19 := let_some hg19
      obtain ⟨x9, h9, hg19⟩ := hg19
      refine RT.eql (.some rfl rfl) _ rfl rfl (tl rfl) (eqN (p := x8) (q := 48) h9) ?_
      refine RT.mv (.some rfl rfl) rfl (tl rfl) ?_
      replace hg19 := bind_some hg19
      obtain ⟨c14_20, hg20, hg19⟩ := hg19
      cases x9
      · replace hg20 := br_f hg20
        obtain rfl := Option.some.inj hg20
        refine RT.skV rfl rfl (sk rfl) (tl rfl) ?_
        refine RT.skV rfl rfl (sk rfl) (tl rfl) ?_
        refine RT.skV rfl rfl (sk rfl) (tl rfl) ?_
        refine RT.pickF (.some rfl rfl) rfl rfl (tl rfl) ?_
        obtain rfl := Option.some.inj hg19
        refine RT.pickF .none rfl rfl (tl rfl) ?_
        refine RT.done ?_
        refine AThen.n ?_
        refine ⟨false, h, ?_⟩
        try dsimp only
        exact weakL id rfl rfl rfl rfl rfl ⟨.sv (SV.imp_refl _), .sv (SV.imp_refl _), trivial⟩ trivial trivial (fun _ _ => rfl)
      · replace hg20 := br_t hg20
        refine RT.mv (.some rfl rfl) rfl (tl rfl) ?_
        replace hg20 := let_some hg20
        obtain ⟨x12, h12, hg20⟩ := hg20
        refine RT.slen (l := x0) (.some rfl rfl) rfl (tl rfl) h12 ?_
        replace hg20 := let_some hg20
        obtain ⟨x13, h13, hg20⟩ := hg20
        refine RT.gtr (.some rfl rfl) _ rfl rfl (tl rfl) h13 ?_
        obtain rfl := Option.some.inj hg20
        refine RT.pickT (.some rfl rfl) rfl rfl (tl rfl) ?_
        obtain rfl := Option.some.inj hg19
        refine RT.pickF .none rfl rfl (tl rfl) ?_
        refine RT.done ?_
        refine AThen.n ?_
        refine ⟨x13, h, ?_⟩
        try dsimp only
        exact weakL id rfl rfl rfl rfl rfl ⟨.sv (SV.imp_refl _), .sv (SV.imp_refl _), trivial⟩ trivial trivial (fun _ _ => rfl)
    · replace hg19 := br_t hg19
      obtain rfl := Option.some.inj hg19
      refine RT.skV rfl rfl (sk rfl) (tl rfl) ?_
      refine RT.skV rfl rfl (sk rfl) (tl rfl) ?_
      refine RT.skV rfl rfl (sk rfl) (tl rfl) ?_
      refine RT.skV rfl rfl (sk rfl) (tl rfl) ?_
      refine RT.skipU rfl rfl (tl rfl) ?_
      refine RT.skipU rfl rfl (tl rfl) ?_
      refine RT.skipU rfl rfl (tl rfl) ?_
      refine RT.skV rfl rfl (sk rfl) (tl rfl) ?_
      refine RT.pickT .none rfl rfl (tl rfl) ?_
      refine RT.done ?_
      refine AThen.n ?_
      refine ⟨true, h, ?_⟩
      try dsimp only
      exact weakL id rfl rfl rfl rfl rfl ⟨.sv (SV.imp_refl _), .sv (SV.imp_refl _), trivial⟩ trivial trivial (fun _ _ => rfl)
  · try dsimp only
    refine AThen.n ?_
    cases y15j3
    · replace h := br_f h
      refine ok_condF rfl ?_
      refine ok_skip ?_
      refine AThen.n ?_
      refine ok_seq ?_
      refine ok_seq ?_
      refine ok_region ?_
      refine RT.mv .none rfl (tl rfl) ?_
      replace h := let_some h
      obtain ⟨x17, h17, h⟩ := h
      refine RT.slen (l := x0) .none rfl (tl rfl) h17 ?_
      refine RT.mv .none rfl (tl rfl) ?_
      refine RT.done ?_
      refine AThen.n ?_
      replace h := bind_some h
      obtain ⟨e14, hl14, ho14⟩ := h
      refine ok_tailP (fun (xe14 : Unit) => AS.mkL 32 [] [] []) (fun xe14 => .inl xe14 = e14) ?_ (fun xe14 hx14 => ?_)
      · refine ok_block ?_
        refine ok_loopM hl14 (fun s14 => AS.mkL 32 [(0, .sv (.v (.string (bs x0)))), (17, .sv (.v (.int .i64 x17))), (18, .sv (.v (.int .i64 s14)))] [] []) (by (try dsimp only); exact weakL id rfl rfl rfl rfl rfl ⟨.sv (SV.imp_refl _), .sv (SV.imp_refl _), .sv (SV.imp_refl _), trivial⟩ trivial trivial (fun _ _ => rfl)) (fun y18l9 y14 G14 h hG14 hE14 => ?_)
        try dsimp only
        refine ok_seq ?_
        refine ok_region ?_
        replace h := let_some h
        obtain ⟨x19, h19, h⟩ := h
        refine RT.lss .none _ rfl rfl (tl rfl) h19 ?_
        refine RT.done ?_
        refine AThen.n ?_
        refine ok_seq ?_
        cases x19
        · replace h := br_f h
          refine ok_condF rfl ?_
          refine ok_exit ?_
          refine AThen.x ?_
          refine AThen.x ?_
          refine AInB.x ?_
          refine AThen.n ?_
          obtain rfl := Option.some.inj h
          refine ⟨(), hE14 _ rfl, ?_⟩
          try dsimp only
          exact weakL id rfl rfl rfl rfl rfl trivial trivial trivial (fun _ _ => rfl)
        · replace h := br_t h
          refine ok_condT rfl ?_
          refine ok_skip ?_
          refine AThen.n ?_
          refine ok_seq ?_
          refine ok_block ?_
          refine ok_seq ?_
          refine ok_region ?_
          refine RT.mv .none rfl (tl rfl) ?_
          refine RT.asg .none rfl (tl rfl) ?_
          refine RT.done ?_
          refine AThen.n ?_
          refine ok_seq ?_
          refine ok_tailJ h (fun j17 => AS.mkL 32 [(0, .sv (.v (.string (bs x0)))), (17, .sv (.v (.int .i64 x17))), (18, .sv (.v (.int .i64 y18l9))), (30, .sv (.v (.bool j17)))] [] []) (fun h => ?_) (fun y30j16 h => ?_)
          · refine ok_region ?_
            refine RT.mv .none rfl (tl rfl) ?_
            refine RT.mv .none rfl (tl rfl) ?_
            replace h := bind_some h
            obtain ⟨x23, h23, h⟩ := h
            refine RT.six (l := x0) .none rfl rfl (tl rfl) h23 ?_
            replace h := let_some h
            obtain ⟨x24, h24, h⟩ := h
            refine RT.lss .none _ rfl rfl (tl rfl) (ltN (p := x23) (q := 48) h24) ?_
            refine RT.mv .none rfl (tl rfl) ?_
            replace h := bind_some h
            obtain ⟨c30_18, hg18, h⟩ := h
            cases x24
            · replace hg18 := br_f hg18
              refine RT.mv (.some rfl rfl) rfl (tl rfl) ?_
              refine RT.mv (.some rfl rfl) rfl (tl rfl) ?_
              replace hg18 := bind_some hg18
              obtain ⟨x28, h28, hg18⟩ := hg18
              refine RT.six (l := x0) (.some rfl rfl) rfl rfl (tl rfl) h28 ?_
              replace hg18 := let_some hg18
              obtain ⟨x29, h29, hg18⟩ := hg18
              refine RT.gtr (.some rfl rfl) _ rfl rfl (tl rfl) (ltN (p := 57) (q := x28) h29) ?_
              obtain rfl := Option.some.inj hg18
              refine RT.pickF .none rfl rfl (tl rfl) ?_
              refine RT.done ?_
              refine AThen.n ?_
              refine ⟨x29, h, ?_⟩
              try dsimp only
              exact weakL id rfl rfl rfl rfl rfl ⟨.sv (SV.imp_refl _), .sv (SV.imp_refl _), .sv (SV.imp_refl _), .sv (SV.imp_refl _), trivial⟩ trivial trivial (fun _ _ => rfl)
            · replace hg18 := br_t hg18
              obtain rfl := Option.some.inj hg18
              refine RT.skV rfl rfl (sk rfl) (tl rfl) ?_
              refine RT.skV rfl rfl (sk rfl) (tl rfl) ?_
              refine RT.skV rfl rfl (sk rfl) (tl rfl) ?_
              refine RT.skV rfl rfl (sk rfl) (tl rfl) ?_
              refine RT.pickT .none rfl rfl (tl rfl) ?_
              refine RT.done ?_
              refine AThen.n ?_
              refine ⟨true, h, ?_⟩
              try dsimp only
              exact weakL id rfl rfl rfl rfl rfl ⟨.sv (SV.imp_refl _), .sv (SV.imp_refl _), .sv (SV.imp_refl _), .sv (SV.imp_refl _), trivial⟩ trivial trivial (fun _ _ => rfl)
          · try dsimp only
            refine AThen.n ?_
            cases y30j16
            · replace h := br_f h
              refine ok_condF rfl ?_
              refine ok_skip ?_
              refine AInB.n ?_
              refine AThen.n ?_
              refine ok_region ?_
              replace h := let_some h
              obtain ⟨x31, h31, h⟩ := h
              refine RT.add .none _ rfl rfl (tl rfl) h31 ?_
              refine RT.mv .none rfl (tl rfl) ?_
              refine RT.done ?_
              obtain rfl := Option.some.inj h
              refine AThen.n ⟨x31, hG14 _ rfl, ?_⟩
              try dsimp only
              exact weakL id rfl rfl rfl rfl rfl ⟨.sv (SV.imp_refl _), .sv (SV.imp_refl _), .sv (SV.imp_refl _), trivial⟩ trivial trivial (fun _ _ => rfl)
            · replace h := br_t h
              refine ok_condT rfl ?_
              refine ok_seq ?_
              refine ok_region ?_
              refine RT.asg .none rfl (tl rfl) ?_
              refine RT.done ?_
              refine AThen.n ?_
              refine ok_ret ?_
              refine AInB.r ?_
              refine AThen.r ?_
              obtain rfl := Option.some.inj h
              have he14 := hE14 _ rfl
              subst he14
              refine AThen.r ?_
              refine AInB.r ?_
              refine AThen.r ?_
              refine AThen.r ?_
              obtain rfl := Option.some.inj ho14
              exact ⟨.inr rfl, res_imp (.tmp rfl (.nil)) (SV.imp_refl _)⟩
      · subst hx14
        try dsimp only
        refine AThen.n ?_
        refine ok_seq ?_
        refine ok_region ?_
        refine RT.asg .none rfl (tl rfl) ?_
        refine RT.done ?_
        refine AThen.n ?_
        refine ok_ret ?_
        obtain rfl := Option.some.inj ho14
        exact ⟨.inr rfl, res_imp (.tmp rfl (.nil)) (SV.imp_refl _)⟩
    · replace h := br_t h
      refine ok_condT rfl ?_
      refine ok_seq ?_
      refine ok_region ?_
      refine RT.asg .none rfl (tl rfl) ?_
      refine RT.done ?_
      refine AThen.n ?_
      refine ok_ret ?_
      refine AThen.r ?_
      obtain rfl := Option.some.inj h
      exact ⟨.inr rfl, res_imp (.tmp rfl (.nil)) (SV.imp_refl _)⟩
theorem whole_Format_ok {x0 : Zr} {r : Str} (h : whole_Format_m x0 = some r) : Pure Try.prog 17 [.agg (eZ x0)] (.v (.string (bs r))) := by
  obtain ⟨x0_0, x0_1⟩ := x0
  refine pure_of_ok Try.func17 rfl (Nat.le_of_ble_eq_true rfl) (fun wld M vs hvs => ?_)
  unfold whole_Format_m at h
  refine ok_seq ?_
  refine ok_region ?_
  refine RT.box .none rfl (tl rfl) rfl rfl ?_
  refine RT.asg .none rfl (tl rfl) ?_
  refine RT.done ?_
  refine AThen.n ?_
  refine ok_seq ?_
  refine ok_region ?_
  refine RT.fieldAddr .none rfl (tl rfl) rfl ?_
  refine RT.ldV .none rfl rfl rfl (tl rfl) ?_
  replace h := bind_some h
  obtain ⟨x8, h8, h⟩ := h
  refine RT.call .none (whole_trim_ok h8) rfl ⟨rfl, trivial⟩ (tl rfl) ?_
  replace h := bind_some h
  obtain ⟨x9, h9, h⟩ := h
  refine RT.callN .none (slices_CloneN_ok h9) rfl ⟨rfl, trivial⟩ (tl rfl) rfl (tl rfl) ?_
  refine RT.assign .none (s := .row _) rfl (tl rfl) ?_
  refine RT.done ?_
  refine AThen.n ?_
  refine ok_seq ?_
  refine ok_seq ?_
  refine ok_region ?_
  refine RT.move .none (s := .row _) rfl (tl rfl) ?_
  replace h := let_some h
  obtain ⟨x11, h11, h⟩ := h
  refine RT.lenRM .none rfl rfl (tl rfl) h11 ?_
  replace h := let_some h
  obtain ⟨x12, h12, h⟩ := h
  refine RT.eql .none _ rfl rfl (tl rfl) (eqI (p := x11) (q := 0) h12) ?_
  refine RT.done ?_
  refine AThen.n ?_
  cases x12
  · replace h := br_f h
    refine ok_condF rfl ?_
    refine ok_skip ?_
    refine AThen.n ?_
    refine ok_seq ?_
    refine ok_region ?_
    refine RT.asg .none rfl (tl rfl) ?_
    refine RT.done ?_
    refine AThen.n ?_
    refine ok_weak (weak_nil 4 304 5 1 rfl rfl (tl rfl)) ?_
    refine ok_seq ?_
    replace h := bind_some h
    obtain ⟨e18, hl18, ho18⟩ := h
    refine ok_tailP (fun (r311e17 : (List Nat)) => AS.mkL 53 [(1, .ptr 1 0), (4, .row 311)] [(1, ⟨24, [.sv (.v (.bool x0_0)), .sv (slc 1 (List.map eU32 x0_1))]⟩)] [(311, TR 5 1 eU8 r311e17)]) (fun r311e17 => r311e17 = e18) ?_ (fun r311e17 hx18 => ?_)
    · refine ok_block ?_
      refine ok_loopM hl18 (fun s18 => AS.mkL 53 [(1, .ptr 1 0), (3, .row 310), (4, .row 311)] [(1, ⟨24, [.sv (.v (.bool x0_0)), .sv (slc 1 (List.map eU32 x0_1))]⟩)] [(310, TR 51 1 eU32 s18.1), (311, TR 5 1 eU8 s18.2)]) (by (try dsimp only); exact weakL (fun i => bif Nat.beq i 310 then 9 else bif Nat.beq i 311 then 304 else i) rfl rfl rfl rfl rfl ⟨.ptr, .row rfl, .row rfl, trivial⟩ ⟨⟨_, rfl, ⟨.sv (SV.imp_refl _), .sv (SV.imp_refl _), trivial⟩⟩, trivial⟩ ⟨⟨_, rfl, SVIs.refl _⟩, ⟨_, rfl, SVIs.refl _⟩, trivial⟩ (fun i hi => by rw [beq_ne (show i ≠ 310 by omega)]; rw [beq_ne (show i ≠ 311 by omega)]; rfl)) (fun s18 y18 G18 h hG18 hE18 => ?_)
      obtain ⟨r310l9, r311l9⟩ := s18
      try dsimp only
      refine ok_seq ?_
      refine ok_seq ?_
      refine ok_region ?_
      refine RT.move .none (s := .row _) rfl (tl rfl) ?_
      replace h := let_some h
      obtain ⟨x14, h14, h⟩ := h
      refine RT.lenRM .none rfl rfl (tl rfl) h14 ?_
      replace h := let_some h
      obtain ⟨x15, h15, h⟩ := h
      refine RT.gtr .none _ rfl rfl (tl rfl) h15 ?_
      refine RT.done ?_
      refine AThen.n ?_
      cases x15
      · replace h := br_f h
        refine ok_condF rfl ?_
        refine ok_exit ?_
        refine AThen.x ?_
        refine AThen.x ?_
        refine AInB.x ?_
        refine AThen.n ?_
        obtain rfl := Option.some.inj h
        refine ⟨r311l9, hE18 _ rfl, ?_⟩
        try dsimp only
        exact weakL id rfl rfl rfl rfl rfl ⟨.ptr, .row rfl, trivial⟩ ⟨⟨_, rfl, ⟨.sv (SV.imp_refl _), .sv (SV.imp_refl _), trivial⟩⟩, trivial⟩ ⟨⟨_, rfl, SVIs.refl _⟩, trivial⟩ (fun _ _ => rfl)
      · replace h := br_t h
        refine ok_condT rfl ?_
        refine ok_skip ?_
        refine AThen.n ?_
        refine ok_block ?_
        refine ok_seq ?_
        refine ok_region ?_
        refine RT.move .none (s := .row _) rfl (tl rfl) ?_
        replace h := bind_some h
        obtain ⟨⟨x17, l20⟩, h17, h⟩ := h
        replace h := bind_some h
        obtain ⟨_, he20, h⟩ := h
        refine RT.callRM (l := r310l9) (l' := l20) (e := eU32) .none (whole_shortDiv_ok h17) (eqLen_some he20) 310 rfl rfl rfl rfl (.cons rfl (.cons rfl (.nil))) (tl rfl) ?_
        refine RT.asg .none rfl (tl rfl) ?_
        refine RT.done ?_
        refine AThen.n ?_
        refine ok_seq ?_
        refine ok_region ?_
        refine RT.move .none (s := .row _) rfl (tl rfl) ?_
        replace h := bind_some h
        obtain ⟨x19, h19, h⟩ := h
        refine RT.callT .none (whole_trimT_ok h19) (pv_flat _) 310 rfl rfl rfl (.cons rfl (.nil)) (tl rfl) rfl (tl rfl) ?_
        refine RT.assign .none (s := .row _) rfl (tl rfl) ?_
        refine RT.done ?_
        refine AThen.n ?_
        refine ok_seq ?_
        refine ok_region ?_
        refine RT.mv .none rfl (tl rfl) ?_
        refine RT.done ?_
        refine AThen.n ?_
        replace h := bind_some h
        obtain ⟨e26, hl26, ho26⟩ := h
        refine ok_tailP (fun (r318e25 : (List Nat)) => AS.mkL 53 [(1, .ptr 1 0), (3, .row 19), (4, .row 318)] [(1, ⟨24, [.sv (.v (.bool x0_0)), .sv (slc 1 (List.map eU32 x0_1))]⟩)] [(19, TR 51 1 eU32 x19), (318, TR 5 1 eU8 r318e25)]) (fun r318e25 => r318e25 = e26) ?_ (fun r318e25 hx26 => ?_)
        · refine ok_block ?_
          refine ok_loopM hl26 (fun s26 => AS.mkL 53 [(1, .ptr 1 0), (3, .row 19), (4, .row 318), (5, .sv (.v (.int .u64 ((s26.1 : Nat) : Int)))), (20, .sv (.v (.int .i64 s26.2.1)))] [(1, ⟨24, [.sv (.v (.bool x0_0)), .sv (slc 1 (List.map eU32 x0_1))]⟩)] [(19, TR 51 1 eU32 x19), (318, TR 5 1 eU8 s26.2.2)]) (by (try dsimp only); exact weakL (fun i => bif Nat.beq i 318 then 311 else i) rfl rfl rfl rfl rfl ⟨.ptr, .row rfl, .row rfl, .sv (SV.imp_refl _), .sv (SV.imp_refl _), trivial⟩ ⟨⟨_, rfl, ⟨.sv (SV.imp_refl _), .sv (SV.imp_refl _), trivial⟩⟩, trivial⟩ ⟨⟨_, rfl, SVIs.refl _⟩, ⟨_, rfl, SVIs.refl _⟩, trivial⟩ (fun i hi => by rw [beq_ne (show i ≠ 318 by omega)]; rfl)) (fun s26 y26 G26 h hG26 hE26 => ?_)
          obtain ⟨y5l23, y20l23, r318l23⟩ := s26
          try dsimp only
          refine ok_seq ?_
          refine ok_region ?_
          replace h := let_some h
          obtain ⟨x21, h21, h⟩ := h
          refine RT.lss .none _ rfl rfl (tl rfl) h21 ?_
          refine RT.done ?_
          refine AThen.n ?_
          refine ok_seq ?_
          cases x21
          · replace h := br_f h
            refine ok_condF rfl ?_
            refine ok_exit ?_
            refine AThen.x ?_
            refine AThen.x ?_
            refine AInB.x ?_
            refine AThen.n ?_
            obtain rfl := Option.some.inj h
            refine ⟨r318l23, hE26 _ rfl, ?_⟩
            try dsimp only
            exact weakL id rfl rfl rfl rfl rfl ⟨.ptr, .row rfl, .row rfl, trivial⟩ ⟨⟨_, rfl, ⟨.sv (SV.imp_refl _), .sv (SV.imp_refl _), trivial⟩⟩, trivial⟩ ⟨⟨_, rfl, SVIs.refl _⟩, ⟨_, rfl, SVIs.refl _⟩, trivial⟩ (fun _ _ => rfl)
          · replace h := br_t h
            refine ok_condT rfl ?_
            refine ok_skip ?_
            refine AThen.n ?_
            refine ok_seq ?_
            refine ok_block ?_
            refine ok_seq ?_
            refine ok_region ?_
            refine RT.move .none (s := .row _) rfl (tl rfl) ?_
            refine RT.mv .none rfl (tl rfl) ?_
            replace h := let_some h
            obtain ⟨x24, h24, h⟩ := h
            refine RT.rem .none _ rfl rfl (tl rfl) (by decide) (remU' (a := y5l23) (b := 10) h24) ?_
            replace h := let_some h
            obtain ⟨x25, h25, h⟩ := h
            refine RT.add .none _ rfl rfl (tl rfl) (UK.add (a := 48) (b := x24) h25) ?_
            replace h := let_some h
            obtain ⟨x26, h26, h⟩ := h
            refine RT.conv .none _ rfl (tl rfl) (UK.nat h26) ?_
            refine RT.buildSl (l := [x26]) (e := eU8) .none (.one rfl (.nil)) (tl rfl) rfl rfl rfl rfl rfl rfl ?_
            replace h := bind_some h
            obtain ⟨x28, h28, h⟩ := h
            refine RT.apR (k := [x26]) (e := eU8) .none rfl rfl rfl (tl rfl) rfl (tl rfl) h28 ?_
            refine RT.assign .none (s := .row _) rfl (tl rfl) ?_
            refine RT.done ?_
            refine AThen.n ?_
            refine ok_region ?_
            refine RT.mv .none rfl (tl rfl) ?_
            replace h := let_some h
            obtain ⟨x30, h30, h⟩ := h
            refine RT.quo .none _ rfl rfl (tl rfl) (by decide) (UK.quo' (a := y5l23) (b := 10) h30) ?_
            refine RT.asg .none rfl (tl rfl) ?_
            refine RT.done ?_
            refine AInB.n ?_
            refine AThen.n ?_
            refine ok_region ?_
            replace h := let_some h
            obtain ⟨x31, h31, h⟩ := h
            refine RT.add .none _ rfl rfl (tl rfl) h31 ?_
            refine RT.mv .none rfl (tl rfl) ?_
            refine RT.done ?_
            obtain rfl := Option.some.inj h
            refine AThen.n ⟨(x30, x31, x28), hG26 _ rfl, ?_⟩
            try dsimp only
            exact weakL (fun i => bif Nat.beq i 318 then 28 else i) rfl rfl rfl rfl rfl ⟨.ptr, .row rfl, .row rfl, .sv (SV.imp_refl _), .sv (SV.imp_refl _), trivial⟩ ⟨⟨_, rfl, ⟨.sv (SV.imp_refl _), .sv (SV.imp_refl _), trivial⟩⟩, trivial⟩ ⟨⟨_, rfl, SVIs.refl _⟩, ⟨_, rfl, SVIs.refl _⟩, trivial⟩ (fun i hi => by rw [beq_ne (show i ≠ 318 by omega)]; rfl)
        · subst hx26
          try dsimp only
          refine AInB.n ?_
          obtain rfl := Option.some.inj ho26
          refine AThen.n ⟨(x19, r318e25), hG18 _ rfl, ?_⟩
          try dsimp only
          exact weakL (fun i => bif Nat.beq i 310 then 19 else bif Nat.beq i 311 then 318 else i) rfl rfl rfl rfl rfl ⟨.ptr, .row rfl, .row rfl, trivial⟩ ⟨⟨_, rfl, ⟨.sv (SV.imp_refl _), .sv (SV.imp_refl _), trivial⟩⟩, trivial⟩ ⟨⟨_, rfl, SVIs.refl _⟩, ⟨_, rfl, SVIs.refl _⟩, trivial⟩ (fun i hi => by rw [beq_ne (show i ≠ 310 by omega)]; rw [beq_ne (show i ≠ 311 by omega)]; rfl)
    · subst hx18
      try dsimp only
      refine AThen.n ?_
      refine ok_seq ?_
      replace ho18 := bind_some ho18
      obtain ⟨e32, hl32, ho32⟩ := ho18
      refine ok_tailP (fun (r321e31 : (List Nat)) => AS.mkL 53 [(1, .ptr 1 0), (4, .row 321)] [(1, ⟨24, [.sv (.v (.bool x0_0)), .sv (slc 1 (List.map eU32 x0_1))]⟩)] [(321, TR 5 1 eU8 r321e31)]) (fun r321e31 => r321e31 = e32) ?_ (fun r321e31 hx32 => ?_)
      · refine ok_block ?_
        refine ok_loopM hl32 (fun s32 => AS.mkL 53 [(1, .ptr 1 0), (4, .row 321)] [(1, ⟨24, [.sv (.v (.bool x0_0)), .sv (slc 1 (List.map eU32 x0_1))]⟩)] [(321, TR 5 1 eU8 s32)]) (by (try dsimp only); exact weakL (fun i => bif Nat.beq i 321 then 311 else i) rfl rfl rfl rfl rfl ⟨.ptr, .row rfl, trivial⟩ ⟨⟨_, rfl, ⟨.sv (SV.imp_refl _), .sv (SV.imp_refl _), trivial⟩⟩, trivial⟩ ⟨⟨_, rfl, SVIs.refl _⟩, trivial⟩ (fun i hi => by rw [beq_ne (show i ≠ 321 by omega)]; rfl)) (fun r321l29 y32 G32 h hG32 hE32 => ?_)
        try dsimp only
        refine ok_seq ?_
        refine ok_seq ?_
        refine ok_region ?_
        refine RT.move .none (s := .row _) rfl (tl rfl) ?_
        refine RT.move .none (s := .row _) rfl (tl rfl) ?_
        replace h := let_some h
        obtain ⟨x34, h34, h⟩ := h
        refine RT.lenRM .none rfl rfl (tl rfl) h34 ?_
        replace h := let_some h
        obtain ⟨x35, h35, h⟩ := h
        refine RT.sub .none _ rfl rfl (tl rfl) h35 ?_
        replace h := bind_some h
        obtain ⟨x36, h36, h⟩ := h
        refine RT.ixRM .none rfl rfl rfl (tl rfl) h36 ?_
        replace h := bind_some h
        obtain ⟨x37, h37, h⟩ := h
        refine RT.ldRM .none rfl rfl h37 rfl (tl rfl) ?_
        replace h := let_some h
        obtain ⟨x38, h38, h⟩ := h
        refine RT.eql .none _ rfl rfl (tl rfl) (eqN (p := x37) (q := 48) h38) ?_
        refine RT.done ?_
        refine AThen.n ?_
        cases x38
        · replace h := br_f h
          refine ok_condF rfl ?_
          refine ok_exit ?_
          refine AThen.x ?_
          refine AThen.x ?_
          refine AInB.x ?_
          refine AThen.n ?_
          obtain rfl := Option.some.inj h
          refine ⟨r321l29, hE32 _ rfl, ?_⟩
          try dsimp only
          exact weakL id rfl rfl rfl rfl rfl ⟨.ptr, .row rfl, trivial⟩ ⟨⟨_, rfl, ⟨.sv (SV.imp_refl _), .sv (SV.imp_refl _), trivial⟩⟩, trivial⟩ ⟨⟨_, rfl, SVIs.refl _⟩, trivial⟩ (fun _ _ => rfl)
        · replace h := br_t h
          refine ok_condT rfl ?_
          refine ok_skip ?_
          refine AThen.n ?_
          refine ok_block ?_
          refine ok_region ?_
          refine RT.move .none (s := .row _) rfl (tl rfl) ?_
          refine RT.move .none (s := .row _) rfl (tl rfl) ?_
          replace h := let_some h
          obtain ⟨x41, h41, h⟩ := h
          refine RT.lenRM .none rfl rfl (tl rfl) h41 ?_
          replace h := let_some h
          obtain ⟨x42, h42, h⟩ := h
          refine RT.sub .none _ rfl rfl (tl rfl) h42 ?_
          replace h := bind_some h
          obtain ⟨x43, h43, h⟩ := h
          refine RT.truncM .none rfl rfl rfl (tl rfl) rfl (tl rfl) h43 ?_
          refine RT.assign .none (s := .row _) rfl (tl rfl) ?_
          refine RT.done ?_
          refine AInB.n ?_
          obtain rfl := Option.some.inj h
          refine AThen.n ⟨x43, hG32 _ rfl, ?_⟩
          try dsimp only
          exact weakL (fun i => bif Nat.beq i 321 then 43 else i) rfl rfl rfl rfl rfl ⟨.ptr, .row rfl, trivial⟩ ⟨⟨_, rfl, ⟨.sv (SV.imp_refl _), .sv (SV.imp_refl _), trivial⟩⟩, trivial⟩ ⟨⟨_, rfl, SVIs.refl _⟩, trivial⟩ (fun i hi => by rw [beq_ne (show i ≠ 321 by omega)]; rfl)
      · subst hx32
        try dsimp only
        refine AThen.n ?_
        refine ok_seq ?_
        refine ok_seq ?_
        refine ok_region ?_
        refine RT.fieldAddr .none rfl (tl rfl) rfl ?_
        refine RT.ldV .none rfl rfl rfl (tl rfl) ?_
        refine RT.done ?_
        refine AThen.n ?_
        refine ok_tailJ ho32 (fun j34 => AS.mkL 53 [(4, .row 323)] [] [(323, TR 5 1 eU8 j34)]) (fun ho32 => ?_) (fun r323j33 ho32 => ?_)
        · cases x0_0
          · replace ho32 := br_f ho32
            refine ok_condF rfl ?_
            refine ok_skip ?_
            refine AThen.n ?_
            refine ⟨r321e31, ho32, ?_⟩
            try dsimp only
            exact weakL (fun i => bif Nat.beq i 323 then 321 else i) rfl rfl rfl rfl rfl ⟨.row rfl, trivial⟩ trivial ⟨⟨_, rfl, SVIs.refl _⟩, trivial⟩ (fun i hi => by rw [beq_ne (show i ≠ 323 by omega)]; rfl)
          · replace ho32 := br_t ho32
            refine ok_condT rfl ?_
            refine ok_region ?_
            refine RT.move .none (s := .row _) rfl (tl rfl) ?_
            refine RT.buildSl (l := [45]) (e := eU8) .none (.one rfl (.nil)) (tl rfl) rfl rfl rfl rfl rfl rfl ?_
            replace ho32 := bind_some ho32
            obtain ⟨x48, h48, ho32⟩ := ho32
            refine RT.apR (k := [45]) (e := eU8) .none rfl rfl rfl (tl rfl) rfl (tl rfl) h48 ?_
            refine RT.assign .none (s := .row _) rfl (tl rfl) ?_
            refine RT.done ?_
            refine AThen.n ?_
            refine ⟨x48, ho32, ?_⟩
            try dsimp only
            exact weakL (fun i => bif Nat.beq i 323 then 48 else i) rfl rfl rfl rfl rfl ⟨.row rfl, trivial⟩ trivial ⟨⟨_, rfl, SVIs.refl _⟩, trivial⟩ (fun i hi => by rw [beq_ne (show i ≠ 323 by omega)]; rfl)
        · try dsimp only
          refine AThen.n ?_
          refine ok_seq ?_
          refine ok_region ?_
          refine RT.move .none (s := .row _) rfl (tl rfl) ?_
          replace ho32 := bind_some ho32
          obtain ⟨l36, h50, ho32⟩ := ho32
          replace ho32 := bind_some ho32
          obtain ⟨_, he36, ho32⟩ := ho32
          refine RT.callRM (l := r323j33) (l' := l36) (e := eU8) .none (slices_Reverse_ok h50) (eqLen_some he36) 323 rfl rfl rfl rfl (.cons rfl (.nil)) (tl rfl) ?_
          refine RT.done ?_
          refine AThen.n ?_
          refine ok_seq ?_
          refine ok_weak (weak_frzM (i := 323) (E1 := 5) (n := 1) (e := eU8) (l := l36) rfl) ?_
          refine ok_region ?_
          refine RT.mv .none rfl (tl rfl) ?_
          replace ho32 := let_some ho32
          obtain ⟨x52, h52, ho32⟩ := ho32
          refine RT.toStr (w := l36) .none rfl (tl rfl) h52 ?_
          refine RT.asg .none rfl (tl rfl) ?_
          refine RT.done ?_
          refine AThen.n ?_
          refine ok_ret ?_
          obtain rfl := Option.some.inj ho32
          exact ⟨.inr rfl, res_imp (.tmp rfl (.nil)) (SV.imp_refl _)⟩
  · replace h := br_t h
    refine ok_condT rfl ?_
    refine ok_seq ?_
    refine ok_region ?_
    refine RT.asg .none rfl (tl rfl) ?_
    refine RT.done ?_
    refine AThen.n ?_
    refine ok_ret ?_
    refine AThen.r ?_
    obtain rfl := Option.some.inj h
    exact ⟨.inr rfl, res_imp (.tmp rfl (.nil)) (SV.imp_refl _)⟩
theorem whole_Parse_ok {x0 : Str} {r : Zr × Int} (h : whole_Parse_m x0 = some r) : Pure Try.prog 18 [.v (.string (bs x0))] (.tup [.agg (eZ r.1), .v (.int .i64 r.2)]) := by
  refine pure_of_ok Try.func18 rfl (Nat.le_of_ble_eq_true rfl) (fun wld M vs hvs => ?_)
  unfold whole_Parse_m at h
  refine ok_seq ?_
  refine ok_region ?_
  refine RT.allocI .none (cs := [.v (.bool false), slc 1 (List.map eU32 [])]) (by exact ⟨SV.imp_refl _, imp_nil, trivial⟩) rfl (tl rfl) rfl rfl ?_
  refine RT.asg .none rfl (tl rfl) ?_
  refine RT.done ?_
  refine AThen.n ?_
  refine ok_seq ?_
  refine ok_region ?_
  refine RT.mv .none rfl (tl rfl) ?_
  replace h := bind_some h
  obtain ⟨⟨x13a, x13b⟩, h13, h⟩ := h
  refine RT.call .none (strings_CutPrefix_ok h13) rfl ⟨rfl, rfl, trivial⟩ (tl rfl) ?_
  refine RT.mv .none rfl (tl rfl) ?_
  refine RT.extract .none rfl rfl (tl rfl) ?_
  refine RT.extract .none rfl rfl (tl rfl) ?_
  refine RT.asg .none rfl (tl rfl) ?_
  refine RT.asg .none rfl (tl rfl) ?_
  refine RT.done ?_
  refine AThen.n ?_
  refine ok_seq ?_
  refine ok_seq ?_
  refine ok_region ?_
  refine RT.mv .none rfl (tl rfl) ?_
  replace h := let_some h
  obtain ⟨x17, h17, h⟩ := h
  refine RT.slen (l := x13a) .none rfl (tl rfl) h17 ?_
  replace h := let_some h
  obtain ⟨x18, h18, h⟩ := h
  refine RT.gtr .none _ rfl rfl (tl rfl) h18 ?_
  refine RT.done ?_
  refine AThen.n ?_
  cases x18
  · replace h := br_f h
    refine ok_condF rfl ?_
    refine ok_skip ?_
    refine AThen.n ?_
    refine ok_seq ?_
    refine ok_seq ?_
    refine ok_tailJ h (fun j4 => AS.mkL 62 [(2, .ptr 2 0), (4, .sv (.v (.string (bs x13a)))), (5, .sv (.v (.bool j4.1))), (29, .sv (.v (.bool j4.2)))] [(2, ⟨24, [.sv (.v (.bool false)), .sv (slc 1 (List.map eU32 []))]⟩)] []) (fun h => ?_) (fun j4 h => ?_)
    · refine ok_region ?_
      refine RT.mv .none rfl (tl rfl) ?_
      replace h := bind_some h
      obtain ⟨x21, h21, h⟩ := h
      refine RT.call .none (whole_isDecimal_ok h21) rfl ⟨rfl, trivial⟩ (tl rfl) ?_
      replace h := let_some h
      obtain ⟨x22, h22, h⟩ := h
      refine RT.not .none rfl (tl rfl) _ h22 ?_
      refine RT.mv .none rfl (tl rfl) ?_
      replace h := bind_some h
      obtain ⟨c29_27, hg27, h⟩ := h
      cases x22
      · replace hg27 := br_f hg27
        refine RT.mv (.some rfl rfl) rfl (tl rfl) ?_
        refine RT.mv (.some rfl rfl) rfl (tl rfl) ?_
        replace hg27 := bind_some hg27
        obtain ⟨c28_28, hg28, hg27⟩ := hg27
        cases x13b
        · replace hg28 := br_f hg28
          obtain rfl := Option.some.inj hg28
          refine RT.skV rfl rfl (sk rfl) (tl rfl) ?_
          refine RT.skV rfl rfl (sk rfl) (tl rfl) ?_
          refine RT.pickF (.some rfl rfl) rfl rfl (tl rfl) ?_
          obtain rfl := Option.some.inj hg27
          refine RT.pickF .none rfl rfl (tl rfl) ?_
          refine RT.done ?_
          refine AThen.n ?_
          refine ⟨(false, false), h, ?_⟩
          try dsimp only
          exact weakL id rfl rfl rfl rfl rfl ⟨.ptr, .sv (SV.imp_refl _), .sv (SV.imp_refl _), .sv (SV.imp_refl _), trivial⟩ ⟨⟨_, rfl, ⟨.sv (SV.imp_refl _), .sv (SV.imp_refl _), trivial⟩⟩, trivial⟩ trivial (fun _ _ => rfl)
        · replace hg28 := br_t hg28
          refine RT.mv (.some rfl rfl) rfl (tl rfl) ?_
          replace hg28 := let_some hg28
          obtain ⟨x27, h27, hg28⟩ := hg28
          refine RT.seql (l := x13a) (k := [48]) (.some rfl rfl) rfl rfl (tl rfl) h27 ?_
          obtain rfl := Option.some.inj hg28
          refine RT.pickT (.some rfl rfl) rfl rfl (tl rfl) ?_
          obtain rfl := Option.some.inj hg27
          refine RT.pickF .none rfl rfl (tl rfl) ?_
          refine RT.done ?_
          refine AThen.n ?_
          refine ⟨(true, x27), h, ?_⟩
          try dsimp only
          exact weakL id rfl rfl rfl rfl rfl ⟨.ptr, .sv (SV.imp_refl _), .sv (SV.imp_refl _), .sv (SV.imp_refl _), trivial⟩ ⟨⟨_, rfl, ⟨.sv (SV.imp_refl _), .sv (SV.imp_refl _), trivial⟩⟩, trivial⟩ trivial (fun _ _ => rfl)
      · replace hg27 := br_t hg27
        obtain rfl := Option.some.inj hg27
        refine RT.skV rfl rfl (sk rfl) (tl rfl) ?_
        refine RT.skV rfl rfl (sk rfl) (tl rfl) ?_
        refine RT.skipU rfl rfl (tl rfl) ?_
        refine RT.skipU rfl rfl (tl rfl) ?_
        refine RT.skV rfl rfl (sk rfl) (tl rfl) ?_
        refine RT.pickT .none rfl rfl (tl rfl) ?_
        refine RT.done ?_
        refine AThen.n ?_
        refine ⟨(x13b, true), h, ?_⟩
        try dsimp only
        exact weakL id rfl rfl rfl rfl rfl ⟨.ptr, .sv (SV.imp_refl _), .sv (SV.imp_refl _), .sv (SV.imp_refl _), trivial⟩ ⟨⟨_, rfl, ⟨.sv (SV.imp_refl _), .sv (SV.imp_refl _), trivial⟩⟩, trivial⟩ trivial (fun _ _ => rfl)
    · obtain ⟨y5j3, y29j3⟩ := j4
      try dsimp only
      refine AThen.n ?_
      cases y29j3
      · replace h := br_f h
        refine ok_condF rfl ?_
        refine ok_skip ?_
        refine AThen.n ?_
        refine ok_seq ?_
        refine ok_region ?_
        refine RT.asg .none rfl (tl rfl) ?_
        refine RT.done ?_
        refine AThen.n ?_
        refine ok_weak (weak_nil 6 304 51 1 rfl rfl (tl rfl)) ?_
        refine ok_seq ?_
        replace h := bind_some h
        obtain ⟨e20, hl20, ho20⟩ := h
        refine ok_tailP (fun (r306e19 : (List Nat)) => AS.mkL 62 [(2, .ptr 2 0), (5, .sv (.v (.bool y5j3))), (6, .row 306)] [(2, ⟨24, [.sv (.v (.bool false)), .sv (slc 1 (List.map eU32 []))]⟩)] [(306, TR 51 1 eU32 r306e19)]) (fun r306e19 => r306e19 = e20) ?_ (fun r306e19 hx20 => ?_)
        · refine ok_block ?_
          refine ok_loopM hl20 (fun s20 => AS.mkL 62 [(2, .ptr 2 0), (4, .sv (.v (.string (bs s20.1)))), (5, .sv (.v (.bool y5j3))), (6, .row 306)] [(2, ⟨24, [.sv (.v (.bool false)), .sv (slc 1 (List.map eU32 []))]⟩)] [(306, TR 51 1 eU32 s20.2)]) (by (try dsimp only); exact weakL (fun i => bif Nat.beq i 306 then 304 else i) rfl rfl rfl rfl rfl ⟨.ptr, .sv (SV.imp_refl _), .sv (SV.imp_refl _), .row rfl, trivial⟩ ⟨⟨_, rfl, ⟨.sv (SV.imp_refl _), .sv (SV.imp_refl _), trivial⟩⟩, trivial⟩ ⟨⟨_, rfl, SVIs.refl _⟩, trivial⟩ (fun i hi => by rw [beq_ne (show i ≠ 306 by omega)]; rfl)) (fun s20 y20 G20 h hG20 hE20 => ?_)
          obtain ⟨y4l12, r306l12⟩ := s20
          try dsimp only
          refine ok_seq ?_
          refine ok_seq ?_
          refine ok_region ?_
          refine RT.mv .none rfl (tl rfl) ?_
          replace h := let_some h
          obtain ⟨x32, h32, h⟩ := h
          refine RT.slen (l := y4l12) .none rfl (tl rfl) h32 ?_
          replace h := let_some h
          obtain ⟨x33, h33, h⟩ := h
          refine RT.gtr .none _ rfl rfl (tl rfl) h33 ?_
          refine RT.done ?_
          refine AThen.n ?_
          cases x33
          · replace h := br_f h
            refine ok_condF rfl ?_
            refine ok_exit ?_
            refine AThen.x ?_
            refine AThen.x ?_
            refine AInB.x ?_
            refine AThen.n ?_
            obtain rfl := Option.some.inj h
            refine ⟨r306l12, hE20 _ rfl, ?_⟩
            try dsimp only
            exact weakL id rfl rfl rfl rfl rfl ⟨.ptr, .sv (SV.imp_refl _), .row rfl, trivial⟩ ⟨⟨_, rfl, ⟨.sv (SV.imp_refl _), .sv (SV.imp_refl _), trivial⟩⟩, trivial⟩ ⟨⟨_, rfl, SVIs.refl _⟩, trivial⟩ (fun _ _ => rfl)
          · replace h := br_t h
            refine ok_condT rfl ?_
            refine ok_skip ?_
            refine AThen.n ?_
            refine ok_block ?_
            refine ok_seq ?_
            refine ok_region ?_
            refine RT.mv .none rfl (tl rfl) ?_
            replace h := let_some h
            obtain ⟨x35, h35, h⟩ := h
            refine RT.slen (l := y4l12) .none rfl (tl rfl) h35 ?_
            replace h := let_some h
            obtain ⟨x36, h36, h⟩ := h
            refine RT.min .none _ rfl rfl (tl rfl) (minI (p := 9) (q := x35) h36) ?_
            refine RT.asg .none rfl (tl rfl) ?_
            refine RT.done ?_
            refine AThen.n ?_
            refine ok_seq ?_
            refine ok_region ?_
            refine RT.asg .none rfl (tl rfl) ?_
            refine RT.asg .none rfl (tl rfl) ?_
            refine RT.done ?_
            refine AThen.n ?_
            refine ok_seq ?_
            refine ok_seq ?_
            refine ok_region ?_
            refine RT.mv .none rfl (tl rfl) ?_
            refine RT.mv .none rfl (tl rfl) ?_
            refine RT.done ?_
            refine AThen.n ?_
            replace h := bind_some h
            obtain ⟨e26, hl26, ho26⟩ := h
            refine ok_tailP (fun (xe26 : Nat × Nat) => AS.mkL 62 [(2, .ptr 2 0), (4, .sv (.v (.string (bs y4l12)))), (5, .sv (.v (.bool y5j3))), (6, .row 306), (7, .sv (.v (.int .i64 x36))), (8, .sv (.v (.int .u64 ((xe26.1 : Nat) : Int)))), (9, .sv (.v (.int .u64 ((xe26.2 : Nat) : Int))))] [(2, ⟨24, [.sv (.v (.bool false)), .sv (slc 1 (List.map eU32 []))]⟩)] [(306, TR 51 1 eU32 r306l12)]) (fun xe26 => xe26 = e26) ?_ (fun xe26 hx26 => ?_)
            · refine ok_block ?_
              refine ok_loopM hl26 (fun s26 => AS.mkL 62 [(2, .ptr 2 0), (4, .sv (.v (.string (bs y4l12)))), (5, .sv (.v (.bool y5j3))), (6, .row 306), (7, .sv (.v (.int .i64 x36))), (8, .sv (.v (.int .u64 ((s26.1 : Nat) : Int)))), (9, .sv (.v (.int .u64 ((s26.2.1 : Nat) : Int)))), (37, .sv (.v (.int .i64 x36))), (38, .sv (.v (.int .i64 s26.2.2)))] [(2, ⟨24, [.sv (.v (.bool false)), .sv (slc 1 (List.map eU32 []))]⟩)] [(306, TR 51 1 eU32 r306l12)]) (by (try dsimp only); exact weakL id rfl rfl rfl rfl rfl ⟨.ptr, .sv (SV.imp_refl _), .sv (SV.imp_refl _), .row rfl, .sv (SV.imp_refl _), .sv (SV.imp_refl _), .sv (SV.imp_refl _), .sv (SV.imp_refl _), .sv (SV.imp_refl _), trivial⟩ ⟨⟨_, rfl, ⟨.sv (SV.imp_refl _), .sv (SV.imp_refl _), trivial⟩⟩, trivial⟩ ⟨⟨_, rfl, SVIs.refl _⟩, trivial⟩ (fun _ _ => rfl)) (fun s26 y26 G26 h hG26 hE26 => ?_)
              obtain ⟨y8l23, y9l23, y38l23⟩ := s26
              try dsimp only
              refine ok_seq ?_
              refine ok_region ?_
              replace h := let_some h
              obtain ⟨x39, h39, h⟩ := h
              refine RT.lss .none _ rfl rfl (tl rfl) h39 ?_
              refine RT.done ?_
              refine AThen.n ?_
              refine ok_seq ?_
              cases x39
              · replace h := br_f h
                refine ok_condF rfl ?_
                refine ok_exit ?_
                refine AThen.x ?_
                refine AThen.x ?_
                refine AInB.x ?_
                refine AThen.n ?_
                obtain rfl := Option.some.inj h
                refine ⟨(y8l23, y9l23), hE26 _ rfl, ?_⟩
                try dsimp only
                exact weakL id rfl rfl rfl rfl rfl ⟨.ptr, .sv (SV.imp_refl _), .sv (SV.imp_refl _), .row rfl, .sv (SV.imp_refl _), .sv (SV.imp_refl _), .sv (SV.imp_refl _), trivial⟩ ⟨⟨_, rfl, ⟨.sv (SV.imp_refl _), .sv (SV.imp_refl _), trivial⟩⟩, trivial⟩ ⟨⟨_, rfl, SVIs.refl _⟩, trivial⟩ (fun _ _ => rfl)
              · replace h := br_t h
                refine ok_condT rfl ?_
                refine ok_skip ?_
                refine AThen.n ?_
                refine ok_seq ?_
                refine ok_block ?_
                refine ok_seq ?_
                refine ok_region ?_
                refine RT.mv .none rfl (tl rfl) ?_
                refine RT.asg .none rfl (tl rfl) ?_
                refine RT.done ?_
                refine AThen.n ?_
                refine ok_seq ?_
                refine ok_region ?_
                refine RT.mv .none rfl (tl rfl) ?_
                replace h := let_some h
                obtain ⟨x42, h42, h⟩ := h
                refine RT.mul .none _ rfl rfl (tl rfl) (UK.mul (a := y8l23) (b := 10) h42) ?_
                refine RT.mv .none rfl (tl rfl) ?_
                refine RT.mv .none rfl (tl rfl) ?_
                replace h := bind_some h
                obtain ⟨x45, h45, h⟩ := h
                refine RT.six (l := y4l12) .none rfl rfl (tl rfl) h45 ?_
                replace h := let_some h
                obtain ⟨x46, h46, h⟩ := h
                refine RT.sub .none _ rfl rfl (tl rfl) (UK.sub (a := x45) (b := 48) h46) ?_
                replace h := let_some h
                obtain ⟨x47, h47, h⟩ := h
                refine RT.conv .none _ rfl (tl rfl) (UK.nat h47) ?_
                replace h := let_some h
                obtain ⟨x48, h48, h⟩ := h
                refine RT.add .none _ rfl rfl (tl rfl) (UK.add (a := x42) (b := x47) h48) ?_
                refine RT.asg .none rfl (tl rfl) ?_
                refine RT.done ?_
                refine AThen.n ?_
                refine ok_region ?_
                refine RT.mv .none rfl (tl rfl) ?_
                replace h := let_some h
                obtain ⟨x50, h50, h⟩ := h
                refine RT.mul .none _ rfl rfl (tl rfl) (UK.mul (a := y9l23) (b := 10) h50) ?_
                refine RT.asg .none rfl (tl rfl) ?_
                refine RT.done ?_
                refine AInB.n ?_
                refine AThen.n ?_
                refine ok_region ?_
                replace h := let_some h
                obtain ⟨x51, h51, h⟩ := h
                refine RT.add .none _ rfl rfl (tl rfl) h51 ?_
                refine RT.mv .none rfl (tl rfl) ?_
                refine RT.done ?_
                obtain rfl := Option.some.inj h
                refine AThen.n ⟨(x48, x50, x51), hG26 _ rfl, ?_⟩
                try dsimp only
                exact weakL id rfl rfl rfl rfl rfl ⟨.ptr, .sv (SV.imp_refl _), .sv (SV.imp_refl _), .row rfl, .sv (SV.imp_refl _), .sv (SV.imp_refl _), .sv (SV.imp_refl _), .sv (SV.imp_refl _), .sv (SV.imp_refl _), trivial⟩ ⟨⟨_, rfl, ⟨.sv (SV.imp_refl _), .sv (SV.imp_refl _), trivial⟩⟩, trivial⟩ ⟨⟨_, rfl, SVIs.refl _⟩, trivial⟩ (fun _ _ => rfl)
            · subst hx26
              obtain ⟨y8e25, y9e25⟩ := xe26
              try dsimp only
              refine AThen.n ?_
              refine ok_seq ?_
              refine ok_region ?_
              refine RT.move .none (s := .row _) rfl (tl rfl) ?_
              refine RT.mv .none rfl (tl rfl) ?_
              refine RT.mv .none rfl (tl rfl) ?_
              replace ho26 := bind_some ho26
              obtain ⟨x55, h55, ho26⟩ := ho26
              refine RT.callT .none (whole_scaleWordsT_ok h55) (pv_flat _) 306 rfl rfl rfl (.cons rfl (.cons rfl (.cons rfl (.nil)))) (tl rfl) rfl (tl rfl) ?_
              refine RT.assign .none (s := .row _) rfl (tl rfl) ?_
              refine RT.done ?_
              refine AThen.n ?_
              refine ok_region ?_
              refine RT.mv .none rfl (tl rfl) ?_
              refine RT.mv .none rfl (tl rfl) ?_
              replace ho26 := bind_some ho26
              obtain ⟨x58, h58, ho26⟩ := ho26
              refine RT.ssl .none x36 (y4l12.length : Int) rfl ⟨_, rfl⟩ rfl (tl rfl) h58 ?_
              refine RT.asg .none rfl (tl rfl) ?_
              refine RT.done ?_
              refine AInB.n ?_
              obtain rfl := Option.some.inj ho26
              refine AThen.n ⟨(x58, x55), hG20 _ rfl, ?_⟩
              try dsimp only
              exact weakL (fun i => bif Nat.beq i 306 then 55 else i) rfl rfl rfl rfl rfl ⟨.ptr, .sv (SV.imp_refl _), .sv (SV.imp_refl _), .row rfl, trivial⟩ ⟨⟨_, rfl, ⟨.sv (SV.imp_refl _), .sv (SV.imp_refl _), trivial⟩⟩, trivial⟩ ⟨⟨_, rfl, SVIs.refl _⟩, trivial⟩ (fun i hi => by rw [beq_ne (show i ≠ 306 by omega)]; rfl)
        · subst hx20
          try dsimp only
          refine AThen.n ?_
          refine ok_seq ?_
          refine ok_weak (weak_frzM (i := 306) (E1 := 51) (n := 1) (e := eU32) (l := r306e19) rfl) ?_
          refine ok_region ?_
          refine RT.mv .none rfl (tl rfl) ?_
          refine RT.mv .none rfl (tl rfl) ?_
          replace ho20 := bind_some ho20
          obtain ⟨⟨x61_0, x61_1⟩, h61, ho20⟩ := ho20
          refine RT.call .none (whole_build_ok h61) rfl ⟨rfl, rfl, trivial⟩ (tl rfl) ?_
          refine RT.store .none rfl rfl rfl rfl rfl ?_
          refine RT.asg .none rfl (tl rfl) ?_
          refine RT.done ?_
          refine AThen.n ?_
          refine ok_ret ?_
          obtain rfl := Option.some.inj ho20
          exact ⟨.inr rfl, res_imp (.agg rfl rfl (.cons rfl (.cons rfl (.nil))) rfl (.tmp rfl (.nil))) (SV.imp_refl _)⟩
      · replace h := br_t h
        refine ok_condT rfl ?_
        refine ok_seq ?_
        refine ok_region ?_
        refine RT.buildI (cs := [_, _]) (cs' := [.v (.bool false), slc 1 (List.map eU32 [])]) .none (.nil) rfl ⟨SV.imp_refl _, imp_nil, trivial⟩ (tl rfl) ?_
        refine RT.store .none rfl rfl rfl rfl rfl ?_
        refine RT.asg .none rfl (tl rfl) ?_
        refine RT.done ?_
        refine AThen.n ?_
        refine ok_ret ?_
        refine AThen.r ?_
        obtain rfl := Option.some.inj h
        exact ⟨.inr rfl, res_imp (.agg rfl rfl (.cons rfl (.cons rfl (.nil))) rfl (.tmp rfl (.nil))) (SV.imp_refl _)⟩
  · replace h := br_t h
    refine ok_condT rfl ?_
    refine ok_seq ?_
    refine ok_region ?_
    refine RT.buildI (cs := [_, _]) (cs' := [.v (.bool false), slc 1 (List.map eU32 [])]) .none (.nil) rfl ⟨SV.imp_refl _, imp_nil, trivial⟩ (tl rfl) ?_
    refine RT.store .none rfl rfl rfl rfl rfl ?_
    refine RT.asg .none rfl (tl rfl) ?_
    refine RT.done ?_
    refine AThen.n ?_
    refine ok_ret ?_
    refine AThen.r ?_
    obtain rfl := Option.some.inj h
    exact ⟨.inr rfl, res_imp (.agg rfl rfl (.cons rfl (.cons rfl (.nil))) rfl (.tmp rfl (.nil))) (SV.imp_refl _)⟩
end Go.Proofs.Ytgkafblpckcekaa
