/- The proofs that the code computes the plain functions. Made by program. -/
import Derived.Test.YtgkafblpckcekaaW1
import Derived.Test.YtgkafblpckcekaaMW
namespace Go.Proofs.Ytgkafblpckcekaa
open Go.Fw Go.RowKit
theorem whole_scaleWordsT_ok {x0 : List Nat} {x1 : Nat} {x2 : Nat} {r : List Nat} (h : whole_scaleWordsT_m x0 x1 x2 = some r) : TakeC Try.prog 61 [.row 1000, .sv (.v (.int .u64 ((x1 : Nat) : Int))), .sv (.v (.int .u64 ((x2 : Nat) : Int)))] (TR 51 1 eU32 x0) 51 1 r.length (List.flatMap eU32 r) := by
  refine takeC_of_ok Try.func61 rfl (Nat.le_of_ble_eq_true rfl) rfl (fun wld M v0 => ?_)
  unfold whole_scaleWordsT_m at h
  refine ok_seq ?_
  refine ok_region ?_
  refine RT.asg .none rfl (tl rfl) ?_
  refine RT.done ?_
  refine AThen.n ?_
  refine ok_weak (weak_nil 6 304 51 1 rfl rfl (tl rfl)) ?_
  refine ok_seq ?_
  refine ok_region ?_
  refine RT.mv .none rfl (tl rfl) ?_
  refine RT.callF .none (whole_carrier_ok x2) rfl ⟨rfl, trivial⟩ (tl rfl) rfl rfl ?_
  refine RT.assign .none (s := .clo _ _) rfl (tl rfl) ?_
  refine RT.done ?_
  refine AThen.n ?_
  refine ok_seq ?_
  refine ok_seq ?_
  refine ok_region ?_
  refine RT.move .none (s := .row _) rfl (tl rfl) ?_
  replace h := let_some h
  obtain ⟨x13, h13, h⟩ := h
  refine RT.lenRM .none rfl rfl (tl rfl) h13 ?_
  refine RT.mv .none rfl (tl rfl) ?_
  refine RT.done ?_
  refine AThen.n ?_
  replace h := bind_some h
  obtain ⟨e10, hl10, ho10⟩ := h
  refine ok_tailP (fun (xe10 : Nat × (List Nat)) => AS.mkL 34 [(0, .row 1000), (7, .clo 80 [.box 11])] [(11, ⟨59, [.sv (.v (.int .u64 ((xe10.1 : Nat) : Int)))]⟩)] [(1000, TR 51 1 eU32 xe10.2)]) (fun xe10 => xe10 = e10) ?_ (fun xe10 hx10 => ?_)
  · refine ok_block ?_
    refine ok_loopM hl10 (fun s10 => AS.mkL 34 [(0, .row 1000), (1, .sv (.v (.int .u64 ((x1 : Nat) : Int)))), (7, .clo 80 [.box 11]), (12, .row 1000), (13, .sv (.v (.int .i64 x13))), (14, .sv (.v (.int .i64 s10.1)))] [(11, ⟨59, [.sv (.v (.int .u64 ((s10.2.1 : Nat) : Int)))]⟩)] [(1000, TR 51 1 eU32 s10.2.2)]) (by (try dsimp only); exact weakL id rfl rfl rfl rfl rfl ⟨.row rfl, .sv (SV.imp_refl _), .clo, .row rfl, .sv (SV.imp_refl _), .sv (SV.imp_refl _), trivial⟩ ⟨⟨_, rfl, ⟨.sv (SV.imp_refl _), trivial⟩⟩, trivial⟩ ⟨⟨_, rfl, SVIs.refl _⟩, trivial⟩ (fun _ _ => rfl)) (fun s10 y10 G10 h hG10 hE10 => ?_)
    obtain ⟨y14l5, b11_0l5, r1000l5⟩ := s10
    try dsimp only
    refine ok_seq ?_
    refine ok_region ?_
    replace h := let_some h
    obtain ⟨x15, h15, h⟩ := h
    refine RT.lss .none _ rfl rfl (tl rfl) h15 ?_
    refine RT.done ?_
    refine AThen.n ?_
    refine ok_seq ?_
    cases x15
    · replace h := br_f h
      refine ok_condF rfl ?_
      refine ok_exit ?_
      refine AThen.x ?_
      refine AThen.x ?_
      refine AInB.x ?_
      refine AThen.n ?_
      obtain rfl := Option.some.inj h
      refine ⟨(b11_0l5, r1000l5), hE10 _ rfl, ?_⟩
      try dsimp only
      exact weakL id rfl rfl rfl rfl rfl ⟨.row rfl, .clo, trivial⟩ ⟨⟨_, rfl, ⟨.sv (SV.imp_refl _), trivial⟩⟩, trivial⟩ ⟨⟨_, rfl, SVIs.refl _⟩, trivial⟩ (fun _ _ => rfl)
    · replace h := br_t h
      refine ok_condT rfl ?_
      refine ok_skip ?_
      refine AThen.n ?_
      refine ok_seq ?_
      refine ok_block ?_
      refine ok_seq ?_
      refine ok_region ?_
      refine RT.mv .none rfl (tl rfl) ?_
      replace h := bind_some h
      obtain ⟨x17, h17, h⟩ := h
      refine RT.ixRM .none rfl rfl rfl (tl rfl) h17 ?_
      replace h := bind_some h
      obtain ⟨x18, h18, h⟩ := h
      refine RT.ldRM .none rfl rfl h18 rfl (tl rfl) ?_
      refine RT.asg .none rfl (tl rfl) ?_
      refine RT.asg .none rfl (tl rfl) ?_
      refine RT.done ?_
      refine AThen.n ?_
      refine ok_region ?_
      refine RT.move .none (s := .row _) rfl (tl rfl) ?_
      refine RT.mv .none rfl (tl rfl) ?_
      refine RT.move .none (s := .clo _ _) rfl (tl rfl) ?_
      refine RT.mv .none rfl (tl rfl) ?_
      replace h := let_some h
      obtain ⟨x23, h23, h⟩ := h
      refine RT.conv .none _ rfl (tl rfl) (UK.nat h23) ?_
      refine RT.mv .none rfl (tl rfl) ?_
      replace h := let_some h
      obtain ⟨x25, h25, h⟩ := h
      refine RT.mul .none _ rfl rfl (tl rfl) (UK.mul (a := x23) (b := x1) h25) ?_
      replace h := bind_some h
      obtain ⟨⟨x26, k13⟩, h26, h⟩ := h
      refine RT.callB .none (whole_carrier_1_ok h26) 11 rfl rfl ⟨rfl, trivial⟩ (tl rfl) ?_
      replace h := bind_some h
      obtain ⟨x27, h27, h⟩ := h
      refine RT.ixRM .none rfl rfl rfl (tl rfl) h27 ?_
      replace h := bind_some h
      obtain ⟨l14, hl14_, h⟩ := h
      refine RT.stRM .none x26 rfl rfl rfl rfl hl14_ ?_
      refine RT.done ?_
      refine AInB.n ?_
      refine AThen.n ?_
      refine ok_region ?_
      replace h := let_some h
      obtain ⟨x28, h28, h⟩ := h
      refine RT.add .none _ rfl rfl (tl rfl) h28 ?_
      refine RT.mv .none rfl (tl rfl) ?_
      refine RT.done ?_
      obtain rfl := Option.some.inj h
      refine AThen.n ⟨(x28, k13, l14), hG10 _ rfl, ?_⟩
      try dsimp only
      exact weakL id rfl rfl rfl rfl rfl ⟨.row rfl, .sv (SV.imp_refl _), .clo, .row rfl, .sv (SV.imp_refl _), .sv (SV.imp_refl _), trivial⟩ ⟨⟨_, rfl, ⟨.sv (SV.imp_refl _), trivial⟩⟩, trivial⟩ ⟨⟨_, rfl, SVIs.refl _⟩, trivial⟩ (fun _ _ => rfl)
  · subst hx10
    obtain ⟨b11_0e9, r1000e9⟩ := xe10
    try dsimp only
    refine AThen.n ?_
    refine ok_seq ?_
    refine ok_region ?_
    refine RT.move .none (s := .row _) rfl (tl rfl) ?_
    refine RT.move .none (s := .clo _ _) rfl (tl rfl) ?_
    replace ho10 := bind_some ho10
    obtain ⟨⟨x31, k16⟩, h31, ho10⟩ := ho10
    refine RT.callB .none (whole_carrier_1_ok h31) 11 rfl rfl ⟨rfl, trivial⟩ (tl rfl) ?_
    refine RT.buildSl (l := [x31]) (e := eU32) .none (.one rfl (.nil)) (tl rfl) rfl rfl rfl rfl rfl rfl ?_
    replace ho10 := bind_some ho10
    obtain ⟨x33, h33, ho10⟩ := ho10
    refine RT.apR (k := [x31]) (e := eU32) .none rfl rfl rfl (tl rfl) rfl (tl rfl) h33 ?_
    refine RT.assign .none (s := .row _) rfl (tl rfl) ?_
    refine RT.done ?_
    refine AThen.n ?_
    refine ok_ret ?_
    obtain rfl := Option.some.inj ho10
    exact ⟨.inr rfl, _, .tmp rfl, rfl⟩
theorem whole_shortDiv_ok {x0 : List Nat} {x1 : Nat} {r : Nat × List Nat} (h : whole_shortDiv_m x0 x1 = some r) : RowC Try.prog 57 [.row 1000, .sv (.v (.int .u64 ((x1 : Nat) : Int)))] (TR 51 1 eU32 x0) (.sv (.v (.int .u64 ((r.1 : Nat) : Int)))) (List.flatMap eU32 r.2) := by
  refine rowC_of_ok Try.func57 rfl (Nat.le_of_ble_eq_true rfl) rfl rfl (fun wld M v0 => ?_)
  unfold whole_shortDiv_m at h
  refine ok_seq ?_
  refine ok_region ?_
  refine RT.asg .none rfl (tl rfl) ?_
  refine RT.done ?_
  refine AThen.n ?_
  refine ok_seq ?_
  refine ok_region ?_
  refine RT.asg .none rfl (tl rfl) ?_
  refine RT.done ?_
  refine AThen.n ?_
  refine ok_seq ?_
  refine ok_seq ?_
  refine ok_region ?_
  refine RT.move .none (s := .row _) rfl (tl rfl) ?_
  replace h := let_some h
  obtain ⟨x9, h9, h⟩ := h
  refine RT.lenRM .none rfl rfl (tl rfl) h9 ?_
  replace h := let_some h
  obtain ⟨x10, h10, h⟩ := h
  refine RT.sub .none _ rfl rfl (tl rfl) h10 ?_
  refine RT.asg .none rfl (tl rfl) ?_
  refine RT.done ?_
  refine AThen.n ?_
  replace h := bind_some h
  obtain ⟨e8, hl8, ho8⟩ := h
  refine ok_tailP (fun (xe8 : Nat × (List Nat)) => AS.mkL 34 [(5, .sv (.v (.int .u64 ((xe8.1 : Nat) : Int))))] [] [(1000, TR 51 1 eU32 xe8.2)]) (fun xe8 => xe8 = e8) ?_ (fun xe8 hx8 => ?_)
  · refine ok_block ?_
    refine ok_loopM hl8 (fun s8 => AS.mkL 34 [(0, .row 1000), (1, .sv (.v (.int .u64 ((x1 : Nat) : Int)))), (5, .sv (.v (.int .u64 ((s8.1 : Nat) : Int)))), (6, .sv (.v (.int .i64 s8.2.1)))] [] [(1000, TR 51 1 eU32 s8.2.2)]) (by (try dsimp only); exact weakL id rfl rfl rfl rfl rfl ⟨.row rfl, .sv (SV.imp_refl _), .sv (SV.imp_refl _), .sv (SV.imp_refl _), trivial⟩ trivial ⟨⟨_, rfl, SVIs.refl _⟩, trivial⟩ (fun _ _ => rfl)) (fun s8 y8 G8 h hG8 hE8 => ?_)
    obtain ⟨y5l4, y6l4, r1000l4⟩ := s8
    try dsimp only
    refine ok_seq ?_
    refine ok_seq ?_
    refine ok_region ?_
    refine RT.mv .none rfl (tl rfl) ?_
    replace h := let_some h
    obtain ⟨x12, h12, h⟩ := h
    refine RT.geq .none _ rfl rfl (tl rfl) h12 ?_
    refine RT.done ?_
    refine AThen.n ?_
    cases x12
    · replace h := br_f h
      refine ok_condF rfl ?_
      refine ok_exit ?_
      refine AThen.x ?_
      refine AThen.x ?_
      refine AInB.x ?_
      refine AThen.n ?_
      obtain rfl := Option.some.inj h
      refine ⟨(y5l4, r1000l4), hE8 _ rfl, ?_⟩
      try dsimp only
      exact weakL id rfl rfl rfl rfl rfl ⟨.sv (SV.imp_refl _), trivial⟩ trivial ⟨⟨_, rfl, SVIs.refl _⟩, trivial⟩ (fun _ _ => rfl)
    · replace h := br_t h
      refine ok_condT rfl ?_
      refine ok_skip ?_
      refine AThen.n ?_
      refine ok_seq ?_
      refine ok_block ?_
      refine ok_seq ?_
      refine ok_region ?_
      refine RT.mv .none rfl (tl rfl) ?_
      replace h := let_some h
      obtain ⟨x16, h16, h⟩ := h
      refine RT.shl .none _ rfl rfl (tl rfl) (by decide) (UK.shl (a := y5l4) (q := 32) (s := 32) rfl h16) ?_
      refine RT.move .none (s := .row _) rfl (tl rfl) ?_
      refine RT.mv .none rfl (tl rfl) ?_
      replace h := bind_some h
      obtain ⟨x19, h19, h⟩ := h
      refine RT.ixRM .none rfl rfl rfl (tl rfl) h19 ?_
      replace h := bind_some h
      obtain ⟨x20, h20, h⟩ := h
      refine RT.ldRM .none rfl rfl h20 rfl (tl rfl) ?_
      replace h := let_some h
      obtain ⟨x21, h21, h⟩ := h
      refine RT.conv .none _ rfl (tl rfl) (UK.nat h21) ?_
      replace h := let_some h
      obtain ⟨x22, h22, h⟩ := h
      refine RT.or .none _ rfl rfl (tl rfl) (UK.or (a := x16) (b := x21) h22) ?_
      refine RT.asg .none rfl (tl rfl) ?_
      refine RT.done ?_
      refine AThen.n ?_
      refine ok_seq ?_
      refine ok_region ?_
      refine RT.move .none (s := .row _) rfl (tl rfl) ?_
      refine RT.mv .none rfl (tl rfl) ?_
      refine RT.mv .none rfl (tl rfl) ?_
      refine RT.mv .none rfl (tl rfl) ?_
      replace h := bind_some h
      obtain ⟨x27, h27, h⟩ := h
      refine RT.quo .none _ rfl rfl (tl rfl) (nzU h27) (UK.quo h27) ?_
      replace h := let_some h
      obtain ⟨x28, h28, h⟩ := h
      refine RT.conv .none _ rfl (tl rfl) (UK.nat h28) ?_
      replace h := bind_some h
      obtain ⟨x29, h29, h⟩ := h
      refine RT.ixRM .none rfl rfl rfl (tl rfl) h29 ?_
      replace h := bind_some h
      obtain ⟨l10, hl10_, h⟩ := h
      refine RT.stRM .none x28 rfl rfl rfl rfl hl10_ ?_
      refine RT.done ?_
      refine AThen.n ?_
      refine ok_region ?_
      refine RT.mv .none rfl (tl rfl) ?_
      refine RT.mv .none rfl (tl rfl) ?_
      replace h := bind_some h
      obtain ⟨x32, h32, h⟩ := h
      refine RT.rem .none _ rfl rfl (tl rfl) (nzR h32) (remU h32) ?_
      refine RT.asg .none rfl (tl rfl) ?_
      refine RT.done ?_
      refine AInB.n ?_
      refine AThen.n ?_
      refine ok_region ?_
      refine RT.mv .none rfl (tl rfl) ?_
      replace h := let_some h
      obtain ⟨x14, h14, h⟩ := h
      refine RT.sub .none _ rfl rfl (tl rfl) h14 ?_
      refine RT.asg .none rfl (tl rfl) ?_
      refine RT.done ?_
      obtain rfl := Option.some.inj h
      refine AThen.n ⟨(x32, x14, l10), hG8 _ rfl, ?_⟩
      try dsimp only
      exact weakL id rfl rfl rfl rfl rfl ⟨.row rfl, .sv (SV.imp_refl _), .sv (SV.imp_refl _), .sv (SV.imp_refl _), trivial⟩ trivial ⟨⟨_, rfl, SVIs.refl _⟩, trivial⟩ (fun _ _ => rfl)
  · subst hx8
    obtain ⟨y5e7, r1000e7⟩ := xe8
    try dsimp only
    refine AThen.n ?_
    refine ok_seq ?_
    refine ok_region ?_
    refine RT.mv .none rfl (tl rfl) ?_
    refine RT.asg .none rfl (tl rfl) ?_
    refine RT.done ?_
    refine AThen.n ?_
    refine ok_ret ?_
    replace ho8 := bind_some ho8
    obtain ⟨_, hle, ho8⟩ := ho8
    obtain rfl := Option.some.inj ho8
    exact ⟨.inr rfl, .sv (res_imp (.tmp rfl (.nil)) (SV.imp_refl _)), (by show _ = RSt.live ⟨51, 1, x0.length, List.flatMap eU32 r1000e7⟩; rw [← eqLen_some hle]; rfl)⟩
theorem whole_shiftLeft_ok {x0 : List Nat} {x1 : Nat} {r : List Nat} (h : whole_shiftLeft_m x0 x1 = some r) : Pure Try.prog 77 [slc 1 (List.map eU32 x0), .v (.int .u64 ((x1 : Nat) : Int))] (slc 1 (List.map eU32 r)) := by
  refine pure_of_ok Try.func77 rfl (Nat.le_of_ble_eq_true rfl) (fun wld M vs hvs => ?_)
  unfold whole_shiftLeft_m at h
  refine ok_seq ?_
  refine ok_region ?_
  refine RT.asgI .none rfl (imp_nil (n := 1) (e := eU32)) (tl rfl) ?_
  refine RT.done ?_
  refine AThen.n ?_
  refine ok_seq ?_
  refine ok_region ?_
  refine RT.callF .none (whole_carrier_ok 0) rfl ⟨rfl, trivial⟩ (tl rfl) rfl rfl ?_
  refine RT.assign .none (s := .clo _ _) rfl (tl rfl) ?_
  refine RT.done ?_
  refine AThen.n ?_
  refine ok_seq ?_
  refine ok_region ?_
  refine RT.mv .none rfl (tl rfl) ?_
  replace h := let_some h
  obtain ⟨x11, h11, h⟩ := h
  refine RT.lenM .none rfl (tl rfl) h11 ?_
  replace h := let_some h
  obtain ⟨x12, h12, h⟩ := h
  refine RT.add .none _ rfl rfl (tl rfl) h12 ?_
  replace h := bind_some h
  obtain ⟨x13, h13, h⟩ := h
  refine RT.mkEmp (e := eU32) .none rfl rfl (tl rfl) rfl (tl rfl) h13 ?_
  refine RT.assign .none (s := .row _) rfl (tl rfl) ?_
  refine RT.done ?_
  refine AThen.n ?_
  refine ok_seq ?_
  refine ok_seq ?_
  refine ok_region ?_
  refine RT.mv .none rfl (tl rfl) ?_
  replace h := let_some h
  obtain ⟨x15, h15, h⟩ := h
  refine RT.lenM .none rfl (tl rfl) h15 ?_
  refine RT.mv .none rfl (tl rfl) ?_
  refine RT.done ?_
  refine AThen.n ?_
  replace h := bind_some h
  obtain ⟨e8, hl8, ho8⟩ := h
  refine ok_tailP (fun (xe8 : Nat × (List Nat)) => AS.mkL 35 [(5, .clo 80 [.box 9]), (6, .row 302)] [(9, ⟨59, [.sv (.v (.int .u64 ((xe8.1 : Nat) : Int)))]⟩)] [(302, TR 51 1 eU32 xe8.2)]) (fun xe8 => xe8 = e8) ?_ (fun xe8 hx8 => ?_)
  · refine ok_block ?_
    refine ok_loopM hl8 (fun s8 => AS.mkL 35 [(1, .sv (.v (.int .u64 ((x1 : Nat) : Int)))), (5, .clo 80 [.box 9]), (6, .row 302), (14, .sv (slc 1 (List.map eU32 x0))), (15, .sv (.v (.int .i64 x15))), (16, .sv (.v (.int .i64 s8.1)))] [(9, ⟨59, [.sv (.v (.int .u64 ((s8.2.1 : Nat) : Int)))]⟩)] [(302, TR 51 1 eU32 s8.2.2)]) (by (try dsimp only); exact weakL (fun i => bif Nat.beq i 302 then 13 else i) rfl rfl rfl rfl rfl ⟨.sv (SV.imp_refl _), .clo, .row rfl, .sv (SV.imp_refl _), .sv (SV.imp_refl _), .sv (SV.imp_refl _), trivial⟩ ⟨⟨_, rfl, ⟨.sv (SV.imp_refl _), trivial⟩⟩, trivial⟩ ⟨⟨_, rfl, SVIs.refl _⟩, trivial⟩ (fun i hi => by rw [beq_ne (show i ≠ 302 by omega)]; rfl)) (fun s8 y8 G8 h hG8 hE8 => ?_)
    obtain ⟨y16l4, b9_0l4, r302l4⟩ := s8
    try dsimp only
    refine ok_seq ?_
    refine ok_region ?_
    replace h := let_some h
    obtain ⟨x17, h17, h⟩ := h
    refine RT.lss .none _ rfl rfl (tl rfl) h17 ?_
    refine RT.done ?_
    refine AThen.n ?_
    refine ok_seq ?_
    cases x17
    · replace h := br_f h
      refine ok_condF rfl ?_
      refine ok_exit ?_
      refine AThen.x ?_
      refine AThen.x ?_
      refine AInB.x ?_
      refine AThen.n ?_
      obtain rfl := Option.some.inj h
      refine ⟨(b9_0l4, r302l4), hE8 _ rfl, ?_⟩
      try dsimp only
      exact weakL id rfl rfl rfl rfl rfl ⟨.clo, .row rfl, trivial⟩ ⟨⟨_, rfl, ⟨.sv (SV.imp_refl _), trivial⟩⟩, trivial⟩ ⟨⟨_, rfl, SVIs.refl _⟩, trivial⟩ (fun _ _ => rfl)
    · replace h := br_t h
      refine ok_condT rfl ?_
      refine ok_skip ?_
      refine AThen.n ?_
      refine ok_seq ?_
      refine ok_block ?_
      refine ok_seq ?_
      refine ok_region ?_
      replace h := bind_some h
      obtain ⟨x18, h18, h⟩ := h
      refine RT.ixM .none rfl rfl (tl rfl) h18 ?_
      refine RT.loadRV .none rfl rfl (tl rfl) ?_
      refine RT.asg .none rfl (tl rfl) ?_
      refine RT.done ?_
      refine AThen.n ?_
      refine ok_region ?_
      refine RT.move .none (s := .row _) rfl (tl rfl) ?_
      refine RT.move .none (s := .clo _ _) rfl (tl rfl) ?_
      refine RT.mv .none rfl (tl rfl) ?_
      replace h := let_some h
      obtain ⟨x23, h23, h⟩ := h
      refine RT.conv .none _ rfl (tl rfl) (UK.nat h23) ?_
      refine RT.mv .none rfl (tl rfl) ?_
      replace h := let_some h
      obtain ⟨x25, h25, h⟩ := h
      refine RT.shl .none _ rfl rfl (tl rfl) (Int.natCast_nonneg _) (UK.shl (a := x23) (q := ((x1 : Nat) : Int)) (s := min x1 64) rfl h25) ?_
      replace h := bind_some h
      obtain ⟨⟨x26, k10⟩, h26, h⟩ := h
      refine RT.callB .none (whole_carrier_1_ok h26) 9 rfl rfl ⟨rfl, trivial⟩ (tl rfl) ?_
      refine RT.buildSl (l := [x26]) (e := eU32) .none (.one rfl (.nil)) (tl rfl) rfl rfl rfl rfl rfl rfl ?_
      replace h := bind_some h
      obtain ⟨x28, h28, h⟩ := h
      refine RT.apR (k := [x26]) (e := eU32) .none rfl rfl rfl (tl rfl) rfl (tl rfl) h28 ?_
      refine RT.assign .none (s := .row _) rfl (tl rfl) ?_
      refine RT.done ?_
      refine AInB.n ?_
      refine AThen.n ?_
      refine ok_region ?_
      replace h := let_some h
      obtain ⟨x29, h29, h⟩ := h
      refine RT.add .none _ rfl rfl (tl rfl) h29 ?_
      refine RT.mv .none rfl (tl rfl) ?_
      refine RT.done ?_
      obtain rfl := Option.some.inj h
      refine AThen.n ⟨(x29, k10, x28), hG8 _ rfl, ?_⟩
      try dsimp only
      exact weakL (fun i => bif Nat.beq i 302 then 28 else i) rfl rfl rfl rfl rfl ⟨.sv (SV.imp_refl _), .clo, .row rfl, .sv (SV.imp_refl _), .sv (SV.imp_refl _), .sv (SV.imp_refl _), trivial⟩ ⟨⟨_, rfl, ⟨.sv (SV.imp_refl _), trivial⟩⟩, trivial⟩ ⟨⟨_, rfl, SVIs.refl _⟩, trivial⟩ (fun i hi => by rw [beq_ne (show i ≠ 302 by omega)]; rfl)
  · subst hx8
    obtain ⟨b9_0e7, r302e7⟩ := xe8
    try dsimp only
    refine AThen.n ?_
    refine ok_seq ?_
    refine ok_region ?_
    refine RT.move .none (s := .row _) rfl (tl rfl) ?_
    refine RT.move .none (s := .clo _ _) rfl (tl rfl) ?_
    replace ho8 := bind_some ho8
    obtain ⟨⟨x32, k12⟩, h32, ho8⟩ := ho8
    refine RT.callB .none (whole_carrier_1_ok h32) 9 rfl rfl ⟨rfl, trivial⟩ (tl rfl) ?_
    refine RT.buildSl (l := [x32]) (e := eU32) .none (.one rfl (.nil)) (tl rfl) rfl rfl rfl rfl rfl rfl ?_
    replace ho8 := bind_some ho8
    obtain ⟨x34, h34, ho8⟩ := ho8
    refine RT.apIR (k := [x32]) (e := eU32) .none rfl rfl rfl (tl rfl) rfl (tl rfl) h34 ?_
    refine RT.asg .none rfl (tl rfl) ?_
    refine RT.done ?_
    refine AThen.n ?_
    refine ok_ret ?_
    obtain rfl := Option.some.inj ho8
    exact ⟨.inr rfl, res_imp (.tmp rfl (.nil)) (SV.imp_refl _)⟩
theorem whole_shiftLeftN_ok {x0 : List Nat} {x1 : Nat} {r : List Nat} (h : whole_shiftLeftN_m x0 x1 = some r) : NewC Try.prog 77 [slc 1 (List.map eU32 x0), .v (.int .u64 ((x1 : Nat) : Int))] (TR 51 1 eU32 r) := by
  refine newC_of_ok Try.func77 rfl (Nat.le_of_ble_eq_true rfl) (fun wld M vs hvs => ?_)
  unfold whole_shiftLeftN_m at h
  refine ok_seq ?_
  refine ok_region ?_
  refine RT.asg .none rfl (tl rfl) ?_
  refine RT.done ?_
  refine AThen.n ?_
  refine ok_weak (weak_nil 4 304 51 1 rfl rfl (tl rfl)) ?_
  refine ok_seq ?_
  refine ok_region ?_
  refine RT.callF .none (whole_carrier_ok 0) rfl ⟨rfl, trivial⟩ (tl rfl) rfl rfl ?_
  refine RT.assign .none (s := .clo _ _) rfl (tl rfl) ?_
  refine RT.done ?_
  refine AThen.n ?_
  refine ok_seq ?_
  refine ok_region ?_
  refine RT.mv .none rfl (tl rfl) ?_
  replace h := let_some h
  obtain ⟨x11, h11, h⟩ := h
  refine RT.lenM .none rfl (tl rfl) h11 ?_
  replace h := let_some h
  obtain ⟨x12, h12, h⟩ := h
  refine RT.add .none _ rfl rfl (tl rfl) h12 ?_
  replace h := bind_some h
  obtain ⟨x13, h13, h⟩ := h
  refine RT.mkEmp (e := eU32) .none rfl rfl (tl rfl) rfl (tl rfl) h13 ?_
  refine RT.assign .none (s := .row _) rfl (tl rfl) ?_
  refine RT.done ?_
  refine AThen.n ?_
  refine ok_seq ?_
  refine ok_seq ?_
  refine ok_region ?_
  refine RT.mv .none rfl (tl rfl) ?_
  replace h := let_some h
  obtain ⟨x15, h15, h⟩ := h
  refine RT.lenM .none rfl (tl rfl) h15 ?_
  refine RT.mv .none rfl (tl rfl) ?_
  refine RT.done ?_
  refine AThen.n ?_
  replace h := bind_some h
  obtain ⟨e8, hl8, ho8⟩ := h
  refine ok_tailP (fun (xe8 : Nat × (List Nat)) => AS.mkL 35 [(5, .clo 80 [.box 9]), (6, .row 306)] [(9, ⟨59, [.sv (.v (.int .u64 ((xe8.1 : Nat) : Int)))]⟩)] [(306, TR 51 1 eU32 xe8.2)]) (fun xe8 => xe8 = e8) ?_ (fun xe8 hx8 => ?_)
  · refine ok_block ?_
    refine ok_loopM hl8 (fun s8 => AS.mkL 35 [(1, .sv (.v (.int .u64 ((x1 : Nat) : Int)))), (5, .clo 80 [.box 9]), (6, .row 306), (14, .sv (slc 1 (List.map eU32 x0))), (15, .sv (.v (.int .i64 x15))), (16, .sv (.v (.int .i64 s8.1)))] [(9, ⟨59, [.sv (.v (.int .u64 ((s8.2.1 : Nat) : Int)))]⟩)] [(306, TR 51 1 eU32 s8.2.2)]) (by (try dsimp only); exact weakL (fun i => bif Nat.beq i 306 then 13 else i) rfl rfl rfl rfl rfl ⟨.sv (SV.imp_refl _), .clo, .row rfl, .sv (SV.imp_refl _), .sv (SV.imp_refl _), .sv (SV.imp_refl _), trivial⟩ ⟨⟨_, rfl, ⟨.sv (SV.imp_refl _), trivial⟩⟩, trivial⟩ ⟨⟨_, rfl, SVIs.refl _⟩, trivial⟩ (fun i hi => by rw [beq_ne (show i ≠ 306 by omega)]; rfl)) (fun s8 y8 G8 h hG8 hE8 => ?_)
    obtain ⟨y16l4, b9_0l4, r306l4⟩ := s8
    try dsimp only
    refine ok_seq ?_
    refine ok_region ?_
    replace h := let_some h
    obtain ⟨x17, h17, h⟩ := h
    refine RT.lss .none _ rfl rfl (tl rfl) h17 ?_
    refine RT.done ?_
    refine AThen.n ?_
    refine ok_seq ?_
    cases x17
    · replace h := br_f h
      refine ok_condF rfl ?_
      refine ok_exit ?_
      refine AThen.x ?_
      refine AThen.x ?_
      refine AInB.x ?_
      refine AThen.n ?_
      obtain rfl := Option.some.inj h
      refine ⟨(b9_0l4, r306l4), hE8 _ rfl, ?_⟩
      try dsimp only
      exact weakL id rfl rfl rfl rfl rfl ⟨.clo, .row rfl, trivial⟩ ⟨⟨_, rfl, ⟨.sv (SV.imp_refl _), trivial⟩⟩, trivial⟩ ⟨⟨_, rfl, SVIs.refl _⟩, trivial⟩ (fun _ _ => rfl)
    · replace h := br_t h
      refine ok_condT rfl ?_
      refine ok_skip ?_
      refine AThen.n ?_
      refine ok_seq ?_
      refine ok_block ?_
      refine ok_seq ?_
      refine ok_region ?_
      replace h := bind_some h
      obtain ⟨x18, h18, h⟩ := h
      refine RT.ixM .none rfl rfl (tl rfl) h18 ?_
      refine RT.loadRV .none rfl rfl (tl rfl) ?_
      refine RT.asg .none rfl (tl rfl) ?_
      refine RT.done ?_
      refine AThen.n ?_
      refine ok_region ?_
      refine RT.move .none (s := .row _) rfl (tl rfl) ?_
      refine RT.move .none (s := .clo _ _) rfl (tl rfl) ?_
      refine RT.mv .none rfl (tl rfl) ?_
      replace h := let_some h
      obtain ⟨x23, h23, h⟩ := h
      refine RT.conv .none _ rfl (tl rfl) (UK.nat h23) ?_
      refine RT.mv .none rfl (tl rfl) ?_
      replace h := let_some h
      obtain ⟨x25, h25, h⟩ := h
      refine RT.shl .none _ rfl rfl (tl rfl) (Int.natCast_nonneg _) (UK.shl (a := x23) (q := ((x1 : Nat) : Int)) (s := min x1 64) rfl h25) ?_
      replace h := bind_some h
      obtain ⟨⟨x26, k10⟩, h26, h⟩ := h
      refine RT.callB .none (whole_carrier_1_ok h26) 9 rfl rfl ⟨rfl, trivial⟩ (tl rfl) ?_
      refine RT.buildSl (l := [x26]) (e := eU32) .none (.one rfl (.nil)) (tl rfl) rfl rfl rfl rfl rfl rfl ?_
      replace h := bind_some h
      obtain ⟨x28, h28, h⟩ := h
      refine RT.apR (k := [x26]) (e := eU32) .none rfl rfl rfl (tl rfl) rfl (tl rfl) h28 ?_
      refine RT.assign .none (s := .row _) rfl (tl rfl) ?_
      refine RT.done ?_
      refine AInB.n ?_
      refine AThen.n ?_
      refine ok_region ?_
      replace h := let_some h
      obtain ⟨x29, h29, h⟩ := h
      refine RT.add .none _ rfl rfl (tl rfl) h29 ?_
      refine RT.mv .none rfl (tl rfl) ?_
      refine RT.done ?_
      obtain rfl := Option.some.inj h
      refine AThen.n ⟨(x29, k10, x28), hG8 _ rfl, ?_⟩
      try dsimp only
      exact weakL (fun i => bif Nat.beq i 306 then 28 else i) rfl rfl rfl rfl rfl ⟨.sv (SV.imp_refl _), .clo, .row rfl, .sv (SV.imp_refl _), .sv (SV.imp_refl _), .sv (SV.imp_refl _), trivial⟩ ⟨⟨_, rfl, ⟨.sv (SV.imp_refl _), trivial⟩⟩, trivial⟩ ⟨⟨_, rfl, SVIs.refl _⟩, trivial⟩ (fun i hi => by rw [beq_ne (show i ≠ 306 by omega)]; rfl)
  · subst hx8
    obtain ⟨b9_0e7, r306e7⟩ := xe8
    try dsimp only
    refine AThen.n ?_
    refine ok_seq ?_
    refine ok_region ?_
    refine RT.move .none (s := .row _) rfl (tl rfl) ?_
    refine RT.move .none (s := .clo _ _) rfl (tl rfl) ?_
    replace ho8 := bind_some ho8
    obtain ⟨⟨x32, k12⟩, h32, ho8⟩ := ho8
    refine RT.callB .none (whole_carrier_1_ok h32) 9 rfl rfl ⟨rfl, trivial⟩ (tl rfl) ?_
    refine RT.buildSl (l := [x32]) (e := eU32) .none (.one rfl (.nil)) (tl rfl) rfl rfl rfl rfl rfl rfl ?_
    replace ho8 := bind_some ho8
    obtain ⟨x34, h34, ho8⟩ := ho8
    refine RT.apR (k := [x32]) (e := eU32) .none rfl rfl rfl (tl rfl) rfl (tl rfl) h34 ?_
    refine RT.assign .none (s := .row _) rfl (tl rfl) ?_
    refine RT.done ?_
    refine AThen.n ?_
    refine ok_ret ?_
    obtain rfl := Option.some.inj ho8
    exact ⟨.inr rfl, _, .tmp rfl, rfl⟩
theorem math_bits_Len32_ok {x0 : Nat} {r : Int} (h : math_bits_Len32_m x0 = some r) : Pure Try.prog 83 [.v (.int .u32 ((x0 : Nat) : Int))] (.v (.int .i64 r)) := by
  refine pure_of_ok Try.func83 rfl (Nat.le_of_ble_eq_true rfl) (fun wld M vs hvs => ?_)
  unfold math_bits_Len32_m at h
  refine ok_seq ?_
  refine ok_region ?_
  refine RT.asg .none rfl (tl rfl) ?_
  refine RT.done ?_
  refine AThen.n ?_
  refine ok_seq ?_
  refine ok_seq ?_
  refine ok_region ?_
  refine RT.mv .none rfl (tl rfl) ?_
  replace h := let_some h
  obtain ⟨x4, h4, h⟩ := h
  refine RT.geq .none _ rfl rfl (tl rfl) (leN (p := 65536) (q := x0) h4) ?_
  refine RT.done ?_
  refine AThen.n ?_
  refine ok_tailJ h (fun j2 => AS.mkL 19 [(0, .sv (.v (.int .u32 ((j2.1 : Nat) : Int)))), (2, .sv (.v (.int .i64 j2.2)))] [] []) (fun h => ?_) (fun j2 h => ?_)
  · cases x4
    · replace h := br_f h
      refine ok_condF rfl ?_
      refine ok_skip ?_
      refine AThen.n ?_
      refine ⟨(x0, 0), h, ?_⟩
      try dsimp only
      exact weakL id rfl rfl rfl rfl rfl ⟨.sv (SV.imp_refl _), .sv (SV.imp_refl _), trivial⟩ trivial trivial (fun _ _ => rfl)
    · replace h := br_t h
      refine ok_condT rfl ?_
      refine ok_seq ?_
      refine ok_region ?_
      refine RT.mv .none rfl (tl rfl) ?_
      replace h := let_some h
      obtain ⟨x6, h6, h⟩ := h
      refine RT.shr .none _ rfl rfl (tl rfl) (by decide) (shrU (k := .u32) (a := x0) (q := 16) (s := 16) rfl h6) ?_
      refine RT.asg .none rfl (tl rfl) ?_
      refine RT.done ?_
      refine AThen.n ?_
      refine ok_region ?_
      refine RT.asg .none rfl (tl rfl) ?_
      refine RT.done ?_
      refine AThen.n ?_
      refine ⟨(x6, 16), h, ?_⟩
      try dsimp only
      exact weakL id rfl rfl rfl rfl rfl ⟨.sv (SV.imp_refl _), .sv (SV.imp_refl _), trivial⟩ trivial trivial (fun _ _ => rfl)
  · obtain ⟨y0j1, y2j1⟩ := j2
    try dsimp only
    refine AThen.n ?_
    refine ok_seq ?_
    refine ok_seq ?_
    refine ok_region ?_
    refine RT.mv .none rfl (tl rfl) ?_
    replace h := let_some h
    obtain ⟨x8, h8, h⟩ := h
    refine RT.geq .none _ rfl rfl (tl rfl) (leN (p := 256) (q := y0j1) h8) ?_
    refine RT.done ?_
    refine AThen.n ?_
    refine ok_tailJ h (fun j4 => AS.mkL 19 [(0, .sv (.v (.int .u32 ((j4.1 : Nat) : Int)))), (2, .sv (.v (.int .i64 j4.2)))] [] []) (fun h => ?_) (fun j4 h => ?_)
    · cases x8
      · replace h := br_f h
        refine ok_condF rfl ?_
        refine ok_skip ?_
        refine AThen.n ?_
        refine ⟨(y0j1, y2j1), h, ?_⟩
        try dsimp only
        exact weakL id rfl rfl rfl rfl rfl ⟨.sv (SV.imp_refl _), .sv (SV.imp_refl _), trivial⟩ trivial trivial (fun _ _ => rfl)
      · replace h := br_t h
        refine ok_condT rfl ?_
        refine ok_seq ?_
        refine ok_region ?_
        refine RT.mv .none rfl (tl rfl) ?_
        replace h := let_some h
        obtain ⟨x10, h10, h⟩ := h
        refine RT.shr .none _ rfl rfl (tl rfl) (by decide) (shrU (k := .u32) (a := y0j1) (q := 8) (s := 8) rfl h10) ?_
        refine RT.asg .none rfl (tl rfl) ?_
        refine RT.done ?_
        refine AThen.n ?_
        refine ok_region ?_
        refine RT.mv .none rfl (tl rfl) ?_
        replace h := let_some h
        obtain ⟨x12, h12, h⟩ := h
        refine RT.add .none _ rfl rfl (tl rfl) h12 ?_
        refine RT.asg .none rfl (tl rfl) ?_
        refine RT.done ?_
        refine AThen.n ?_
        refine ⟨(x10, x12), h, ?_⟩
        try dsimp only
        exact weakL id rfl rfl rfl rfl rfl ⟨.sv (SV.imp_refl _), .sv (SV.imp_refl _), trivial⟩ trivial trivial (fun _ _ => rfl)
    · obtain ⟨y0j3, y2j3⟩ := j4
      try dsimp only
      refine AThen.n ?_
      refine ok_seq ?_
      refine ok_region ?_
      refine RT.mv .none rfl (tl rfl) ?_
      refine RT.mv .none rfl (tl rfl) ?_
      replace h := let_some h
      obtain ⟨x15, h15, h⟩ := h
      refine RT.conv .none _ rfl (tl rfl) (UK.nat h15) ?_
      replace h := bind_some h
      obtain ⟨x16, h16, h⟩ := h
      refine RT.six (l := [0, 1, 2, 2, 3, 3, 3, 3, 4, 4, 4, 4, 4, 4, 4, 4, 5, 5, 5, 5, 5, 5, 5, 5, 5, 5, 5, 5, 5, 5, 5, 5, 6, 6, 6, 6, 6, 6, 6, 6, 6, 6, 6, 6, 6, 6, 6, 6, 6, 6, 6, 6, 6, 6, 6, 6, 6, 6, 6, 6, 6, 6, 6, 6, 7, 7, 7, 7, 7, 7, 7, 7, 7, 7, 7, 7, 7, 7, 7, 7, 7, 7, 7, 7, 7, 7, 7, 7, 7, 7, 7, 7, 7, 7, 7, 7, 7, 7, 7, 7, 7, 7, 7, 7, 7, 7, 7, 7, 7, 7, 7, 7, 7, 7, 7, 7, 7, 7, 7, 7, 7, 7, 7, 7, 7, 7, 7, 7, 8, 8, 8, 8, 8, 8, 8, 8, 8, 8, 8, 8, 8, 8, 8, 8, 8, 8, 8, 8, 8, 8, 8, 8, 8, 8, 8, 8, 8, 8, 8, 8, 8, 8, 8, 8, 8, 8, 8, 8, 8, 8, 8, 8, 8, 8, 8, 8, 8, 8, 8, 8, 8, 8, 8, 8, 8, 8, 8, 8, 8, 8, 8, 8, 8, 8, 8, 8, 8, 8, 8, 8, 8, 8, 8, 8, 8, 8, 8, 8, 8, 8, 8, 8, 8, 8, 8, 8, 8, 8, 8, 8, 8, 8, 8, 8, 8, 8, 8, 8, 8, 8, 8, 8, 8, 8, 8, 8, 8, 8, 8, 8, 8, 8, 8, 8, 8, 8, 8, 8, 8, 8, 8, 8, 8, 8, 8, 8]) .none rfl rfl (tl rfl) h16 ?_
      replace h := let_some h
      obtain ⟨x17, h17, h⟩ := h
      refine RT.conv .none _ rfl (tl rfl) h17 ?_
      replace h := let_some h
      obtain ⟨x18, h18, h⟩ := h
      refine RT.add .none _ rfl rfl (tl rfl) h18 ?_
      refine RT.asg .none rfl (tl rfl) ?_
      refine RT.done ?_
      refine AThen.n ?_
      refine ok_ret ?_
      obtain rfl := Option.some.inj h
      exact ⟨.inr rfl, res_imp (.tmp rfl (.nil)) (SV.imp_refl _)⟩
theorem math_bits_LeadingZeros32_ok {x0 : Nat} {r : Int} (h : math_bits_LeadingZeros32_m x0 = some r) : Pure Try.prog 76 [.v (.int .u32 ((x0 : Nat) : Int))] (.v (.int .i64 r)) := by
  refine pure_of_ok Try.func76 rfl (Nat.le_of_ble_eq_true rfl) (fun wld M vs hvs => ?_)
  unfold math_bits_LeadingZeros32_m at h
  refine ok_seq ?_
  refine ok_region ?_
  refine RT.asg .none rfl (tl rfl) ?_
  refine RT.done ?_
  refine AThen.n ?_
  refine ok_seq ?_
  refine ok_region ?_
  refine RT.mv .none rfl (tl rfl) ?_
  replace h := bind_some h
  obtain ⟨x4, h4, h⟩ := h
  refine RT.call .none (math_bits_Len32_ok h4) rfl ⟨rfl, trivial⟩ (tl rfl) ?_
  replace h := let_some h
  obtain ⟨x5, h5, h⟩ := h
  refine RT.sub .none _ rfl rfl (tl rfl) h5 ?_
  refine RT.asg .none rfl (tl rfl) ?_
  refine RT.done ?_
  refine AThen.n ?_
  refine ok_ret ?_
  obtain rfl := Option.some.inj h
  exact ⟨.inr rfl, res_imp (.tmp rfl (.nil)) (SV.imp_refl _)⟩
theorem whole_estimate_ok {x0 : List Nat} {o0 : Nat} {n0 : Nat} {x1 : List Nat} {r : Nat × List Nat} (h : whole_estimate_m x0 o0 n0 x1 = some r) : RowC Try.prog 78 [.rsl 1000 (o0 * 1) n0, .sv (slc 1 (List.map eU32 x1))] (TR 51 1 eU32 x0) (.sv (.v (.int .u64 ((r.1 : Nat) : Int)))) (List.flatMap eU32 r.2) := by
  refine rowC_of_ok Try.func78 rfl (Nat.le_of_ble_eq_true rfl) rfl rfl (fun wld M v0 => ?_)
  unfold whole_estimate_m at h
  refine ok_seq ?_
  refine ok_region ?_
  refine RT.asg .none rfl (tl rfl) ?_
  refine RT.done ?_
  refine AThen.n ?_
  refine ok_seq ?_
  refine ok_region ?_
  refine RT.mv .none rfl (tl rfl) ?_
  replace h := let_some h
  obtain ⟨x12, h12, h⟩ := h
  refine RT.lenM .none rfl (tl rfl) h12 ?_
  refine RT.asg .none rfl (tl rfl) ?_
  refine RT.done ?_
  refine AThen.n ?_
  refine ok_seq ?_
  refine ok_region_draw mixed ?_
  refine RT.move .none (s := .rsl _ _ _) rfl (tl rfl) ?_
  refine RT.mv .none rfl (tl rfl) ?_
  replace h := bind_some h
  obtain ⟨x15, h15, h⟩ := h
  refine RT.ixRsM .none rfl rfl (tl rfl) h15 ?_
  replace h := bind_some h
  obtain ⟨x16, h16, h⟩ := h
  refine RT.ldRM .none rfl rfl h16 rfl (tl rfl) ?_
  replace h := let_some h
  obtain ⟨x17, h17, h⟩ := h
  refine RT.conv .none _ rfl (tl rfl) (UK.nat h17) ?_
  replace h := let_some h
  obtain ⟨x18, h18, h⟩ := h
  refine RT.shl .none _ rfl rfl (tl rfl) (by decide) (UK.shl (a := x17) (q := 32) (s := 32) rfl h18) ?_
  refine RT.move .none (s := .rsl _ _ _) rfl (tl rfl) ?_
  refine RT.mv .none rfl (tl rfl) ?_
  replace h := let_some h
  obtain ⟨x21, h21, h⟩ := h
  refine RT.sub .none _ rfl rfl (tl rfl) h21 ?_
  replace h := bind_some h
  obtain ⟨x22, h22, h⟩ := h
  refine RT.ixRsM .none rfl rfl (tl rfl) h22 ?_
  replace h := bind_some h
  obtain ⟨x23, h23, h⟩ := h
  refine RT.ldRM .none rfl rfl h23 rfl (tl rfl) ?_
  replace h := let_some h
  obtain ⟨x24, h24, h⟩ := h
  refine RT.conv .none _ rfl (tl rfl) (UK.nat h24) ?_
  replace h := let_some h
  obtain ⟨x25, h25, h⟩ := h
  refine RT.or .none _ rfl rfl (tl rfl) (UK.or (a := x18) (b := x24) h25) ?_
  refine RT.asg .none rfl (tl rfl) ?_
  refine RT.done ⟨by kernel_rfl, ?_⟩
  refine AThen.n ?_
  refine ok_seq ?_
  refine ok_region_draw mixed ?_
  refine RT.mv .none rfl (tl rfl) ?_
  refine RT.mv .none rfl (tl rfl) ?_
  replace h := let_some h
  obtain ⟨x28, h28, h⟩ := h
  refine RT.sub .none _ rfl rfl (tl rfl) h28 ?_
  replace h := bind_some h
  obtain ⟨x29, h29, h⟩ := h
  refine RT.ixM .none rfl rfl (tl rfl) h29 ?_
  refine RT.loadRV .none rfl rfl (tl rfl) ?_
  replace h := let_some h
  obtain ⟨x31, h31, h⟩ := h
  refine RT.conv .none _ rfl (tl rfl) (UK.nat h31) ?_
  refine RT.mv .none rfl (tl rfl) ?_
  refine RT.mv .none rfl (tl rfl) ?_
  replace h := let_some h
  obtain ⟨x34, h34, h⟩ := h
  refine RT.sub .none _ rfl rfl (tl rfl) h34 ?_
  replace h := bind_some h
  obtain ⟨x35, h35, h⟩ := h
  refine RT.ixM .none rfl rfl (tl rfl) h35 ?_
  refine RT.loadRV .none rfl rfl (tl rfl) ?_
  replace h := let_some h
  obtain ⟨x37, h37, h⟩ := h
  refine RT.conv .none _ rfl (tl rfl) (UK.nat h37) ?_
  refine RT.asg .none rfl (tl rfl) ?_
  refine RT.asg .none rfl (tl rfl) ?_
  refine RT.done ⟨by kernel_rfl, ?_⟩
  refine AThen.n ?_
  refine ok_seq ?_
  refine ok_region_draw mixed ?_
  refine RT.mv .none rfl (tl rfl) ?_
  refine RT.mv .none rfl (tl rfl) ?_
  replace h := bind_some h
  obtain ⟨x40, h40, h⟩ := h
  refine RT.quo .none _ rfl rfl (tl rfl) (nzU h40) (UK.quo h40) ?_
  refine RT.mv .none rfl (tl rfl) ?_
  refine RT.mv .none rfl (tl rfl) ?_
  replace h := bind_some h
  obtain ⟨x43, h43, h⟩ := h
  refine RT.rem .none _ rfl rfl (tl rfl) (nzR h43) (remU h43) ?_
  refine RT.asg .none rfl (tl rfl) ?_
  refine RT.asg .none rfl (tl rfl) ?_
  refine RT.done ⟨by kernel_rfl, ?_⟩
  refine AThen.n ?_
  refine ok_seq ?_
  replace h := bind_some h
  obtain ⟨e10, hl10, ho10⟩ := h
  refine ok_tailP (fun (y9e9 : Nat) => AS.mkL 71 [(9, .sv (.v (.int .u64 ((y9e9 : Nat) : Int))))] [] [(1000, TR 51 1 eU32 x0)]) (fun y9e9 => y9e9 = e10) ?_ (fun y9e9 hx10 => ?_)
  · refine ok_block ?_
    refine ok_loopM hl10 (fun s10 => AS.mkL 71 [(0, .rsl 1000 (o0 * 1) n0), (5, .sv (.v (.int .i64 x12))), (7, .sv (.v (.int .u64 ((x31 : Nat) : Int)))), (8, .sv (.v (.int .u64 ((x37 : Nat) : Int)))), (9, .sv (.v (.int .u64 ((s10.1 : Nat) : Int)))), (10, .sv (.v (.int .u64 ((s10.2 : Nat) : Int))))] [] [(1000, TR 51 1 eU32 x0)]) (by (try dsimp only); exact weakL id rfl rfl rfl rfl rfl ⟨.rsl rfl, .sv (SV.imp_refl _), .sv (SV.imp_refl _), .sv (SV.imp_refl _), .sv (SV.imp_refl _), .sv (SV.imp_refl _), trivial⟩ trivial ⟨⟨_, rfl, SVIs.refl _⟩, trivial⟩ (fun _ _ => rfl)) (fun s10 y10 G10 h hG10 hE10 => ?_)
    obtain ⟨y9l5, y10l5⟩ := s10
    try dsimp only
    refine ok_seq ?_
    refine ok_seq ?_
    refine ok_tailJ h (fun j13 => AS.mkL 71 [(0, .rsl 1000 (o0 * 1) n0), (5, .sv (.v (.int .i64 x12))), (7, .sv (.v (.int .u64 ((x31 : Nat) : Int)))), (8, .sv (.v (.int .u64 ((x37 : Nat) : Int)))), (9, .sv (.v (.int .u64 ((y9l5 : Nat) : Int)))), (10, .sv (.v (.int .u64 ((y10l5 : Nat) : Int)))), (61, .sv (.v (.bool j13)))] [] [(1000, TR 51 1 eU32 x0)]) (fun h => ?_) (fun y61j12 h => ?_)
    · refine ok_region ?_
      refine RT.mv .none rfl (tl rfl) ?_
      replace h := let_some h
      obtain ⟨x45, h45, h⟩ := h
      refine RT.shr .none _ rfl rfl (tl rfl) (by decide) (shrU (k := .u64) (a := y9l5) (q := 32) (s := 32) rfl h45) ?_
      replace h := let_some h
      obtain ⟨x46, h46, h⟩ := h
      refine RT.neq .none _ rfl rfl (tl rfl) (neN (p := x45) (q := 0) h46) ?_
      refine RT.mv .none rfl (tl rfl) ?_
      replace h := bind_some h
      obtain ⟨c61_14, hg14, h⟩ := h
      cases x46
      · replace hg14 := br_f hg14
        refine RT.mv (.some rfl rfl) rfl (tl rfl) ?_
        refine RT.mv (.some rfl rfl) rfl (tl rfl) ?_
        replace hg14 := let_some hg14
        obtain ⟨x50, h50, hg14⟩ := hg14
        refine RT.mul (.some rfl rfl) _ rfl rfl (tl rfl) (UK.mul (a := y9l5) (b := x37) h50) ?_
        refine RT.mv (.some rfl rfl) rfl (tl rfl) ?_
        replace hg14 := let_some hg14
        obtain ⟨x52, h52, hg14⟩ := hg14
        refine RT.shl (.some rfl rfl) _ rfl rfl (tl rfl) (by decide) (UK.shl (a := y10l5) (q := 32) (s := 32) rfl h52) ?_
        refine RT.move (.some rfl rfl) (s := .rsl _ _ _) rfl (tl rfl) ?_
        refine RT.mv (.some rfl rfl) rfl (tl rfl) ?_
        replace hg14 := let_some hg14
        obtain ⟨x55, h55, hg14⟩ := hg14
        refine RT.sub (.some rfl rfl) _ rfl rfl (tl rfl) h55 ?_
        replace hg14 := bind_some hg14
        obtain ⟨x56, h56, hg14⟩ := hg14
        refine RT.ixRsM (.some rfl rfl) rfl rfl (tl rfl) h56 ?_
        replace hg14 := bind_some hg14
        obtain ⟨x57, h57, hg14⟩ := hg14
        refine RT.ldRM (.some rfl rfl) rfl rfl h57 rfl (tl rfl) ?_
        replace hg14 := let_some hg14
        obtain ⟨x58, h58, hg14⟩ := hg14
        refine RT.conv (.some rfl rfl) _ rfl (tl rfl) (UK.nat h58) ?_
        replace hg14 := let_some hg14
        obtain ⟨x59, h59, hg14⟩ := hg14
        refine RT.or (.some rfl rfl) _ rfl rfl (tl rfl) (UK.or (a := x52) (b := x58) h59) ?_
        replace hg14 := let_some hg14
        obtain ⟨x60, h60, hg14⟩ := hg14
        refine RT.gtr (.some rfl rfl) _ rfl rfl (tl rfl) (ltN (p := x59) (q := x50) h60) ?_
        obtain rfl := Option.some.inj hg14
        refine RT.pickF .none rfl rfl (tl rfl) ?_
        refine RT.done ?_
        refine AThen.n ?_
        refine ⟨x60, h, ?_⟩
        try dsimp only
        exact weakL id rfl rfl rfl rfl rfl ⟨.rsl rfl, .sv (SV.imp_refl _), .sv (SV.imp_refl _), .sv (SV.imp_refl _), .sv (SV.imp_refl _), .sv (SV.imp_refl _), .sv (SV.imp_refl _), trivial⟩ trivial ⟨⟨_, rfl, SVIs.refl _⟩, trivial⟩ (fun _ _ => rfl)
      · replace hg14 := br_t hg14
        obtain rfl := Option.some.inj hg14
        refine RT.skV rfl rfl (sk rfl) (tl rfl) ?_
        refine RT.skV rfl rfl (sk rfl) (tl rfl) ?_
        refine RT.skV rfl rfl (sk rfl) (tl rfl) ?_
        refine RT.skV rfl rfl (sk rfl) (tl rfl) ?_
        refine RT.skV rfl rfl (sk rfl) (tl rfl) ?_
        refine RT.skV rfl rfl (sk rfl) (tl rfl) ?_
        refine RT.skV rfl rfl (sk rfl) (tl rfl) ?_
        refine RT.skV rfl rfl (sk rfl) (tl rfl) ?_
        refine RT.skV rfl rfl (sk rfl) (tl rfl) ?_
        refine RT.skV rfl rfl (sk rfl) (tl rfl) ?_
        refine RT.skV rfl rfl (sk rfl) (tl rfl) ?_
        refine RT.skV rfl rfl (sk rfl) (tl rfl) ?_
        refine RT.skV rfl rfl (sk rfl) (tl rfl) ?_
        refine RT.pickT .none rfl rfl (tl rfl) ?_
        refine RT.done ?_
        refine AThen.n ?_
        refine ⟨true, h, ?_⟩
        try dsimp only
        exact weakL id rfl rfl rfl rfl rfl ⟨.rsl rfl, .sv (SV.imp_refl _), .sv (SV.imp_refl _), .sv (SV.imp_refl _), .sv (SV.imp_refl _), .sv (SV.imp_refl _), .sv (SV.imp_refl _), trivial⟩ trivial ⟨⟨_, rfl, SVIs.refl _⟩, trivial⟩ (fun _ _ => rfl)
    · try dsimp only
      refine AThen.n ?_
      cases y61j12
      · replace h := br_f h
        refine ok_condF rfl ?_
        refine ok_exit ?_
        refine AThen.x ?_
        refine AThen.x ?_
        refine AInB.x ?_
        refine AThen.n ?_
        obtain rfl := Option.some.inj h
        refine ⟨y9l5, hE10 _ rfl, ?_⟩
        try dsimp only
        exact weakL id rfl rfl rfl rfl rfl ⟨.sv (SV.imp_refl _), trivial⟩ trivial ⟨⟨_, rfl, SVIs.refl _⟩, trivial⟩ (fun _ _ => rfl)
      · replace h := br_t h
        refine ok_condT rfl ?_
        refine ok_skip ?_
        refine AThen.n ?_
        refine ok_block ?_
        refine ok_seq ?_
        refine ok_region ?_
        refine RT.mv .none rfl (tl rfl) ?_
        replace h := let_some h
        obtain ⟨x63, h63, h⟩ := h
        refine RT.sub .none _ rfl rfl (tl rfl) (UK.sub (a := y9l5) (b := 1) h63) ?_
        refine RT.asg .none rfl (tl rfl) ?_
        refine RT.done ?_
        refine AThen.n ?_
        refine ok_seq ?_
        refine ok_region ?_
        refine RT.mv .none rfl (tl rfl) ?_
        refine RT.mv .none rfl (tl rfl) ?_
        replace h := let_some h
        obtain ⟨x66, h66, h⟩ := h
        refine RT.add .none _ rfl rfl (tl rfl) (UK.add (a := y10l5) (b := x31) h66) ?_
        refine RT.asg .none rfl (tl rfl) ?_
        refine RT.done ?_
        refine AThen.n ?_
        refine ok_seq ?_
        refine ok_region ?_
        refine RT.mv .none rfl (tl rfl) ?_
        replace h := let_some h
        obtain ⟨x68, h68, h⟩ := h
        refine RT.shr .none _ rfl rfl (tl rfl) (by decide) (shrU (k := .u64) (a := x66) (q := 32) (s := 32) rfl h68) ?_
        replace h := let_some h
        obtain ⟨x69, h69, h⟩ := h
        refine RT.neq .none _ rfl rfl (tl rfl) (neN (p := x68) (q := 0) h69) ?_
        refine RT.done ?_
        refine AThen.n ?_
        cases x69
        · replace h := br_f h
          refine ok_condF rfl ?_
          refine ok_skip ?_
          refine AInB.n ?_
          obtain rfl := Option.some.inj h
          refine AThen.n ⟨(x63, x66), hG10 _ rfl, ?_⟩
          try dsimp only
          exact weakL id rfl rfl rfl rfl rfl ⟨.rsl rfl, .sv (SV.imp_refl _), .sv (SV.imp_refl _), .sv (SV.imp_refl _), .sv (SV.imp_refl _), .sv (SV.imp_refl _), trivial⟩ trivial ⟨⟨_, rfl, SVIs.refl _⟩, trivial⟩ (fun _ _ => rfl)
        · replace h := br_t h
          refine ok_condT rfl ?_
          refine ok_exit ?_
          refine AInB.y (by decide) ?_
          refine AThen.x ?_
          refine AInB.x ?_
          refine AThen.n ?_
          obtain rfl := Option.some.inj h
          refine ⟨x63, hE10 _ rfl, ?_⟩
          try dsimp only
          exact weakL id rfl rfl rfl rfl rfl ⟨.sv (SV.imp_refl _), trivial⟩ trivial ⟨⟨_, rfl, SVIs.refl _⟩, trivial⟩ (fun _ _ => rfl)
  · subst hx10
    try dsimp only
    refine AThen.n ?_
    refine ok_seq ?_
    refine ok_region ?_
    refine RT.mv .none rfl (tl rfl) ?_
    refine RT.asg .none rfl (tl rfl) ?_
    refine RT.done ?_
    refine AThen.n ?_
    refine ok_ret ?_
    replace ho10 := bind_some ho10
    obtain ⟨_, hle, ho10⟩ := ho10
    obtain rfl := Option.some.inj ho10
    exact ⟨.inr rfl, .sv (res_imp (.tmp rfl (.nil)) (SV.imp_refl _)), (by show _ = RSt.live ⟨51, 1, x0.length, List.flatMap eU32 x0⟩; rw [← eqLen_some hle]; rfl)⟩
theorem whole_subtractMultiple_ok {x0 : List Nat} {o0 : Nat} {n0 : Nat} {x1 : List Nat} {x2 : Nat} {r : Bool × List Nat} (h : whole_subtractMultiple_m x0 o0 n0 x1 x2 = some r) : RowC Try.prog 79 [.rsl 1000 (o0 * 1) n0, .sv (slc 1 (List.map eU32 x1)), .sv (.v (.int .u64 ((x2 : Nat) : Int)))] (TR 51 1 eU32 x0) (.sv (.v (.bool r.1))) (List.flatMap eU32 r.2) := by
  refine rowC_of_ok Try.func79 rfl (Nat.le_of_ble_eq_true rfl) rfl rfl (fun wld M v0 => ?_)
  unfold whole_subtractMultiple_m at h
  refine ok_seq ?_
  refine ok_region ?_
  refine RT.asg .none rfl (tl rfl) ?_
  refine RT.done ?_
  refine AThen.n ?_
  refine ok_seq ?_
  refine ok_region ?_
  refine RT.asg .none rfl (tl rfl) ?_
  refine RT.done ?_
  refine AThen.n ?_
  refine ok_seq ?_
  refine ok_region ?_
  refine RT.callF .none (whole_carrier_ok 0) rfl ⟨rfl, trivial⟩ (tl rfl) rfl rfl ?_
  refine RT.assign .none (s := .clo _ _) rfl (tl rfl) ?_
  refine RT.done ?_
  refine AThen.n ?_
  refine ok_seq ?_
  refine ok_seq ?_
  refine ok_region ?_
  refine RT.move .none (s := .rsl _ _ _) rfl (tl rfl) ?_
  replace h := let_some h
  obtain ⟨x14, h14, h⟩ := h
  refine RT.lenRsM .none rfl (tl rfl) h14 ?_
  refine RT.mv .none rfl (tl rfl) ?_
  refine RT.done ?_
  refine AThen.n ?_
  replace h := bind_some h
  obtain ⟨e12, hl12, ho12⟩ := h
  refine ok_tailP (fun (xe12 : Nat × (List Nat)) => AS.mkL 51 [(7, .sv (.v (.int .u64 ((xe12.1 : Nat) : Int))))] [] [(1000, TR 51 1 eU32 xe12.2)]) (fun xe12 => xe12 = e12) ?_ (fun xe12 hx12 => ?_)
  · refine ok_block ?_
    refine ok_loopM hl12 (fun s12 => AS.mkL 51 [(0, .rsl 1000 (o0 * 1) n0), (1, .sv (slc 1 (List.map eU32 x1))), (2, .sv (.v (.int .u64 ((x2 : Nat) : Int)))), (7, .sv (.v (.int .u64 ((s12.1 : Nat) : Int)))), (8, .clo 80 [.box 12]), (14, .sv (.v (.int .i64 x14))), (15, .sv (.v (.int .i64 s12.2.1)))] [(12, ⟨59, [.sv (.v (.int .u64 ((s12.2.2.1 : Nat) : Int)))]⟩)] [(1000, TR 51 1 eU32 s12.2.2.2)]) (by (try dsimp only); exact weakL id rfl rfl rfl rfl rfl ⟨.rsl rfl, .sv (SV.imp_refl _), .sv (SV.imp_refl _), .sv (SV.imp_refl _), .clo, .sv (SV.imp_refl _), .sv (SV.imp_refl _), trivial⟩ ⟨⟨_, rfl, ⟨.sv (SV.imp_refl _), trivial⟩⟩, trivial⟩ ⟨⟨_, rfl, SVIs.refl _⟩, trivial⟩ (fun _ _ => rfl)) (fun s12 y12 G12 h hG12 hE12 => ?_)
    obtain ⟨y7l6, y15l6, b12_0l6, r1000l6⟩ := s12
    try dsimp only
    refine ok_seq ?_
    refine ok_region ?_
    replace h := let_some h
    obtain ⟨x16, h16, h⟩ := h
    refine RT.lss .none _ rfl rfl (tl rfl) h16 ?_
    refine RT.done ?_
    refine AThen.n ?_
    refine ok_seq ?_
    cases x16
    · replace h := br_f h
      refine ok_condF rfl ?_
      refine ok_exit ?_
      refine AThen.x ?_
      refine AThen.x ?_
      refine AInB.x ?_
      refine AThen.n ?_
      obtain rfl := Option.some.inj h
      refine ⟨(y7l6, r1000l6), hE12 _ rfl, ?_⟩
      try dsimp only
      exact weakL id rfl rfl rfl rfl rfl ⟨.sv (SV.imp_refl _), trivial⟩ trivial ⟨⟨_, rfl, SVIs.refl _⟩, trivial⟩ (fun _ _ => rfl)
    · replace h := br_t h
      refine ok_condT rfl ?_
      refine ok_skip ?_
      refine AThen.n ?_
      refine ok_seq ?_
      refine ok_block ?_
      refine ok_seq ?_
      refine ok_region ?_
      refine RT.mv .none rfl (tl rfl) ?_
      refine RT.asg .none rfl (tl rfl) ?_
      refine RT.done ?_
      refine AThen.n ?_
      refine ok_seq ?_
      refine ok_region ?_
      refine RT.asg .none rfl (tl rfl) ?_
      refine RT.done ?_
      refine AThen.n ?_
      refine ok_seq ?_
      refine ok_seq ?_
      refine ok_region ?_
      refine RT.mv .none rfl (tl rfl) ?_
      refine RT.mv .none rfl (tl rfl) ?_
      replace h := let_some h
      obtain ⟨x20, h20, h⟩ := h
      refine RT.lenM .none rfl (tl rfl) h20 ?_
      replace h := let_some h
      obtain ⟨x21, h21, h⟩ := h
      refine RT.lss .none _ rfl rfl (tl rfl) h21 ?_
      refine RT.done ?_
      refine AThen.n ?_
      refine ok_tailJ h (fun j14 => AS.mkL 51 [(0, .rsl 1000 (o0 * 1) n0), (1, .sv (slc 1 (List.map eU32 x1))), (2, .sv (.v (.int .u64 ((x2 : Nat) : Int)))), (7, .sv (.v (.int .u64 ((y7l6 : Nat) : Int)))), (8, .clo 80 [.box 12]), (9, .sv (.v (.int .i64 y15l6))), (10, .sv (.v (.int .u64 ((j14 : Nat) : Int)))), (14, .sv (.v (.int .i64 x14))), (15, .sv (.v (.int .i64 y15l6)))] [(12, ⟨59, [.sv (.v (.int .u64 ((b12_0l6 : Nat) : Int)))]⟩)] [(1000, TR 51 1 eU32 r1000l6)]) (fun h => ?_) (fun y10j13 h => ?_)
      · cases x21
        · replace h := br_f h
          refine ok_condF rfl ?_
          refine ok_skip ?_
          refine AThen.n ?_
          refine ⟨0, h, ?_⟩
          try dsimp only
          exact weakL id rfl rfl rfl rfl rfl ⟨.rsl rfl, .sv (SV.imp_refl _), .sv (SV.imp_refl _), .sv (SV.imp_refl _), .clo, .sv (SV.imp_refl _), .sv (SV.imp_refl _), .sv (SV.imp_refl _), .sv (SV.imp_refl _), trivial⟩ ⟨⟨_, rfl, ⟨.sv (SV.imp_refl _), trivial⟩⟩, trivial⟩ ⟨⟨_, rfl, SVIs.refl _⟩, trivial⟩ (fun _ _ => rfl)
        · replace h := br_t h
          refine ok_condT rfl ?_
          refine ok_region ?_
          refine RT.mv .none rfl (tl rfl) ?_
          refine RT.mv .none rfl (tl rfl) ?_
          replace h := bind_some h
          obtain ⟨x24, h24, h⟩ := h
          refine RT.ixM .none rfl rfl (tl rfl) h24 ?_
          refine RT.loadRV .none rfl rfl (tl rfl) ?_
          replace h := let_some h
          obtain ⟨x26, h26, h⟩ := h
          refine RT.conv .none _ rfl (tl rfl) (UK.nat h26) ?_
          refine RT.mv .none rfl (tl rfl) ?_
          replace h := let_some h
          obtain ⟨x28, h28, h⟩ := h
          refine RT.mul .none _ rfl rfl (tl rfl) (UK.mul (a := x26) (b := x2) h28) ?_
          refine RT.asg .none rfl (tl rfl) ?_
          refine RT.done ?_
          refine AThen.n ?_
          refine ⟨x28, h, ?_⟩
          try dsimp only
          exact weakL id rfl rfl rfl rfl rfl ⟨.rsl rfl, .sv (SV.imp_refl _), .sv (SV.imp_refl _), .sv (SV.imp_refl _), .clo, .sv (SV.imp_refl _), .sv (SV.imp_refl _), .sv (SV.imp_refl _), .sv (SV.imp_refl _), trivial⟩ ⟨⟨_, rfl, ⟨.sv (SV.imp_refl _), trivial⟩⟩, trivial⟩ ⟨⟨_, rfl, SVIs.refl _⟩, trivial⟩ (fun _ _ => rfl)
      · try dsimp only
        refine AThen.n ?_
        refine ok_seq ?_
        refine ok_region_draw mixed ?_
        refine RT.move .none (s := .rsl _ _ _) rfl (tl rfl) ?_
        refine RT.mv .none rfl (tl rfl) ?_
        replace h := bind_some h
        obtain ⟨x31, h31, h⟩ := h
        refine RT.ixRsM .none rfl rfl (tl rfl) h31 ?_
        replace h := bind_some h
        obtain ⟨x32, h32, h⟩ := h
        refine RT.ldRM .none rfl rfl h32 rfl (tl rfl) ?_
        replace h := let_some h
        obtain ⟨x33, h33, h⟩ := h
        refine RT.conv .none _ rfl (tl rfl) (UK.nat h33) ?_
        refine RT.move .none (s := .clo _ _) rfl (tl rfl) ?_
        refine RT.mv .none rfl (tl rfl) ?_
        replace h := bind_some h
        obtain ⟨⟨x36, k16⟩, h36, h⟩ := h
        refine RT.callB .none (whole_carrier_1_ok h36) 12 rfl rfl ⟨rfl, trivial⟩ (tl rfl) ?_
        replace h := let_some h
        obtain ⟨x37, h37, h⟩ := h
        refine RT.conv .none _ rfl (tl rfl) (UK.nat h37) ?_
        replace h := let_some h
        obtain ⟨x38, h38, h⟩ := h
        refine RT.sub .none _ rfl rfl (tl rfl) (UK.sub (a := x33) (b := x37) h38) ?_
        refine RT.mv .none rfl (tl rfl) ?_
        replace h := let_some h
        obtain ⟨x40, h40, h⟩ := h
        refine RT.sub .none _ rfl rfl (tl rfl) (UK.sub (a := x38) (b := y7l6) h40) ?_
        refine RT.asg .none rfl (tl rfl) ?_
        refine RT.done ⟨by kernel_rfl, ?_⟩
        refine AThen.n ?_
        refine ok_seq ?_
        refine ok_region ?_
        refine RT.move .none (s := .rsl _ _ _) rfl (tl rfl) ?_
        refine RT.mv .none rfl (tl rfl) ?_
        refine RT.mv .none rfl (tl rfl) ?_
        replace h := let_some h
        obtain ⟨x44, h44, h⟩ := h
        refine RT.conv .none _ rfl (tl rfl) (UK.nat h44) ?_
        replace h := bind_some h
        obtain ⟨x45, h45, h⟩ := h
        refine RT.ixRsM .none rfl rfl (tl rfl) h45 ?_
        replace h := bind_some h
        obtain ⟨l18, hl18_, h⟩ := h
        refine RT.stRM .none x44 rfl rfl rfl rfl hl18_ ?_
        refine RT.done ?_
        refine AThen.n ?_
        refine ok_region ?_
        refine RT.mv .none rfl (tl rfl) ?_
        replace h := let_some h
        obtain ⟨x47, h47, h⟩ := h
        refine RT.shr .none _ rfl rfl (tl rfl) (by decide) (shrU (k := .u64) (a := x40) (q := 63) (s := 63) rfl h47) ?_
        refine RT.asg .none rfl (tl rfl) ?_
        refine RT.done ?_
        refine AInB.n ?_
        refine AThen.n ?_
        refine ok_region ?_
        replace h := let_some h
        obtain ⟨x48, h48, h⟩ := h
        refine RT.add .none _ rfl rfl (tl rfl) h48 ?_
        refine RT.mv .none rfl (tl rfl) ?_
        refine RT.done ?_
        obtain rfl := Option.some.inj h
        refine AThen.n ⟨(x47, x48, k16, l18), hG12 _ rfl, ?_⟩
        try dsimp only
        exact weakL id rfl rfl rfl rfl rfl ⟨.rsl rfl, .sv (SV.imp_refl _), .sv (SV.imp_refl _), .sv (SV.imp_refl _), .clo, .sv (SV.imp_refl _), .sv (SV.imp_refl _), trivial⟩ ⟨⟨_, rfl, ⟨.sv (SV.imp_refl _), trivial⟩⟩, trivial⟩ ⟨⟨_, rfl, SVIs.refl _⟩, trivial⟩ (fun _ _ => rfl)
  · subst hx12
    obtain ⟨y7e11, r1000e11⟩ := xe12
    try dsimp only
    refine AThen.n ?_
    refine ok_seq ?_
    refine ok_region ?_
    refine RT.mv .none rfl (tl rfl) ?_
    replace ho12 := let_some ho12
    obtain ⟨x50, h50, ho12⟩ := ho12
    refine RT.neq .none _ rfl rfl (tl rfl) (neN (p := y7e11) (q := 0) h50) ?_
    refine RT.asg .none rfl (tl rfl) ?_
    refine RT.done ?_
    refine AThen.n ?_
    refine ok_ret ?_
    replace ho12 := bind_some ho12
    obtain ⟨_, hle, ho12⟩ := ho12
    obtain rfl := Option.some.inj ho12
    exact ⟨.inr rfl, .sv (res_imp (.tmp rfl (.nil)) (SV.imp_refl _)), (by show _ = RSt.live ⟨51, 1, x0.length, List.flatMap eU32 r1000e11⟩; rw [← eqLen_some hle]; rfl)⟩
theorem whole_longDiv_ok {x0 : List Nat} {x1 : List Nat} {r : (List Nat) × (List Nat)} (h : whole_longDiv_m x0 x1 = some r) : Pure Try.prog 70 [slc 1 (List.map eU32 x0), slc 1 (List.map eU32 x1)] (.tup [slc 1 (List.map eU32 r.1), slc 1 (List.map eU32 r.2)]) := by
  refine pure_of_ok Try.func70 rfl (Nat.le_of_ble_eq_true rfl) (fun wld M vs hvs => ?_)
  unfold whole_longDiv_m at h
  refine ok_seq ?_
  refine ok_region ?_
  refine RT.asg .none rfl (tl rfl) ?_
  refine RT.asg .none rfl (tl rfl) ?_
  refine RT.done ?_
  refine AThen.n ?_
  refine ok_weak (weak_nil 4 306 51 1 rfl rfl (tl rfl)) ?_
  refine ok_weak (weak_nil 5 308 51 1 rfl rfl (tl rfl)) ?_
  refine ok_seq ?_
  refine ok_region ?_
  refine RT.mv .none rfl (tl rfl) ?_
  replace h := let_some h
  obtain ⟨x17, h17, h⟩ := h
  refine RT.lenM .none rfl (tl rfl) h17 ?_
  refine RT.asg .none rfl (tl rfl) ?_
  refine RT.done ?_
  refine AThen.n ?_
  refine ok_seq ?_
  refine ok_region ?_
  refine RT.mv .none rfl (tl rfl) ?_
  refine RT.mv .none rfl (tl rfl) ?_
  replace h := let_some h
  obtain ⟨x20, h20, h⟩ := h
  refine RT.sub .none _ rfl rfl (tl rfl) h20 ?_
  replace h := bind_some h
  obtain ⟨x21, h21, h⟩ := h
  refine RT.ixM .none rfl rfl (tl rfl) h21 ?_
  refine RT.loadRV .none rfl rfl (tl rfl) ?_
  replace h := bind_some h
  obtain ⟨x23, h23, h⟩ := h
  refine RT.call .none (math_bits_LeadingZeros32_ok h23) rfl ⟨rfl, trivial⟩ (tl rfl) ?_
  replace h := let_some h
  obtain ⟨x24, h24, h⟩ := h
  refine RT.conv .none _ rfl (tl rfl) (UK.conv h24) ?_
  refine RT.asg .none rfl (tl rfl) ?_
  refine RT.done ?_
  refine AThen.n ?_
  refine ok_seq ?_
  refine ok_region_draw mixed ?_
  refine RT.mv .none rfl (tl rfl) ?_
  refine RT.mv .none rfl (tl rfl) ?_
  replace h := bind_some h
  obtain ⟨x27, h27, h⟩ := h
  refine RT.callN .none (whole_shiftLeftN_ok h27) rfl ⟨rfl, rfl, trivial⟩ (tl rfl) rfl (tl rfl) ?_
  refine RT.mv .none rfl (tl rfl) ?_
  refine RT.mv .none rfl (tl rfl) ?_
  replace h := bind_some h
  obtain ⟨x30, h30, h⟩ := h
  refine RT.call .none (whole_shiftLeft_ok h30) rfl ⟨rfl, rfl, trivial⟩ (tl rfl) ?_
  refine RT.mv .none rfl (tl rfl) ?_
  replace h := bind_some h
  obtain ⟨x32, h32, h⟩ := h
  refine RT.sliceM .none 0 x17 rfl rfl ⟨_, rfl⟩ (tl rfl) h32 ?_
  refine RT.assign .none (s := .row _) rfl (tl rfl) ?_
  refine RT.asg .none rfl (tl rfl) ?_
  refine RT.done ⟨by kernel_rfl, ?_⟩
  refine AThen.n ?_
  refine ok_seq ?_
  refine ok_region ?_
  refine RT.mv .none rfl (tl rfl) ?_
  replace h := let_some h
  obtain ⟨x34, h34, h⟩ := h
  refine RT.lenM .none rfl (tl rfl) h34 ?_
  refine RT.mv .none rfl (tl rfl) ?_
  replace h := let_some h
  obtain ⟨x36, h36, h⟩ := h
  refine RT.sub .none _ rfl rfl (tl rfl) h36 ?_
  replace h := let_some h
  obtain ⟨x37, h37, h⟩ := h
  refine RT.add .none _ rfl rfl (tl rfl) h37 ?_
  replace h := bind_some h
  obtain ⟨x38, h38, h⟩ := h
  refine RT.mkRow (n := 1) (e := eU32) .none rfl rfl (tl rfl) rfl (tl rfl) (by rfl) (by decide) (by exact ⟨SV.imp_refl _, trivial⟩) h38 ?_
  refine RT.assign .none (s := .row _) rfl (tl rfl) ?_
  refine RT.done ?_
  refine AThen.n ?_
  refine ok_seq ?_
  refine ok_seq ?_
  refine ok_region ?_
  refine RT.mv .none rfl (tl rfl) ?_
  replace h := let_some h
  obtain ⟨x40, h40, h⟩ := h
  refine RT.lenM .none rfl (tl rfl) h40 ?_
  refine RT.mv .none rfl (tl rfl) ?_
  replace h := let_some h
  obtain ⟨x42, h42, h⟩ := h
  refine RT.sub .none _ rfl rfl (tl rfl) h42 ?_
  refine RT.asg .none rfl (tl rfl) ?_
  refine RT.done ?_
  refine AThen.n ?_
  replace h := bind_some h
  obtain ⟨e36, hl36, ho36⟩ := h
  refine ok_tailP (fun (xe36 : (List Nat) × (List Nat)) => AS.mkL 141 [(4, .row 38), (6, .sv (.v (.int .i64 x17))), (7, .sv (.v (.int .u64 ((x24 : Nat) : Int)))), (8, .row 27)] [] [(38, TR 51 1 eU32 xe36.1), (27, TR 51 1 eU32 xe36.2)]) (fun xe36 => xe36 = e36) ?_ (fun xe36 hx36 => ?_)
  · refine ok_block ?_
    refine ok_loopM hl36 (fun s36 => AS.mkL 141 [(4, .row 38), (6, .sv (.v (.int .i64 x17))), (7, .sv (.v (.int .u64 ((x24 : Nat) : Int)))), (8, .row 27), (9, .sv (slc 1 (List.map eU32 x32))), (10, .sv (.v (.int .i64 s36.1)))] [] [(38, TR 51 1 eU32 s36.2.1), (27, TR 51 1 eU32 s36.2.2)]) (by (try dsimp only); exact weakL id rfl rfl rfl rfl rfl ⟨.row rfl, .sv (SV.imp_refl _), .sv (SV.imp_refl _), .row rfl, .sv (SV.imp_refl _), .sv (SV.imp_refl _), trivial⟩ trivial ⟨⟨_, rfl, SVIs.refl _⟩, ⟨_, rfl, SVIs.refl _⟩, trivial⟩ (fun _ _ => rfl)) (fun s36 y36 G36 h hG36 hE36 => ?_)
    obtain ⟨y10l18, r38l18, r27l18⟩ := s36
    try dsimp only
    refine ok_seq ?_
    refine ok_seq ?_
    refine ok_region ?_
    refine RT.mv .none rfl (tl rfl) ?_
    replace h := let_some h
    obtain ⟨x44, h44, h⟩ := h
    refine RT.geq .none _ rfl rfl (tl rfl) h44 ?_
    refine RT.done ?_
    refine AThen.n ?_
    cases x44
    · replace h := br_f h
      refine ok_condF rfl ?_
      refine ok_exit ?_
      refine AThen.x ?_
      refine AThen.x ?_
      refine AInB.x ?_
      refine AThen.n ?_
      obtain rfl := Option.some.inj h
      refine ⟨(r38l18, r27l18), hE36 _ rfl, ?_⟩
      try dsimp only
      exact weakL id rfl rfl rfl rfl rfl ⟨.row rfl, .sv (SV.imp_refl _), .sv (SV.imp_refl _), .row rfl, trivial⟩ trivial ⟨⟨_, rfl, SVIs.refl _⟩, ⟨_, rfl, SVIs.refl _⟩, trivial⟩ (fun _ _ => rfl)
    · replace h := br_t h
      refine ok_condT rfl ?_
      refine ok_skip ?_
      refine AThen.n ?_
      refine ok_seq ?_
      refine ok_block ?_
      refine ok_seq ?_
      refine ok_region ?_
      refine RT.move .none (s := .row _) rfl (tl rfl) ?_
      refine RT.mv .none rfl (tl rfl) ?_
      refine RT.mv .none rfl (tl rfl) ?_
      refine RT.mv .none rfl (tl rfl) ?_
      replace h := let_some h
      obtain ⟨x51, h51, h⟩ := h
      refine RT.add .none _ rfl rfl (tl rfl) h51 ?_
      replace h := let_some h
      obtain ⟨x52, h52, h⟩ := h
      refine RT.add .none _ rfl rfl (tl rfl) h52 ?_
      replace h := bind_some h
      obtain ⟨⟨o53, n53⟩, h53, h⟩ := h
      refine RT.slRM .none y10l18 x52 rfl rfl ⟨_, rfl⟩ ⟨_, rfl⟩ (tl rfl) h53 ?_
      refine RT.mv .none rfl (tl rfl) ?_
      replace h := bind_some h
      obtain ⟨⟨x55, l38⟩, h55, h⟩ := h
      replace h := bind_some h
      obtain ⟨_, he38, h⟩ := h
      refine RT.callRM (l := r27l18) (l' := l38) (e := eU32) .none (whole_estimate_ok h55) (eqLen_some he38) 27 rfl rfl rfl rfl (.cons rfl (.cons rfl (.nil))) (tl rfl) ?_
      refine RT.asg .none rfl (tl rfl) ?_
      refine RT.done ?_
      refine AThen.n ?_
      refine ok_seq ?_
      refine ok_seq ?_
      refine ok_region ?_
      refine RT.move .none (s := .row _) rfl (tl rfl) ?_
      refine RT.mv .none rfl (tl rfl) ?_
      refine RT.mv .none rfl (tl rfl) ?_
      refine RT.mv .none rfl (tl rfl) ?_
      replace h := let_some h
      obtain ⟨x60, h60, h⟩ := h
      refine RT.add .none _ rfl rfl (tl rfl) h60 ?_
      replace h := let_some h
      obtain ⟨x61, h61, h⟩ := h
      refine RT.add .none _ rfl rfl (tl rfl) h61 ?_
      replace h := bind_some h
      obtain ⟨⟨o62, n62⟩, h62, h⟩ := h
      refine RT.slRM .none y10l18 x61 rfl rfl ⟨_, rfl⟩ ⟨_, rfl⟩ (tl rfl) h62 ?_
      refine RT.mv .none rfl (tl rfl) ?_
      refine RT.mv .none rfl (tl rfl) ?_
      replace h := bind_some h
      obtain ⟨⟨x65, l40⟩, h65, h⟩ := h
      replace h := bind_some h
      obtain ⟨_, he40, h⟩ := h
      refine RT.callRM (l := l38) (l' := l40) (e := eU32) .none (whole_subtractMultiple_ok h65) (eqLen_some he40) 27 rfl rfl rfl rfl (.cons rfl (.cons rfl (.cons rfl (.nil)))) (tl rfl) ?_
      refine RT.done ?_
      refine AThen.n ?_
      refine ok_tailJ h (fun j53 => AS.mkL 141 [(4, .row 38), (6, .sv (.v (.int .i64 x17))), (7, .sv (.v (.int .u64 ((x24 : Nat) : Int)))), (8, .row 27), (9, .sv (slc 1 (List.map eU32 x32))), (10, .sv (.v (.int .i64 y10l18))), (11, .sv (.v (.int .u64 ((j53.1 : Nat) : Int))))] [] [(38, TR 51 1 eU32 r38l18), (27, TR 51 1 eU32 j53.2)]) (fun h => ?_) (fun j53 h => ?_)
      · cases x65
        · replace h := br_f h
          refine ok_condF rfl ?_
          refine ok_skip ?_
          refine AThen.n ?_
          refine ⟨(x55, l40), h, ?_⟩
          try dsimp only
          exact weakL id rfl rfl rfl rfl rfl ⟨.row rfl, .sv (SV.imp_refl _), .sv (SV.imp_refl _), .row rfl, .sv (SV.imp_refl _), .sv (SV.imp_refl _), .sv (SV.imp_refl _), trivial⟩ trivial ⟨⟨_, rfl, SVIs.refl _⟩, ⟨_, rfl, SVIs.refl _⟩, trivial⟩ (fun _ _ => rfl)
        · replace h := br_t h
          refine ok_condT rfl ?_
          refine ok_seq ?_
          refine ok_region ?_
          refine RT.mv .none rfl (tl rfl) ?_
          replace h := let_some h
          obtain ⟨x67, h67, h⟩ := h
          refine RT.sub .none _ rfl rfl (tl rfl) (UK.sub (a := x55) (b := 1) h67) ?_
          refine RT.asg .none rfl (tl rfl) ?_
          refine RT.done ?_
          refine AThen.n ?_
          refine ok_seq ?_
          refine ok_region ?_
          refine RT.callF .none (whole_carrier_ok 0) rfl ⟨rfl, trivial⟩ (tl rfl) rfl rfl ?_
          refine RT.assign .none (s := .clo _ _) rfl (tl rfl) ?_
          refine RT.done ?_
          refine AThen.n ?_
          refine ok_seq ?_
          refine ok_seq ?_
          refine ok_region ?_
          refine RT.mv .none rfl (tl rfl) ?_
          replace h := let_some h
          obtain ⟨x70, h70, h⟩ := h
          refine RT.lenM .none rfl (tl rfl) h70 ?_
          refine RT.mv .none rfl (tl rfl) ?_
          refine RT.done ?_
          refine AThen.n ?_
          replace h := bind_some h
          obtain ⟨e65, hl65, ho65⟩ := h
          refine ok_tailP (fun (xe65 : Nat × (List Nat)) => AS.mkL 141 [(4, .row 38), (6, .sv (.v (.int .i64 x17))), (7, .sv (.v (.int .u64 ((x24 : Nat) : Int)))), (8, .row 27), (9, .sv (slc 1 (List.map eU32 x32))), (10, .sv (.v (.int .i64 y10l18))), (11, .sv (.v (.int .u64 ((x67 : Nat) : Int)))), (12, .clo 80 [.box 68])] [(68, ⟨59, [.sv (.v (.int .u64 ((xe65.1 : Nat) : Int)))]⟩)] [(38, TR 51 1 eU32 r38l18), (27, TR 51 1 eU32 xe65.2)]) (fun xe65 => xe65 = e65) ?_ (fun xe65 hx65 => ?_)
          · refine ok_block ?_
            refine ok_loopM hl65 (fun s65 => AS.mkL 141 [(4, .row 38), (6, .sv (.v (.int .i64 x17))), (7, .sv (.v (.int .u64 ((x24 : Nat) : Int)))), (8, .row 27), (9, .sv (slc 1 (List.map eU32 x32))), (10, .sv (.v (.int .i64 y10l18))), (11, .sv (.v (.int .u64 ((x67 : Nat) : Int)))), (12, .clo 80 [.box 68]), (69, .sv (slc 1 (List.map eU32 x32))), (70, .sv (.v (.int .i64 x70))), (71, .sv (.v (.int .i64 s65.1)))] [(68, ⟨59, [.sv (.v (.int .u64 ((s65.2.1 : Nat) : Int)))]⟩)] [(38, TR 51 1 eU32 r38l18), (27, TR 51 1 eU32 s65.2.2)]) (by (try dsimp only); exact weakL id rfl rfl rfl rfl rfl ⟨.row rfl, .sv (SV.imp_refl _), .sv (SV.imp_refl _), .row rfl, .sv (SV.imp_refl _), .sv (SV.imp_refl _), .sv (SV.imp_refl _), .clo, .sv (SV.imp_refl _), .sv (SV.imp_refl _), .sv (SV.imp_refl _), trivial⟩ ⟨⟨_, rfl, ⟨.sv (SV.imp_refl _), trivial⟩⟩, trivial⟩ ⟨⟨_, rfl, SVIs.refl _⟩, ⟨_, rfl, SVIs.refl _⟩, trivial⟩ (fun _ _ => rfl)) (fun s65 y65 G65 h hG65 hE65 => ?_)
            obtain ⟨y71l60, b68_0l60, r27l60⟩ := s65
            try dsimp only
            refine ok_seq ?_
            refine ok_region ?_
            replace h := let_some h
            obtain ⟨x72, h72, h⟩ := h
            refine RT.lss .none _ rfl rfl (tl rfl) h72 ?_
            refine RT.done ?_
            refine AThen.n ?_
            refine ok_seq ?_
            cases x72
            · replace h := br_f h
              refine ok_condF rfl ?_
              refine ok_exit ?_
              refine AThen.x ?_
              refine AThen.x ?_
              refine AInB.x ?_
              refine AThen.n ?_
              obtain rfl := Option.some.inj h
              refine ⟨(b68_0l60, r27l60), hE65 _ rfl, ?_⟩
              try dsimp only
              exact weakL id rfl rfl rfl rfl rfl ⟨.row rfl, .sv (SV.imp_refl _), .sv (SV.imp_refl _), .row rfl, .sv (SV.imp_refl _), .sv (SV.imp_refl _), .sv (SV.imp_refl _), .clo, trivial⟩ ⟨⟨_, rfl, ⟨.sv (SV.imp_refl _), trivial⟩⟩, trivial⟩ ⟨⟨_, rfl, SVIs.refl _⟩, ⟨_, rfl, SVIs.refl _⟩, trivial⟩ (fun _ _ => rfl)
            · replace h := br_t h
              refine ok_condT rfl ?_
              refine ok_skip ?_
              refine AThen.n ?_
              refine ok_seq ?_
              refine ok_block ?_
              refine ok_seq ?_
              refine ok_region ?_
              refine RT.mv .none rfl (tl rfl) ?_
              replace h := bind_some h
              obtain ⟨x74, h74, h⟩ := h
              refine RT.ixM .none rfl rfl (tl rfl) h74 ?_
              refine RT.loadRV .none rfl rfl (tl rfl) ?_
              refine RT.asg .none rfl (tl rfl) ?_
              refine RT.asg .none rfl (tl rfl) ?_
              refine RT.done ?_
              refine AThen.n ?_
              refine ok_region ?_
              refine RT.move .none (s := .row _) rfl (tl rfl) ?_
              refine RT.mv .none rfl (tl rfl) ?_
              refine RT.mv .none rfl (tl rfl) ?_
              replace h := let_some h
              obtain ⟨x79, h79, h⟩ := h
              refine RT.add .none _ rfl rfl (tl rfl) h79 ?_
              refine RT.move .none (s := .clo _ _) rfl (tl rfl) ?_
              refine RT.move .none (s := .row _) rfl (tl rfl) ?_
              refine RT.mv .none rfl (tl rfl) ?_
              refine RT.mv .none rfl (tl rfl) ?_
              replace h := let_some h
              obtain ⟨x84, h84, h⟩ := h
              refine RT.add .none _ rfl rfl (tl rfl) h84 ?_
              replace h := bind_some h
              obtain ⟨x85, h85, h⟩ := h
              refine RT.ixRM .none rfl rfl rfl (tl rfl) h85 ?_
              replace h := bind_some h
              obtain ⟨x86, h86, h⟩ := h
              refine RT.ldRM .none rfl rfl h86 rfl (tl rfl) ?_
              replace h := let_some h
              obtain ⟨x87, h87, h⟩ := h
              refine RT.conv .none _ rfl (tl rfl) (UK.nat h87) ?_
              refine RT.mv .none rfl (tl rfl) ?_
              replace h := let_some h
              obtain ⟨x89, h89, h⟩ := h
              refine RT.conv .none _ rfl (tl rfl) (UK.nat h89) ?_
              replace h := let_some h
              obtain ⟨x90, h90, h⟩ := h
              refine RT.add .none _ rfl rfl (tl rfl) (UK.add (a := x87) (b := x89) h90) ?_
              replace h := bind_some h
              obtain ⟨⟨x91, k68⟩, h91, h⟩ := h
              refine RT.callB .none (whole_carrier_1_ok h91) 68 rfl rfl ⟨rfl, trivial⟩ (tl rfl) ?_
              replace h := bind_some h
              obtain ⟨x92, h92, h⟩ := h
              refine RT.ixRM .none rfl rfl rfl (tl rfl) h92 ?_
              replace h := bind_some h
              obtain ⟨l69, hl69_, h⟩ := h
              refine RT.stRM .none x91 rfl rfl rfl rfl hl69_ ?_
              refine RT.done ?_
              refine AInB.n ?_
              refine AThen.n ?_
              refine ok_region ?_
              replace h := let_some h
              obtain ⟨x93, h93, h⟩ := h
              refine RT.add .none _ rfl rfl (tl rfl) h93 ?_
              refine RT.mv .none rfl (tl rfl) ?_
              refine RT.done ?_
              obtain rfl := Option.some.inj h
              refine AThen.n ⟨(x93, k68, l69), hG65 _ rfl, ?_⟩
              try dsimp only
              exact weakL id rfl rfl rfl rfl rfl ⟨.row rfl, .sv (SV.imp_refl _), .sv (SV.imp_refl _), .row rfl, .sv (SV.imp_refl _), .sv (SV.imp_refl _), .sv (SV.imp_refl _), .clo, .sv (SV.imp_refl _), .sv (SV.imp_refl _), .sv (SV.imp_refl _), trivial⟩ ⟨⟨_, rfl, ⟨.sv (SV.imp_refl _), trivial⟩⟩, trivial⟩ ⟨⟨_, rfl, SVIs.refl _⟩, ⟨_, rfl, SVIs.refl _⟩, trivial⟩ (fun _ _ => rfl)
          · subst hx65
            obtain ⟨b68_0e64, r27e64⟩ := xe65
            try dsimp only
            refine AThen.n ?_
            refine ok_region ?_
            refine RT.move .none (s := .row _) rfl (tl rfl) ?_
            refine RT.mv .none rfl (tl rfl) ?_
            refine RT.mv .none rfl (tl rfl) ?_
            replace ho65 := let_some ho65
            obtain ⟨x97, h97, ho65⟩ := ho65
            refine RT.add .none _ rfl rfl (tl rfl) h97 ?_
            refine RT.move .none (s := .clo _ _) rfl (tl rfl) ?_
            refine RT.move .none (s := .row _) rfl (tl rfl) ?_
            refine RT.mv .none rfl (tl rfl) ?_
            refine RT.mv .none rfl (tl rfl) ?_
            replace ho65 := let_some ho65
            obtain ⟨x102, h102, ho65⟩ := ho65
            refine RT.add .none _ rfl rfl (tl rfl) h102 ?_
            replace ho65 := bind_some ho65
            obtain ⟨x103, h103, ho65⟩ := ho65
            refine RT.ixRM .none rfl rfl rfl (tl rfl) h103 ?_
            replace ho65 := bind_some ho65
            obtain ⟨x104, h104, ho65⟩ := ho65
            refine RT.ldRM .none rfl rfl h104 rfl (tl rfl) ?_
            replace ho65 := let_some ho65
            obtain ⟨x105, h105, ho65⟩ := ho65
            refine RT.conv .none _ rfl (tl rfl) (UK.nat h105) ?_
            replace ho65 := bind_some ho65
            obtain ⟨⟨x106, k72⟩, h106, ho65⟩ := ho65
            refine RT.callB .none (whole_carrier_1_ok h106) 68 rfl rfl ⟨rfl, trivial⟩ (tl rfl) ?_
            replace ho65 := bind_some ho65
            obtain ⟨x107, h107, ho65⟩ := ho65
            refine RT.ixRM .none rfl rfl rfl (tl rfl) h107 ?_
            replace ho65 := bind_some ho65
            obtain ⟨l73, hl73_, ho65⟩ := ho65
            refine RT.stRM .none x106 rfl rfl rfl rfl hl73_ ?_
            refine RT.done ?_
            refine AThen.n ?_
            refine ⟨(x67, l73), ho65, ?_⟩
            try dsimp only
            exact weakL id rfl rfl rfl rfl rfl ⟨.row rfl, .sv (SV.imp_refl _), .sv (SV.imp_refl _), .row rfl, .sv (SV.imp_refl _), .sv (SV.imp_refl _), .sv (SV.imp_refl _), trivial⟩ trivial ⟨⟨_, rfl, SVIs.refl _⟩, ⟨_, rfl, SVIs.refl _⟩, trivial⟩ (fun _ _ => rfl)
      · obtain ⟨y11j52, r27j52⟩ := j53
        try dsimp only
        refine AThen.n ?_
        refine ok_region ?_
        refine RT.move .none (s := .row _) rfl (tl rfl) ?_
        refine RT.mv .none rfl (tl rfl) ?_
        refine RT.mv .none rfl (tl rfl) ?_
        replace h := let_some h
        obtain ⟨x111, h111, h⟩ := h
        refine RT.conv .none _ rfl (tl rfl) (UK.nat h111) ?_
        replace h := bind_some h
        obtain ⟨x112, h112, h⟩ := h
        refine RT.ixRM .none rfl rfl rfl (tl rfl) h112 ?_
        replace h := bind_some h
        obtain ⟨l55, hl55_, h⟩ := h
        refine RT.stRM .none x111 rfl rfl rfl rfl hl55_ ?_
        refine RT.done ?_
        refine AInB.n ?_
        refine AThen.n ?_
        refine ok_region ?_
        refine RT.mv .none rfl (tl rfl) ?_
        replace h := let_some h
        obtain ⟨x46, h46, h⟩ := h
        refine RT.sub .none _ rfl rfl (tl rfl) h46 ?_
        refine RT.asg .none rfl (tl rfl) ?_
        refine RT.done ?_
        obtain rfl := Option.some.inj h
        refine AThen.n ⟨(x46, l55, r27j52), hG36 _ rfl, ?_⟩
        try dsimp only
        exact weakL id rfl rfl rfl rfl rfl ⟨.row rfl, .sv (SV.imp_refl _), .sv (SV.imp_refl _), .row rfl, .sv (SV.imp_refl _), .sv (SV.imp_refl _), trivial⟩ trivial ⟨⟨_, rfl, SVIs.refl _⟩, ⟨_, rfl, SVIs.refl _⟩, trivial⟩ (fun _ _ => rfl)
  · subst hx36
    obtain ⟨r38e35, r27e35⟩ := xe36
    try dsimp only
    refine AThen.n ?_
    refine ok_seq ?_
    refine ok_region ?_
    refine RT.mv .none rfl (tl rfl) ?_
    replace ho36 := bind_some ho36
    obtain ⟨x114, h114, ho36⟩ := ho36
    refine RT.mkRow (n := 1) (e := eU32) .none rfl rfl (tl rfl) rfl (tl rfl) (by rfl) (by decide) (by exact ⟨SV.imp_refl _, trivial⟩) h114 ?_
    refine RT.assign .none (s := .row _) rfl (tl rfl) ?_
    refine RT.done ?_
    refine AThen.n ?_
    refine ok_seq ?_
    refine ok_seq ?_
    refine ok_region ?_
    refine RT.mv .none rfl (tl rfl) ?_
    refine RT.mv .none rfl (tl rfl) ?_
    refine RT.done ?_
    refine AThen.n ?_
    replace ho36 := bind_some ho36
    obtain ⟨e81, hl81, ho81⟩ := ho36
    refine ok_tailP (fun (r114e80 : (List Nat)) => AS.mkL 141 [(4, .row 38), (5, .row 114)] [] [(38, TR 51 1 eU32 r38e35), (114, TR 51 1 eU32 r114e80)]) (fun r114e80 => r114e80 = e81) ?_ (fun r114e80 hx81 => ?_)
    · refine ok_block ?_
      refine ok_loopM hl81 (fun s81 => AS.mkL 141 [(4, .row 38), (5, .row 114), (7, .sv (.v (.int .u64 ((x24 : Nat) : Int)))), (8, .row 27), (115, .sv (.v (.int .i64 x17))), (116, .sv (.v (.int .i64 s81.1)))] [] [(38, TR 51 1 eU32 r38e35), (114, TR 51 1 eU32 s81.2), (27, TR 51 1 eU32 r27e35)]) (by (try dsimp only); exact weakL id rfl rfl rfl rfl rfl ⟨.row rfl, .row rfl, .sv (SV.imp_refl _), .row rfl, .sv (SV.imp_refl _), .sv (SV.imp_refl _), trivial⟩ trivial ⟨⟨_, rfl, SVIs.refl _⟩, ⟨_, rfl, SVIs.refl _⟩, ⟨_, rfl, SVIs.refl _⟩, trivial⟩ (fun _ _ => rfl)) (fun s81 y81 G81 h hG81 hE81 => ?_)
      obtain ⟨y116l77, r114l77⟩ := s81
      try dsimp only
      refine ok_seq ?_
      refine ok_region ?_
      replace h := let_some h
      obtain ⟨x117, h117, h⟩ := h
      refine RT.lss .none _ rfl rfl (tl rfl) h117 ?_
      refine RT.done ?_
      refine AThen.n ?_
      refine ok_seq ?_
      cases x117
      · replace h := br_f h
        refine ok_condF rfl ?_
        refine ok_exit ?_
        refine AThen.x ?_
        refine AThen.x ?_
        refine AInB.x ?_
        refine AThen.n ?_
        obtain rfl := Option.some.inj h
        refine ⟨r114l77, hE81 _ rfl, ?_⟩
        try dsimp only
        exact weakL id rfl rfl rfl rfl rfl ⟨.row rfl, .row rfl, trivial⟩ trivial ⟨⟨_, rfl, SVIs.refl _⟩, ⟨_, rfl, SVIs.refl _⟩, trivial⟩ (fun _ _ => rfl)
      · replace h := br_t h
        refine ok_condT rfl ?_
        refine ok_skip ?_
        refine AThen.n ?_
        refine ok_seq ?_
        refine ok_block ?_
        refine ok_seq ?_
        refine ok_region ?_
        refine RT.mv .none rfl (tl rfl) ?_
        refine RT.asg .none rfl (tl rfl) ?_
        refine RT.done ?_
        refine AThen.n ?_
        refine ok_region_draw mixed ?_
        refine RT.move .none (s := .row _) rfl (tl rfl) ?_
        refine RT.mv .none rfl (tl rfl) ?_
        refine RT.move .none (s := .row _) rfl (tl rfl) ?_
        refine RT.mv .none rfl (tl rfl) ?_
        replace h := bind_some h
        obtain ⟨x123, h123, h⟩ := h
        refine RT.ixRM .none rfl rfl rfl (tl rfl) h123 ?_
        replace h := bind_some h
        obtain ⟨x124, h124, h⟩ := h
        refine RT.ldRM .none rfl rfl h124 rfl (tl rfl) ?_
        replace h := let_some h
        obtain ⟨x125, h125, h⟩ := h
        refine RT.conv .none _ rfl (tl rfl) (UK.nat h125) ?_
        refine RT.move .none (s := .row _) rfl (tl rfl) ?_
        refine RT.mv .none rfl (tl rfl) ?_
        replace h := let_some h
        obtain ⟨x128, h128, h⟩ := h
        refine RT.add .none _ rfl rfl (tl rfl) h128 ?_
        replace h := bind_some h
        obtain ⟨x129, h129, h⟩ := h
        refine RT.ixRM .none rfl rfl rfl (tl rfl) h129 ?_
        replace h := bind_some h
        obtain ⟨x130, h130, h⟩ := h
        refine RT.ldRM .none rfl rfl h130 rfl (tl rfl) ?_
        replace h := let_some h
        obtain ⟨x131, h131, h⟩ := h
        refine RT.conv .none _ rfl (tl rfl) (UK.nat h131) ?_
        replace h := let_some h
        obtain ⟨x132, h132, h⟩ := h
        refine RT.shl .none _ rfl rfl (tl rfl) (by decide) (UK.shl (a := x131) (q := 32) (s := 32) rfl h132) ?_
        replace h := let_some h
        obtain ⟨x133, h133, h⟩ := h
        refine RT.or .none _ rfl rfl (tl rfl) (UK.or (a := x125) (b := x132) h133) ?_
        refine RT.mv .none rfl (tl rfl) ?_
        replace h := let_some h
        obtain ⟨x135, h135, h⟩ := h
        refine RT.shr .none _ rfl rfl (tl rfl) (Int.natCast_nonneg _) (shrU (k := .u64) (a := x133) (q := ((x24 : Nat) : Int)) (s := min x24 64) rfl h135) ?_
        replace h := let_some h
        obtain ⟨x136, h136, h⟩ := h
        refine RT.conv .none _ rfl (tl rfl) (UK.nat h136) ?_
        replace h := bind_some h
        obtain ⟨x137, h137, h⟩ := h
        refine RT.ixRM .none rfl rfl rfl (tl rfl) h137 ?_
        replace h := bind_some h
        obtain ⟨l83, hl83_, h⟩ := h
        refine RT.stRM .none x136 rfl rfl rfl rfl hl83_ ?_
        refine RT.done ⟨by kernel_rfl, ?_⟩
        refine AInB.n ?_
        refine AThen.n ?_
        refine ok_region ?_
        replace h := let_some h
        obtain ⟨x138, h138, h⟩ := h
        refine RT.add .none _ rfl rfl (tl rfl) h138 ?_
        refine RT.mv .none rfl (tl rfl) ?_
        refine RT.done ?_
        obtain rfl := Option.some.inj h
        refine AThen.n ⟨(x138, l83), hG81 _ rfl, ?_⟩
        try dsimp only
        exact weakL id rfl rfl rfl rfl rfl ⟨.row rfl, .row rfl, .sv (SV.imp_refl _), .row rfl, .sv (SV.imp_refl _), .sv (SV.imp_refl _), trivial⟩ trivial ⟨⟨_, rfl, SVIs.refl _⟩, ⟨_, rfl, SVIs.refl _⟩, ⟨_, rfl, SVIs.refl _⟩, trivial⟩ (fun _ _ => rfl)
    · subst hx81
      try dsimp only
      refine AThen.n ?_
      refine ok_seq ?_
      refine ok_region ?_
      refine RT.move .none (s := .row _) rfl (tl rfl) ?_
      refine RT.move .none (s := .row _) rfl (tl rfl) ?_
      refine RT.assign .none (s := .row _) rfl (tl rfl) ?_
      refine RT.assign .none (s := .row _) rfl (tl rfl) ?_
      refine RT.done ?_
      refine AThen.n ?_
      refine ok_weak (weak_frzM (i := 38) (E1 := 51) (n := 1) (e := eU32) (l := r38e35) rfl) ?_
      refine ok_weak (weak_frzM (i := 114) (E1 := 51) (n := 1) (e := eU32) (l := r114e80) rfl) ?_
      refine ok_ret ?_
      obtain rfl := Option.some.inj ho81
      exact ⟨.inr rfl, res_imp (.tmp rfl (.tmp rfl (.nil))) (SV.imp_refl _)⟩
theorem whole_divWords_ok {x0 : List Nat} {x1 : List Nat} {r : (List Nat) × (List Nat)} (h : whole_divWords_m x0 x1 = some r) : Pure Try.prog 45 [slc 1 (List.map eU32 x0), slc 1 (List.map eU32 x1)] (.tup [slc 1 (List.map eU32 r.1), slc 1 (List.map eU32 r.2)]) := by
  refine pure_of_ok Try.func45 rfl (Nat.le_of_ble_eq_true rfl) (fun wld M vs hvs => ?_)
  unfold whole_divWords_m at h
  refine ok_seq ?_
  refine ok_region ?_
  refine RT.asg .none rfl (tl rfl) ?_
  refine RT.asgI .none rfl (imp_nil (n := 1) (e := eU32)) (tl rfl) ?_
  refine RT.done ?_
  refine AThen.n ?_
  refine ok_weak (weak_nil 4 304 51 1 rfl rfl (tl rfl)) ?_
  refine ok_seq ?_
  refine ok_block ?_
  refine ok_seq ?_
  refine ok_region ?_
  refine RT.mv .none rfl (tl rfl) ?_
  refine RT.mv .none rfl (tl rfl) ?_
  replace h := bind_some h
  obtain ⟨x12, h12, h⟩ := h
  refine RT.call .none (whole_compareWords_ok h12) rfl ⟨rfl, rfl, trivial⟩ (tl rfl) ?_
  replace h := let_some h
  obtain ⟨x13, h13, h⟩ := h
  refine RT.lss .none _ rfl rfl (tl rfl) h13 ?_
  refine RT.asg .none rfl (tl rfl) ?_
  refine RT.done ?_
  refine AThen.n ?_
  cases x13
  · replace h := br_f h
    refine ok_condF rfl ?_
    refine ok_seq ?_
    refine ok_region ?_
    refine RT.mv .none rfl (tl rfl) ?_
    replace h := let_some h
    obtain ⟨x18, h18, h⟩ := h
    refine RT.lenM .none rfl (tl rfl) h18 ?_
    replace h := let_some h
    obtain ⟨x19, h19, h⟩ := h
    refine RT.leq .none _ rfl rfl (tl rfl) h19 ?_
    refine RT.asg .none rfl (tl rfl) ?_
    refine RT.done ?_
    refine AThen.n ?_
    cases x19
    · replace h := br_f h
      refine ok_condF rfl ?_
      refine ok_seq ?_
      refine ok_region ?_
      refine RT.mv .none rfl (tl rfl) ?_
      replace h := let_some h
      obtain ⟨x36, h36, h⟩ := h
      refine RT.lenM .none rfl (tl rfl) h36 ?_
      replace h := let_some h
      obtain ⟨x37, h37, h⟩ := h
      refine RT.eql .none _ rfl rfl (tl rfl) (eqI (p := x36) (q := 1) h37) ?_
      refine RT.asg .none rfl (tl rfl) ?_
      refine RT.done ?_
      refine AThen.n ?_
      cases x37
      · replace h := br_f h
        refine ok_condF rfl ?_
        refine ok_skip ?_
        refine AInB.n ?_
        refine AThen.n ?_
        refine ok_seq ?_
        refine ok_region ?_
        refine RT.mv .none rfl (tl rfl) ?_
        refine RT.mv .none rfl (tl rfl) ?_
        replace h := bind_some h
        obtain ⟨⟨x52a, x52b⟩, h52, h⟩ := h
        refine RT.call .none (whole_longDiv_ok h52) rfl ⟨rfl, rfl, trivial⟩ (tl rfl) ?_
        refine RT.extract .none rfl rfl (tl rfl) ?_
        refine RT.extract .none rfl rfl (tl rfl) ?_
        refine RT.asg .none rfl (tl rfl) ?_
        refine RT.asg .none rfl (tl rfl) ?_
        refine RT.done ?_
        refine AThen.n ?_
        refine ok_ret ?_
        obtain rfl := Option.some.inj h
        exact ⟨.inr rfl, res_imp (.tmp rfl (.tmp rfl (.nil))) (SV.imp_refl _)⟩
      · replace h := br_t h
        refine ok_condT rfl ?_
        refine ok_seq ?_
        refine ok_region ?_
        refine RT.mv .none rfl (tl rfl) ?_
        replace h := bind_some h
        obtain ⟨x39, h39, h⟩ := h
        refine RT.callN .none (slices_CloneN_ok h39) rfl ⟨rfl, trivial⟩ (tl rfl) rfl (tl rfl) ?_
        refine RT.assign .none (s := .row _) rfl (tl rfl) ?_
        refine RT.done ?_
        refine AThen.n ?_
        refine ok_seq ?_
        refine ok_region ?_
        refine RT.move .none (s := .row _) rfl (tl rfl) ?_
        refine RT.mv .none rfl (tl rfl) ?_
        replace h := bind_some h
        obtain ⟨x42, h42, h⟩ := h
        refine RT.ixM .none rfl rfl (tl rfl) h42 ?_
        refine RT.loadRV .none rfl rfl (tl rfl) ?_
        replace h := let_some h
        obtain ⟨x44, h44, h⟩ := h
        refine RT.conv .none _ rfl (tl rfl) (UK.nat h44) ?_
        replace h := bind_some h
        obtain ⟨⟨x45, l5⟩, h45, h⟩ := h
        replace h := bind_some h
        obtain ⟨_, he5, h⟩ := h
        refine RT.callRM (l := x39) (l' := l5) (e := eU32) .none (whole_shortDiv_ok h45) (eqLen_some he5) 39 rfl rfl rfl rfl (.cons rfl (.cons rfl (.nil))) (tl rfl) ?_
        refine RT.asg .none rfl (tl rfl) ?_
        refine RT.done ?_
        refine AThen.n ?_
        refine ok_seq ?_
        refine ok_region ?_
        refine RT.move .none (s := .row _) rfl (tl rfl) ?_
        refine RT.mv .none rfl (tl rfl) ?_
        replace h := let_some h
        obtain ⟨x48, h48, h⟩ := h
        refine RT.conv .none _ rfl (tl rfl) (UK.nat h48) ?_
        refine RT.buildSl (l := [x48]) (e := eU32) .none (.one rfl (.nil)) (tl rfl) rfl rfl rfl rfl rfl rfl ?_
        refine RT.assign .none (s := .row _) rfl (tl rfl) ?_
        refine RT.asg .none rfl (tl rfl) ?_
        refine RT.done ?_
        refine AThen.n ?_
        refine ok_weak (weak_frzM (i := 39) (E1 := 51) (n := 1) (e := eU32) (l := l5) rfl) ?_
        refine ok_ret ?_
        refine AInB.r ?_
        refine AThen.r ?_
        obtain rfl := Option.some.inj h
        exact ⟨.inr rfl, res_imp (.tmp rfl (.tmp rfl (.nil))) (SV.imp_refl _)⟩
    · replace h := br_t h
      refine ok_condT rfl ?_
      refine ok_seq ?_
      refine ok_region ?_
      refine RT.mv .none rfl (tl rfl) ?_
      replace h := bind_some h
      obtain ⟨x21, h21, h⟩ := h
      refine RT.call .none (whole_low_ok h21) rfl ⟨rfl, trivial⟩ (tl rfl) ?_
      refine RT.mv .none rfl (tl rfl) ?_
      replace h := bind_some h
      obtain ⟨x23, h23, h⟩ := h
      refine RT.call .none (whole_low_ok h23) rfl ⟨rfl, trivial⟩ (tl rfl) ?_
      refine RT.asg .none rfl (tl rfl) ?_
      refine RT.asg .none rfl (tl rfl) ?_
      refine RT.done ?_
      refine AThen.n ?_
      refine ok_seq ?_
      refine ok_region_draw mixed ?_
      refine RT.mv .none rfl (tl rfl) ?_
      refine RT.mv .none rfl (tl rfl) ?_
      replace h := bind_some h
      obtain ⟨x26, h26, h⟩ := h
      refine RT.quo .none _ rfl rfl (tl rfl) (nzU h26) (UK.quo h26) ?_
      replace h := bind_some h
      obtain ⟨⟨x27_0, x27_1⟩, h27, h⟩ := h
      refine RT.call .none (whole_small_ok h27) rfl ⟨rfl, rfl, trivial⟩ (tl rfl) ?_
      refine RT.field .none rfl rfl (tl rfl) ?_
      refine RT.mv .none rfl (tl rfl) ?_
      refine RT.mv .none rfl (tl rfl) ?_
      replace h := bind_some h
      obtain ⟨x31, h31, h⟩ := h
      refine RT.rem .none _ rfl rfl (tl rfl) (nzR h31) (remU h31) ?_
      replace h := bind_some h
      obtain ⟨⟨x32_0, x32_1⟩, h32, h⟩ := h
      refine RT.call .none (whole_small_ok h32) rfl ⟨rfl, rfl, trivial⟩ (tl rfl) ?_
      refine RT.field .none rfl rfl (tl rfl) ?_
      refine RT.asg .none rfl (tl rfl) ?_
      refine RT.asg .none rfl (tl rfl) ?_
      refine RT.done ⟨by kernel_rfl, ?_⟩
      refine AThen.n ?_
      refine ok_ret ?_
      refine AInB.r ?_
      refine AThen.r ?_
      obtain rfl := Option.some.inj h
      exact ⟨.inr rfl, res_imp (.tmp rfl (.tmp rfl (.nil))) (SV.imp_refl _)⟩
  · replace h := br_t h
    refine ok_condT rfl ?_
    refine ok_seq ?_
    refine ok_region ?_
    refine RT.mv .none rfl (tl rfl) ?_
    replace h := bind_some h
    obtain ⟨x15, h15, h⟩ := h
    refine RT.call .none (slices_Clone_ok h15) rfl ⟨rfl, trivial⟩ (tl rfl) ?_
    refine RT.asg .none rfl (tl rfl) ?_
    refine RT.asg .none rfl (tl rfl) ?_
    refine RT.done ?_
    refine AThen.n ?_
    refine ok_weak (weak_nil 4 310 51 1 rfl rfl (tl rfl)) ?_
    refine ok_weak (weak_frzM (i := 310) (E1 := 51) (n := 1) (e := eU32) (l := []) rfl) ?_
    refine ok_ret ?_
    refine AInB.r ?_
    refine AThen.r ?_
    obtain rfl := Option.some.inj h
    exact ⟨.inr rfl, res_imp (.tmp rfl (.tmp rfl (.nil))) (SV.imp_refl _)⟩
end Go.Proofs.Ytgkafblpckcekaa
