/- A part of the proof: the framework, the plain functions, the followed functions, the plain laws. -/
import Derived.Test.YtgkafblpckcekaaPP3
set_option linter.unusedVariables false
set_option linter.unusedSimpArgs false
namespace Go.Proofs.Ytgkafblpckcekaa
open Go.Fw Go.RowKit
theorem ref01_trim_ok {x0 : List Int} {r : List Int} (h : ref01_trim_m x0 = some r) : Pure Try.prog 63 [slc 1 (List.map eI64 x0)] (slc 1 (List.map eI64 r)) := by
  refine pure_of_ok Try.func63 rfl (Nat.le_of_ble_eq_true rfl) (fun wld M vs hvs => ?_)
  unfold ref01_trim_m at h
  refine ok_seq ?_
  refine ok_region ?_
  refine RT.asgI .none rfl (imp_nil (n := 1) (e := eI64)) (tl rfl) ?_
  refine RT.done ?_
  refine AThen.n ?_
  refine ok_seq ?_
  refine ok_region ?_
  refine RT.mv .none rfl (tl rfl) ?_
  replace h := let_some h
  obtain ⟨x5, h5, h⟩ := h
  refine RT.lenM .none rfl (tl rfl) h5 ?_
  refine RT.asg .none rfl (tl rfl) ?_
  refine RT.done ?_
  refine AThen.n ?_
  refine ok_seq ?_
  replace h := bind_some h
  obtain ⟨e10, hl10, ho10⟩ := h
  refine ok_tailP (fun (y3e9 : Int) => AS.mkL 21 [(0, .sv (slc 1 (List.map eI64 x0))), (3, .sv (.v (.int .i64 y3e9)))] [] []) (fun y3e9 => y3e9 = e10) ?_ (fun y3e9 hx10 => ?_)
  · refine ok_block ?_
    refine ok_loopM hl10 (fun s10 => AS.mkL 21 [(0, .sv (slc 1 (List.map eI64 x0))), (3, .sv (.v (.int .i64 s10)))] [] []) (by (try dsimp only); exact weakL id rfl rfl rfl rfl rfl ⟨.sv (SV.imp_refl _), .sv (SV.imp_refl _), trivial⟩ trivial trivial (fun _ _ => rfl)) (fun y3l5 y10 G10 h hG10 hE10 => ?_)
    try dsimp only
    refine ok_seq ?_
    refine ok_seq ?_
    refine ok_tailJ h (fun j13 => AS.mkL 21 [(0, .sv (slc 1 (List.map eI64 x0))), (3, .sv (.v (.int .i64 y3l5))), (15, .sv (.v (.bool j13)))] [] []) (fun h => ?_) (fun y15j12 h => ?_)
    · refine ok_region ?_
      refine RT.mv .none rfl (tl rfl) ?_
      replace h := let_some h
      obtain ⟨x7, h7, h⟩ := h
      refine RT.gtr .none _ rfl rfl (tl rfl) h7 ?_
      refine RT.mv .none rfl (tl rfl) ?_
      replace h := bind_some h
      obtain ⟨c15_14, hg14, h⟩ := h
      cases x7
      · replace hg14 := br_f hg14
        obtain rfl := Option.some.inj hg14
        refine RT.skV rfl rfl (sk rfl) (tl rfl) ?_
        refine RT.skV rfl rfl (sk rfl) (tl rfl) ?_
        refine RT.skV rfl rfl (sk rfl) (tl rfl) ?_
        refine RT.skV rfl rfl (sk rfl) (tl rfl) ?_
        refine RT.skV rfl rfl (sk rfl) (tl rfl) ?_
        refine RT.skV rfl rfl (sk rfl) (tl rfl) ?_
        refine RT.pickF .none rfl rfl (tl rfl) ?_
        refine RT.done ?_
        refine AThen.n ?_
        refine ⟨false, h, ?_⟩
        try dsimp only
        exact weakL id rfl rfl rfl rfl rfl ⟨.sv (SV.imp_refl _), .sv (SV.imp_refl _), .sv (SV.imp_refl _), trivial⟩ trivial trivial (fun _ _ => rfl)
      · replace hg14 := br_t hg14
        refine RT.mv (.some rfl rfl) rfl (tl rfl) ?_
        refine RT.mv (.some rfl rfl) rfl (tl rfl) ?_
        replace hg14 := let_some hg14
        obtain ⟨x11, h11, hg14⟩ := hg14
        refine RT.sub (.some rfl rfl) _ rfl rfl (tl rfl) h11 ?_
        replace hg14 := bind_some hg14
        obtain ⟨x12, h12, hg14⟩ := hg14
        refine RT.ixM (.some rfl rfl) rfl rfl (tl rfl) h12 ?_
        refine RT.loadRV (.some rfl rfl) rfl rfl (tl rfl) ?_
        replace hg14 := let_some hg14
        obtain ⟨x14, h14, hg14⟩ := hg14
        refine RT.eql (.some rfl rfl) _ rfl rfl (tl rfl) (eqI (p := x12) (q := 0) h14) ?_
        obtain rfl := Option.some.inj hg14
        refine RT.pickT .none rfl rfl (tl rfl) ?_
        refine RT.done ?_
        refine AThen.n ?_
        refine ⟨x14, h, ?_⟩
        try dsimp only
        exact weakL id rfl rfl rfl rfl rfl ⟨.sv (SV.imp_refl _), .sv (SV.imp_refl _), .sv (SV.imp_refl _), trivial⟩ trivial trivial (fun _ _ => rfl)
    · try dsimp only
      refine AThen.n ?_
      cases y15j12
      · replace h := br_f h
        refine ok_condF rfl ?_
        refine ok_exit ?_
        refine AThen.x ?_
        refine AThen.x ?_
        refine AInB.x ?_
        refine AThen.n ?_
        obtain rfl := Option.some.inj h
        refine ⟨y3l5, hE10 _ rfl, ?_⟩
        try dsimp only
        exact weakL id rfl rfl rfl rfl rfl ⟨.sv (SV.imp_refl _), .sv (SV.imp_refl _), trivial⟩ trivial trivial (fun _ _ => rfl)
      · replace h := br_t h
        refine ok_condT rfl ?_
        refine ok_skip ?_
        refine AThen.n ?_
        refine ok_block ?_
        refine ok_region ?_
        refine RT.mv .none rfl (tl rfl) ?_
        replace h := let_some h
        obtain ⟨x17, h17, h⟩ := h
        refine RT.sub .none _ rfl rfl (tl rfl) h17 ?_
        refine RT.asg .none rfl (tl rfl) ?_
        refine RT.done ?_
        refine AInB.n ?_
        obtain rfl := Option.some.inj h
        refine AThen.n ⟨x17, hG10 _ rfl, ?_⟩
        try dsimp only
        exact weakL id rfl rfl rfl rfl rfl ⟨.sv (SV.imp_refl _), .sv (SV.imp_refl _), trivial⟩ trivial trivial (fun _ _ => rfl)
  · subst hx10
    try dsimp only
    refine AThen.n ?_
    refine ok_seq ?_
    refine ok_region ?_
    refine RT.mv .none rfl (tl rfl) ?_
    refine RT.mv .none rfl (tl rfl) ?_
    replace ho10 := bind_some ho10
    obtain ⟨x20, h20, ho10⟩ := ho10
    refine RT.sliceM .none 0 y3e9 rfl rfl ⟨_, rfl⟩ (tl rfl) h20 ?_
    refine RT.asg .none rfl (tl rfl) ?_
    refine RT.done ?_
    refine AThen.n ?_
    refine ok_ret ?_
    obtain rfl := Option.some.inj ho10
    exact ⟨.inr rfl, res_imp (.tmp rfl (.nil)) (SV.imp_refl _)⟩
theorem ref01_halves_ok {x0 : List Nat} {r : List Int} (h : ref01_halves_m x0 = some r) : Pure Try.prog 49 [slc 1 (List.map eU32 x0)] (slc 1 (List.map eI64 r)) := by
  refine pure_of_ok Try.func49 rfl (Nat.le_of_ble_eq_true rfl) (fun wld M vs hvs => ?_)
  unfold ref01_halves_m at h
  refine ok_seq ?_
  refine ok_region ?_
  refine RT.asgI .none rfl (imp_nil (n := 1) (e := eI64)) (tl rfl) ?_
  refine RT.done ?_
  refine AThen.n ?_
  refine ok_seq ?_
  refine ok_region ?_
  refine RT.asg .none rfl (tl rfl) ?_
  refine RT.done ?_
  refine AThen.n ?_
  refine ok_weak (weak_nil 3 304 3 1 rfl rfl (tl rfl)) ?_
  refine ok_seq ?_
  refine ok_seq ?_
  refine ok_region ?_
  refine RT.asg .none rfl (tl rfl) ?_
  refine RT.done ?_
  refine AThen.n ?_
  replace h := bind_some h
  obtain ⟨e6, hl6, ho6⟩ := h
  refine ok_tailP (fun (r306e5 : (List Int)) => AS.mkL 28 [(3, .row 306)] [] [(306, TR 3 1 eI64 r306e5)]) (fun r306e5 => r306e5 = e6) ?_ (fun r306e5 hx6 => ?_)
  · refine ok_block ?_
    refine ok_loopM hl6 (fun s6 => AS.mkL 28 [(0, .sv (slc 1 (List.map eU32 x0))), (3, .row 306), (4, .sv (.v (.int .i64 s6.1)))] [] [(306, TR 3 1 eI64 s6.2)]) (by (try dsimp only); exact weakL (fun i => bif Nat.beq i 306 then 304 else i) rfl rfl rfl rfl rfl ⟨.sv (SV.imp_refl _), .row rfl, .sv (SV.imp_refl _), trivial⟩ trivial ⟨⟨_, rfl, SVIs.refl _⟩, trivial⟩ (fun i hi => by rw [beq_ne (show i ≠ 306 by omega)]; rfl)) (fun s6 y6 G6 h hG6 hE6 => ?_)
    obtain ⟨y4l3, r306l3⟩ := s6
    try dsimp only
    refine ok_seq ?_
    refine ok_seq ?_
    refine ok_region ?_
    refine RT.mv .none rfl (tl rfl) ?_
    refine RT.mv .none rfl (tl rfl) ?_
    replace h := let_some h
    obtain ⟨x7, h7, h⟩ := h
    refine RT.lenM .none rfl (tl rfl) h7 ?_
    replace h := let_some h
    obtain ⟨x8, h8, h⟩ := h
    refine RT.lss .none _ rfl rfl (tl rfl) h8 ?_
    refine RT.done ?_
    refine AThen.n ?_
    cases x8
    · replace h := br_f h
      refine ok_condF rfl ?_
      refine ok_exit ?_
      refine AThen.x ?_
      refine AThen.x ?_
      refine AInB.x ?_
      refine AThen.n ?_
      obtain rfl := Option.some.inj h
      refine ⟨r306l3, hE6 _ rfl, ?_⟩
      try dsimp only
      exact weakL id rfl rfl rfl rfl rfl ⟨.row rfl, trivial⟩ trivial ⟨⟨_, rfl, SVIs.refl _⟩, trivial⟩ (fun _ _ => rfl)
    · replace h := br_t h
      refine ok_condT rfl ?_
      refine ok_skip ?_
      refine AThen.n ?_
      refine ok_seq ?_
      refine ok_block ?_
      refine ok_region_draw mixed ?_
      refine RT.move .none (s := .row _) rfl (tl rfl) ?_
      refine RT.mv .none rfl (tl rfl) ?_
      refine RT.mv .none rfl (tl rfl) ?_
      replace h := bind_some h
      obtain ⟨x14, h14, h⟩ := h
      refine RT.ixM .none rfl rfl (tl rfl) h14 ?_
      refine RT.loadRV .none rfl rfl (tl rfl) ?_
      replace h := let_some h
      obtain ⟨x16, h16, h⟩ := h
      refine RT.rem .none _ rfl rfl (tl rfl) (by decide) (remU' (a := x14) (b := 65536) h16) ?_
      replace h := let_some h
      obtain ⟨x17, h17, h⟩ := h
      refine RT.conv .none _ rfl (tl rfl) h17 ?_
      refine RT.mv .none rfl (tl rfl) ?_
      refine RT.mv .none rfl (tl rfl) ?_
      replace h := bind_some h
      obtain ⟨x20, h20, h⟩ := h
      refine RT.ixM .none rfl rfl (tl rfl) h20 ?_
      refine RT.loadRV .none rfl rfl (tl rfl) ?_
      replace h := let_some h
      obtain ⟨x22, h22, h⟩ := h
      refine RT.quo .none _ rfl rfl (tl rfl) (by decide) (UK.quo' (a := x20) (b := 65536) h22) ?_
      replace h := let_some h
      obtain ⟨x23, h23, h⟩ := h
      refine RT.conv .none _ rfl (tl rfl) h23 ?_
      refine RT.buildSl (l := [x17, x23]) (e := eI64) .none (.one rfl (.one rfl (.nil))) (tl rfl) rfl rfl rfl rfl rfl rfl ?_
      replace h := bind_some h
      obtain ⟨x25, h25, h⟩ := h
      refine RT.apR (k := [x17, x23]) (e := eI64) .none rfl rfl rfl (tl rfl) rfl (tl rfl) h25 ?_
      refine RT.assign .none (s := .row _) rfl (tl rfl) ?_
      refine RT.done ⟨by kernel_rfl, ?_⟩
      refine AInB.n ?_
      refine AThen.n ?_
      refine ok_region ?_
      refine RT.mv .none rfl (tl rfl) ?_
      replace h := let_some h
      obtain ⟨x10, h10, h⟩ := h
      refine RT.add .none _ rfl rfl (tl rfl) h10 ?_
      refine RT.asg .none rfl (tl rfl) ?_
      refine RT.done ?_
      obtain rfl := Option.some.inj h
      refine AThen.n ⟨(x10, x25), hG6 _ rfl, ?_⟩
      try dsimp only
      exact weakL (fun i => bif Nat.beq i 306 then 25 else i) rfl rfl rfl rfl rfl ⟨.sv (SV.imp_refl _), .row rfl, .sv (SV.imp_refl _), trivial⟩ trivial ⟨⟨_, rfl, SVIs.refl _⟩, trivial⟩ (fun i hi => by rw [beq_ne (show i ≠ 306 by omega)]; rfl)
  · subst hx6
    try dsimp only
    refine AThen.n ?_
    refine ok_seq ?_
    refine ok_weak (weak_frzM (i := 306) (E1 := 3) (n := 1) (e := eI64) (l := r306e5) rfl) ?_
    refine ok_region ?_
    refine RT.mv .none rfl (tl rfl) ?_
    replace ho6 := bind_some ho6
    obtain ⟨x27, h27, ho6⟩ := ho6
    refine RT.call .none (ref01_trim_ok h27) rfl ⟨rfl, trivial⟩ (tl rfl) ?_
    refine RT.asg .none rfl (tl rfl) ?_
    refine RT.done ?_
    refine AThen.n ?_
    refine ok_ret ?_
    obtain rfl := Option.some.inj ho6
    exact ⟨.inr rfl, res_imp (.tmp rfl (.nil)) (SV.imp_refl _)⟩
theorem ref01_at_ok {x0 : List Int} {x1 : Int} {r : Int} (h : ref01_at_m x0 x1 = some r) : Pure Try.prog 64 [slc 1 (List.map eI64 x0), .v (.int .i64 x1)] (.v (.int .i64 r)) := by
  refine pure_of_ok Try.func64 rfl (Nat.le_of_ble_eq_true rfl) (fun wld M vs hvs => ?_)
  unfold ref01_at_m at h
  refine ok_seq ?_
  refine ok_region ?_
  refine RT.asg .none rfl (tl rfl) ?_
  refine RT.done ?_
  refine AThen.n ?_
  refine ok_seq ?_
  refine ok_seq ?_
  refine ok_region ?_
  refine RT.mv .none rfl (tl rfl) ?_
  refine RT.mv .none rfl (tl rfl) ?_
  replace h := let_some h
  obtain ⟨x7, h7, h⟩ := h
  refine RT.lenM .none rfl (tl rfl) h7 ?_
  replace h := let_some h
  obtain ⟨x8, h8, h⟩ := h
  refine RT.lss .none _ rfl rfl (tl rfl) h8 ?_
  refine RT.done ?_
  refine AThen.n ?_
  cases x8
  · replace h := br_f h
    refine ok_condF rfl ?_
    refine ok_skip ?_
    refine AThen.n ?_
    refine ok_seq ?_
    refine ok_region ?_
    refine RT.asg .none rfl (tl rfl) ?_
    refine RT.done ?_
    refine AThen.n ?_
    refine ok_ret ?_
    obtain rfl := Option.some.inj h
    exact ⟨.inr rfl, res_imp (.tmp rfl (.nil)) (SV.imp_refl _)⟩
  · replace h := br_t h
    refine ok_condT rfl ?_
    refine ok_seq ?_
    refine ok_region ?_
    refine RT.mv .none rfl (tl rfl) ?_
    refine RT.mv .none rfl (tl rfl) ?_
    replace h := bind_some h
    obtain ⟨x11, h11, h⟩ := h
    refine RT.ixM .none rfl rfl (tl rfl) h11 ?_
    refine RT.loadRV .none rfl rfl (tl rfl) ?_
    refine RT.asg .none rfl (tl rfl) ?_
    refine RT.done ?_
    refine AThen.n ?_
    refine ok_ret ?_
    refine AThen.r ?_
    obtain rfl := Option.some.inj h
    exact ⟨.inr rfl, res_imp (.tmp rfl (.nil)) (SV.imp_refl _)⟩
theorem ref01_of_ok {x0 : Bool} {x1 : List Int} {r : Zr} (h : ref01_of_m x0 x1 = some r) : Pure Try.prog 53 [.v (.bool x0), slc 1 (List.map eI64 x1)] (.agg (eZ r)) := by
  refine pure_of_ok Try.func53 rfl (Nat.le_of_ble_eq_true rfl) (fun wld M vs hvs => ?_)
  unfold ref01_of_m at h
  refine ok_seq ?_
  refine ok_region ?_
  refine RT.allocI .none (cs := [.v (.bool false), slc 1 (List.map eU32 [])]) (by exact ⟨SV.imp_refl _, imp_nil, trivial⟩) rfl (tl rfl) rfl rfl ?_
  refine RT.done ?_
  refine AThen.n ?_
  refine ok_seq ?_
  refine ok_region ?_
  refine RT.mv .none rfl (tl rfl) ?_
  replace h := bind_some h
  obtain ⟨x8, h8, h⟩ := h
  refine RT.call .none (ref01_trim_ok h8) rfl ⟨rfl, trivial⟩ (tl rfl) ?_
  refine RT.asg .none rfl (tl rfl) ?_
  refine RT.done ?_
  refine AThen.n ?_
  refine ok_seq ?_
  refine ok_region ?_
  refine RT.asg .none rfl (tl rfl) ?_
  refine RT.done ?_
  refine AThen.n ?_
  refine ok_weak (weak_nil 5 304 51 1 rfl rfl (tl rfl)) ?_
  refine ok_seq ?_
  refine ok_seq ?_
  refine ok_region ?_
  refine RT.asg .none rfl (tl rfl) ?_
  refine RT.done ?_
  refine AThen.n ?_
  replace h := bind_some h
  obtain ⟨e6, hl6, ho6⟩ := h
  refine ok_tailP (fun (r306e5 : (List Nat)) => AS.mkL 37 [(0, .sv (.v (.bool x0))), (4, .ptr 4 0), (5, .row 306)] [(4, ⟨24, [.sv (.v (.bool false)), .sv (slc 1 (List.map eU32 []))]⟩)] [(306, TR 51 1 eU32 r306e5)]) (fun r306e5 => r306e5 = e6) ?_ (fun r306e5 hx6 => ?_)
  · refine ok_block ?_
    refine ok_loopM hl6 (fun s6 => AS.mkL 37 [(0, .sv (.v (.bool x0))), (1, .sv (slc 1 (List.map eI64 x8))), (4, .ptr 4 0), (5, .row 306), (6, .sv (.v (.int .i64 s6.1)))] [(4, ⟨24, [.sv (.v (.bool false)), .sv (slc 1 (List.map eU32 []))]⟩)] [(306, TR 51 1 eU32 s6.2)]) (by (try dsimp only); exact weakL (fun i => bif Nat.beq i 306 then 304 else i) rfl rfl rfl rfl rfl ⟨.sv (SV.imp_refl _), .sv (SV.imp_refl _), .ptr, .row rfl, .sv (SV.imp_refl _), trivial⟩ ⟨⟨_, rfl, ⟨.sv (SV.imp_refl _), .sv (SV.imp_refl _), trivial⟩⟩, trivial⟩ ⟨⟨_, rfl, SVIs.refl _⟩, trivial⟩ (fun i hi => by rw [beq_ne (show i ≠ 306 by omega)]; rfl)) (fun s6 y6 G6 h hG6 hE6 => ?_)
    obtain ⟨y6l3, r306l3⟩ := s6
    try dsimp only
    refine ok_seq ?_
    refine ok_seq ?_
    refine ok_region ?_
    refine RT.mv .none rfl (tl rfl) ?_
    refine RT.mv .none rfl (tl rfl) ?_
    replace h := let_some h
    obtain ⟨x11, h11, h⟩ := h
    refine RT.lenM .none rfl (tl rfl) h11 ?_
    replace h := let_some h
    obtain ⟨x12, h12, h⟩ := h
    refine RT.lss .none _ rfl rfl (tl rfl) h12 ?_
    refine RT.done ?_
    refine AThen.n ?_
    cases x12
    · replace h := br_f h
      refine ok_condF rfl ?_
      refine ok_exit ?_
      refine AThen.x ?_
      refine AThen.x ?_
      refine AInB.x ?_
      refine AThen.n ?_
      obtain rfl := Option.some.inj h
      refine ⟨r306l3, hE6 _ rfl, ?_⟩
      try dsimp only
      exact weakL id rfl rfl rfl rfl rfl ⟨.sv (SV.imp_refl _), .ptr, .row rfl, trivial⟩ ⟨⟨_, rfl, ⟨.sv (SV.imp_refl _), .sv (SV.imp_refl _), trivial⟩⟩, trivial⟩ ⟨⟨_, rfl, SVIs.refl _⟩, trivial⟩ (fun _ _ => rfl)
    · replace h := br_t h
      refine ok_condT rfl ?_
      refine ok_skip ?_
      refine AThen.n ?_
      refine ok_seq ?_
      refine ok_block ?_
      refine ok_region ?_
      refine RT.move .none (s := .row _) rfl (tl rfl) ?_
      refine RT.mv .none rfl (tl rfl) ?_
      refine RT.mv .none rfl (tl rfl) ?_
      replace h := bind_some h
      obtain ⟨x18, h18, h⟩ := h
      refine RT.call .none (ref01_at_ok h18) rfl ⟨rfl, rfl, trivial⟩ (tl rfl) ?_
      replace h := let_some h
      obtain ⟨x19, h19, h⟩ := h
      refine RT.conv .none _ rfl (tl rfl) (UK.conv h19) ?_
      refine RT.mv .none rfl (tl rfl) ?_
      refine RT.mv .none rfl (tl rfl) ?_
      replace h := let_some h
      obtain ⟨x22, h22, h⟩ := h
      refine RT.add .none _ rfl rfl (tl rfl) h22 ?_
      replace h := bind_some h
      obtain ⟨x23, h23, h⟩ := h
      refine RT.call .none (ref01_at_ok h23) rfl ⟨rfl, rfl, trivial⟩ (tl rfl) ?_
      replace h := let_some h
      obtain ⟨x24, h24, h⟩ := h
      refine RT.conv .none _ rfl (tl rfl) (UK.conv h24) ?_
      replace h := let_some h
      obtain ⟨x25, h25, h⟩ := h
      refine RT.mul .none _ rfl rfl (tl rfl) (UK.mul (a := x24) (b := 65536) h25) ?_
      replace h := let_some h
      obtain ⟨x26, h26, h⟩ := h
      refine RT.add .none _ rfl rfl (tl rfl) (UK.add (a := x19) (b := x25) h26) ?_
      refine RT.buildSl (l := [x26]) (e := eU32) .none (.one rfl (.nil)) (tl rfl) rfl rfl rfl rfl rfl rfl ?_
      replace h := bind_some h
      obtain ⟨x28, h28, h⟩ := h
      refine RT.apR (k := [x26]) (e := eU32) .none rfl rfl rfl (tl rfl) rfl (tl rfl) h28 ?_
      refine RT.assign .none (s := .row _) rfl (tl rfl) ?_
      refine RT.done ?_
      refine AInB.n ?_
      refine AThen.n ?_
      refine ok_region ?_
      refine RT.mv .none rfl (tl rfl) ?_
      replace h := let_some h
      obtain ⟨x14, h14, h⟩ := h
      refine RT.add .none _ rfl rfl (tl rfl) h14 ?_
      refine RT.asg .none rfl (tl rfl) ?_
      refine RT.done ?_
      obtain rfl := Option.some.inj h
      refine AThen.n ⟨(x14, x28), hG6 _ rfl, ?_⟩
      try dsimp only
      exact weakL (fun i => bif Nat.beq i 306 then 28 else i) rfl rfl rfl rfl rfl ⟨.sv (SV.imp_refl _), .sv (SV.imp_refl _), .ptr, .row rfl, .sv (SV.imp_refl _), trivial⟩ ⟨⟨_, rfl, ⟨.sv (SV.imp_refl _), .sv (SV.imp_refl _), trivial⟩⟩, trivial⟩ ⟨⟨_, rfl, SVIs.refl _⟩, trivial⟩ (fun i hi => by rw [beq_ne (show i ≠ 306 by omega)]; rfl)
  · subst hx6
    try dsimp only
    refine AThen.n ?_
    refine ok_seq ?_
    refine ok_tailJ ho6 (fun j9 => AS.mkL 37 [(4, .ptr 4 0)] [(4, ⟨24, [.sv (.v (.bool j9)), .sv (slc 1 (List.map eU32 r306e5))]⟩)] []) (fun ho6 => ?_) (fun b4_0j8 ho6 => ?_)
    · refine ok_weak (weak_frzM (i := 306) (E1 := 51) (n := 1) (e := eU32) (l := r306e5) rfl) ?_
      refine ok_region ?_
      refine RT.mv .none rfl (tl rfl) ?_
      refine RT.mv .none rfl (tl rfl) ?_
      replace ho6 := bind_some ho6
      obtain ⟨c34_10, hg10, ho6⟩ := ho6
      cases x0
      · replace hg10 := br_f hg10
        obtain rfl := Option.some.inj hg10
        refine RT.skV rfl rfl (sk rfl) (tl rfl) ?_
        refine RT.skV rfl rfl (sk rfl) (tl rfl) ?_
        refine RT.skV rfl rfl (sk rfl) (tl rfl) ?_
        refine RT.pickF .none rfl rfl (tl rfl) ?_
        refine RT.mv .none rfl (tl rfl) ?_
        refine RT.buildI (cs := [_, _]) (cs' := [.v (.bool false), slc 1 (List.map eU32 r306e5)]) .none (.one rfl (.one rfl (.nil))) rfl ⟨SV.imp_refl _, SV.imp_refl _, trivial⟩ (tl rfl) ?_
        refine RT.store .none rfl rfl rfl rfl rfl ?_
        refine RT.done ?_
        refine AThen.n ?_
        refine ⟨false, ho6, ?_⟩
        try dsimp only
        exact weakL id rfl rfl rfl rfl rfl ⟨.ptr, trivial⟩ ⟨⟨_, rfl, ⟨.sv (SV.imp_refl _), .sv (SV.imp_refl _), trivial⟩⟩, trivial⟩ trivial (fun _ _ => rfl)
      · replace hg10 := br_t hg10
        refine RT.mv (.some rfl rfl) rfl (tl rfl) ?_
        replace hg10 := let_some hg10
        obtain ⟨x32, h32, hg10⟩ := hg10
        refine RT.lenM (.some rfl rfl) rfl (tl rfl) h32 ?_
        replace hg10 := let_some hg10
        obtain ⟨x33, h33, hg10⟩ := hg10
        refine RT.gtr (.some rfl rfl) _ rfl rfl (tl rfl) h33 ?_
        obtain rfl := Option.some.inj hg10
        refine RT.pickT .none rfl rfl (tl rfl) ?_
        refine RT.mv .none rfl (tl rfl) ?_
        refine RT.buildI (cs := [_, _]) (cs' := [.v (.bool x33), slc 1 (List.map eU32 r306e5)]) .none (.one rfl (.one rfl (.nil))) rfl ⟨SV.imp_refl _, SV.imp_refl _, trivial⟩ (tl rfl) ?_
        refine RT.store .none rfl rfl rfl rfl rfl ?_
        refine RT.done ?_
        refine AThen.n ?_
        refine ⟨x33, ho6, ?_⟩
        try dsimp only
        exact weakL id rfl rfl rfl rfl rfl ⟨.ptr, trivial⟩ ⟨⟨_, rfl, ⟨.sv (SV.imp_refl _), .sv (SV.imp_refl _), trivial⟩⟩, trivial⟩ trivial (fun _ _ => rfl)
    · try dsimp only
      refine AThen.n ?_
      refine ok_ret ?_
      obtain rfl := Option.some.inj ho6
      exact ⟨.inr rfl, res_imp (.agg rfl rfl (.cons rfl (.cons rfl (.nil))) rfl (.nil)) (SV.imp_refl _)⟩
theorem ref01_Least_ok {x0 : Zr} {r : Zr} (h : ref01_Least_m x0 = some r) : Pure Try.prog 21 [.agg (eZ x0)] (.agg (eZ r)) := by
  obtain ⟨x0_0, x0_1⟩ := x0
  refine pure_of_ok Try.func21 rfl (Nat.le_of_ble_eq_true rfl) (fun wld M vs hvs => ?_)
  unfold ref01_Least_m at h
  refine ok_seq ?_
  refine ok_region ?_
  refine RT.box .none rfl (tl rfl) rfl rfl ?_
  refine RT.allocI .none (cs := [.v (.bool false), slc 1 (List.map eU32 [])]) (by exact ⟨SV.imp_refl _, imp_nil, trivial⟩) rfl (tl rfl) rfl rfl ?_
  refine RT.done ?_
  refine AThen.n ?_
  refine ok_seq ?_
  refine ok_region_draw mixed ?_
  refine RT.fieldAddr .none rfl (tl rfl) rfl ?_
  refine RT.ldV .none rfl rfl rfl (tl rfl) ?_
  refine RT.fieldAddr .none rfl (tl rfl) rfl ?_
  refine RT.ldV .none rfl rfl rfl (tl rfl) ?_
  replace h := bind_some h
  obtain ⟨x7, h7, h⟩ := h
  refine RT.call .none (ref01_halves_ok h7) rfl ⟨rfl, trivial⟩ (tl rfl) ?_
  replace h := bind_some h
  obtain ⟨⟨x8_0, x8_1⟩, h8, h⟩ := h
  refine RT.call .none (ref01_of_ok h8) rfl ⟨rfl, rfl, trivial⟩ (tl rfl) ?_
  refine RT.store .none rfl rfl rfl rfl rfl ?_
  refine RT.done ⟨by kernel_rfl, ?_⟩
  refine AThen.n ?_
  refine ok_ret ?_
  obtain rfl := Option.some.inj h
  exact ⟨.inr rfl, res_imp (.agg rfl rfl (.cons rfl (.cons rfl (.nil))) rfl (.nil)) (SV.imp_refl _)⟩
theorem ref01_Same_ok {x0 : Zr} {x1 : Zr} {r : Bool} (h : ref01_Same_m x0 x1 = some r) : Pure Try.prog 14 [.agg (eZ x0), .agg (eZ x1)] (.v (.bool r)) := by
  obtain ⟨x0_0, x0_1⟩ := x0
  obtain ⟨x1_0, x1_1⟩ := x1
  refine pure_of_ok Try.func14 rfl (Nat.le_of_ble_eq_true rfl) (fun wld M vs hvs => ?_)
  unfold ref01_Same_m at h
  refine ok_seq ?_
  refine ok_region ?_
  refine RT.box .none rfl (tl rfl) rfl rfl ?_
  refine RT.box .none rfl (tl rfl) rfl rfl ?_
  refine RT.asg .none rfl (tl rfl) ?_
  refine RT.done ?_
  refine AThen.n ?_
  refine ok_seq ?_
  refine ok_seq ?_
  refine ok_tailJ h (fun j3 => AS.mkL 38 [(2, .ptr 2 0), (3, .ptr 3 0), (19, .sv (.v (.bool j3)))] [(3, ⟨24, [.sv (.v (.bool x1_0)), .sv (slc 1 (List.map eU32 x1_1))]⟩), (2, ⟨24, [.sv (.v (.bool x0_0)), .sv (slc 1 (List.map eU32 x0_1))]⟩)] []) (fun h => ?_) (fun y19j2 h => ?_)
  · refine ok_region ?_
    refine RT.fieldAddr .none rfl (tl rfl) rfl ?_
    refine RT.ldV .none rfl rfl rfl (tl rfl) ?_
    refine RT.fieldAddr .none rfl (tl rfl) rfl ?_
    refine RT.ldV .none rfl rfl rfl (tl rfl) ?_
    replace h := let_some h
    obtain ⟨x10, h10, h⟩ := h
    refine RT.bneq .none _ rfl rfl (tl rfl) h10 ?_
    refine RT.mv .none rfl (tl rfl) ?_
    replace h := bind_some h
    obtain ⟨c19_10, hg10, h⟩ := h
    cases x10
    · replace hg10 := br_f hg10
      refine RT.fieldAddr (.some rfl rfl) rfl (tl rfl) rfl ?_
      refine RT.ldV (.some rfl rfl) rfl rfl rfl (tl rfl) ?_
      replace hg10 := let_some hg10
      obtain ⟨x14, h14, hg10⟩ := hg10
      refine RT.lenM (.some rfl rfl) rfl (tl rfl) h14 ?_
      refine RT.fieldAddr (.some rfl rfl) rfl (tl rfl) rfl ?_
      refine RT.ldV (.some rfl rfl) rfl rfl rfl (tl rfl) ?_
      replace hg10 := let_some hg10
      obtain ⟨x17, h17, hg10⟩ := hg10
      refine RT.lenM (.some rfl rfl) rfl (tl rfl) h17 ?_
      replace hg10 := let_some hg10
      obtain ⟨x18, h18, hg10⟩ := hg10
      refine RT.neq (.some rfl rfl) _ rfl rfl (tl rfl) (neI (p := x14) (q := x17) h18) ?_
      obtain rfl := Option.some.inj hg10
      refine RT.pickF .none rfl rfl (tl rfl) ?_
      refine RT.done ?_
      refine AThen.n ?_
      refine ⟨x18, h, ?_⟩
      try dsimp only
      exact weakL id rfl rfl rfl rfl rfl ⟨.ptr, .ptr, .sv (SV.imp_refl _), trivial⟩ ⟨⟨_, rfl, ⟨.sv (SV.imp_refl _), .sv (SV.imp_refl _), trivial⟩⟩, ⟨_, rfl, ⟨.sv (SV.imp_refl _), .sv (SV.imp_refl _), trivial⟩⟩, trivial⟩ trivial (fun _ _ => rfl)
    · replace hg10 := br_t hg10
      obtain rfl := Option.some.inj hg10
      refine RT.skV rfl rfl (sk rfl) (tl rfl) ?_
      refine RT.skV rfl rfl (sk rfl) (tl rfl) ?_
      refine RT.skV rfl rfl (sk rfl) (tl rfl) ?_
      refine RT.skV rfl rfl (sk rfl) (tl rfl) ?_
      refine RT.skV rfl rfl (sk rfl) (tl rfl) ?_
      refine RT.skV rfl rfl (sk rfl) (tl rfl) ?_
      refine RT.skV rfl rfl (sk rfl) (tl rfl) ?_
      refine RT.pickT .none rfl rfl (tl rfl) ?_
      refine RT.done ?_
      refine AThen.n ?_
      refine ⟨true, h, ?_⟩
      try dsimp only
      exact weakL id rfl rfl rfl rfl rfl ⟨.ptr, .ptr, .sv (SV.imp_refl _), trivial⟩ ⟨⟨_, rfl, ⟨.sv (SV.imp_refl _), .sv (SV.imp_refl _), trivial⟩⟩, ⟨_, rfl, ⟨.sv (SV.imp_refl _), .sv (SV.imp_refl _), trivial⟩⟩, trivial⟩ trivial (fun _ _ => rfl)
  · try dsimp only
    refine AThen.n ?_
    cases y19j2
    · replace h := br_f h
      refine ok_condF rfl ?_
      refine ok_skip ?_
      refine AThen.n ?_
      refine ok_seq ?_
      refine ok_seq ?_
      refine ok_region ?_
      refine RT.asg .none rfl (tl rfl) ?_
      refine RT.done ?_
      refine AThen.n ?_
      replace h := bind_some h
      obtain ⟨e9, hl9, ho9⟩ := h
      refine ok_tailP (fun (xe9 : Unit) => AS.mkL 38 [] [] []) (fun xe9 => .inl xe9 = e9) ?_ (fun xe9 hx9 => ?_)
      · refine ok_block ?_
        refine ok_loopM hl9 (fun s9 => AS.mkL 38 [(2, .ptr 2 0), (3, .ptr 3 0), (5, .sv (.v (.int .i64 s9)))] [(3, ⟨24, [.sv (.v (.bool x1_0)), .sv (slc 1 (List.map eU32 x1_1))]⟩), (2, ⟨24, [.sv (.v (.bool x0_0)), .sv (slc 1 (List.map eU32 x0_1))]⟩)] []) (by (try dsimp only); exact weakL id rfl rfl rfl rfl rfl ⟨.ptr, .ptr, .sv (SV.imp_refl _), trivial⟩ ⟨⟨_, rfl, ⟨.sv (SV.imp_refl _), .sv (SV.imp_refl _), trivial⟩⟩, ⟨_, rfl, ⟨.sv (SV.imp_refl _), .sv (SV.imp_refl _), trivial⟩⟩, trivial⟩ trivial (fun _ _ => rfl)) (fun y5l6 y9 G9 h hG9 hE9 => ?_)
        try dsimp only
        refine ok_seq ?_
        refine ok_seq ?_
        refine ok_region ?_
        refine RT.mv .none rfl (tl rfl) ?_
        refine RT.fieldAddr .none rfl (tl rfl) rfl ?_
        refine RT.ldV .none rfl rfl rfl (tl rfl) ?_
        replace h := let_some h
        obtain ⟨x23, h23, h⟩ := h
        refine RT.lenM .none rfl (tl rfl) h23 ?_
        replace h := let_some h
        obtain ⟨x24, h24, h⟩ := h
        refine RT.lss .none _ rfl rfl (tl rfl) h24 ?_
        refine RT.done ?_
        refine AThen.n ?_
        cases x24
        · replace h := br_f h
          refine ok_condF rfl ?_
          refine ok_exit ?_
          refine AThen.x ?_
          refine AThen.x ?_
          refine AInB.x ?_
          refine AThen.n ?_
          obtain rfl := Option.some.inj h
          refine ⟨(), hE9 _ rfl, ?_⟩
          try dsimp only
          exact weakL id rfl rfl rfl rfl rfl trivial trivial trivial (fun _ _ => rfl)
        · replace h := br_t h
          refine ok_condT rfl ?_
          refine ok_skip ?_
          refine AThen.n ?_
          refine ok_seq ?_
          refine ok_block ?_
          refine ok_seq ?_
          refine ok_region_draw mixed ?_
          refine RT.fieldAddr .none rfl (tl rfl) rfl ?_
          refine RT.ldV .none rfl rfl rfl (tl rfl) ?_
          refine RT.mv .none rfl (tl rfl) ?_
          replace h := bind_some h
          obtain ⟨x30, h30, h⟩ := h
          refine RT.ixM .none rfl rfl (tl rfl) h30 ?_
          refine RT.loadRV .none rfl rfl (tl rfl) ?_
          refine RT.fieldAddr .none rfl (tl rfl) rfl ?_
          refine RT.ldV .none rfl rfl rfl (tl rfl) ?_
          refine RT.mv .none rfl (tl rfl) ?_
          replace h := bind_some h
          obtain ⟨x35, h35, h⟩ := h
          refine RT.ixM .none rfl rfl (tl rfl) h35 ?_
          refine RT.loadRV .none rfl rfl (tl rfl) ?_
          replace h := let_some h
          obtain ⟨x37, h37, h⟩ := h
          refine RT.neq .none _ rfl rfl (tl rfl) (neN (p := x30) (q := x35) h37) ?_
          refine RT.done ⟨by kernel_rfl, ?_⟩
          refine AThen.n ?_
          cases x37
          · replace h := br_f h
            refine ok_condF rfl ?_
            refine ok_skip ?_
            refine AInB.n ?_
            refine AThen.n ?_
            refine ok_region ?_
            refine RT.mv .none rfl (tl rfl) ?_
            replace h := let_some h
            obtain ⟨x26, h26, h⟩ := h
            refine RT.add .none _ rfl rfl (tl rfl) h26 ?_
            refine RT.asg .none rfl (tl rfl) ?_
            refine RT.done ?_
            obtain rfl := Option.some.inj h
            refine AThen.n ⟨x26, hG9 _ rfl, ?_⟩
            try dsimp only
            exact weakL id rfl rfl rfl rfl rfl ⟨.ptr, .ptr, .sv (SV.imp_refl _), trivial⟩ ⟨⟨_, rfl, ⟨.sv (SV.imp_refl _), .sv (SV.imp_refl _), trivial⟩⟩, ⟨_, rfl, ⟨.sv (SV.imp_refl _), .sv (SV.imp_refl _), trivial⟩⟩, trivial⟩ trivial (fun _ _ => rfl)
          · replace h := br_t h
            refine ok_condT rfl ?_
            refine ok_seq ?_
            refine ok_region ?_
            refine RT.asg .none rfl (tl rfl) ?_
            refine RT.done ?_
            refine AThen.n ?_
            refine ok_ret ?_
            refine AInB.r ?_
            refine AThen.r ?_
            obtain rfl := Option.some.inj h
            have he9 := hE9 _ rfl
            subst he9
            refine AThen.r ?_
            refine AInB.r ?_
            refine AThen.r ?_
            refine AThen.r ?_
            obtain rfl := Option.some.inj ho9
            exact ⟨.inr rfl, res_imp (.tmp rfl (.nil)) (SV.imp_refl _)⟩
      · subst hx9
        try dsimp only
        refine AThen.n ?_
        refine ok_seq ?_
        refine ok_region ?_
        refine RT.asg .none rfl (tl rfl) ?_
        refine RT.done ?_
        refine AThen.n ?_
        refine ok_ret ?_
        obtain rfl := Option.some.inj ho9
        exact ⟨.inr rfl, res_imp (.tmp rfl (.nil)) (SV.imp_refl _)⟩
    · replace h := br_t h
      refine ok_condT rfl ?_
      refine ok_seq ?_
      refine ok_region ?_
      refine RT.asg .none rfl (tl rfl) ?_
      refine RT.done ?_
      refine AThen.n ?_
      refine ok_ret ?_
      refine AThen.r ?_
      obtain rfl := Option.some.inj h
      exact ⟨.inr rfl, res_imp (.tmp rfl (.nil)) (SV.imp_refl _)⟩
theorem ref01_From_ok {x0 : Int} {r : Zr} (h : ref01_From_m x0 = some r) : Pure Try.prog 33 [.v (.int .i64 x0)] (.agg (eZ r)) := by
  refine pure_of_ok Try.func33 rfl (Nat.le_of_ble_eq_true rfl) (fun wld M vs hvs => ?_)
  unfold ref01_From_m at h
  refine ok_seq ?_
  refine ok_region ?_
  refine RT.allocI .none (cs := [.v (.bool false), slc 1 (List.map eU32 [])]) (by exact ⟨SV.imp_refl _, imp_nil, trivial⟩) rfl (tl rfl) rfl rfl ?_
  refine RT.done ?_
  refine AThen.n ?_
  refine ok_seq ?_
  refine ok_region ?_
  refine RT.mv .none rfl (tl rfl) ?_
  replace h := let_some h
  obtain ⟨x5, h5, h⟩ := h
  refine RT.conv .none _ rfl (tl rfl) (UK.conv h5) ?_
  refine RT.asg .none rfl (tl rfl) ?_
  refine RT.done ?_
  refine AThen.n ?_
  refine ok_seq ?_
  refine ok_seq ?_
  refine ok_region ?_
  refine RT.mv .none rfl (tl rfl) ?_
  replace h := let_some h
  obtain ⟨x7, h7, h⟩ := h
  refine RT.lss .none _ rfl rfl (tl rfl) h7 ?_
  refine RT.done ?_
  refine AThen.n ?_
  refine ok_tailJ h (fun j2 => AS.mkL 21 [(0, .sv (.v (.int .i64 x0))), (2, .ptr 2 0), (3, .sv (.v (.int .u64 ((j2 : Nat) : Int))))] [(2, ⟨24, [.sv (.v (.bool false)), .sv (slc 1 (List.map eU32 []))]⟩)] []) (fun h => ?_) (fun y3j1 h => ?_)
  · cases x7
    · replace h := br_f h
      refine ok_condF rfl ?_
      refine ok_skip ?_
      refine AThen.n ?_
      refine ⟨x5, h, ?_⟩
      try dsimp only
      exact weakL id rfl rfl rfl rfl rfl ⟨.sv (SV.imp_refl _), .ptr, .sv (SV.imp_refl _), trivial⟩ ⟨⟨_, rfl, ⟨.sv (SV.imp_refl _), .sv (SV.imp_refl _), trivial⟩⟩, trivial⟩ trivial (fun _ _ => rfl)
    · replace h := br_t h
      refine ok_condT rfl ?_
      refine ok_region ?_
      refine RT.mv .none rfl (tl rfl) ?_
      replace h := let_some h
      obtain ⟨x9, h9, h⟩ := h
      refine RT.neg .none _ rfl (tl rfl) (UK.neg h9) ?_
      refine RT.asg .none rfl (tl rfl) ?_
      refine RT.done ?_
      refine AThen.n ?_
      refine ⟨x9, h, ?_⟩
      try dsimp only
      exact weakL id rfl rfl rfl rfl rfl ⟨.sv (SV.imp_refl _), .ptr, .sv (SV.imp_refl _), trivial⟩ ⟨⟨_, rfl, ⟨.sv (SV.imp_refl _), .sv (SV.imp_refl _), trivial⟩⟩, trivial⟩ trivial (fun _ _ => rfl)
  · try dsimp only
    refine AThen.n ?_
    refine ok_seq ?_
    refine ok_region ?_
    refine RT.mv .none rfl (tl rfl) ?_
    replace h := let_some h
    obtain ⟨x11, h11, h⟩ := h
    refine RT.lss .none _ rfl rfl (tl rfl) h11 ?_
    refine RT.mv .none rfl (tl rfl) ?_
    replace h := let_some h
    obtain ⟨x13, h13, h⟩ := h
    refine RT.rem .none _ rfl rfl (tl rfl) (by decide) (remU' (a := y3j1) (b := 4294967296) h13) ?_
    replace h := let_some h
    obtain ⟨x14, h14, h⟩ := h
    refine RT.conv .none _ rfl (tl rfl) (UK.nat h14) ?_
    refine RT.mv .none rfl (tl rfl) ?_
    replace h := let_some h
    obtain ⟨x16, h16, h⟩ := h
    refine RT.quo .none _ rfl rfl (tl rfl) (by decide) (UK.quo' (a := y3j1) (b := 4294967296) h16) ?_
    replace h := let_some h
    obtain ⟨x17, h17, h⟩ := h
    refine RT.conv .none _ rfl (tl rfl) (UK.nat h17) ?_
    refine RT.buildSl (l := [x14, x17]) (e := eU32) .none (.one rfl (.one rfl (.nil))) (tl rfl) rfl rfl rfl rfl rfl rfl ?_
    refine RT.buildI (cs := [_, _]) (cs' := [.v (.bool x11), slc 1 (List.map eU32 [x14, x17])]) .none (.one rfl (.one rfl (.nil))) rfl ⟨SV.imp_refl _, SV.imp_refl _, trivial⟩ (tl rfl) ?_
    replace h := bind_some h
    obtain ⟨⟨x20_0, x20_1⟩, h20, h⟩ := h
    refine RT.call .none (ref01_Least_ok h20) rfl ⟨rfl, trivial⟩ (tl rfl) ?_
    refine RT.store .none rfl rfl rfl rfl rfl ?_
    refine RT.done ?_
    refine AThen.n ?_
    refine ok_ret ?_
    obtain rfl := Option.some.inj h
    exact ⟨.inr rfl, res_imp (.agg rfl rfl (.cons rfl (.cons rfl (.nil))) rfl (.nil)) (SV.imp_refl _)⟩
end Go.Proofs.Ytgkafblpckcekaa
namespace Go.Proofs.Ytgkafblpckcekaa
open Go.Fw
noncomputable def law01_n_m (x0 : Int) : Option (Zr) :=
  (whole_FromInt64_m x0).bind fun ⟨x4_0, x4_1⟩ =>
  some ⟨x4_0, x4_1⟩
noncomputable def law01_is_m (x0 : Zr) (x1 : Int) : Option (Bool) :=
  match x0 with
  | ⟨x0_0, x0_1⟩ =>
    (ref01_From_m x1).bind fun ⟨x7_0, x7_1⟩ =>
    (ref01_Same_m ⟨x0_0, x0_1⟩ ⟨x7_0, x7_1⟩).bind fun x8 =>
    some x8
noncomputable def law01_alive_m  : Option (Bool) :=
  (law01_n_m (-7)).bind fun ⟨x13_0, x13_1⟩ =>
  (law01_n_m 2).bind fun ⟨x14_0, x14_1⟩ =>
  (whole_DivMod_m ⟨x13_0, x13_1⟩ ⟨x14_0, x14_1⟩).bind fun ⟨⟨x15a_0, x15a_1⟩, ⟨x15b_0, x15b_1⟩, x15c⟩ =>
  (law01_n_m (-7)).bind fun ⟨x20_0, x20_1⟩ =>
  (law01_n_m (-2)).bind fun ⟨x21_0, x21_1⟩ =>
  (whole_DivMod_m ⟨x20_0, x20_1⟩ ⟨x21_0, x21_1⟩).bind fun ⟨⟨x22a_0, x22a_1⟩, ⟨x22b_0, x22b_1⟩, x22c⟩ =>
  (law01_n_m 7).bind fun ⟨x27_0, x27_1⟩ =>
  (law01_n_m (-2)).bind fun ⟨x28_0, x28_1⟩ =>
  (whole_DivMod_m ⟨x27_0, x27_1⟩ ⟨x28_0, x28_1⟩).bind fun ⟨⟨x29a_0, x29a_1⟩, ⟨x29b_0, x29b_1⟩, x29c⟩ =>
  (whole_Parse_m [45, 48]).bind fun ⟨⟨x34a_0, x34a_1⟩, x34b⟩ =>
  letJ (fun (y50j9 : Bool) =>
      (bif y50j9 then
          some false
        else
          letJ (fun (y0j54 : Bool) =>
              some y0j54) fun K55 =>
          (law01_is_m ⟨x15a_0, x15a_1⟩ (-4)).bind fun x52 =>
          (bif x52 then
              (law01_is_m ⟨x15b_0, x15b_1⟩ 1).bind fun x55 =>
              some x55
            else
              some false).bind fun c56_56 =>
          (bif c56_56 then
              (law01_is_m ⟨x22a_0, x22a_1⟩ 4).bind fun x59 =>
              some x59
            else
              some false).bind fun c60_92 =>
          (bif c60_92 then
              (law01_is_m ⟨x22b_0, x22b_1⟩ 1).bind fun x63 =>
              some x63
            else
              some false).bind fun c64_93 =>
          (bif c64_93 then
              (law01_is_m ⟨x29a_0, x29a_1⟩ (-3)).bind fun x67 =>
              some x67
            else
              some false).bind fun c68_94 =>
          (bif c68_94 then
              (law01_is_m ⟨x29b_0, x29b_1⟩ 1).bind fun x71 =>
              some x71
            else
              some false).bind fun c72_95 =>
          (bif c72_95 then
              (law01_n_m (-12)).bind fun ⟨x74_0, x74_1⟩ =>
              (law01_n_m 18).bind fun ⟨x75_0, x75_1⟩ =>
              (whole_GCD_m ⟨x74_0, x74_1⟩ ⟨x75_0, x75_1⟩).bind fun ⟨x76_0, x76_1⟩ =>
              (law01_is_m ⟨x76_0, x76_1⟩ 6).bind fun x77 =>
              some x77
            else
              some false).bind fun c78_96 =>
          (bif c78_96 then
              (law01_n_m 0).bind fun ⟨x80_0, x80_1⟩ =>
              (law01_n_m (-5)).bind fun ⟨x81_0, x81_1⟩ =>
              (whole_GCD_m ⟨x80_0, x80_1⟩ ⟨x81_0, x81_1⟩).bind fun ⟨x82_0, x82_1⟩ =>
              (law01_is_m ⟨x82_0, x82_1⟩ 5).bind fun x83 =>
              some x83
            else
              some false).bind fun c84_97 =>
          (bif c84_97 then
              (law01_n_m (-9223372036854775808)).bind fun ⟨x86_0, x86_1⟩ =>
              (whole_Format_m ⟨x86_0, x86_1⟩).bind fun x87 =>
              (some (decide ((x87 : Str) = [45, 57, 50, 50, 51, 51, 55, 50, 48, 51, 54, 56, 53, 52, 55, 55, 53, 56, 48, 56]))).bind fun x88 =>
              some x88
            else
              some false).bind fun c89_98 =>
          K55 c89_98)) fun K10 =>
  (some (decide ((x15c : Int) ≠ 0))).bind fun x38 =>
  (bif x38 then
      some true
    else
      (some (decide ((x22c : Int) ≠ 0))).bind fun x41 =>
      some x41).bind fun c42_99 =>
  (bif c42_99 then
      some true
    else
      (some (decide ((x29c : Int) ≠ 0))).bind fun x45 =>
      some x45).bind fun c46_105 =>
  (bif c46_105 then
      some true
    else
      (some (decide ((x34b : Int) ≠ 3))).bind fun x49 =>
      some x49).bind fun c50_106 =>
  K10 c50_106
noncomputable def law01_Long_m (x0 : List Zr) : Option (Bool) :=
  (loopM (fun (y3l3 : Int) =>
      (show Option ((Int) ⊕ ((Unit) ⊕ (Bool))) from
        (some (x0.length : Int)).bind fun x6 =>
        (some (decide ((y3l3 : Int) < x6))).bind fun x7 =>
        (bif x7 then
            (geti x0 y3l3).bind fun ⟨x12_0, x12_1⟩ =>
            (some (x12_1.length : Int)).bind fun x15 =>
            (some (decide ((12 : Int) < x15))).bind fun x16 =>
            (bif x16 then
                some (.inr (.inr true))
              else
                (some (IntKind.i64.wrap (y3l3 + 1))).bind fun x9 =>
                some (.inl x9))
          else
            some (.inr (.inl ()))))) 0).bind fun e6 =>
    match e6 with
    | .inr v6 => some v6
    | .inl _ =>
      some false
noncomputable def law01_WholeParseMatches_m (x0 : Zr) (x1 : Str) : Option (Bool) :=
  match x0 with
  | ⟨x0_0, x0_1⟩ =>
    letJ (fun (y19j2 : Bool) =>
        (bif y19j2 then
            (law01_alive_m).bind fun x20 =>
            some x20
          else
            (whole_Format_m ⟨x0_0, x0_1⟩).bind fun x22 =>
            (whole_Parse_m x1).bind fun ⟨⟨x25a_0, x25a_1⟩, x25b⟩ =>
            (ref01_Parse_m x1).bind fun ⟨⟨x30a_0, x30a_1⟩, x30b⟩ =>
            (whole_Parse_m x22).bind fun ⟨⟨x35a_0, x35a_1⟩, x35b⟩ =>
            letJ (fun (y63j17 : Bool) =>
                (bif y63j17 then
                    some false
                  else
                    letJ (fun (y4j23 : Bool) =>
                        some y4j23) fun K24 =>
                    (some (decide ((x25b : Int) ≠ 0))).bind fun x65 =>
                    (bif x65 then
                        some true
                      else
                        (whole_Format_m ⟨x25a_0, x25a_1⟩).bind fun x68 =>
                        (some (decide ((x68 : Str) = x1))).bind fun x70 =>
                        some x70).bind fun c71_25 =>
                    (bif c71_25 then
                        (law01_alive_m).bind fun x73 =>
                        some x73
                      else
                        some false).bind fun c74_28 =>
                    K24 c74_28)) fun K18 =>
            (ref01_Text_m ⟨x0_0, x0_1⟩).bind fun x40 =>
            (some (decide ((x22 : Str) ≠ x40))).bind fun x41 =>
            (bif x41 then
                some true
              else
                (ref01_Same_m ⟨x25a_0, x25a_1⟩ ⟨x30a_0, x30a_1⟩).bind fun x45 =>
                (some (!x45)).bind fun x46 =>
                some x46).bind fun c47_29 =>
            (bif c47_29 then
                some true
              else
                (some (decide ((x25b : Int) ≠ x30b))).bind fun x51 =>
                some x51).bind fun c52_39 =>
            (bif c52_39 then
                some true
              else
                (some (decide ((x35b : Int) ≠ 0))).bind fun x55 =>
                some x55).bind fun c56_40 =>
            (bif c56_40 then
                some true
              else
                (ref01_Least_m ⟨x0_0, x0_1⟩).bind fun ⟨x60_0, x60_1⟩ =>
                (ref01_Same_m ⟨x35a_0, x35a_1⟩ ⟨x60_0, x60_1⟩).bind fun x61 =>
                (some (!x61)).bind fun x62 =>
                some x62).bind fun c63_41 =>
            K18 c63_41)) fun K3 =>
    (law01_Long_m [⟨x0_0, x0_1⟩]).bind fun x14 =>
    (bif x14 then
        some true
      else
        (some ((x1 : Str).length : Int)).bind fun x17 =>
        (some (decide ((1100 : Int) < x17))).bind fun x18 =>
        some x18).bind fun c19_42 =>
    K3 c19_42
end Go.Proofs.Ytgkafblpckcekaa
namespace Go.Proofs.Ytgkafblpckcekaa
open Go.Fw Go.RowKit
theorem law01_n_ok {x0 : Int} {r : Zr} (h : law01_n_m x0 = some r) : Pure Try.prog 42 [.v (.int .i64 x0)] (.agg (eZ r)) := by
  refine pure_of_ok Try.func42 rfl (Nat.le_of_ble_eq_true rfl) (fun wld M vs hvs => ?_)
  unfold law01_n_m at h
  refine ok_seq ?_
  refine ok_region ?_
  refine RT.allocI .none (cs := [.v (.bool false), slc 1 (List.map eU32 [])]) (by exact ⟨SV.imp_refl _, imp_nil, trivial⟩) rfl (tl rfl) rfl rfl ?_
  refine RT.done ?_
  refine AThen.n ?_
  refine ok_seq ?_
  refine ok_region ?_
  refine RT.mv .none rfl (tl rfl) ?_
  replace h := bind_some h
  obtain ⟨⟨x4_0, x4_1⟩, h4, h⟩ := h
  refine RT.call .none (whole_FromInt64_ok h4) rfl ⟨rfl, trivial⟩ (tl rfl) ?_
  refine RT.store .none rfl rfl rfl rfl rfl ?_
  refine RT.done ?_
  refine AThen.n ?_
  refine ok_ret ?_
  obtain rfl := Option.some.inj h
  exact ⟨.inr rfl, res_imp (.agg rfl rfl (.cons rfl (.cons rfl (.nil))) rfl (.nil)) (SV.imp_refl _)⟩
theorem law01_is_ok {x0 : Zr} {x1 : Int} {r : Bool} (h : law01_is_m x0 x1 = some r) : Pure Try.prog 43 [.agg (eZ x0), .v (.int .i64 x1)] (.v (.bool r)) := by
  obtain ⟨x0_0, x0_1⟩ := x0
  refine pure_of_ok Try.func43 rfl (Nat.le_of_ble_eq_true rfl) (fun wld M vs hvs => ?_)
  unfold law01_is_m at h
  refine ok_seq ?_
  refine ok_region ?_
  refine RT.box .none rfl (tl rfl) rfl rfl ?_
  refine RT.asg .none rfl (tl rfl) ?_
  refine RT.done ?_
  refine AThen.n ?_
  refine ok_seq ?_
  refine ok_region_draw mixed ?_
  refine RT.load .none rfl rfl (.cons rfl (.cons rfl (.nil))) rfl (tl rfl) ?_
  refine RT.mv .none rfl (tl rfl) ?_
  replace h := bind_some h
  obtain ⟨⟨x7_0, x7_1⟩, h7, h⟩ := h
  refine RT.call .none (ref01_From_ok h7) rfl ⟨rfl, trivial⟩ (tl rfl) ?_
  replace h := bind_some h
  obtain ⟨x8, h8, h⟩ := h
  refine RT.call .none (ref01_Same_ok h8) rfl ⟨rfl, rfl, trivial⟩ (tl rfl) ?_
  refine RT.asg .none rfl (tl rfl) ?_
  refine RT.done ⟨by kernel_rfl, ?_⟩
  refine AThen.n ?_
  refine ok_ret ?_
  obtain rfl := Option.some.inj h
  exact ⟨.inr rfl, res_imp (.tmp rfl (.nil)) (SV.imp_refl _)⟩
theorem law01_alive_ok  {r : Bool} (h : law01_alive_m = some r) : Pure Try.prog 10 [] (.v (.bool r)) := by
  refine pure_of_ok Try.func10 rfl (Nat.le_of_ble_eq_true rfl) (fun wld M vs hvs => ?_)
  unfold law01_alive_m at h
  refine ok_seq ?_
  refine ok_region ?_
  refine RT.asg .none rfl (tl rfl) ?_
  refine RT.done ?_
  refine AThen.n ?_
  refine ok_seq ?_
  refine ok_region ?_
  replace h := bind_some h
  obtain ⟨⟨x13_0, x13_1⟩, h13, h⟩ := h
  refine RT.call .none (law01_n_ok h13) rfl ⟨rfl, trivial⟩ (tl rfl) ?_
  replace h := bind_some h
  obtain ⟨⟨x14_0, x14_1⟩, h14, h⟩ := h
  refine RT.call .none (law01_n_ok h14) rfl ⟨rfl, trivial⟩ (tl rfl) ?_
  replace h := bind_some h
  obtain ⟨⟨⟨x15a_0, x15a_1⟩, ⟨x15b_0, x15b_1⟩, x15c⟩, h15, h⟩ := h
  refine RT.call .none (whole_DivMod_ok h15) rfl ⟨rfl, rfl, trivial⟩ (tl rfl) ?_
  refine RT.mv .none rfl (tl rfl) ?_
  refine RT.extract .none rfl rfl (tl rfl) ?_
  refine RT.extract .none rfl rfl (tl rfl) ?_
  refine RT.extract .none rfl rfl (tl rfl) ?_
  refine RT.allocI .none (cs := [.v (.bool false), slc 1 (List.map eU32 [])]) (by exact ⟨SV.imp_refl _, imp_nil, trivial⟩) rfl (tl rfl) rfl rfl ?_
  refine RT.allocI .none (cs := [.v (.bool false), slc 1 (List.map eU32 [])]) (by exact ⟨SV.imp_refl _, imp_nil, trivial⟩) rfl (tl rfl) rfl rfl ?_
  refine RT.store .none rfl rfl rfl rfl rfl ?_
  refine RT.store .none rfl rfl rfl rfl rfl ?_
  refine RT.asg .none rfl (tl rfl) ?_
  refine RT.done ?_
  refine AThen.n ?_
  refine ok_seq ?_
  refine ok_region ?_
  replace h := bind_some h
  obtain ⟨⟨x20_0, x20_1⟩, h20, h⟩ := h
  refine RT.call .none (law01_n_ok h20) rfl ⟨rfl, trivial⟩ (tl rfl) ?_
  replace h := bind_some h
  obtain ⟨⟨x21_0, x21_1⟩, h21, h⟩ := h
  refine RT.call .none (law01_n_ok h21) rfl ⟨rfl, trivial⟩ (tl rfl) ?_
  replace h := bind_some h
  obtain ⟨⟨⟨x22a_0, x22a_1⟩, ⟨x22b_0, x22b_1⟩, x22c⟩, h22, h⟩ := h
  refine RT.call .none (whole_DivMod_ok h22) rfl ⟨rfl, rfl, trivial⟩ (tl rfl) ?_
  refine RT.mv .none rfl (tl rfl) ?_
  refine RT.extract .none rfl rfl (tl rfl) ?_
  refine RT.extract .none rfl rfl (tl rfl) ?_
  refine RT.extract .none rfl rfl (tl rfl) ?_
  refine RT.allocI .none (cs := [.v (.bool false), slc 1 (List.map eU32 [])]) (by exact ⟨SV.imp_refl _, imp_nil, trivial⟩) rfl (tl rfl) rfl rfl ?_
  refine RT.allocI .none (cs := [.v (.bool false), slc 1 (List.map eU32 [])]) (by exact ⟨SV.imp_refl _, imp_nil, trivial⟩) rfl (tl rfl) rfl rfl ?_
  refine RT.store .none rfl rfl rfl rfl rfl ?_
  refine RT.store .none rfl rfl rfl rfl rfl ?_
  refine RT.asg .none rfl (tl rfl) ?_
  refine RT.done ?_
  refine AThen.n ?_
  refine ok_seq ?_
  refine ok_region ?_
  replace h := bind_some h
  obtain ⟨⟨x27_0, x27_1⟩, h27, h⟩ := h
  refine RT.call .none (law01_n_ok h27) rfl ⟨rfl, trivial⟩ (tl rfl) ?_
  replace h := bind_some h
  obtain ⟨⟨x28_0, x28_1⟩, h28, h⟩ := h
  refine RT.call .none (law01_n_ok h28) rfl ⟨rfl, trivial⟩ (tl rfl) ?_
  replace h := bind_some h
  obtain ⟨⟨⟨x29a_0, x29a_1⟩, ⟨x29b_0, x29b_1⟩, x29c⟩, h29, h⟩ := h
  refine RT.call .none (whole_DivMod_ok h29) rfl ⟨rfl, rfl, trivial⟩ (tl rfl) ?_
  refine RT.mv .none rfl (tl rfl) ?_
  refine RT.extract .none rfl rfl (tl rfl) ?_
  refine RT.extract .none rfl rfl (tl rfl) ?_
  refine RT.extract .none rfl rfl (tl rfl) ?_
  refine RT.allocI .none (cs := [.v (.bool false), slc 1 (List.map eU32 [])]) (by exact ⟨SV.imp_refl _, imp_nil, trivial⟩) rfl (tl rfl) rfl rfl ?_
  refine RT.allocI .none (cs := [.v (.bool false), slc 1 (List.map eU32 [])]) (by exact ⟨SV.imp_refl _, imp_nil, trivial⟩) rfl (tl rfl) rfl rfl ?_
  refine RT.store .none rfl rfl rfl rfl rfl ?_
  refine RT.store .none rfl rfl rfl rfl rfl ?_
  refine RT.asg .none rfl (tl rfl) ?_
  refine RT.done ?_
  refine AThen.n ?_
  refine ok_seq ?_
  refine ok_region ?_
  replace h := bind_some h
  obtain ⟨⟨⟨x34a_0, x34a_1⟩, x34b⟩, h34, h⟩ := h
  refine RT.call .none (whole_Parse_ok h34) rfl ⟨rfl, trivial⟩ (tl rfl) ?_
  refine RT.mv .none rfl (tl rfl) ?_
  refine RT.extract .none rfl rfl (tl rfl) ?_
  refine RT.extract .none rfl rfl (tl rfl) ?_
  refine RT.allocI .none (cs := [.v (.bool false), slc 1 (List.map eU32 [])]) (by exact ⟨SV.imp_refl _, imp_nil, trivial⟩) rfl (tl rfl) rfl rfl ?_
  refine RT.store .none rfl rfl rfl rfl rfl ?_
  refine RT.asg .none rfl (tl rfl) ?_
  refine RT.done ?_
  refine AThen.n ?_
  refine ok_seq ?_
  refine ok_seq ?_
  refine ok_tailJ h (fun j10 => AS.mkL 90 [(1, .ptr 1 0), (2, .ptr 2 0), (4, .ptr 4 0), (5, .ptr 5 0), (7, .ptr 7 0), (8, .ptr 8 0), (50, .sv (.v (.bool j10)))] [(8, ⟨24, [.sv (.v (.bool x29b_0)), .sv (slc 1 (List.map eU32 x29b_1))]⟩), (7, ⟨24, [.sv (.v (.bool x29a_0)), .sv (slc 1 (List.map eU32 x29a_1))]⟩), (5, ⟨24, [.sv (.v (.bool x22b_0)), .sv (slc 1 (List.map eU32 x22b_1))]⟩), (4, ⟨24, [.sv (.v (.bool x22a_0)), .sv (slc 1 (List.map eU32 x22a_1))]⟩), (2, ⟨24, [.sv (.v (.bool x15b_0)), .sv (slc 1 (List.map eU32 x15b_1))]⟩), (1, ⟨24, [.sv (.v (.bool x15a_0)), .sv (slc 1 (List.map eU32 x15a_1))]⟩)] []) (fun h => ?_) (fun y50j9 h => ?_)
  · refine ok_region ?_
    refine RT.mv .none rfl (tl rfl) ?_
    replace h := let_some h
    obtain ⟨x38, h38, h⟩ := h
    refine RT.neq .none _ rfl rfl (tl rfl) (neI (p := x15c) (q := 0) h38) ?_
    refine RT.mv .none rfl (tl rfl) ?_
    replace h := bind_some h
    obtain ⟨c42_99, hg99, h⟩ := h
    cases x38
    · replace hg99 := br_f hg99
      refine RT.mv (.some rfl rfl) rfl (tl rfl) ?_
      replace hg99 := let_some hg99
      obtain ⟨x41, h41, hg99⟩ := hg99
      refine RT.neq (.some rfl rfl) _ rfl rfl (tl rfl) (neI (p := x22c) (q := 0) h41) ?_
      obtain rfl := Option.some.inj hg99
      refine RT.pickF .none rfl rfl (tl rfl) ?_
      refine RT.mv .none rfl (tl rfl) ?_
      replace h := bind_some h
      obtain ⟨c46_100, hg100, h⟩ := h
      cases x41
      · replace hg100 := br_f hg100
        refine RT.mv (.some rfl rfl) rfl (tl rfl) ?_
        replace hg100 := let_some hg100
        obtain ⟨x45, h45, hg100⟩ := hg100
        refine RT.neq (.some rfl rfl) _ rfl rfl (tl rfl) (neI (p := x29c) (q := 0) h45) ?_
        obtain rfl := Option.some.inj hg100
        refine RT.pickF .none rfl rfl (tl rfl) ?_
        refine RT.mv .none rfl (tl rfl) ?_
        replace h := bind_some h
        obtain ⟨c50_101, hg101, h⟩ := h
        cases x45
        · replace hg101 := br_f hg101
          refine RT.mv (.some rfl rfl) rfl (tl rfl) ?_
          replace hg101 := let_some hg101
          obtain ⟨x49, h49, hg101⟩ := hg101
          refine RT.neq (.some rfl rfl) _ rfl rfl (tl rfl) (neI (p := x34b) (q := 3) h49) ?_
          obtain rfl := Option.some.inj hg101
          refine RT.pickF .none rfl rfl (tl rfl) ?_
          refine RT.done ?_
          refine AThen.n ?_
          refine ⟨x49, h, ?_⟩
          try dsimp only
          exact weakL id rfl rfl rfl rfl rfl ⟨.ptr, .ptr, .ptr, .ptr, .ptr, .ptr, .sv (SV.imp_refl _), trivial⟩ ⟨⟨_, rfl, ⟨.sv (SV.imp_refl _), .sv (SV.imp_refl _), trivial⟩⟩, ⟨_, rfl, ⟨.sv (SV.imp_refl _), .sv (SV.imp_refl _), trivial⟩⟩, ⟨_, rfl, ⟨.sv (SV.imp_refl _), .sv (SV.imp_refl _), trivial⟩⟩, ⟨_, rfl, ⟨.sv (SV.imp_refl _), .sv (SV.imp_refl _), trivial⟩⟩, ⟨_, rfl, ⟨.sv (SV.imp_refl _), .sv (SV.imp_refl _), trivial⟩⟩, ⟨_, rfl, ⟨.sv (SV.imp_refl _), .sv (SV.imp_refl _), trivial⟩⟩, trivial⟩ trivial (fun _ _ => rfl)
        · replace hg101 := br_t hg101
          obtain rfl := Option.some.inj hg101
          refine RT.skV rfl rfl (sk rfl) (tl rfl) ?_
          refine RT.skV rfl rfl (sk rfl) (tl rfl) ?_
          refine RT.pickT .none rfl rfl (tl rfl) ?_
          refine RT.done ?_
          refine AThen.n ?_
          refine ⟨true, h, ?_⟩
          try dsimp only
          exact weakL id rfl rfl rfl rfl rfl ⟨.ptr, .ptr, .ptr, .ptr, .ptr, .ptr, .sv (SV.imp_refl _), trivial⟩ ⟨⟨_, rfl, ⟨.sv (SV.imp_refl _), .sv (SV.imp_refl _), trivial⟩⟩, ⟨_, rfl, ⟨.sv (SV.imp_refl _), .sv (SV.imp_refl _), trivial⟩⟩, ⟨_, rfl, ⟨.sv (SV.imp_refl _), .sv (SV.imp_refl _), trivial⟩⟩, ⟨_, rfl, ⟨.sv (SV.imp_refl _), .sv (SV.imp_refl _), trivial⟩⟩, ⟨_, rfl, ⟨.sv (SV.imp_refl _), .sv (SV.imp_refl _), trivial⟩⟩, ⟨_, rfl, ⟨.sv (SV.imp_refl _), .sv (SV.imp_refl _), trivial⟩⟩, trivial⟩ trivial (fun _ _ => rfl)
      · replace hg100 := br_t hg100
        obtain rfl := Option.some.inj hg100
        refine RT.skV rfl rfl (sk rfl) (tl rfl) ?_
        refine RT.skV rfl rfl (sk rfl) (tl rfl) ?_
        refine RT.pickT .none rfl rfl (tl rfl) ?_
        refine RT.mv .none rfl (tl rfl) ?_
        replace h := bind_some h
        obtain ⟨c50_102, hg102, h⟩ := h
        replace hg102 := br_t hg102
        obtain rfl := Option.some.inj hg102
        refine RT.skV rfl rfl (sk rfl) (tl rfl) ?_
        refine RT.skV rfl rfl (sk rfl) (tl rfl) ?_
        refine RT.pickT .none rfl rfl (tl rfl) ?_
        refine RT.done ?_
        refine AThen.n ?_
        refine ⟨true, h, ?_⟩
        try dsimp only
        exact weakL id rfl rfl rfl rfl rfl ⟨.ptr, .ptr, .ptr, .ptr, .ptr, .ptr, .sv (SV.imp_refl _), trivial⟩ ⟨⟨_, rfl, ⟨.sv (SV.imp_refl _), .sv (SV.imp_refl _), trivial⟩⟩, ⟨_, rfl, ⟨.sv (SV.imp_refl _), .sv (SV.imp_refl _), trivial⟩⟩, ⟨_, rfl, ⟨.sv (SV.imp_refl _), .sv (SV.imp_refl _), trivial⟩⟩, ⟨_, rfl, ⟨.sv (SV.imp_refl _), .sv (SV.imp_refl _), trivial⟩⟩, ⟨_, rfl, ⟨.sv (SV.imp_refl _), .sv (SV.imp_refl _), trivial⟩⟩, ⟨_, rfl, ⟨.sv (SV.imp_refl _), .sv (SV.imp_refl _), trivial⟩⟩, trivial⟩ trivial (fun _ _ => rfl)
    · replace hg99 := br_t hg99
      obtain rfl := Option.some.inj hg99
      refine RT.skV rfl rfl (sk rfl) (tl rfl) ?_
      refine RT.skV rfl rfl (sk rfl) (tl rfl) ?_
      refine RT.pickT .none rfl rfl (tl rfl) ?_
      refine RT.mv .none rfl (tl rfl) ?_
      replace h := bind_some h
      obtain ⟨c46_103, hg103, h⟩ := h
      replace hg103 := br_t hg103
      obtain rfl := Option.some.inj hg103
      refine RT.skV rfl rfl (sk rfl) (tl rfl) ?_
      refine RT.skV rfl rfl (sk rfl) (tl rfl) ?_
      refine RT.pickT .none rfl rfl (tl rfl) ?_
      refine RT.mv .none rfl (tl rfl) ?_
      replace h := bind_some h
      obtain ⟨c50_104, hg104, h⟩ := h
      replace hg104 := br_t hg104
      obtain rfl := Option.some.inj hg104
      refine RT.skV rfl rfl (sk rfl) (tl rfl) ?_
      refine RT.skV rfl rfl (sk rfl) (tl rfl) ?_
      refine RT.pickT .none rfl rfl (tl rfl) ?_
      refine RT.done ?_
      refine AThen.n ?_
      refine ⟨true, h, ?_⟩
      try dsimp only
      exact weakL id rfl rfl rfl rfl rfl ⟨.ptr, .ptr, .ptr, .ptr, .ptr, .ptr, .sv (SV.imp_refl _), trivial⟩ ⟨⟨_, rfl, ⟨.sv (SV.imp_refl _), .sv (SV.imp_refl _), trivial⟩⟩, ⟨_, rfl, ⟨.sv (SV.imp_refl _), .sv (SV.imp_refl _), trivial⟩⟩, ⟨_, rfl, ⟨.sv (SV.imp_refl _), .sv (SV.imp_refl _), trivial⟩⟩, ⟨_, rfl, ⟨.sv (SV.imp_refl _), .sv (SV.imp_refl _), trivial⟩⟩, ⟨_, rfl, ⟨.sv (SV.imp_refl _), .sv (SV.imp_refl _), trivial⟩⟩, ⟨_, rfl, ⟨.sv (SV.imp_refl _), .sv (SV.imp_refl _), trivial⟩⟩, trivial⟩ trivial (fun _ _ => rfl)
  · try dsimp only
    refine AThen.n ?_
    cases y50j9
    · replace h := br_f h
      refine ok_condF rfl ?_
      refine ok_skip ?_
      refine AThen.n ?_
      refine ok_seq ?_
      refine ok_tailJ h (fun j55 => AS.mkL 90 [(0, .sv (.v (.bool j55)))] [] []) (fun h => ?_) (fun y0j54 h => ?_)
      · refine ok_region ?_
        refine RT.load .none rfl rfl (.cons rfl (.cons rfl (.nil))) rfl (tl rfl) ?_
        replace h := bind_some h
        obtain ⟨x52, h52, h⟩ := h
        refine RT.call .none (law01_is_ok h52) rfl ⟨rfl, rfl, trivial⟩ (tl rfl) ?_
        refine RT.mv .none rfl (tl rfl) ?_
        replace h := bind_some h
        obtain ⟨c56_56, hg56, h⟩ := h
        cases x52
        · replace hg56 := br_f hg56
          obtain rfl := Option.some.inj hg56
          refine RT.skV rfl rfl (sk rfl) (tl rfl) ?_
          refine RT.skV rfl rfl (sk rfl) (tl rfl) ?_
          refine RT.pickF .none rfl rfl (tl rfl) ?_
          refine RT.mv .none rfl (tl rfl) ?_
          replace h := bind_some h
          obtain ⟨c60_85, hg85, h⟩ := h
          replace hg85 := br_f hg85
          obtain rfl := Option.some.inj hg85
          refine RT.skV rfl rfl (sk rfl) (tl rfl) ?_
          refine RT.skV rfl rfl (sk rfl) (tl rfl) ?_
          refine RT.pickF .none rfl rfl (tl rfl) ?_
          refine RT.mv .none rfl (tl rfl) ?_
          replace h := bind_some h
          obtain ⟨c64_86, hg86, h⟩ := h
          replace hg86 := br_f hg86
          obtain rfl := Option.some.inj hg86
          refine RT.skV rfl rfl (sk rfl) (tl rfl) ?_
          refine RT.skV rfl rfl (sk rfl) (tl rfl) ?_
          refine RT.pickF .none rfl rfl (tl rfl) ?_
          refine RT.mv .none rfl (tl rfl) ?_
          replace h := bind_some h
          obtain ⟨c68_87, hg87, h⟩ := h
          replace hg87 := br_f hg87
          obtain rfl := Option.some.inj hg87
          refine RT.skV rfl rfl (sk rfl) (tl rfl) ?_
          refine RT.skV rfl rfl (sk rfl) (tl rfl) ?_
          refine RT.pickF .none rfl rfl (tl rfl) ?_
          refine RT.mv .none rfl (tl rfl) ?_
          replace h := bind_some h
          obtain ⟨c72_88, hg88, h⟩ := h
          replace hg88 := br_f hg88
          obtain rfl := Option.some.inj hg88
          refine RT.skV rfl rfl (sk rfl) (tl rfl) ?_
          refine RT.skV rfl rfl (sk rfl) (tl rfl) ?_
          refine RT.pickF .none rfl rfl (tl rfl) ?_
          refine RT.mv .none rfl (tl rfl) ?_
          replace h := bind_some h
          obtain ⟨c78_89, hg89, h⟩ := h
          replace hg89 := br_f hg89
          obtain rfl := Option.some.inj hg89
          refine RT.skV rfl rfl (sk rfl) (tl rfl) ?_
          refine RT.skV rfl rfl (sk rfl) (tl rfl) ?_
          refine RT.skV rfl rfl (sk rfl) (tl rfl) ?_
          refine RT.skV rfl rfl (sk rfl) (tl rfl) ?_
          refine RT.pickF .none rfl rfl (tl rfl) ?_
          refine RT.mv .none rfl (tl rfl) ?_
          replace h := bind_some h
          obtain ⟨c84_90, hg90, h⟩ := h
          replace hg90 := br_f hg90
          obtain rfl := Option.some.inj hg90
          refine RT.skV rfl rfl (sk rfl) (tl rfl) ?_
          refine RT.skV rfl rfl (sk rfl) (tl rfl) ?_
          refine RT.skV rfl rfl (sk rfl) (tl rfl) ?_
          refine RT.skV rfl rfl (sk rfl) (tl rfl) ?_
          refine RT.pickF .none rfl rfl (tl rfl) ?_
          refine RT.mv .none rfl (tl rfl) ?_
          replace h := bind_some h
          obtain ⟨c89_91, hg91, h⟩ := h
          replace hg91 := br_f hg91
          obtain rfl := Option.some.inj hg91
          refine RT.skV rfl rfl (sk rfl) (tl rfl) ?_
          refine RT.skV rfl rfl (sk rfl) (tl rfl) ?_
          refine RT.skV rfl rfl (sk rfl) (tl rfl) ?_
          refine RT.pickF .none rfl rfl (tl rfl) ?_
          refine RT.asg .none rfl (tl rfl) ?_
          refine RT.done ?_
          refine AThen.n ?_
          refine ⟨false, h, ?_⟩
          try dsimp only
          exact weakL id rfl rfl rfl rfl rfl ⟨.sv (SV.imp_refl _), trivial⟩ trivial trivial (fun _ _ => rfl)
        · replace hg56 := br_t hg56
          refine RT.load (.some rfl rfl) rfl rfl (.cons rfl (.cons rfl (.nil))) rfl (tl rfl) ?_
          replace hg56 := bind_some hg56
          obtain ⟨x55, h55, hg56⟩ := hg56
          refine RT.call (.some rfl rfl) (law01_is_ok h55) rfl ⟨rfl, rfl, trivial⟩ (tl rfl) ?_
          obtain rfl := Option.some.inj hg56
          refine RT.pickT .none rfl rfl (tl rfl) ?_
          refine RT.mv .none rfl (tl rfl) ?_
          replace h := bind_some h
          obtain ⟨c60_57, hg57, h⟩ := h
          cases x55
          · replace hg57 := br_f hg57
            obtain rfl := Option.some.inj hg57
            refine RT.skV rfl rfl (sk rfl) (tl rfl) ?_
            refine RT.skV rfl rfl (sk rfl) (tl rfl) ?_
            refine RT.pickF .none rfl rfl (tl rfl) ?_
            refine RT.mv .none rfl (tl rfl) ?_
            replace h := bind_some h
            obtain ⟨c64_79, hg79, h⟩ := h
            replace hg79 := br_f hg79
            obtain rfl := Option.some.inj hg79
            refine RT.skV rfl rfl (sk rfl) (tl rfl) ?_
            refine RT.skV rfl rfl (sk rfl) (tl rfl) ?_
            refine RT.pickF .none rfl rfl (tl rfl) ?_
            refine RT.mv .none rfl (tl rfl) ?_
            replace h := bind_some h
            obtain ⟨c68_80, hg80, h⟩ := h
            replace hg80 := br_f hg80
            obtain rfl := Option.some.inj hg80
            refine RT.skV rfl rfl (sk rfl) (tl rfl) ?_
            refine RT.skV rfl rfl (sk rfl) (tl rfl) ?_
            refine RT.pickF .none rfl rfl (tl rfl) ?_
            refine RT.mv .none rfl (tl rfl) ?_
            replace h := bind_some h
            obtain ⟨c72_81, hg81, h⟩ := h
            replace hg81 := br_f hg81
            obtain rfl := Option.some.inj hg81
            refine RT.skV rfl rfl (sk rfl) (tl rfl) ?_
            refine RT.skV rfl rfl (sk rfl) (tl rfl) ?_
            refine RT.pickF .none rfl rfl (tl rfl) ?_
            refine RT.mv .none rfl (tl rfl) ?_
            replace h := bind_some h
            obtain ⟨c78_82, hg82, h⟩ := h
            replace hg82 := br_f hg82
            obtain rfl := Option.some.inj hg82
            refine RT.skV rfl rfl (sk rfl) (tl rfl) ?_
            refine RT.skV rfl rfl (sk rfl) (tl rfl) ?_
            refine RT.skV rfl rfl (sk rfl) (tl rfl) ?_
            refine RT.skV rfl rfl (sk rfl) (tl rfl) ?_
            refine RT.pickF .none rfl rfl (tl rfl) ?_
            refine RT.mv .none rfl (tl rfl) ?_
            replace h := bind_some h
            obtain ⟨c84_83, hg83, h⟩ := h
            replace hg83 := br_f hg83
            obtain rfl := Option.some.inj hg83
            refine RT.skV rfl rfl (sk rfl) (tl rfl) ?_
            refine RT.skV rfl rfl (sk rfl) (tl rfl) ?_
            refine RT.skV rfl rfl (sk rfl) (tl rfl) ?_
            refine RT.skV rfl rfl (sk rfl) (tl rfl) ?_
            refine RT.pickF .none rfl rfl (tl rfl) ?_
            refine RT.mv .none rfl (tl rfl) ?_
            replace h := bind_some h
            obtain ⟨c89_84, hg84, h⟩ := h
            replace hg84 := br_f hg84
            obtain rfl := Option.some.inj hg84
            refine RT.skV rfl rfl (sk rfl) (tl rfl) ?_
            refine RT.skV rfl rfl (sk rfl) (tl rfl) ?_
            refine RT.skV rfl rfl (sk rfl) (tl rfl) ?_
            refine RT.pickF .none rfl rfl (tl rfl) ?_
            refine RT.asg .none rfl (tl rfl) ?_
            refine RT.done ?_
            refine AThen.n ?_
            refine ⟨false, h, ?_⟩
            try dsimp only
            exact weakL id rfl rfl rfl rfl rfl ⟨.sv (SV.imp_refl _), trivial⟩ trivial trivial (fun _ _ => rfl)
          · replace hg57 := br_t hg57
            refine RT.load (.some rfl rfl) rfl rfl (.cons rfl (.cons rfl (.nil))) rfl (tl rfl) ?_
            replace hg57 := bind_some hg57
            obtain ⟨x59, h59, hg57⟩ := hg57
            refine RT.call (.some rfl rfl) (law01_is_ok h59) rfl ⟨rfl, rfl, trivial⟩ (tl rfl) ?_
            obtain rfl := Option.some.inj hg57
            refine RT.pickT .none rfl rfl (tl rfl) ?_
            refine RT.mv .none rfl (tl rfl) ?_
            replace h := bind_some h
            obtain ⟨c64_58, hg58, h⟩ := h
            cases x59
            · replace hg58 := br_f hg58
              obtain rfl := Option.some.inj hg58
              refine RT.skV rfl rfl (sk rfl) (tl rfl) ?_
              refine RT.skV rfl rfl (sk rfl) (tl rfl) ?_
              refine RT.pickF .none rfl rfl (tl rfl) ?_
              refine RT.mv .none rfl (tl rfl) ?_
              replace h := bind_some h
              obtain ⟨c68_74, hg74, h⟩ := h
              replace hg74 := br_f hg74
              obtain rfl := Option.some.inj hg74
              refine RT.skV rfl rfl (sk rfl) (tl rfl) ?_
              refine RT.skV rfl rfl (sk rfl) (tl rfl) ?_
              refine RT.pickF .none rfl rfl (tl rfl) ?_
              refine RT.mv .none rfl (tl rfl) ?_
              replace h := bind_some h
              obtain ⟨c72_75, hg75, h⟩ := h
              replace hg75 := br_f hg75
              obtain rfl := Option.some.inj hg75
              refine RT.skV rfl rfl (sk rfl) (tl rfl) ?_
              refine RT.skV rfl rfl (sk rfl) (tl rfl) ?_
              refine RT.pickF .none rfl rfl (tl rfl) ?_
              refine RT.mv .none rfl (tl rfl) ?_
              replace h := bind_some h
              obtain ⟨c78_76, hg76, h⟩ := h
              replace hg76 := br_f hg76
              obtain rfl := Option.some.inj hg76
              refine RT.skV rfl rfl (sk rfl) (tl rfl) ?_
              refine RT.skV rfl rfl (sk rfl) (tl rfl) ?_
              refine RT.skV rfl rfl (sk rfl) (tl rfl) ?_
              refine RT.skV rfl rfl (sk rfl) (tl rfl) ?_
              refine RT.pickF .none rfl rfl (tl rfl) ?_
              refine RT.mv .none rfl (tl rfl) ?_
              replace h := bind_some h
              obtain ⟨c84_77, hg77, h⟩ := h
              replace hg77 := br_f hg77
              obtain rfl := Option.some.inj hg77
              refine RT.skV rfl rfl (sk rfl) (tl rfl) ?_
              refine RT.skV rfl rfl (sk rfl) (tl rfl) ?_
              refine RT.skV rfl rfl (sk rfl) (tl rfl) ?_
              refine RT.skV rfl rfl (sk rfl) (tl rfl) ?_
              refine RT.pickF .none rfl rfl (tl rfl) ?_
              refine RT.mv .none rfl (tl rfl) ?_
              replace h := bind_some h
              obtain ⟨c89_78, hg78, h⟩ := h
              replace hg78 := br_f hg78
              obtain rfl := Option.some.inj hg78
              refine RT.skV rfl rfl (sk rfl) (tl rfl) ?_
              refine RT.skV rfl rfl (sk rfl) (tl rfl) ?_
              refine RT.skV rfl rfl (sk rfl) (tl rfl) ?_
              refine RT.pickF .none rfl rfl (tl rfl) ?_
              refine RT.asg .none rfl (tl rfl) ?_
              refine RT.done ?_
              refine AThen.n ?_
              refine ⟨false, h, ?_⟩
              try dsimp only
              exact weakL id rfl rfl rfl rfl rfl ⟨.sv (SV.imp_refl _), trivial⟩ trivial trivial (fun _ _ => rfl)
            · replace hg58 := br_t hg58
              refine RT.load (.some rfl rfl) rfl rfl (.cons rfl (.cons rfl (.nil))) rfl (tl rfl) ?_
              replace hg58 := bind_some hg58
              obtain ⟨x63, h63, hg58⟩ := hg58
              refine RT.call (.some rfl rfl) (law01_is_ok h63) rfl ⟨rfl, rfl, trivial⟩ (tl rfl) ?_
              obtain rfl := Option.some.inj hg58
              refine RT.pickT .none rfl rfl (tl rfl) ?_
              refine RT.mv .none rfl (tl rfl) ?_
              replace h := bind_some h
              obtain ⟨c68_59, hg59, h⟩ := h
              cases x63
              · replace hg59 := br_f hg59
                obtain rfl := Option.some.inj hg59
                refine RT.skV rfl rfl (sk rfl) (tl rfl) ?_
                refine RT.skV rfl rfl (sk rfl) (tl rfl) ?_
                refine RT.pickF .none rfl rfl (tl rfl) ?_
                refine RT.mv .none rfl (tl rfl) ?_
                replace h := bind_some h
                obtain ⟨c72_70, hg70, h⟩ := h
                replace hg70 := br_f hg70
                obtain rfl := Option.some.inj hg70
                refine RT.skV rfl rfl (sk rfl) (tl rfl) ?_
                refine RT.skV rfl rfl (sk rfl) (tl rfl) ?_
                refine RT.pickF .none rfl rfl (tl rfl) ?_
                refine RT.mv .none rfl (tl rfl) ?_
                replace h := bind_some h
                obtain ⟨c78_71, hg71, h⟩ := h
                replace hg71 := br_f hg71
                obtain rfl := Option.some.inj hg71
                refine RT.skV rfl rfl (sk rfl) (tl rfl) ?_
                refine RT.skV rfl rfl (sk rfl) (tl rfl) ?_
                refine RT.skV rfl rfl (sk rfl) (tl rfl) ?_
                refine RT.skV rfl rfl (sk rfl) (tl rfl) ?_
                refine RT.pickF .none rfl rfl (tl rfl) ?_
                refine RT.mv .none rfl (tl rfl) ?_
                replace h := bind_some h
                obtain ⟨c84_72, hg72, h⟩ := h
                replace hg72 := br_f hg72
                obtain rfl := Option.some.inj hg72
                refine RT.skV rfl rfl (sk rfl) (tl rfl) ?_
                refine RT.skV rfl rfl (sk rfl) (tl rfl) ?_
                refine RT.skV rfl rfl (sk rfl) (tl rfl) ?_
                refine RT.skV rfl rfl (sk rfl) (tl rfl) ?_
                refine RT.pickF .none rfl rfl (tl rfl) ?_
                refine RT.mv .none rfl (tl rfl) ?_
                replace h := bind_some h
                obtain ⟨c89_73, hg73, h⟩ := h
                replace hg73 := br_f hg73
                obtain rfl := Option.some.inj hg73
                refine RT.skV rfl rfl (sk rfl) (tl rfl) ?_
                refine RT.skV rfl rfl (sk rfl) (tl rfl) ?_
                refine RT.skV rfl rfl (sk rfl) (tl rfl) ?_
                refine RT.pickF .none rfl rfl (tl rfl) ?_
                refine RT.asg .none rfl (tl rfl) ?_
                refine RT.done ?_
                refine AThen.n ?_
                refine ⟨false, h, ?_⟩
                try dsimp only
                exact weakL id rfl rfl rfl rfl rfl ⟨.sv (SV.imp_refl _), trivial⟩ trivial trivial (fun _ _ => rfl)
              · replace hg59 := br_t hg59
                refine RT.load (.some rfl rfl) rfl rfl (.cons rfl (.cons rfl (.nil))) rfl (tl rfl) ?_
                replace hg59 := bind_some hg59
                obtain ⟨x67, h67, hg59⟩ := hg59
                refine RT.call (.some rfl rfl) (law01_is_ok h67) rfl ⟨rfl, rfl, trivial⟩ (tl rfl) ?_
                obtain rfl := Option.some.inj hg59
                refine RT.pickT .none rfl rfl (tl rfl) ?_
                refine RT.mv .none rfl (tl rfl) ?_
                replace h := bind_some h
                obtain ⟨c72_60, hg60, h⟩ := h
                cases x67
                · replace hg60 := br_f hg60
                  obtain rfl := Option.some.inj hg60
                  refine RT.skV rfl rfl (sk rfl) (tl rfl) ?_
                  refine RT.skV rfl rfl (sk rfl) (tl rfl) ?_
                  refine RT.pickF .none rfl rfl (tl rfl) ?_
                  refine RT.mv .none rfl (tl rfl) ?_
                  replace h := bind_some h
                  obtain ⟨c78_67, hg67, h⟩ := h
                  replace hg67 := br_f hg67
                  obtain rfl := Option.some.inj hg67
                  refine RT.skV rfl rfl (sk rfl) (tl rfl) ?_
                  refine RT.skV rfl rfl (sk rfl) (tl rfl) ?_
                  refine RT.skV rfl rfl (sk rfl) (tl rfl) ?_
                  refine RT.skV rfl rfl (sk rfl) (tl rfl) ?_
                  refine RT.pickF .none rfl rfl (tl rfl) ?_
                  refine RT.mv .none rfl (tl rfl) ?_
                  replace h := bind_some h
                  obtain ⟨c84_68, hg68, h⟩ := h
                  replace hg68 := br_f hg68
                  obtain rfl := Option.some.inj hg68
                  refine RT.skV rfl rfl (sk rfl) (tl rfl) ?_
                  refine RT.skV rfl rfl (sk rfl) (tl rfl) ?_
                  refine RT.skV rfl rfl (sk rfl) (tl rfl) ?_
                  refine RT.skV rfl rfl (sk rfl) (tl rfl) ?_
                  refine RT.pickF .none rfl rfl (tl rfl) ?_
                  refine RT.mv .none rfl (tl rfl) ?_
                  replace h := bind_some h
                  obtain ⟨c89_69, hg69, h⟩ := h
                  replace hg69 := br_f hg69
                  obtain rfl := Option.some.inj hg69
                  refine RT.skV rfl rfl (sk rfl) (tl rfl) ?_
                  refine RT.skV rfl rfl (sk rfl) (tl rfl) ?_
                  refine RT.skV rfl rfl (sk rfl) (tl rfl) ?_
                  refine RT.pickF .none rfl rfl (tl rfl) ?_
                  refine RT.asg .none rfl (tl rfl) ?_
                  refine RT.done ?_
                  refine AThen.n ?_
                  refine ⟨false, h, ?_⟩
                  try dsimp only
                  exact weakL id rfl rfl rfl rfl rfl ⟨.sv (SV.imp_refl _), trivial⟩ trivial trivial (fun _ _ => rfl)
                · replace hg60 := br_t hg60
                  refine RT.load (.some rfl rfl) rfl rfl (.cons rfl (.cons rfl (.nil))) rfl (tl rfl) ?_
                  replace hg60 := bind_some hg60
                  obtain ⟨x71, h71, hg60⟩ := hg60
                  refine RT.call (.some rfl rfl) (law01_is_ok h71) rfl ⟨rfl, rfl, trivial⟩ (tl rfl) ?_
                  obtain rfl := Option.some.inj hg60
                  refine RT.pickT .none rfl rfl (tl rfl) ?_
                  refine RT.mv .none rfl (tl rfl) ?_
                  replace h := bind_some h
                  obtain ⟨c78_61, hg61, h⟩ := h
                  cases x71
                  · replace hg61 := br_f hg61
                    obtain rfl := Option.some.inj hg61
                    refine RT.skV rfl rfl (sk rfl) (tl rfl) ?_
                    refine RT.skV rfl rfl (sk rfl) (tl rfl) ?_
                    refine RT.skV rfl rfl (sk rfl) (tl rfl) ?_
                    refine RT.skV rfl rfl (sk rfl) (tl rfl) ?_
                    refine RT.pickF .none rfl rfl (tl rfl) ?_
                    refine RT.mv .none rfl (tl rfl) ?_
                    replace h := bind_some h
                    obtain ⟨c84_65, hg65, h⟩ := h
                    replace hg65 := br_f hg65
                    obtain rfl := Option.some.inj hg65
                    refine RT.skV rfl rfl (sk rfl) (tl rfl) ?_
                    refine RT.skV rfl rfl (sk rfl) (tl rfl) ?_
                    refine RT.skV rfl rfl (sk rfl) (tl rfl) ?_
                    refine RT.skV rfl rfl (sk rfl) (tl rfl) ?_
                    refine RT.pickF .none rfl rfl (tl rfl) ?_
                    refine RT.mv .none rfl (tl rfl) ?_
                    replace h := bind_some h
                    obtain ⟨c89_66, hg66, h⟩ := h
                    replace hg66 := br_f hg66
                    obtain rfl := Option.some.inj hg66
                    refine RT.skV rfl rfl (sk rfl) (tl rfl) ?_
                    refine RT.skV rfl rfl (sk rfl) (tl rfl) ?_
                    refine RT.skV rfl rfl (sk rfl) (tl rfl) ?_
                    refine RT.pickF .none rfl rfl (tl rfl) ?_
                    refine RT.asg .none rfl (tl rfl) ?_
                    refine RT.done ?_
                    refine AThen.n ?_
                    refine ⟨false, h, ?_⟩
                    try dsimp only
                    exact weakL id rfl rfl rfl rfl rfl ⟨.sv (SV.imp_refl _), trivial⟩ trivial trivial (fun _ _ => rfl)
                  · replace hg61 := br_t hg61
                    replace hg61 := bind_some hg61
                    obtain ⟨⟨x74_0, x74_1⟩, h74, hg61⟩ := hg61
                    refine RT.call (.some rfl rfl) (law01_n_ok h74) rfl ⟨rfl, trivial⟩ (tl rfl) ?_
                    replace hg61 := bind_some hg61
                    obtain ⟨⟨x75_0, x75_1⟩, h75, hg61⟩ := hg61
                    refine RT.call (.some rfl rfl) (law01_n_ok h75) rfl ⟨rfl, trivial⟩ (tl rfl) ?_
                    replace hg61 := bind_some hg61
                    obtain ⟨⟨x76_0, x76_1⟩, h76, hg61⟩ := hg61
                    refine RT.call (.some rfl rfl) (whole_GCD_ok h76) rfl ⟨rfl, rfl, trivial⟩ (tl rfl) ?_
                    replace hg61 := bind_some hg61
                    obtain ⟨x77, h77, hg61⟩ := hg61
                    refine RT.call (.some rfl rfl) (law01_is_ok h77) rfl ⟨rfl, rfl, trivial⟩ (tl rfl) ?_
                    obtain rfl := Option.some.inj hg61
                    refine RT.pickT .none rfl rfl (tl rfl) ?_
                    refine RT.mv .none rfl (tl rfl) ?_
                    replace h := bind_some h
                    obtain ⟨c84_62, hg62, h⟩ := h
                    cases x77
                    · replace hg62 := br_f hg62
                      obtain rfl := Option.some.inj hg62
                      refine RT.skV rfl rfl (sk rfl) (tl rfl) ?_
                      refine RT.skV rfl rfl (sk rfl) (tl rfl) ?_
                      refine RT.skV rfl rfl (sk rfl) (tl rfl) ?_
                      refine RT.skV rfl rfl (sk rfl) (tl rfl) ?_
                      refine RT.pickF .none rfl rfl (tl rfl) ?_
                      refine RT.mv .none rfl (tl rfl) ?_
                      replace h := bind_some h
                      obtain ⟨c89_64, hg64, h⟩ := h
                      replace hg64 := br_f hg64
                      obtain rfl := Option.some.inj hg64
                      refine RT.skV rfl rfl (sk rfl) (tl rfl) ?_
                      refine RT.skV rfl rfl (sk rfl) (tl rfl) ?_
                      refine RT.skV rfl rfl (sk rfl) (tl rfl) ?_
                      refine RT.pickF .none rfl rfl (tl rfl) ?_
                      refine RT.asg .none rfl (tl rfl) ?_
                      refine RT.done ?_
                      refine AThen.n ?_
                      refine ⟨false, h, ?_⟩
                      try dsimp only
                      exact weakL id rfl rfl rfl rfl rfl ⟨.sv (SV.imp_refl _), trivial⟩ trivial trivial (fun _ _ => rfl)
                    · replace hg62 := br_t hg62
                      replace hg62 := bind_some hg62
                      obtain ⟨⟨x80_0, x80_1⟩, h80, hg62⟩ := hg62
                      refine RT.call (.some rfl rfl) (law01_n_ok h80) rfl ⟨rfl, trivial⟩ (tl rfl) ?_
                      replace hg62 := bind_some hg62
                      obtain ⟨⟨x81_0, x81_1⟩, h81, hg62⟩ := hg62
                      refine RT.call (.some rfl rfl) (law01_n_ok h81) rfl ⟨rfl, trivial⟩ (tl rfl) ?_
                      replace hg62 := bind_some hg62
                      obtain ⟨⟨x82_0, x82_1⟩, h82, hg62⟩ := hg62
                      refine RT.call (.some rfl rfl) (whole_GCD_ok h82) rfl ⟨rfl, rfl, trivial⟩ (tl rfl) ?_
                      replace hg62 := bind_some hg62
                      obtain ⟨x83, h83, hg62⟩ := hg62
                      refine RT.call (.some rfl rfl) (law01_is_ok h83) rfl ⟨rfl, rfl, trivial⟩ (tl rfl) ?_
                      obtain rfl := Option.some.inj hg62
                      refine RT.pickT .none rfl rfl (tl rfl) ?_
                      refine RT.mv .none rfl (tl rfl) ?_
                      replace h := bind_some h
                      obtain ⟨c89_63, hg63, h⟩ := h
                      cases x83
                      · replace hg63 := br_f hg63
                        obtain rfl := Option.some.inj hg63
                        refine RT.skV rfl rfl (sk rfl) (tl rfl) ?_
                        refine RT.skV rfl rfl (sk rfl) (tl rfl) ?_
                        refine RT.skV rfl rfl (sk rfl) (tl rfl) ?_
                        refine RT.pickF .none rfl rfl (tl rfl) ?_
                        refine RT.asg .none rfl (tl rfl) ?_
                        refine RT.done ?_
                        refine AThen.n ?_
                        refine ⟨false, h, ?_⟩
                        try dsimp only
                        exact weakL id rfl rfl rfl rfl rfl ⟨.sv (SV.imp_refl _), trivial⟩ trivial trivial (fun _ _ => rfl)
                      · replace hg63 := br_t hg63
                        replace hg63 := bind_some hg63
                        obtain ⟨⟨x86_0, x86_1⟩, h86, hg63⟩ := hg63
                        refine RT.call (.some rfl rfl) (law01_n_ok h86) rfl ⟨rfl, trivial⟩ (tl rfl) ?_
                        replace hg63 := bind_some hg63
                        obtain ⟨x87, h87, hg63⟩ := hg63
                        refine RT.call (.some rfl rfl) (whole_Format_ok h87) rfl ⟨rfl, trivial⟩ (tl rfl) ?_
                        replace hg63 := let_some hg63
                        obtain ⟨x88, h88, hg63⟩ := hg63
                        refine RT.seql (l := x87) (k := [45, 57, 50, 50, 51, 51, 55, 50, 48, 51, 54, 56, 53, 52, 55, 55, 53, 56, 48, 56]) (.some rfl rfl) rfl rfl (tl rfl) h88 ?_
                        obtain rfl := Option.some.inj hg63
                        refine RT.pickT .none rfl rfl (tl rfl) ?_
                        refine RT.asg .none rfl (tl rfl) ?_
                        refine RT.done ?_
                        refine AThen.n ?_
                        refine ⟨x88, h, ?_⟩
                        try dsimp only
                        exact weakL id rfl rfl rfl rfl rfl ⟨.sv (SV.imp_refl _), trivial⟩ trivial trivial (fun _ _ => rfl)
      · try dsimp only
        refine AThen.n ?_
        refine ok_ret ?_
        obtain rfl := Option.some.inj h
        exact ⟨.inr rfl, res_imp (.tmp rfl (.nil)) (SV.imp_refl _)⟩
    · replace h := br_t h
      refine ok_condT rfl ?_
      refine ok_seq ?_
      refine ok_region ?_
      refine RT.asg .none rfl (tl rfl) ?_
      refine RT.done ?_
      refine AThen.n ?_
      refine ok_ret ?_
      refine AThen.r ?_
      obtain rfl := Option.some.inj h
      exact ⟨.inr rfl, res_imp (.tmp rfl (.nil)) (SV.imp_refl _)⟩
theorem law01_Long_ok {x0 : List Zr} {r : Bool} (h : law01_Long_m x0 = some r) : Pure Try.prog 9 [slc 2 (List.map eZ x0)] (.v (.bool r)) := by
  refine pure_of_ok Try.func9 rfl (Nat.le_of_ble_eq_true rfl) (fun wld M vs hvs => ?_)
  unfold law01_Long_m at h
  refine ok_seq ?_
  refine ok_region ?_
  refine RT.asg .none rfl (tl rfl) ?_
  refine RT.done ?_
  refine AThen.n ?_
  refine ok_seq ?_
  refine ok_seq ?_
  refine ok_region ?_
  refine RT.asg .none rfl (tl rfl) ?_
  refine RT.done ?_
  refine AThen.n ?_
  replace h := bind_some h
  obtain ⟨e6, hl6, ho6⟩ := h
  refine ok_tailP (fun (xe6 : Unit) => AS.mkL 17 [] [] []) (fun xe6 => .inl xe6 = e6) ?_ (fun xe6 hx6 => ?_)
  · refine ok_block ?_
    refine ok_loopM hl6 (fun s6 => AS.mkL 17 [(0, .sv (slc 2 (List.map eZ x0))), (3, .sv (.v (.int .i64 s6)))] [] []) (by (try dsimp only); exact weakL id rfl rfl rfl rfl rfl ⟨.sv (SV.imp_refl _), .sv (SV.imp_refl _), trivial⟩ trivial trivial (fun _ _ => rfl)) (fun y3l3 y6 G6 h hG6 hE6 => ?_)
    try dsimp only
    refine ok_seq ?_
    refine ok_seq ?_
    refine ok_region ?_
    refine RT.mv .none rfl (tl rfl) ?_
    refine RT.mv .none rfl (tl rfl) ?_
    replace h := let_some h
    obtain ⟨x6, h6, h⟩ := h
    refine RT.lenM .none rfl (tl rfl) h6 ?_
    replace h := let_some h
    obtain ⟨x7, h7, h⟩ := h
    refine RT.lss .none _ rfl rfl (tl rfl) h7 ?_
    refine RT.done ?_
    refine AThen.n ?_
    cases x7
    · replace h := br_f h
      refine ok_condF rfl ?_
      refine ok_exit ?_
      refine AThen.x ?_
      refine AThen.x ?_
      refine AInB.x ?_
      refine AThen.n ?_
      obtain rfl := Option.some.inj h
      refine ⟨(), hE6 _ rfl, ?_⟩
      try dsimp only
      exact weakL id rfl rfl rfl rfl rfl trivial trivial trivial (fun _ _ => rfl)
    · replace h := br_t h
      refine ok_condT rfl ?_
      refine ok_skip ?_
      refine AThen.n ?_
      refine ok_seq ?_
      refine ok_block ?_
      refine ok_seq ?_
      refine ok_region ?_
      refine RT.mv .none rfl (tl rfl) ?_
      refine RT.mv .none rfl (tl rfl) ?_
      replace h := bind_some h
      obtain ⟨⟨x12_0, x12_1⟩, h12, h⟩ := h
      refine RT.ixM .none rfl rfl (tl rfl) h12 ?_
      refine RT.fieldAddrR .none rfl (tl rfl) rfl ?_
      refine RT.loadRV .none rfl rfl (tl rfl) ?_
      replace h := let_some h
      obtain ⟨x15, h15, h⟩ := h
      refine RT.lenM .none rfl (tl rfl) h15 ?_
      replace h := let_some h
      obtain ⟨x16, h16, h⟩ := h
      refine RT.gtr .none _ rfl rfl (tl rfl) h16 ?_
      refine RT.done ?_
      refine AThen.n ?_
      cases x16
      · replace h := br_f h
        refine ok_condF rfl ?_
        refine ok_skip ?_
        refine AInB.n ?_
        refine AThen.n ?_
        refine ok_region ?_
        refine RT.mv .none rfl (tl rfl) ?_
        replace h := let_some h
        obtain ⟨x9, h9, h⟩ := h
        refine RT.add .none _ rfl rfl (tl rfl) h9 ?_
        refine RT.asg .none rfl (tl rfl) ?_
        refine RT.done ?_
        obtain rfl := Option.some.inj h
        refine AThen.n ⟨x9, hG6 _ rfl, ?_⟩
        try dsimp only
        exact weakL id rfl rfl rfl rfl rfl ⟨.sv (SV.imp_refl _), .sv (SV.imp_refl _), trivial⟩ trivial trivial (fun _ _ => rfl)
      · replace h := br_t h
        refine ok_condT rfl ?_
        refine ok_seq ?_
        refine ok_region ?_
        refine RT.asg .none rfl (tl rfl) ?_
        refine RT.done ?_
        refine AThen.n ?_
        refine ok_ret ?_
        refine AInB.r ?_
        refine AThen.r ?_
        obtain rfl := Option.some.inj h
        have he6 := hE6 _ rfl
        subst he6
        refine AThen.r ?_
        refine AInB.r ?_
        refine AThen.r ?_
        refine AThen.r ?_
        obtain rfl := Option.some.inj ho6
        exact ⟨.inr rfl, res_imp (.tmp rfl (.nil)) (SV.imp_refl _)⟩
  · subst hx6
    try dsimp only
    refine AThen.n ?_
    refine ok_seq ?_
    refine ok_region ?_
    refine RT.asg .none rfl (tl rfl) ?_
    refine RT.done ?_
    refine AThen.n ?_
    refine ok_ret ?_
    obtain rfl := Option.some.inj ho6
    exact ⟨.inr rfl, res_imp (.tmp rfl (.nil)) (SV.imp_refl _)⟩
end Go.Proofs.Ytgkafblpckcekaa
namespace Go.Proofs.Ytgkafblpckcekaa
open Go.Fw Go.RowKit
theorem ref01_cmp_ok {x0 : List Int} {x1 : List Int} {r : Int} (h : ref01_cmp_m x0 x1 = some r) : Pure Try.prog 68 [slc 1 (List.map eI64 x0), slc 1 (List.map eI64 x1)] (.v (.int .i64 r)) := by
  refine pure_of_ok Try.func68 rfl (Nat.le_of_ble_eq_true rfl) (fun wld M vs hvs => ?_)
  unfold ref01_cmp_m at h
  refine ok_seq ?_
  refine ok_region ?_
  refine RT.asg .none rfl (tl rfl) ?_
  refine RT.done ?_
  refine AThen.n ?_
  refine ok_seq ?_
  refine ok_seq ?_
  refine ok_region ?_
  refine RT.mv .none rfl (tl rfl) ?_
  replace h := let_some h
  obtain ⟨x7, h7, h⟩ := h
  refine RT.lenM .none rfl (tl rfl) h7 ?_
  refine RT.mv .none rfl (tl rfl) ?_
  replace h := let_some h
  obtain ⟨x9, h9, h⟩ := h
  refine RT.lenM .none rfl (tl rfl) h9 ?_
  replace h := let_some h
  obtain ⟨x10, h10, h⟩ := h
  refine RT.max .none _ rfl rfl (tl rfl) (maxI (p := x7) (q := x9) h10) ?_
  replace h := let_some h
  obtain ⟨x11, h11, h⟩ := h
  refine RT.sub .none _ rfl rfl (tl rfl) h11 ?_
  refine RT.asg .none rfl (tl rfl) ?_
  refine RT.done ?_
  refine AThen.n ?_
  replace h := bind_some h
  obtain ⟨e6, hl6, ho6⟩ := h
  refine ok_tailP (fun (xe6 : Unit) => AS.mkL 30 [] [] []) (fun xe6 => .inl xe6 = e6) ?_ (fun xe6 hx6 => ?_)
  · refine ok_block ?_
    refine ok_loopM hl6 (fun s6 => AS.mkL 30 [(0, .sv (slc 1 (List.map eI64 x0))), (1, .sv (slc 1 (List.map eI64 x1))), (5, .sv (.v (.int .i64 s6)))] [] []) (by (try dsimp only); exact weakL id rfl rfl rfl rfl rfl ⟨.sv (SV.imp_refl _), .sv (SV.imp_refl _), .sv (SV.imp_refl _), trivial⟩ trivial trivial (fun _ _ => rfl)) (fun y5l3 y6 G6 h hG6 hE6 => ?_)
    try dsimp only
    refine ok_seq ?_
    refine ok_seq ?_
    refine ok_region ?_
    refine RT.mv .none rfl (tl rfl) ?_
    replace h := let_some h
    obtain ⟨x13, h13, h⟩ := h
    refine RT.geq .none _ rfl rfl (tl rfl) h13 ?_
    refine RT.done ?_
    refine AThen.n ?_
    cases x13
    · replace h := br_f h
      refine ok_condF rfl ?_
      refine ok_exit ?_
      refine AThen.x ?_
      refine AThen.x ?_
      refine AInB.x ?_
      refine AThen.n ?_
      obtain rfl := Option.some.inj h
      refine ⟨(), hE6 _ rfl, ?_⟩
      try dsimp only
      exact weakL id rfl rfl rfl rfl rfl trivial trivial trivial (fun _ _ => rfl)
    · replace h := br_t h
      refine ok_condT rfl ?_
      refine ok_skip ?_
      refine AThen.n ?_
      refine ok_seq ?_
      refine ok_block ?_
      refine ok_seq ?_
      refine ok_seq ?_
      refine ok_region ?_
      refine RT.mv .none rfl (tl rfl) ?_
      refine RT.mv .none rfl (tl rfl) ?_
      replace h := bind_some h
      obtain ⟨x18, h18, h⟩ := h
      refine RT.call .none (ref01_at_ok h18) rfl ⟨rfl, rfl, trivial⟩ (tl rfl) ?_
      refine RT.mv .none rfl (tl rfl) ?_
      refine RT.mv .none rfl (tl rfl) ?_
      replace h := bind_some h
      obtain ⟨x21, h21, h⟩ := h
      refine RT.call .none (ref01_at_ok h21) rfl ⟨rfl, rfl, trivial⟩ (tl rfl) ?_
      replace h := let_some h
      obtain ⟨x22, h22, h⟩ := h
      refine RT.lss .none _ rfl rfl (tl rfl) h22 ?_
      refine RT.done ?_
      refine AThen.n ?_
      cases x22
      · replace h := br_f h
        refine ok_condF rfl ?_
        refine ok_skip ?_
        refine AThen.n ?_
        refine ok_seq ?_
        refine ok_region ?_
        refine RT.mv .none rfl (tl rfl) ?_
        refine RT.mv .none rfl (tl rfl) ?_
        replace h := bind_some h
        obtain ⟨x25, h25, h⟩ := h
        refine RT.call .none (ref01_at_ok h25) rfl ⟨rfl, rfl, trivial⟩ (tl rfl) ?_
        refine RT.mv .none rfl (tl rfl) ?_
        refine RT.mv .none rfl (tl rfl) ?_
        replace h := bind_some h
        obtain ⟨x28, h28, h⟩ := h
        refine RT.call .none (ref01_at_ok h28) rfl ⟨rfl, rfl, trivial⟩ (tl rfl) ?_
        replace h := let_some h
        obtain ⟨x29, h29, h⟩ := h
        refine RT.gtr .none _ rfl rfl (tl rfl) h29 ?_
        refine RT.done ?_
        refine AThen.n ?_
        cases x29
        · replace h := br_f h
          refine ok_condF rfl ?_
          refine ok_skip ?_
          refine AInB.n ?_
          refine AThen.n ?_
          refine ok_region ?_
          refine RT.mv .none rfl (tl rfl) ?_
          replace h := let_some h
          obtain ⟨x15, h15, h⟩ := h
          refine RT.sub .none _ rfl rfl (tl rfl) h15 ?_
          refine RT.asg .none rfl (tl rfl) ?_
          refine RT.done ?_
          obtain rfl := Option.some.inj h
          refine AThen.n ⟨x15, hG6 _ rfl, ?_⟩
          try dsimp only
          exact weakL id rfl rfl rfl rfl rfl ⟨.sv (SV.imp_refl _), .sv (SV.imp_refl _), .sv (SV.imp_refl _), trivial⟩ trivial trivial (fun _ _ => rfl)
        · replace h := br_t h
          refine ok_condT rfl ?_
          refine ok_seq ?_
          refine ok_region ?_
          refine RT.asg .none rfl (tl rfl) ?_
          refine RT.done ?_
          refine AThen.n ?_
          refine ok_ret ?_
          refine AInB.r ?_
          refine AThen.r ?_
          obtain rfl := Option.some.inj h
          have he6 := hE6 _ rfl
          subst he6
          refine AThen.r ?_
          refine AInB.r ?_
          refine AThen.r ?_
          refine AThen.r ?_
          obtain rfl := Option.some.inj ho6
          exact ⟨.inr rfl, res_imp (.tmp rfl (.nil)) (SV.imp_refl _)⟩
      · replace h := br_t h
        refine ok_condT rfl ?_
        refine ok_seq ?_
        refine ok_region ?_
        refine RT.asg .none rfl (tl rfl) ?_
        refine RT.done ?_
        refine AThen.n ?_
        refine ok_ret ?_
        refine AThen.r ?_
        refine AInB.r ?_
        refine AThen.r ?_
        obtain rfl := Option.some.inj h
        have he6 := hE6 _ rfl
        subst he6
        refine AThen.r ?_
        refine AInB.r ?_
        refine AThen.r ?_
        refine AThen.r ?_
        obtain rfl := Option.some.inj ho6
        exact ⟨.inr rfl, res_imp (.tmp rfl (.nil)) (SV.imp_refl _)⟩
  · subst hx6
    try dsimp only
    refine AThen.n ?_
    refine ok_seq ?_
    refine ok_region ?_
    refine RT.asg .none rfl (tl rfl) ?_
    refine RT.done ?_
    refine AThen.n ?_
    refine ok_ret ?_
    obtain rfl := Option.some.inj ho6
    exact ⟨.inr rfl, res_imp (.tmp rfl (.nil)) (SV.imp_refl _)⟩
theorem ref01_add_ok {x0 : List Int} {x1 : List Int} {r : List Int} (h : ref01_add_m x0 x1 = some r) : Pure Try.prog 51 [slc 1 (List.map eI64 x0), slc 1 (List.map eI64 x1)] (slc 1 (List.map eI64 r)) := by
  refine pure_of_ok Try.func51 rfl (Nat.le_of_ble_eq_true rfl) (fun wld M vs hvs => ?_)
  unfold ref01_add_m at h
  refine ok_seq ?_
  refine ok_region ?_
  refine RT.asgI .none rfl (imp_nil (n := 1) (e := eI64)) (tl rfl) ?_
  refine RT.done ?_
  refine AThen.n ?_
  refine ok_seq ?_
  refine ok_region ?_
  refine RT.asg .none rfl (tl rfl) ?_
  refine RT.done ?_
  refine AThen.n ?_
  refine ok_weak (weak_nil 5 304 3 1 rfl rfl (tl rfl)) ?_
  refine ok_seq ?_
  refine ok_region ?_
  refine RT.asg .none rfl (tl rfl) ?_
  refine RT.done ?_
  refine AThen.n ?_
  refine ok_seq ?_
  refine ok_seq ?_
  refine ok_region ?_
  refine RT.asg .none rfl (tl rfl) ?_
  refine RT.done ?_
  refine AThen.n ?_
  replace h := bind_some h
  obtain ⟨e16, hl16, ho16⟩ := h
  refine ok_tailP (fun (r306e15 : (List Int)) => AS.mkL 43 [(5, .row 306)] [] [(306, TR 3 1 eI64 r306e15)]) (fun r306e15 => r306e15 = e16) ?_ (fun r306e15 hx16 => ?_)
  · refine ok_block ?_
    refine ok_loopM hl16 (fun s16 => AS.mkL 43 [(0, .sv (slc 1 (List.map eI64 x0))), (1, .sv (slc 1 (List.map eI64 x1))), (5, .row 306), (6, .sv (.v (.int .i64 s16.1))), (7, .sv (.v (.int .i64 s16.2.1)))] [] [(306, TR 3 1 eI64 s16.2.2)]) (by (try dsimp only); exact weakL (fun i => bif Nat.beq i 306 then 304 else i) rfl rfl rfl rfl rfl ⟨.sv (SV.imp_refl _), .sv (SV.imp_refl _), .row rfl, .sv (SV.imp_refl _), .sv (SV.imp_refl _), trivial⟩ trivial ⟨⟨_, rfl, SVIs.refl _⟩, trivial⟩ (fun i hi => by rw [beq_ne (show i ≠ 306 by omega)]; rfl)) (fun s16 y16 G16 h hG16 hE16 => ?_)
    obtain ⟨y6l8, y7l8, r306l8⟩ := s16
    try dsimp only
    refine ok_seq ?_
    refine ok_seq ?_
    refine ok_tailJ h (fun j22 => AS.mkL 43 [(0, .sv (slc 1 (List.map eI64 x0))), (1, .sv (slc 1 (List.map eI64 x1))), (5, .row 306), (6, .sv (.v (.int .i64 y6l8))), (7, .sv (.v (.int .i64 y7l8))), (22, .sv (.v (.bool j22)))] [] [(306, TR 3 1 eI64 r306l8)]) (fun h => ?_) (fun y22j21 h => ?_)
    · refine ok_region ?_
      refine RT.mv .none rfl (tl rfl) ?_
      refine RT.mv .none rfl (tl rfl) ?_
      replace h := let_some h
      obtain ⟨x11, h11, h⟩ := h
      refine RT.lenM .none rfl (tl rfl) h11 ?_
      replace h := let_some h
      obtain ⟨x12, h12, h⟩ := h
      refine RT.lss .none _ rfl rfl (tl rfl) h12 ?_
      refine RT.mv .none rfl (tl rfl) ?_
      replace h := bind_some h
      obtain ⟨c18_23, hg23, h⟩ := h
      cases x12
      · replace hg23 := br_f hg23
        refine RT.mv (.some rfl rfl) rfl (tl rfl) ?_
        refine RT.mv (.some rfl rfl) rfl (tl rfl) ?_
        replace hg23 := let_some hg23
        obtain ⟨x16, h16, hg23⟩ := hg23
        refine RT.lenM (.some rfl rfl) rfl (tl rfl) h16 ?_
        replace hg23 := let_some hg23
        obtain ⟨x17, h17, hg23⟩ := hg23
        refine RT.lss (.some rfl rfl) _ rfl rfl (tl rfl) h17 ?_
        obtain rfl := Option.some.inj hg23
        refine RT.pickF .none rfl rfl (tl rfl) ?_
        refine RT.mv .none rfl (tl rfl) ?_
        replace h := bind_some h
        obtain ⟨c22_24, hg24, h⟩ := h
        cases x17
        · replace hg24 := br_f hg24
          refine RT.mv (.some rfl rfl) rfl (tl rfl) ?_
          replace hg24 := let_some hg24
          obtain ⟨x21, h21, hg24⟩ := hg24
          refine RT.gtr (.some rfl rfl) _ rfl rfl (tl rfl) h21 ?_
          obtain rfl := Option.some.inj hg24
          refine RT.pickF .none rfl rfl (tl rfl) ?_
          refine RT.done ?_
          refine AThen.n ?_
          refine ⟨x21, h, ?_⟩
          try dsimp only
          exact weakL id rfl rfl rfl rfl rfl ⟨.sv (SV.imp_refl _), .sv (SV.imp_refl _), .row rfl, .sv (SV.imp_refl _), .sv (SV.imp_refl _), .sv (SV.imp_refl _), trivial⟩ trivial ⟨⟨_, rfl, SVIs.refl _⟩, trivial⟩ (fun _ _ => rfl)
        · replace hg24 := br_t hg24
          obtain rfl := Option.some.inj hg24
          refine RT.skV rfl rfl (sk rfl) (tl rfl) ?_
          refine RT.skV rfl rfl (sk rfl) (tl rfl) ?_
          refine RT.pickT .none rfl rfl (tl rfl) ?_
          refine RT.done ?_
          refine AThen.n ?_
          refine ⟨true, h, ?_⟩
          try dsimp only
          exact weakL id rfl rfl rfl rfl rfl ⟨.sv (SV.imp_refl _), .sv (SV.imp_refl _), .row rfl, .sv (SV.imp_refl _), .sv (SV.imp_refl _), .sv (SV.imp_refl _), trivial⟩ trivial ⟨⟨_, rfl, SVIs.refl _⟩, trivial⟩ (fun _ _ => rfl)
      · replace hg23 := br_t hg23
        obtain rfl := Option.some.inj hg23
        refine RT.skV rfl rfl (sk rfl) (tl rfl) ?_
        refine RT.skV rfl rfl (sk rfl) (tl rfl) ?_
        refine RT.skV rfl rfl (sk rfl) (tl rfl) ?_
        refine RT.skV rfl rfl (sk rfl) (tl rfl) ?_
        refine RT.pickT .none rfl rfl (tl rfl) ?_
        refine RT.mv .none rfl (tl rfl) ?_
        replace h := bind_some h
        obtain ⟨c22_25, hg25, h⟩ := h
        replace hg25 := br_t hg25
        obtain rfl := Option.some.inj hg25
        refine RT.skV rfl rfl (sk rfl) (tl rfl) ?_
        refine RT.skV rfl rfl (sk rfl) (tl rfl) ?_
        refine RT.pickT .none rfl rfl (tl rfl) ?_
        refine RT.done ?_
        refine AThen.n ?_
        refine ⟨true, h, ?_⟩
        try dsimp only
        exact weakL id rfl rfl rfl rfl rfl ⟨.sv (SV.imp_refl _), .sv (SV.imp_refl _), .row rfl, .sv (SV.imp_refl _), .sv (SV.imp_refl _), .sv (SV.imp_refl _), trivial⟩ trivial ⟨⟨_, rfl, SVIs.refl _⟩, trivial⟩ (fun _ _ => rfl)
    · try dsimp only
      refine AThen.n ?_
      cases y22j21
      · replace h := br_f h
        refine ok_condF rfl ?_
        refine ok_exit ?_
        refine AThen.x ?_
        refine AThen.x ?_
        refine AInB.x ?_
        refine AThen.n ?_
        obtain rfl := Option.some.inj h
        refine ⟨r306l8, hE16 _ rfl, ?_⟩
        try dsimp only
        exact weakL id rfl rfl rfl rfl rfl ⟨.row rfl, trivial⟩ trivial ⟨⟨_, rfl, SVIs.refl _⟩, trivial⟩ (fun _ _ => rfl)
      · replace h := br_t h
        refine ok_condT rfl ?_
        refine ok_skip ?_
        refine AThen.n ?_
        refine ok_seq ?_
        refine ok_block ?_
        refine ok_seq ?_
        refine ok_region ?_
        refine RT.mv .none rfl (tl rfl) ?_
        refine RT.mv .none rfl (tl rfl) ?_
        replace h := bind_some h
        obtain ⟨x27, h27, h⟩ := h
        refine RT.call .none (ref01_at_ok h27) rfl ⟨rfl, rfl, trivial⟩ (tl rfl) ?_
        refine RT.mv .none rfl (tl rfl) ?_
        refine RT.mv .none rfl (tl rfl) ?_
        replace h := bind_some h
        obtain ⟨x30, h30, h⟩ := h
        refine RT.call .none (ref01_at_ok h30) rfl ⟨rfl, rfl, trivial⟩ (tl rfl) ?_
        replace h := let_some h
        obtain ⟨x31, h31, h⟩ := h
        refine RT.add .none _ rfl rfl (tl rfl) h31 ?_
        refine RT.mv .none rfl (tl rfl) ?_
        replace h := let_some h
        obtain ⟨x33, h33, h⟩ := h
        refine RT.add .none _ rfl rfl (tl rfl) h33 ?_
        refine RT.asg .none rfl (tl rfl) ?_
        refine RT.done ?_
        refine AThen.n ?_
        refine ok_seq ?_
        refine ok_region ?_
        refine RT.move .none (s := .row _) rfl (tl rfl) ?_
        refine RT.mv .none rfl (tl rfl) ?_
        replace h := let_some h
        obtain ⟨x36, h36, h⟩ := h
        refine RT.rem .none _ rfl rfl (tl rfl) (by decide) h36 ?_
        refine RT.buildSl (l := [x36]) (e := eI64) .none (.one rfl (.nil)) (tl rfl) rfl rfl rfl rfl rfl rfl ?_
        replace h := bind_some h
        obtain ⟨x38, h38, h⟩ := h
        refine RT.apR (k := [x36]) (e := eI64) .none rfl rfl rfl (tl rfl) rfl (tl rfl) h38 ?_
        refine RT.assign .none (s := .row _) rfl (tl rfl) ?_
        refine RT.done ?_
        refine AThen.n ?_
        refine ok_region ?_
        refine RT.mv .none rfl (tl rfl) ?_
        replace h := let_some h
        obtain ⟨x40, h40, h⟩ := h
        refine RT.quo .none _ rfl rfl (tl rfl) (by decide) h40 ?_
        refine RT.asg .none rfl (tl rfl) ?_
        refine RT.done ?_
        refine AInB.n ?_
        refine AThen.n ?_
        refine ok_region ?_
        refine RT.mv .none rfl (tl rfl) ?_
        replace h := let_some h
        obtain ⟨x24, h24, h⟩ := h
        refine RT.add .none _ rfl rfl (tl rfl) h24 ?_
        refine RT.asg .none rfl (tl rfl) ?_
        refine RT.done ?_
        obtain rfl := Option.some.inj h
        refine AThen.n ⟨(x40, x24, x38), hG16 _ rfl, ?_⟩
        try dsimp only
        exact weakL (fun i => bif Nat.beq i 306 then 38 else i) rfl rfl rfl rfl rfl ⟨.sv (SV.imp_refl _), .sv (SV.imp_refl _), .row rfl, .sv (SV.imp_refl _), .sv (SV.imp_refl _), trivial⟩ trivial ⟨⟨_, rfl, SVIs.refl _⟩, trivial⟩ (fun i hi => by rw [beq_ne (show i ≠ 306 by omega)]; rfl)
  · subst hx16
    try dsimp only
    refine AThen.n ?_
    refine ok_seq ?_
    refine ok_weak (weak_frzM (i := 306) (E1 := 3) (n := 1) (e := eI64) (l := r306e15) rfl) ?_
    refine ok_region ?_
    refine RT.mv .none rfl (tl rfl) ?_
    replace ho16 := bind_some ho16
    obtain ⟨x42, h42, ho16⟩ := ho16
    refine RT.call .none (ref01_trim_ok h42) rfl ⟨rfl, trivial⟩ (tl rfl) ?_
    refine RT.asg .none rfl (tl rfl) ?_
    refine RT.done ?_
    refine AThen.n ?_
    refine ok_ret ?_
    obtain rfl := Option.some.inj ho16
    exact ⟨.inr rfl, res_imp (.tmp rfl (.nil)) (SV.imp_refl _)⟩
theorem ref01_sub_ok {x0 : List Int} {x1 : List Int} {r : List Int} (h : ref01_sub_m x0 x1 = some r) : Pure Try.prog 52 [slc 1 (List.map eI64 x0), slc 1 (List.map eI64 x1)] (slc 1 (List.map eI64 r)) := by
  refine pure_of_ok Try.func52 rfl (Nat.le_of_ble_eq_true rfl) (fun wld M vs hvs => ?_)
  unfold ref01_sub_m at h
  refine ok_seq ?_
  refine ok_region ?_
  refine RT.asgI .none rfl (imp_nil (n := 1) (e := eI64)) (tl rfl) ?_
  refine RT.done ?_
  refine AThen.n ?_
  refine ok_seq ?_
  refine ok_region ?_
  refine RT.asg .none rfl (tl rfl) ?_
  refine RT.done ?_
  refine AThen.n ?_
  refine ok_weak (weak_nil 5 304 3 1 rfl rfl (tl rfl)) ?_
  refine ok_seq ?_
  refine ok_region ?_
  refine RT.asg .none rfl (tl rfl) ?_
  refine RT.done ?_
  refine AThen.n ?_
  refine ok_seq ?_
  refine ok_seq ?_
  refine ok_region ?_
  refine RT.asg .none rfl (tl rfl) ?_
  refine RT.done ?_
  refine AThen.n ?_
  replace h := bind_some h
  obtain ⟨e8, hl8, ho8⟩ := h
  refine ok_tailP (fun (r306e7 : (List Int)) => AS.mkL 34 [(5, .row 306)] [] [(306, TR 3 1 eI64 r306e7)]) (fun r306e7 => r306e7 = e8) ?_ (fun r306e7 hx8 => ?_)
  · refine ok_block ?_
    refine ok_loopM hl8 (fun s8 => AS.mkL 34 [(0, .sv (slc 1 (List.map eI64 x0))), (1, .sv (slc 1 (List.map eI64 x1))), (5, .row 306), (6, .sv (.v (.int .i64 s8.1))), (7, .sv (.v (.int .i64 s8.2.1)))] [] [(306, TR 3 1 eI64 s8.2.2)]) (by (try dsimp only); exact weakL (fun i => bif Nat.beq i 306 then 304 else i) rfl rfl rfl rfl rfl ⟨.sv (SV.imp_refl _), .sv (SV.imp_refl _), .row rfl, .sv (SV.imp_refl _), .sv (SV.imp_refl _), trivial⟩ trivial ⟨⟨_, rfl, SVIs.refl _⟩, trivial⟩ (fun i hi => by rw [beq_ne (show i ≠ 306 by omega)]; rfl)) (fun s8 y8 G8 h hG8 hE8 => ?_)
    obtain ⟨y6l4, y7l4, r306l4⟩ := s8
    try dsimp only
    refine ok_seq ?_
    refine ok_seq ?_
    refine ok_region ?_
    refine RT.mv .none rfl (tl rfl) ?_
    refine RT.mv .none rfl (tl rfl) ?_
    replace h := let_some h
    obtain ⟨x11, h11, h⟩ := h
    refine RT.lenM .none rfl (tl rfl) h11 ?_
    replace h := let_some h
    obtain ⟨x12, h12, h⟩ := h
    refine RT.lss .none _ rfl rfl (tl rfl) h12 ?_
    refine RT.done ?_
    refine AThen.n ?_
    cases x12
    · replace h := br_f h
      refine ok_condF rfl ?_
      refine ok_exit ?_
      refine AThen.x ?_
      refine AThen.x ?_
      refine AInB.x ?_
      refine AThen.n ?_
      obtain rfl := Option.some.inj h
      refine ⟨r306l4, hE8 _ rfl, ?_⟩
      try dsimp only
      exact weakL id rfl rfl rfl rfl rfl ⟨.row rfl, trivial⟩ trivial ⟨⟨_, rfl, SVIs.refl _⟩, trivial⟩ (fun _ _ => rfl)
    · replace h := br_t h
      refine ok_condT rfl ?_
      refine ok_skip ?_
      refine AThen.n ?_
      refine ok_seq ?_
      refine ok_block ?_
      refine ok_seq ?_
      refine ok_region ?_
      refine RT.mv .none rfl (tl rfl) ?_
      refine RT.mv .none rfl (tl rfl) ?_
      replace h := bind_some h
      obtain ⟨x17, h17, h⟩ := h
      refine RT.call .none (ref01_at_ok h17) rfl ⟨rfl, rfl, trivial⟩ (tl rfl) ?_
      refine RT.mv .none rfl (tl rfl) ?_
      refine RT.mv .none rfl (tl rfl) ?_
      replace h := bind_some h
      obtain ⟨x20, h20, h⟩ := h
      refine RT.call .none (ref01_at_ok h20) rfl ⟨rfl, rfl, trivial⟩ (tl rfl) ?_
      replace h := let_some h
      obtain ⟨x21, h21, h⟩ := h
      refine RT.sub .none _ rfl rfl (tl rfl) h21 ?_
      refine RT.mv .none rfl (tl rfl) ?_
      replace h := let_some h
      obtain ⟨x23, h23, h⟩ := h
      refine RT.sub .none _ rfl rfl (tl rfl) h23 ?_
      refine RT.asg .none rfl (tl rfl) ?_
      refine RT.done ?_
      refine AThen.n ?_
      refine ok_seq ?_
      refine ok_region ?_
      refine RT.asg .none rfl (tl rfl) ?_
      refine RT.done ?_
      refine AThen.n ?_
      refine ok_seq ?_
      refine ok_seq ?_
      refine ok_region ?_
      refine RT.mv .none rfl (tl rfl) ?_
      replace h := let_some h
      obtain ⟨x25, h25, h⟩ := h
      refine RT.lss .none _ rfl rfl (tl rfl) h25 ?_
      refine RT.done ?_
      refine AThen.n ?_
      refine ok_tailJ h (fun j10 => AS.mkL 34 [(0, .sv (slc 1 (List.map eI64 x0))), (1, .sv (slc 1 (List.map eI64 x1))), (5, .row 306), (6, .sv (.v (.int .i64 j10.1))), (7, .sv (.v (.int .i64 y7l4))), (8, .sv (.v (.int .i64 j10.2)))] [] [(306, TR 3 1 eI64 r306l4)]) (fun h => ?_) (fun j10 h => ?_)
      · cases x25
        · replace h := br_f h
          refine ok_condF rfl ?_
          refine ok_skip ?_
          refine AThen.n ?_
          refine ⟨(0, x23), h, ?_⟩
          try dsimp only
          exact weakL id rfl rfl rfl rfl rfl ⟨.sv (SV.imp_refl _), .sv (SV.imp_refl _), .row rfl, .sv (SV.imp_refl _), .sv (SV.imp_refl _), .sv (SV.imp_refl _), trivial⟩ trivial ⟨⟨_, rfl, SVIs.refl _⟩, trivial⟩ (fun _ _ => rfl)
        · replace h := br_t h
          refine ok_condT rfl ?_
          refine ok_seq ?_
          refine ok_region ?_
          refine RT.mv .none rfl (tl rfl) ?_
          replace h := let_some h
          obtain ⟨x27, h27, h⟩ := h
          refine RT.add .none _ rfl rfl (tl rfl) h27 ?_
          refine RT.asg .none rfl (tl rfl) ?_
          refine RT.done ?_
          refine AThen.n ?_
          refine ok_region ?_
          refine RT.asg .none rfl (tl rfl) ?_
          refine RT.done ?_
          refine AThen.n ?_
          refine ⟨(1, x27), h, ?_⟩
          try dsimp only
          exact weakL id rfl rfl rfl rfl rfl ⟨.sv (SV.imp_refl _), .sv (SV.imp_refl _), .row rfl, .sv (SV.imp_refl _), .sv (SV.imp_refl _), .sv (SV.imp_refl _), trivial⟩ trivial ⟨⟨_, rfl, SVIs.refl _⟩, trivial⟩ (fun _ _ => rfl)
      · obtain ⟨y6j9, y8j9⟩ := j10
        try dsimp only
        refine AThen.n ?_
        refine ok_region ?_
        refine RT.move .none (s := .row _) rfl (tl rfl) ?_
        refine RT.mv .none rfl (tl rfl) ?_
        refine RT.buildSl (l := [y8j9]) (e := eI64) .none (.one rfl (.nil)) (tl rfl) rfl rfl rfl rfl rfl rfl ?_
        replace h := bind_some h
        obtain ⟨x31, h31, h⟩ := h
        refine RT.apR (k := [y8j9]) (e := eI64) .none rfl rfl rfl (tl rfl) rfl (tl rfl) h31 ?_
        refine RT.assign .none (s := .row _) rfl (tl rfl) ?_
        refine RT.done ?_
        refine AInB.n ?_
        refine AThen.n ?_
        refine ok_region ?_
        refine RT.mv .none rfl (tl rfl) ?_
        replace h := let_some h
        obtain ⟨x14, h14, h⟩ := h
        refine RT.add .none _ rfl rfl (tl rfl) h14 ?_
        refine RT.asg .none rfl (tl rfl) ?_
        refine RT.done ?_
        obtain rfl := Option.some.inj h
        refine AThen.n ⟨(y6j9, x14, x31), hG8 _ rfl, ?_⟩
        try dsimp only
        exact weakL (fun i => bif Nat.beq i 306 then 31 else i) rfl rfl rfl rfl rfl ⟨.sv (SV.imp_refl _), .sv (SV.imp_refl _), .row rfl, .sv (SV.imp_refl _), .sv (SV.imp_refl _), trivial⟩ trivial ⟨⟨_, rfl, SVIs.refl _⟩, trivial⟩ (fun i hi => by rw [beq_ne (show i ≠ 306 by omega)]; rfl)
  · subst hx8
    try dsimp only
    refine AThen.n ?_
    refine ok_seq ?_
    refine ok_weak (weak_frzM (i := 306) (E1 := 3) (n := 1) (e := eI64) (l := r306e7) rfl) ?_
    refine ok_region ?_
    refine RT.mv .none rfl (tl rfl) ?_
    replace ho8 := bind_some ho8
    obtain ⟨x33, h33, ho8⟩ := ho8
    refine RT.call .none (ref01_trim_ok h33) rfl ⟨rfl, trivial⟩ (tl rfl) ?_
    refine RT.asg .none rfl (tl rfl) ?_
    refine RT.done ?_
    refine AThen.n ?_
    refine ok_ret ?_
    obtain rfl := Option.some.inj ho8
    exact ⟨.inr rfl, res_imp (.tmp rfl (.nil)) (SV.imp_refl _)⟩
theorem ref01_small_ok {x0 : List Int} {r : Int} (h : ref01_small_m x0 = some r) : Pure Try.prog 74 [slc 1 (List.map eI64 x0)] (.v (.int .i64 r)) := by
  refine pure_of_ok Try.func74 rfl (Nat.le_of_ble_eq_true rfl) (fun wld M vs hvs => ?_)
  unfold ref01_small_m at h
  refine ok_seq ?_
  refine ok_region ?_
  refine RT.asg .none rfl (tl rfl) ?_
  refine RT.done ?_
  refine AThen.n ?_
  refine ok_seq ?_
  refine ok_region ?_
  refine RT.asg .none rfl (tl rfl) ?_
  refine RT.done ?_
  refine AThen.n ?_
  refine ok_seq ?_
  refine ok_seq ?_
  refine ok_region ?_
  refine RT.mv .none rfl (tl rfl) ?_
  replace h := let_some h
  obtain ⟨x6, h6, h⟩ := h
  refine RT.lenM .none rfl (tl rfl) h6 ?_
  replace h := let_some h
  obtain ⟨x7, h7, h⟩ := h
  refine RT.sub .none _ rfl rfl (tl rfl) h7 ?_
  refine RT.asg .none rfl (tl rfl) ?_
  refine RT.done ?_
  refine AThen.n ?_
  replace h := bind_some h
  obtain ⟨e6, hl6, ho6⟩ := h
  refine ok_tailP (fun (y3e5 : Int) => AS.mkL 20 [(3, .sv (.v (.int .i64 y3e5)))] [] []) (fun y3e5 => y3e5 = e6) ?_ (fun y3e5 hx6 => ?_)
  · refine ok_block ?_
    refine ok_loopM hl6 (fun s6 => AS.mkL 20 [(0, .sv (slc 1 (List.map eI64 x0))), (3, .sv (.v (.int .i64 s6.1))), (4, .sv (.v (.int .i64 s6.2)))] [] []) (by (try dsimp only); exact weakL id rfl rfl rfl rfl rfl ⟨.sv (SV.imp_refl _), .sv (SV.imp_refl _), .sv (SV.imp_refl _), trivial⟩ trivial trivial (fun _ _ => rfl)) (fun s6 y6 G6 h hG6 hE6 => ?_)
    obtain ⟨y3l3, y4l3⟩ := s6
    try dsimp only
    refine ok_seq ?_
    refine ok_seq ?_
    refine ok_region ?_
    refine RT.mv .none rfl (tl rfl) ?_
    replace h := let_some h
    obtain ⟨x9, h9, h⟩ := h
    refine RT.geq .none _ rfl rfl (tl rfl) h9 ?_
    refine RT.done ?_
    refine AThen.n ?_
    cases x9
    · replace h := br_f h
      refine ok_condF rfl ?_
      refine ok_exit ?_
      refine AThen.x ?_
      refine AThen.x ?_
      refine AInB.x ?_
      refine AThen.n ?_
      obtain rfl := Option.some.inj h
      refine ⟨y3l3, hE6 _ rfl, ?_⟩
      try dsimp only
      exact weakL id rfl rfl rfl rfl rfl ⟨.sv (SV.imp_refl _), trivial⟩ trivial trivial (fun _ _ => rfl)
    · replace h := br_t h
      refine ok_condT rfl ?_
      refine ok_skip ?_
      refine AThen.n ?_
      refine ok_seq ?_
      refine ok_block ?_
      refine ok_region ?_
      refine RT.mv .none rfl (tl rfl) ?_
      replace h := let_some h
      obtain ⟨x13, h13, h⟩ := h
      refine RT.mul .none _ rfl rfl (tl rfl) h13 ?_
      refine RT.mv .none rfl (tl rfl) ?_
      refine RT.mv .none rfl (tl rfl) ?_
      replace h := bind_some h
      obtain ⟨x16, h16, h⟩ := h
      refine RT.ixM .none rfl rfl (tl rfl) h16 ?_
      refine RT.loadRV .none rfl rfl (tl rfl) ?_
      replace h := let_some h
      obtain ⟨x18, h18, h⟩ := h
      refine RT.add .none _ rfl rfl (tl rfl) h18 ?_
      refine RT.asg .none rfl (tl rfl) ?_
      refine RT.done ?_
      refine AInB.n ?_
      refine AThen.n ?_
      refine ok_region ?_
      refine RT.mv .none rfl (tl rfl) ?_
      replace h := let_some h
      obtain ⟨x11, h11, h⟩ := h
      refine RT.sub .none _ rfl rfl (tl rfl) h11 ?_
      refine RT.asg .none rfl (tl rfl) ?_
      refine RT.done ?_
      obtain rfl := Option.some.inj h
      refine AThen.n ⟨(x18, x11), hG6 _ rfl, ?_⟩
      try dsimp only
      exact weakL id rfl rfl rfl rfl rfl ⟨.sv (SV.imp_refl _), .sv (SV.imp_refl _), .sv (SV.imp_refl _), trivial⟩ trivial trivial (fun _ _ => rfl)
  · subst hx6
    try dsimp only
    refine AThen.n ?_
    refine ok_seq ?_
    refine ok_region ?_
    refine RT.mv .none rfl (tl rfl) ?_
    refine RT.asg .none rfl (tl rfl) ?_
    refine RT.done ?_
    refine AThen.n ?_
    refine ok_ret ?_
    obtain rfl := Option.some.inj ho6
    exact ⟨.inr rfl, res_imp (.tmp rfl (.nil)) (SV.imp_refl _)⟩
theorem ref01_back_ok {x0 : Int} {r : List Int} (h : ref01_back_m x0 = some r) : Pure Try.prog 73 [.v (.int .i64 x0)] (slc 1 (List.map eI64 r)) := by
  refine pure_of_ok Try.func73 rfl (Nat.le_of_ble_eq_true rfl) (fun wld M vs hvs => ?_)
  unfold ref01_back_m at h
  refine ok_seq ?_
  refine ok_region ?_
  refine RT.asgI .none rfl (imp_nil (n := 1) (e := eI64)) (tl rfl) ?_
  refine RT.done ?_
  refine AThen.n ?_
  refine ok_seq ?_
  refine ok_region ?_
  refine RT.mv .none rfl (tl rfl) ?_
  replace h := let_some h
  obtain ⟨x4, h4, h⟩ := h
  refine RT.rem .none _ rfl rfl (tl rfl) (by decide) h4 ?_
  refine RT.mv .none rfl (tl rfl) ?_
  replace h := let_some h
  obtain ⟨x6, h6, h⟩ := h
  refine RT.quo .none _ rfl rfl (tl rfl) (by decide) h6 ?_
  replace h := let_some h
  obtain ⟨x7, h7, h⟩ := h
  refine RT.rem .none _ rfl rfl (tl rfl) (by decide) h7 ?_
  refine RT.mv .none rfl (tl rfl) ?_
  replace h := let_some h
  obtain ⟨x9, h9, h⟩ := h
  refine RT.quo .none _ rfl rfl (tl rfl) (by decide) h9 ?_
  replace h := let_some h
  obtain ⟨x10, h10, h⟩ := h
  refine RT.quo .none _ rfl rfl (tl rfl) (by decide) h10 ?_
  refine RT.buildSl (l := [x4, x7, x10]) (e := eI64) .none (.one rfl (.one rfl (.one rfl (.nil)))) (tl rfl) rfl rfl rfl rfl rfl rfl ?_
  replace h := bind_some h
  obtain ⟨x12, h12, h⟩ := h
  refine RT.call .none (ref01_trim_ok h12) rfl ⟨rfl, trivial⟩ (tl rfl) ?_
  refine RT.asg .none rfl (tl rfl) ?_
  refine RT.done ?_
  refine AThen.n ?_
  refine ok_ret ?_
  obtain rfl := Option.some.inj h
  exact ⟨.inr rfl, res_imp (.tmp rfl (.nil)) (SV.imp_refl _)⟩
theorem ref01_times_ok {x0 : List Int} {x1 : Int} {r : List Int} (h : ref01_times_m x0 x1 = some r) : Pure Try.prog 62 [slc 1 (List.map eI64 x0), .v (.int .i64 x1)] (slc 1 (List.map eI64 r)) := by
  refine pure_of_ok Try.func62 rfl (Nat.le_of_ble_eq_true rfl) (fun wld M vs hvs => ?_)
  unfold ref01_times_m at h
  refine ok_seq ?_
  refine ok_region ?_
  refine RT.asgI .none rfl (imp_nil (n := 1) (e := eI64)) (tl rfl) ?_
  refine RT.done ?_
  refine AThen.n ?_
  refine ok_seq ?_
  refine ok_region ?_
  refine RT.asg .none rfl (tl rfl) ?_
  refine RT.done ?_
  refine AThen.n ?_
  refine ok_weak (weak_nil 5 304 3 1 rfl rfl (tl rfl)) ?_
  refine ok_seq ?_
  refine ok_region ?_
  refine RT.asg .none rfl (tl rfl) ?_
  refine RT.done ?_
  refine AThen.n ?_
  refine ok_seq ?_
  refine ok_seq ?_
  refine ok_region ?_
  refine RT.asg .none rfl (tl rfl) ?_
  refine RT.done ?_
  refine AThen.n ?_
  replace h := bind_some h
  obtain ⟨e10, hl10, ho10⟩ := h
  refine ok_tailP (fun (r306e9 : (List Int)) => AS.mkL 35 [(5, .row 306)] [] [(306, TR 3 1 eI64 r306e9)]) (fun r306e9 => r306e9 = e10) ?_ (fun r306e9 hx10 => ?_)
  · refine ok_block ?_
    refine ok_loopM hl10 (fun s10 => AS.mkL 35 [(0, .sv (slc 1 (List.map eI64 x0))), (1, .sv (.v (.int .i64 x1))), (5, .row 306), (6, .sv (.v (.int .i64 s10.1))), (7, .sv (.v (.int .i64 s10.2.1)))] [] [(306, TR 3 1 eI64 s10.2.2)]) (by (try dsimp only); exact weakL (fun i => bif Nat.beq i 306 then 304 else i) rfl rfl rfl rfl rfl ⟨.sv (SV.imp_refl _), .sv (SV.imp_refl _), .row rfl, .sv (SV.imp_refl _), .sv (SV.imp_refl _), trivial⟩ trivial ⟨⟨_, rfl, SVIs.refl _⟩, trivial⟩ (fun i hi => by rw [beq_ne (show i ≠ 306 by omega)]; rfl)) (fun s10 y10 G10 h hG10 hE10 => ?_)
    obtain ⟨y6l5, y7l5, r306l5⟩ := s10
    try dsimp only
    refine ok_seq ?_
    refine ok_seq ?_
    refine ok_tailJ h (fun j13 => AS.mkL 35 [(0, .sv (slc 1 (List.map eI64 x0))), (1, .sv (.v (.int .i64 x1))), (5, .row 306), (6, .sv (.v (.int .i64 y6l5))), (7, .sv (.v (.int .i64 y7l5))), (16, .sv (.v (.bool j13)))] [] [(306, TR 3 1 eI64 r306l5)]) (fun h => ?_) (fun y16j12 h => ?_)
    · refine ok_region ?_
      refine RT.mv .none rfl (tl rfl) ?_
      refine RT.mv .none rfl (tl rfl) ?_
      replace h := let_some h
      obtain ⟨x11, h11, h⟩ := h
      refine RT.lenM .none rfl (tl rfl) h11 ?_
      replace h := let_some h
      obtain ⟨x12, h12, h⟩ := h
      refine RT.lss .none _ rfl rfl (tl rfl) h12 ?_
      refine RT.mv .none rfl (tl rfl) ?_
      replace h := bind_some h
      obtain ⟨c16_14, hg14, h⟩ := h
      cases x12
      · replace hg14 := br_f hg14
        refine RT.mv (.some rfl rfl) rfl (tl rfl) ?_
        replace hg14 := let_some hg14
        obtain ⟨x15, h15, hg14⟩ := hg14
        refine RT.gtr (.some rfl rfl) _ rfl rfl (tl rfl) h15 ?_
        obtain rfl := Option.some.inj hg14
        refine RT.pickF .none rfl rfl (tl rfl) ?_
        refine RT.done ?_
        refine AThen.n ?_
        refine ⟨x15, h, ?_⟩
        try dsimp only
        exact weakL id rfl rfl rfl rfl rfl ⟨.sv (SV.imp_refl _), .sv (SV.imp_refl _), .row rfl, .sv (SV.imp_refl _), .sv (SV.imp_refl _), .sv (SV.imp_refl _), trivial⟩ trivial ⟨⟨_, rfl, SVIs.refl _⟩, trivial⟩ (fun _ _ => rfl)
      · replace hg14 := br_t hg14
        obtain rfl := Option.some.inj hg14
        refine RT.skV rfl rfl (sk rfl) (tl rfl) ?_
        refine RT.skV rfl rfl (sk rfl) (tl rfl) ?_
        refine RT.pickT .none rfl rfl (tl rfl) ?_
        refine RT.done ?_
        refine AThen.n ?_
        refine ⟨true, h, ?_⟩
        try dsimp only
        exact weakL id rfl rfl rfl rfl rfl ⟨.sv (SV.imp_refl _), .sv (SV.imp_refl _), .row rfl, .sv (SV.imp_refl _), .sv (SV.imp_refl _), .sv (SV.imp_refl _), trivial⟩ trivial ⟨⟨_, rfl, SVIs.refl _⟩, trivial⟩ (fun _ _ => rfl)
    · try dsimp only
      refine AThen.n ?_
      cases y16j12
      · replace h := br_f h
        refine ok_condF rfl ?_
        refine ok_exit ?_
        refine AThen.x ?_
        refine AThen.x ?_
        refine AInB.x ?_
        refine AThen.n ?_
        obtain rfl := Option.some.inj h
        refine ⟨r306l5, hE10 _ rfl, ?_⟩
        try dsimp only
        exact weakL id rfl rfl rfl rfl rfl ⟨.row rfl, trivial⟩ trivial ⟨⟨_, rfl, SVIs.refl _⟩, trivial⟩ (fun _ _ => rfl)
      · replace h := br_t h
        refine ok_condT rfl ?_
        refine ok_skip ?_
        refine AThen.n ?_
        refine ok_seq ?_
        refine ok_block ?_
        refine ok_seq ?_
        refine ok_region ?_
        refine RT.mv .none rfl (tl rfl) ?_
        refine RT.mv .none rfl (tl rfl) ?_
        replace h := bind_some h
        obtain ⟨x21, h21, h⟩ := h
        refine RT.call .none (ref01_at_ok h21) rfl ⟨rfl, rfl, trivial⟩ (tl rfl) ?_
        refine RT.mv .none rfl (tl rfl) ?_
        replace h := let_some h
        obtain ⟨x23, h23, h⟩ := h
        refine RT.mul .none _ rfl rfl (tl rfl) h23 ?_
        refine RT.mv .none rfl (tl rfl) ?_
        replace h := let_some h
        obtain ⟨x25, h25, h⟩ := h
        refine RT.add .none _ rfl rfl (tl rfl) h25 ?_
        refine RT.asg .none rfl (tl rfl) ?_
        refine RT.done ?_
        refine AThen.n ?_
        refine ok_seq ?_
        refine ok_region ?_
        refine RT.move .none (s := .row _) rfl (tl rfl) ?_
        refine RT.mv .none rfl (tl rfl) ?_
        replace h := let_some h
        obtain ⟨x28, h28, h⟩ := h
        refine RT.rem .none _ rfl rfl (tl rfl) (by decide) h28 ?_
        refine RT.buildSl (l := [x28]) (e := eI64) .none (.one rfl (.nil)) (tl rfl) rfl rfl rfl rfl rfl rfl ?_
        replace h := bind_some h
        obtain ⟨x30, h30, h⟩ := h
        refine RT.apR (k := [x28]) (e := eI64) .none rfl rfl rfl (tl rfl) rfl (tl rfl) h30 ?_
        refine RT.assign .none (s := .row _) rfl (tl rfl) ?_
        refine RT.done ?_
        refine AThen.n ?_
        refine ok_region ?_
        refine RT.mv .none rfl (tl rfl) ?_
        replace h := let_some h
        obtain ⟨x32, h32, h⟩ := h
        refine RT.quo .none _ rfl rfl (tl rfl) (by decide) h32 ?_
        refine RT.asg .none rfl (tl rfl) ?_
        refine RT.done ?_
        refine AInB.n ?_
        refine AThen.n ?_
        refine ok_region ?_
        refine RT.mv .none rfl (tl rfl) ?_
        replace h := let_some h
        obtain ⟨x18, h18, h⟩ := h
        refine RT.add .none _ rfl rfl (tl rfl) h18 ?_
        refine RT.asg .none rfl (tl rfl) ?_
        refine RT.done ?_
        obtain rfl := Option.some.inj h
        refine AThen.n ⟨(x32, x18, x30), hG10 _ rfl, ?_⟩
        try dsimp only
        exact weakL (fun i => bif Nat.beq i 306 then 30 else i) rfl rfl rfl rfl rfl ⟨.sv (SV.imp_refl _), .sv (SV.imp_refl _), .row rfl, .sv (SV.imp_refl _), .sv (SV.imp_refl _), trivial⟩ trivial ⟨⟨_, rfl, SVIs.refl _⟩, trivial⟩ (fun i hi => by rw [beq_ne (show i ≠ 306 by omega)]; rfl)
  · subst hx10
    try dsimp only
    refine AThen.n ?_
    refine ok_seq ?_
    refine ok_weak (weak_frzM (i := 306) (E1 := 3) (n := 1) (e := eI64) (l := r306e9) rfl) ?_
    refine ok_region ?_
    refine RT.mv .none rfl (tl rfl) ?_
    replace ho10 := bind_some ho10
    obtain ⟨x34, h34, ho10⟩ := ho10
    refine RT.call .none (ref01_trim_ok h34) rfl ⟨rfl, trivial⟩ (tl rfl) ?_
    refine RT.asg .none rfl (tl rfl) ?_
    refine RT.done ?_
    refine AThen.n ?_
    refine ok_ret ?_
    obtain rfl := Option.some.inj ho10
    exact ⟨.inr rfl, res_imp (.tmp rfl (.nil)) (SV.imp_refl _)⟩
theorem ref01_div_ok {x0 : List Int} {x1 : List Int} {r : (List Int) × (List Int)} (h : ref01_div_m x0 x1 = some r) : Pure Try.prog 50 [slc 1 (List.map eI64 x0), slc 1 (List.map eI64 x1)] (.tup [slc 1 (List.map eI64 r.1), slc 1 (List.map eI64 r.2)]) := by
  refine pure_of_ok Try.func50 rfl (Nat.le_of_ble_eq_true rfl) (fun wld M vs hvs => ?_)
  unfold ref01_div_m at h
  refine ok_seq ?_
  refine ok_region ?_
  refine RT.asgI .none rfl (imp_nil (n := 1) (e := eI64)) (tl rfl) ?_
  refine RT.asgI .none rfl (imp_nil (n := 1) (e := eI64)) (tl rfl) ?_
  refine RT.done ?_
  refine AThen.n ?_
  refine ok_seq ?_
  refine ok_seq ?_
  refine ok_tailJ h (fun j3 => AS.mkL 120 [(0, .sv (slc 1 (List.map eI64 x0))), (1, .sv (slc 1 (List.map eI64 x1))), (21, .sv (.v (.bool j3)))] [] []) (fun h => ?_) (fun y21j2 h => ?_)
  · refine ok_region ?_
    refine RT.mv .none rfl (tl rfl) ?_
    replace h := let_some h
    obtain ⟨x15, h15, h⟩ := h
    refine RT.lenM .none rfl (tl rfl) h15 ?_
    replace h := let_some h
    obtain ⟨x16, h16, h⟩ := h
    refine RT.leq .none _ rfl rfl (tl rfl) h16 ?_
    refine RT.mv .none rfl (tl rfl) ?_
    replace h := bind_some h
    obtain ⟨c21_59, hg59, h⟩ := h
    cases x16
    · replace hg59 := br_f hg59
      obtain rfl := Option.some.inj hg59
      refine RT.skV rfl rfl (sk rfl) (tl rfl) ?_
      refine RT.skV rfl rfl (sk rfl) (tl rfl) ?_
      refine RT.skV rfl rfl (sk rfl) (tl rfl) ?_
      refine RT.pickF .none rfl rfl (tl rfl) ?_
      refine RT.done ?_
      refine AThen.n ?_
      refine ⟨false, h, ?_⟩
      try dsimp only
      exact weakL id rfl rfl rfl rfl rfl ⟨.sv (SV.imp_refl _), .sv (SV.imp_refl _), .sv (SV.imp_refl _), trivial⟩ trivial trivial (fun _ _ => rfl)
    · replace hg59 := br_t hg59
      refine RT.mv (.some rfl rfl) rfl (tl rfl) ?_
      replace hg59 := let_some hg59
      obtain ⟨x19, h19, hg59⟩ := hg59
      refine RT.lenM (.some rfl rfl) rfl (tl rfl) h19 ?_
      replace hg59 := let_some hg59
      obtain ⟨x20, h20, hg59⟩ := hg59
      refine RT.leq (.some rfl rfl) _ rfl rfl (tl rfl) h20 ?_
      obtain rfl := Option.some.inj hg59
      refine RT.pickT .none rfl rfl (tl rfl) ?_
      refine RT.done ?_
      refine AThen.n ?_
      refine ⟨x20, h, ?_⟩
      try dsimp only
      exact weakL id rfl rfl rfl rfl rfl ⟨.sv (SV.imp_refl _), .sv (SV.imp_refl _), .sv (SV.imp_refl _), trivial⟩ trivial trivial (fun _ _ => rfl)
  · try dsimp only
    refine AThen.n ?_
    cases y21j2
    · replace h := br_f h
      refine ok_condF rfl ?_
      refine ok_skip ?_
      refine AThen.n ?_
      refine ok_seq ?_
      refine ok_region ?_
      refine RT.mv .none rfl (tl rfl) ?_
      replace h := let_some h
      obtain ⟨x35, h35, h⟩ := h
      refine RT.lenM .none rfl (tl rfl) h35 ?_
      replace h := bind_some h
      obtain ⟨x36, h36, h⟩ := h
      refine RT.mkRow (n := 1) (e := eI64) .none rfl rfl (tl rfl) rfl (tl rfl) (by rfl) (by decide) (by exact ⟨SV.imp_refl _, trivial⟩) h36 ?_
      refine RT.assign .none (s := .row _) rfl (tl rfl) ?_
      refine RT.done ?_
      refine AThen.n ?_
      refine ok_seq ?_
      refine ok_seq ?_
      refine ok_region ?_
      refine RT.mv .none rfl (tl rfl) ?_
      replace h := let_some h
      obtain ⟨x38, h38, h⟩ := h
      refine RT.lenM .none rfl (tl rfl) h38 ?_
      replace h := let_some h
      obtain ⟨x39, h39, h⟩ := h
      refine RT.eql .none _ rfl rfl (tl rfl) (eqI (p := x38) (q := 1) h39) ?_
      refine RT.done ?_
      refine AThen.n ?_
      cases x39
      · replace h := br_f h
        refine ok_condF rfl ?_
        refine ok_skip ?_
        refine AThen.n ?_
        refine ok_seq ?_
        refine ok_region ?_
        refine RT.asgI .none rfl (imp_nil (n := 1) (e := eI64)) (tl rfl) ?_
        refine RT.done ?_
        refine AThen.n ?_
        refine ok_seq ?_
        refine ok_seq ?_
        refine ok_region ?_
        refine RT.mv .none rfl (tl rfl) ?_
        replace h := let_some h
        obtain ⟨x73, h73, h⟩ := h
        refine RT.lenM .none rfl (tl rfl) h73 ?_
        replace h := let_some h
        obtain ⟨x74, h74, h⟩ := h
        refine RT.sub .none _ rfl rfl (tl rfl) h74 ?_
        refine RT.asg .none rfl (tl rfl) ?_
        refine RT.done ?_
        refine AThen.n ?_
        replace h := bind_some h
        obtain ⟨e44, hl44, ho44⟩ := h
        refine ok_tailP (fun (xe44 : (List Int) × (List Int)) => AS.mkL 120 [(6, .row 36), (9, .sv (slc 1 (List.map eI64 xe44.1)))] [] [(36, TR 3 1 eI64 xe44.2)]) (fun xe44 => xe44 = e44) ?_ (fun xe44 hx44 => ?_)
        · refine ok_block ?_
          refine ok_loopM hl44 (fun s44 => AS.mkL 120 [(0, .sv (slc 1 (List.map eI64 x0))), (1, .sv (slc 1 (List.map eI64 x1))), (6, .row 36), (9, .sv (slc 1 (List.map eI64 s44.1))), (10, .sv (.v (.int .i64 s44.2.1)))] [] [(36, TR 3 1 eI64 s44.2.2)]) (by (try dsimp only); exact weakL id rfl rfl rfl rfl rfl ⟨.sv (SV.imp_refl _), .sv (SV.imp_refl _), .row rfl, .sv (SV.imp_refl _), .sv (SV.imp_refl _), trivial⟩ trivial ⟨⟨_, rfl, SVIs.refl _⟩, trivial⟩ (fun _ _ => rfl)) (fun s44 y44 G44 h hG44 hE44 => ?_)
          obtain ⟨y9l32, y10l32, r36l32⟩ := s44
          try dsimp only
          refine ok_seq ?_
          refine ok_seq ?_
          refine ok_region ?_
          refine RT.mv .none rfl (tl rfl) ?_
          replace h := let_some h
          obtain ⟨x76, h76, h⟩ := h
          refine RT.geq .none _ rfl rfl (tl rfl) h76 ?_
          refine RT.done ?_
          refine AThen.n ?_
          cases x76
          · replace h := br_f h
            refine ok_condF rfl ?_
            refine ok_exit ?_
            refine AThen.x ?_
            refine AThen.x ?_
            refine AInB.x ?_
            refine AThen.n ?_
            obtain rfl := Option.some.inj h
            refine ⟨(y9l32, r36l32), hE44 _ rfl, ?_⟩
            try dsimp only
            exact weakL id rfl rfl rfl rfl rfl ⟨.row rfl, .sv (SV.imp_refl _), trivial⟩ trivial ⟨⟨_, rfl, SVIs.refl _⟩, trivial⟩ (fun _ _ => rfl)
          · replace h := br_t h
            refine ok_condT rfl ?_
            refine ok_skip ?_
            refine AThen.n ?_
            refine ok_seq ?_
            refine ok_block ?_
            refine ok_seq ?_
            refine ok_region ?_
            refine RT.mv .none rfl (tl rfl) ?_
            refine RT.mv .none rfl (tl rfl) ?_
            replace h := bind_some h
            obtain ⟨x81, h81, h⟩ := h
            refine RT.ixM .none rfl rfl (tl rfl) h81 ?_
            refine RT.loadRV .none rfl rfl (tl rfl) ?_
            refine RT.buildRw (l := [x81]) (e := eI64) .none (.one rfl (.nil)) (tl rfl) rfl (tl rfl) rfl rfl rfl rfl rfl rfl ?_
            refine RT.mv .none rfl (tl rfl) ?_
            replace h := bind_some h
            obtain ⟨x85, h85, h⟩ := h
            refine RT.apIR (k := y9l32) (e := eI64) .none rfl rfl rfl (tl rfl) rfl (tl rfl) h85 ?_
            replace h := bind_some h
            obtain ⟨x86, h86, h⟩ := h
            refine RT.call .none (ref01_trim_ok h86) rfl ⟨rfl, trivial⟩ (tl rfl) ?_
            refine RT.asg .none rfl (tl rfl) ?_
            refine RT.done ?_
            refine AThen.n ?_
            refine ok_seq ?_
            refine ok_region ?_
            refine RT.asg .none rfl (tl rfl) ?_
            refine RT.asg .none rfl (tl rfl) ?_
            refine RT.done ?_
            refine AThen.n ?_
            refine ok_seq ?_
            refine ok_seq ?_
            refine ok_region ?_
            refine RT.mv .none rfl (tl rfl) ?_
            replace h := let_some h
            obtain ⟨x88, h88, h⟩ := h
            refine RT.lenM .none rfl (tl rfl) h88 ?_
            refine RT.mv .none rfl (tl rfl) ?_
            replace h := let_some h
            obtain ⟨x90, h90, h⟩ := h
            refine RT.lenM .none rfl (tl rfl) h90 ?_
            replace h := let_some h
            obtain ⟨x91, h91, h⟩ := h
            refine RT.lss .none _ rfl rfl (tl rfl) h91 ?_
            refine RT.done ?_
            refine AThen.n ?_
            refine ok_tailJ h (fun j46 => AS.mkL 120 [(0, .sv (slc 1 (List.map eI64 x0))), (1, .sv (slc 1 (List.map eI64 x1))), (6, .row 36), (9, .sv (slc 1 (List.map eI64 x86))), (10, .sv (.v (.int .i64 y10l32))), (11, .sv (.v (.int .i64 0))), (12, .sv (.v (.int .i64 j46)))] [] [(36, TR 3 1 eI64 r36l32)]) (fun h => ?_) (fun y12j45 h => ?_)
            · cases x91
              · replace h := br_f h
                refine ok_condF rfl ?_
                refine ok_skip ?_
                refine AThen.n ?_
                refine ⟨65536, h, ?_⟩
                try dsimp only
                exact weakL id rfl rfl rfl rfl rfl ⟨.sv (SV.imp_refl _), .sv (SV.imp_refl _), .row rfl, .sv (SV.imp_refl _), .sv (SV.imp_refl _), .sv (SV.imp_refl _), .sv (SV.imp_refl _), trivial⟩ trivial ⟨⟨_, rfl, SVIs.refl _⟩, trivial⟩ (fun _ _ => rfl)
              · replace h := br_t h
                refine ok_condT rfl ?_
                refine ok_region ?_
                refine RT.asg .none rfl (tl rfl) ?_
                refine RT.done ?_
                refine AThen.n ?_
                refine ⟨1, h, ?_⟩
                try dsimp only
                exact weakL id rfl rfl rfl rfl rfl ⟨.sv (SV.imp_refl _), .sv (SV.imp_refl _), .row rfl, .sv (SV.imp_refl _), .sv (SV.imp_refl _), .sv (SV.imp_refl _), .sv (SV.imp_refl _), trivial⟩ trivial ⟨⟨_, rfl, SVIs.refl _⟩, trivial⟩ (fun _ _ => rfl)
            · try dsimp only
              refine AThen.n ?_
              refine ok_seq ?_
              replace h := bind_some h
              obtain ⟨e54, hl54, ho54⟩ := h
              refine ok_tailP (fun (y11e53 : Int) => AS.mkL 120 [(0, .sv (slc 1 (List.map eI64 x0))), (1, .sv (slc 1 (List.map eI64 x1))), (6, .row 36), (9, .sv (slc 1 (List.map eI64 x86))), (10, .sv (.v (.int .i64 y10l32))), (11, .sv (.v (.int .i64 y11e53)))] [] [(36, TR 3 1 eI64 r36l32)]) (fun y11e53 => y11e53 = e54) ?_ (fun y11e53 hx54 => ?_)
              · refine ok_block ?_
                refine ok_loopM hl54 (fun s54 => AS.mkL 120 [(0, .sv (slc 1 (List.map eI64 x0))), (1, .sv (slc 1 (List.map eI64 x1))), (6, .row 36), (9, .sv (slc 1 (List.map eI64 x86))), (10, .sv (.v (.int .i64 y10l32))), (11, .sv (.v (.int .i64 s54.1))), (12, .sv (.v (.int .i64 s54.2)))] [] [(36, TR 3 1 eI64 r36l32)]) (by (try dsimp only); exact weakL id rfl rfl rfl rfl rfl ⟨.sv (SV.imp_refl _), .sv (SV.imp_refl _), .row rfl, .sv (SV.imp_refl _), .sv (SV.imp_refl _), .sv (SV.imp_refl _), .sv (SV.imp_refl _), trivial⟩ trivial ⟨⟨_, rfl, SVIs.refl _⟩, trivial⟩ (fun _ _ => rfl)) (fun s54 y54 G54 h hG54 hE54 => ?_)
                obtain ⟨y11l50, y12l50⟩ := s54
                try dsimp only
                refine ok_seq ?_
                refine ok_seq ?_
                refine ok_region ?_
                refine RT.mv .none rfl (tl rfl) ?_
                refine RT.mv .none rfl (tl rfl) ?_
                replace h := let_some h
                obtain ⟨x94, h94, h⟩ := h
                refine RT.sub .none _ rfl rfl (tl rfl) h94 ?_
                replace h := let_some h
                obtain ⟨x95, h95, h⟩ := h
                refine RT.gtr .none _ rfl rfl (tl rfl) h95 ?_
                refine RT.done ?_
                refine AThen.n ?_
                cases x95
                · replace h := br_f h
                  refine ok_condF rfl ?_
                  refine ok_exit ?_
                  refine AThen.x ?_
                  refine AThen.x ?_
                  refine AInB.x ?_
                  refine AThen.n ?_
                  obtain rfl := Option.some.inj h
                  refine ⟨y11l50, hE54 _ rfl, ?_⟩
                  try dsimp only
                  exact weakL id rfl rfl rfl rfl rfl ⟨.sv (SV.imp_refl _), .sv (SV.imp_refl _), .row rfl, .sv (SV.imp_refl _), .sv (SV.imp_refl _), .sv (SV.imp_refl _), trivial⟩ trivial ⟨⟨_, rfl, SVIs.refl _⟩, trivial⟩ (fun _ _ => rfl)
                · replace h := br_t h
                  refine ok_condT rfl ?_
                  refine ok_skip ?_
                  refine AThen.n ?_
                  refine ok_block ?_
                  refine ok_seq ?_
                  refine ok_region ?_
                  refine RT.mv .none rfl (tl rfl) ?_
                  refine RT.mv .none rfl (tl rfl) ?_
                  replace h := let_some h
                  obtain ⟨x98, h98, h⟩ := h
                  refine RT.add .none _ rfl rfl (tl rfl) h98 ?_
                  replace h := let_some h
                  obtain ⟨x99, h99, h⟩ := h
                  refine RT.quo .none _ rfl rfl (tl rfl) (by decide) h99 ?_
                  refine RT.asg .none rfl (tl rfl) ?_
                  refine RT.done ?_
                  refine AThen.n ?_
                  refine ok_seq ?_
                  refine ok_region ?_
                  refine RT.mv .none rfl (tl rfl) ?_
                  refine RT.mv .none rfl (tl rfl) ?_
                  replace h := bind_some h
                  obtain ⟨x102, h102, h⟩ := h
                  refine RT.call .none (ref01_times_ok h102) rfl ⟨rfl, rfl, trivial⟩ (tl rfl) ?_
                  refine RT.mv .none rfl (tl rfl) ?_
                  replace h := bind_some h
                  obtain ⟨x104, h104, h⟩ := h
                  refine RT.call .none (ref01_cmp_ok h104) rfl ⟨rfl, rfl, trivial⟩ (tl rfl) ?_
                  replace h := let_some h
                  obtain ⟨x105, h105, h⟩ := h
                  refine RT.leq .none _ rfl rfl (tl rfl) h105 ?_
                  refine RT.done ?_
                  refine AThen.n ?_
                  refine ok_tailJ h (fun j56 => AS.mkL 120 [(0, .sv (slc 1 (List.map eI64 x0))), (1, .sv (slc 1 (List.map eI64 x1))), (6, .row 36), (9, .sv (slc 1 (List.map eI64 x86))), (10, .sv (.v (.int .i64 y10l32))), (11, .sv (.v (.int .i64 j56.1))), (12, .sv (.v (.int .i64 j56.2)))] [] [(36, TR 3 1 eI64 r36l32)]) (fun h => ?_) (fun j56 h => ?_)
                  · cases x105
                    · replace h := br_f h
                      refine ok_condF rfl ?_
                      refine ok_region ?_
                      refine RT.mv .none rfl (tl rfl) ?_
                      refine RT.asg .none rfl (tl rfl) ?_
                      refine RT.done ?_
                      refine AThen.n ?_
                      refine ⟨(y11l50, x99), h, ?_⟩
                      try dsimp only
                      exact weakL id rfl rfl rfl rfl rfl ⟨.sv (SV.imp_refl _), .sv (SV.imp_refl _), .row rfl, .sv (SV.imp_refl _), .sv (SV.imp_refl _), .sv (SV.imp_refl _), .sv (SV.imp_refl _), trivial⟩ trivial ⟨⟨_, rfl, SVIs.refl _⟩, trivial⟩ (fun _ _ => rfl)
                    · replace h := br_t h
                      refine ok_condT rfl ?_
                      refine ok_region ?_
                      refine RT.mv .none rfl (tl rfl) ?_
                      refine RT.asg .none rfl (tl rfl) ?_
                      refine RT.done ?_
                      refine AThen.n ?_
                      refine ⟨(x99, y12l50), h, ?_⟩
                      try dsimp only
                      exact weakL id rfl rfl rfl rfl rfl ⟨.sv (SV.imp_refl _), .sv (SV.imp_refl _), .row rfl, .sv (SV.imp_refl _), .sv (SV.imp_refl _), .sv (SV.imp_refl _), .sv (SV.imp_refl _), trivial⟩ trivial ⟨⟨_, rfl, SVIs.refl _⟩, trivial⟩ (fun _ _ => rfl)
                  · obtain ⟨y11j55, y12j55⟩ := j56
                    try dsimp only
                    refine AInB.n ?_
                    obtain rfl := Option.some.inj h
                    refine AThen.n ⟨(y11j55, y12j55), hG54 _ rfl, ?_⟩
                    try dsimp only
                    exact weakL id rfl rfl rfl rfl rfl ⟨.sv (SV.imp_refl _), .sv (SV.imp_refl _), .row rfl, .sv (SV.imp_refl _), .sv (SV.imp_refl _), .sv (SV.imp_refl _), .sv (SV.imp_refl _), trivial⟩ trivial ⟨⟨_, rfl, SVIs.refl _⟩, trivial⟩ (fun _ _ => rfl)
              · subst hx54
                try dsimp only
                refine AThen.n ?_
                refine ok_region ?_
                refine RT.move .none (s := .row _) rfl (tl rfl) ?_
                refine RT.mv .none rfl (tl rfl) ?_
                refine RT.mv .none rfl (tl rfl) ?_
                refine RT.mv .none rfl (tl rfl) ?_
                refine RT.mv .none rfl (tl rfl) ?_
                refine RT.mv .none rfl (tl rfl) ?_
                replace ho54 := bind_some ho54
                obtain ⟨x114, h114, ho54⟩ := ho54
                refine RT.call .none (ref01_times_ok h114) rfl ⟨rfl, rfl, trivial⟩ (tl rfl) ?_
                replace ho54 := bind_some ho54
                obtain ⟨x115, h115, ho54⟩ := ho54
                refine RT.call .none (ref01_sub_ok h115) rfl ⟨rfl, rfl, trivial⟩ (tl rfl) ?_
                replace ho54 := bind_some ho54
                obtain ⟨x116, h116, ho54⟩ := ho54
                refine RT.ixRM .none rfl rfl rfl (tl rfl) h116 ?_
                replace ho54 := bind_some ho54
                obtain ⟨l58, hl58_, ho54⟩ := ho54
                refine RT.stRM .none y11e53 rfl rfl rfl rfl hl58_ ?_
                refine RT.asg .none rfl (tl rfl) ?_
                refine RT.done ?_
                refine AInB.n ?_
                refine AThen.n ?_
                refine ok_region ?_
                refine RT.mv .none rfl (tl rfl) ?_
                replace ho54 := let_some ho54
                obtain ⟨x78, h78, ho54⟩ := ho54
                refine RT.sub .none _ rfl rfl (tl rfl) h78 ?_
                refine RT.asg .none rfl (tl rfl) ?_
                refine RT.done ?_
                obtain rfl := Option.some.inj ho54
                refine AThen.n ⟨(x115, x78, l58), hG44 _ rfl, ?_⟩
                try dsimp only
                exact weakL id rfl rfl rfl rfl rfl ⟨.sv (SV.imp_refl _), .sv (SV.imp_refl _), .row rfl, .sv (SV.imp_refl _), .sv (SV.imp_refl _), trivial⟩ trivial ⟨⟨_, rfl, SVIs.refl _⟩, trivial⟩ (fun _ _ => rfl)
        · subst hx44
          obtain ⟨y9e43, r36e43⟩ := xe44
          try dsimp only
          refine AThen.n ?_
          refine ok_seq ?_
          refine ok_weak (weak_frzM (i := 36) (E1 := 3) (n := 1) (e := eI64) (l := r36e43) rfl) ?_
          refine ok_region ?_
          refine RT.mv .none rfl (tl rfl) ?_
          replace ho44 := bind_some ho44
          obtain ⟨x118, h118, ho44⟩ := ho44
          refine RT.call .none (ref01_trim_ok h118) rfl ⟨rfl, trivial⟩ (tl rfl) ?_
          refine RT.mv .none rfl (tl rfl) ?_
          refine RT.asg .none rfl (tl rfl) ?_
          refine RT.asg .none rfl (tl rfl) ?_
          refine RT.done ?_
          refine AThen.n ?_
          refine ok_ret ?_
          obtain rfl := Option.some.inj ho44
          exact ⟨.inr rfl, res_imp (.tmp rfl (.tmp rfl (.nil))) (SV.imp_refl _)⟩
      · replace h := br_t h
        refine ok_condT rfl ?_
        refine ok_seq ?_
        refine ok_region ?_
        refine RT.asg .none rfl (tl rfl) ?_
        refine RT.done ?_
        refine AThen.n ?_
        refine ok_seq ?_
        refine ok_seq ?_
        refine ok_region ?_
        refine RT.mv .none rfl (tl rfl) ?_
        replace h := let_some h
        obtain ⟨x41, h41, h⟩ := h
        refine RT.lenM .none rfl (tl rfl) h41 ?_
        replace h := let_some h
        obtain ⟨x42, h42, h⟩ := h
        refine RT.sub .none _ rfl rfl (tl rfl) h42 ?_
        refine RT.asg .none rfl (tl rfl) ?_
        refine RT.done ?_
        refine AThen.n ?_
        replace h := bind_some h
        obtain ⟨e18, hl18, ho18⟩ := h
        refine ok_tailP (fun (xe18 : Int × (List Int)) => AS.mkL 120 [(6, .row 36), (7, .sv (.v (.int .i64 xe18.1)))] [] [(36, TR 3 1 eI64 xe18.2)]) (fun xe18 => xe18 = e18) ?_ (fun xe18 hx18 => ?_)
        · refine ok_block ?_
          refine ok_loopM hl18 (fun s18 => AS.mkL 120 [(0, .sv (slc 1 (List.map eI64 x0))), (1, .sv (slc 1 (List.map eI64 x1))), (6, .row 36), (7, .sv (.v (.int .i64 s18.1))), (8, .sv (.v (.int .i64 s18.2.1)))] [] [(36, TR 3 1 eI64 s18.2.2)]) (by (try dsimp only); exact weakL id rfl rfl rfl rfl rfl ⟨.sv (SV.imp_refl _), .sv (SV.imp_refl _), .row rfl, .sv (SV.imp_refl _), .sv (SV.imp_refl _), trivial⟩ trivial ⟨⟨_, rfl, SVIs.refl _⟩, trivial⟩ (fun _ _ => rfl)) (fun s18 y18 G18 h hG18 hE18 => ?_)
          obtain ⟨y7l14, y8l14, r36l14⟩ := s18
          try dsimp only
          refine ok_seq ?_
          refine ok_seq ?_
          refine ok_region ?_
          refine RT.mv .none rfl (tl rfl) ?_
          replace h := let_some h
          obtain ⟨x44, h44, h⟩ := h
          refine RT.geq .none _ rfl rfl (tl rfl) h44 ?_
          refine RT.done ?_
          refine AThen.n ?_
          cases x44
          · replace h := br_f h
            refine ok_condF rfl ?_
            refine ok_exit ?_
            refine AThen.x ?_
            refine AThen.x ?_
            refine AInB.x ?_
            refine AThen.n ?_
            obtain rfl := Option.some.inj h
            refine ⟨(y7l14, r36l14), hE18 _ rfl, ?_⟩
            try dsimp only
            exact weakL id rfl rfl rfl rfl rfl ⟨.row rfl, .sv (SV.imp_refl _), trivial⟩ trivial ⟨⟨_, rfl, SVIs.refl _⟩, trivial⟩ (fun _ _ => rfl)
          · replace h := br_t h
            refine ok_condT rfl ?_
            refine ok_skip ?_
            refine AThen.n ?_
            refine ok_seq ?_
            refine ok_block ?_
            refine ok_seq ?_
            refine ok_region ?_
            refine RT.mv .none rfl (tl rfl) ?_
            replace h := let_some h
            obtain ⟨x48, h48, h⟩ := h
            refine RT.mul .none _ rfl rfl (tl rfl) h48 ?_
            refine RT.mv .none rfl (tl rfl) ?_
            refine RT.mv .none rfl (tl rfl) ?_
            replace h := bind_some h
            obtain ⟨x51, h51, h⟩ := h
            refine RT.ixM .none rfl rfl (tl rfl) h51 ?_
            refine RT.loadRV .none rfl rfl (tl rfl) ?_
            replace h := let_some h
            obtain ⟨x53, h53, h⟩ := h
            refine RT.add .none _ rfl rfl (tl rfl) h53 ?_
            refine RT.asg .none rfl (tl rfl) ?_
            refine RT.done ?_
            refine AThen.n ?_
            refine ok_region_draw mixed ?_
            refine RT.move .none (s := .row _) rfl (tl rfl) ?_
            refine RT.mv .none rfl (tl rfl) ?_
            refine RT.mv .none rfl (tl rfl) ?_
            refine RT.mv .none rfl (tl rfl) ?_
            replace h := bind_some h
            obtain ⟨x58, h58, h⟩ := h
            refine RT.ixM .none rfl rfl (tl rfl) h58 ?_
            refine RT.loadRV .none rfl rfl (tl rfl) ?_
            replace h := bind_some h
            obtain ⟨x60, h60, h⟩ := h
            refine RT.quo .none _ rfl rfl (tl rfl) (nzI h60) (quoI h60) ?_
            refine RT.mv .none rfl (tl rfl) ?_
            refine RT.mv .none rfl (tl rfl) ?_
            replace h := bind_some h
            obtain ⟨x63, h63, h⟩ := h
            refine RT.ixM .none rfl rfl (tl rfl) h63 ?_
            refine RT.loadRV .none rfl rfl (tl rfl) ?_
            replace h := bind_some h
            obtain ⟨x65, h65, h⟩ := h
            refine RT.rem .none _ rfl rfl (tl rfl) (nzRI h65) (remI h65) ?_
            replace h := bind_some h
            obtain ⟨x66, h66, h⟩ := h
            refine RT.ixRM .none rfl rfl rfl (tl rfl) h66 ?_
            replace h := bind_some h
            obtain ⟨l20, hl20_, h⟩ := h
            refine RT.stRM .none x60 rfl rfl rfl rfl hl20_ ?_
            refine RT.asg .none rfl (tl rfl) ?_
            refine RT.done ⟨by kernel_rfl, ?_⟩
            refine AInB.n ?_
            refine AThen.n ?_
            refine ok_region ?_
            refine RT.mv .none rfl (tl rfl) ?_
            replace h := let_some h
            obtain ⟨x46, h46, h⟩ := h
            refine RT.sub .none _ rfl rfl (tl rfl) h46 ?_
            refine RT.asg .none rfl (tl rfl) ?_
            refine RT.done ?_
            obtain rfl := Option.some.inj h
            refine AThen.n ⟨(x65, x46, l20), hG18 _ rfl, ?_⟩
            try dsimp only
            exact weakL id rfl rfl rfl rfl rfl ⟨.sv (SV.imp_refl _), .sv (SV.imp_refl _), .row rfl, .sv (SV.imp_refl _), .sv (SV.imp_refl _), trivial⟩ trivial ⟨⟨_, rfl, SVIs.refl _⟩, trivial⟩ (fun _ _ => rfl)
        · subst hx18
          obtain ⟨y7e17, r36e17⟩ := xe18
          try dsimp only
          refine AThen.n ?_
          refine ok_seq ?_
          refine ok_weak (weak_frzM (i := 36) (E1 := 3) (n := 1) (e := eI64) (l := r36e17) rfl) ?_
          refine ok_region ?_
          refine RT.mv .none rfl (tl rfl) ?_
          replace ho18 := bind_some ho18
          obtain ⟨x68, h68, ho18⟩ := ho18
          refine RT.call .none (ref01_trim_ok h68) rfl ⟨rfl, trivial⟩ (tl rfl) ?_
          refine RT.mv .none rfl (tl rfl) ?_
          refine RT.buildSl (l := [y7e17]) (e := eI64) .none (.one rfl (.nil)) (tl rfl) rfl rfl rfl rfl rfl rfl ?_
          replace ho18 := bind_some ho18
          obtain ⟨x71, h71, ho18⟩ := ho18
          refine RT.call .none (ref01_trim_ok h71) rfl ⟨rfl, trivial⟩ (tl rfl) ?_
          refine RT.asg .none rfl (tl rfl) ?_
          refine RT.asg .none rfl (tl rfl) ?_
          refine RT.done ?_
          refine AThen.n ?_
          refine ok_ret ?_
          refine AThen.r ?_
          obtain rfl := Option.some.inj ho18
          exact ⟨.inr rfl, res_imp (.tmp rfl (.tmp rfl (.nil))) (SV.imp_refl _)⟩
    · replace h := br_t h
      refine ok_condT rfl ?_
      refine ok_seq ?_
      refine ok_region ?_
      refine RT.mv .none rfl (tl rfl) ?_
      replace h := bind_some h
      obtain ⟨x23, h23, h⟩ := h
      refine RT.call .none (ref01_small_ok h23) rfl ⟨rfl, trivial⟩ (tl rfl) ?_
      refine RT.mv .none rfl (tl rfl) ?_
      replace h := bind_some h
      obtain ⟨x25, h25, h⟩ := h
      refine RT.call .none (ref01_small_ok h25) rfl ⟨rfl, trivial⟩ (tl rfl) ?_
      replace h := bind_some h
      obtain ⟨x26, h26, h⟩ := h
      refine RT.quo .none _ rfl rfl (tl rfl) (nzI h26) (quoI h26) ?_
      replace h := bind_some h
      obtain ⟨x27, h27, h⟩ := h
      refine RT.call .none (ref01_back_ok h27) rfl ⟨rfl, trivial⟩ (tl rfl) ?_
      refine RT.mv .none rfl (tl rfl) ?_
      replace h := bind_some h
      obtain ⟨x29, h29, h⟩ := h
      refine RT.call .none (ref01_small_ok h29) rfl ⟨rfl, trivial⟩ (tl rfl) ?_
      refine RT.mv .none rfl (tl rfl) ?_
      replace h := bind_some h
      obtain ⟨x31, h31, h⟩ := h
      refine RT.call .none (ref01_small_ok h31) rfl ⟨rfl, trivial⟩ (tl rfl) ?_
      replace h := bind_some h
      obtain ⟨x32, h32, h⟩ := h
      refine RT.rem .none _ rfl rfl (tl rfl) (nzRI h32) (remI h32) ?_
      replace h := bind_some h
      obtain ⟨x33, h33, h⟩ := h
      refine RT.call .none (ref01_back_ok h33) rfl ⟨rfl, trivial⟩ (tl rfl) ?_
      refine RT.asg .none rfl (tl rfl) ?_
      refine RT.asg .none rfl (tl rfl) ?_
      refine RT.done ?_
      refine AThen.n ?_
      refine ok_ret ?_
      refine AThen.r ?_
      obtain rfl := Option.some.inj h
      exact ⟨.inr rfl, res_imp (.tmp rfl (.tmp rfl (.nil))) (SV.imp_refl _)⟩
end Go.Proofs.Ytgkafblpckcekaa
namespace Go.Proofs.Ytgkafblpckcekaa
open Go.Fw Go.RowKit
theorem ref01_Sign_ok {x0 : Zr} {r : Int} (h : ref01_Sign_m x0 = some r) : Pure Try.prog 40 [.agg (eZ x0)] (.v (.int .i64 r)) := by
  obtain ⟨x0_0, x0_1⟩ := x0
  refine pure_of_ok Try.func40 rfl (Nat.le_of_ble_eq_true rfl) (fun wld M vs hvs => ?_)
  unfold ref01_Sign_m at h
  refine ok_seq ?_
  refine ok_region ?_
  refine RT.box .none rfl (tl rfl) rfl rfl ?_
  refine RT.asg .none rfl (tl rfl) ?_
  refine RT.done ?_
  refine AThen.n ?_
  refine ok_seq ?_
  refine ok_seq ?_
  refine ok_region ?_
  refine RT.fieldAddr .none rfl (tl rfl) rfl ?_
  refine RT.ldV .none rfl rfl rfl (tl rfl) ?_
  replace h := bind_some h
  obtain ⟨x5, h5, h⟩ := h
  refine RT.call .none (ref01_halves_ok h5) rfl ⟨rfl, trivial⟩ (tl rfl) ?_
  replace h := let_some h
  obtain ⟨x6, h6, h⟩ := h
  refine RT.lenM .none rfl (tl rfl) h6 ?_
  replace h := let_some h
  obtain ⟨x7, h7, h⟩ := h
  refine RT.eql .none _ rfl rfl (tl rfl) (eqI (p := x6) (q := 0) h7) ?_
  refine RT.done ?_
  refine AThen.n ?_
  cases x7
  · replace h := br_f h
    refine ok_condF rfl ?_
    refine ok_skip ?_
    refine AThen.n ?_
    refine ok_seq ?_
    refine ok_seq ?_
    refine ok_region ?_
    refine RT.fieldAddr .none rfl (tl rfl) rfl ?_
    refine RT.ldV .none rfl rfl rfl (tl rfl) ?_
    refine RT.done ?_
    refine AThen.n ?_
    cases x0_0
    · replace h := br_f h
      refine ok_condF rfl ?_
      refine ok_skip ?_
      refine AThen.n ?_
      refine ok_seq ?_
      refine ok_region ?_
      refine RT.asg .none rfl (tl rfl) ?_
      refine RT.done ?_
      refine AThen.n ?_
      refine ok_ret ?_
      obtain rfl := Option.some.inj h
      exact ⟨.inr rfl, res_imp (.tmp rfl (.nil)) (SV.imp_refl _)⟩
    · replace h := br_t h
      refine ok_condT rfl ?_
      refine ok_seq ?_
      refine ok_region ?_
      refine RT.asg .none rfl (tl rfl) ?_
      refine RT.done ?_
      refine AThen.n ?_
      refine ok_ret ?_
      refine AThen.r ?_
      obtain rfl := Option.some.inj h
      exact ⟨.inr rfl, res_imp (.tmp rfl (.nil)) (SV.imp_refl _)⟩
  · replace h := br_t h
    refine ok_condT rfl ?_
    refine ok_seq ?_
    refine ok_region ?_
    refine RT.asg .none rfl (tl rfl) ?_
    refine RT.done ?_
    refine AThen.n ?_
    refine ok_ret ?_
    refine AThen.r ?_
    obtain rfl := Option.some.inj h
    exact ⟨.inr rfl, res_imp (.tmp rfl (.nil)) (SV.imp_refl _)⟩
theorem ref01_Text_ok {x0 : Zr} {r : Str} (h : ref01_Text_m x0 = some r) : Pure Try.prog 20 [.agg (eZ x0)] (.v (.string (bs r))) := by
  obtain ⟨x0_0, x0_1⟩ := x0
  refine pure_of_ok Try.func20 rfl (Nat.le_of_ble_eq_true rfl) (fun wld M vs hvs => ?_)
  unfold ref01_Text_m at h
  refine ok_seq ?_
  refine ok_region ?_
  refine RT.box .none rfl (tl rfl) rfl rfl ?_
  refine RT.asg .none rfl (tl rfl) ?_
  refine RT.done ?_
  refine AThen.n ?_
  refine ok_seq ?_
  refine ok_region ?_
  refine RT.fieldAddr .none rfl (tl rfl) rfl ?_
  refine RT.ldV .none rfl rfl rfl (tl rfl) ?_
  replace h := bind_some h
  obtain ⟨x9, h9, h⟩ := h
  refine RT.call .none (ref01_halves_ok h9) rfl ⟨rfl, trivial⟩ (tl rfl) ?_
  refine RT.asg .none rfl (tl rfl) ?_
  refine RT.done ?_
  refine AThen.n ?_
  refine ok_seq ?_
  refine ok_region ?_
  refine RT.asg .none rfl (tl rfl) ?_
  refine RT.done ?_
  refine AThen.n ?_
  refine ok_seq ?_
  replace h := bind_some h
  obtain ⟨e10, hl10, ho10⟩ := h
  refine ok_tailP (fun (y4e9 : Str) => AS.mkL 38 [(1, .ptr 1 0), (4, .sv (.v (.string (bs y4e9))))] [(1, ⟨24, [.sv (.v (.bool x0_0)), .sv (slc 1 (List.map eU32 x0_1))]⟩)] []) (fun y4e9 => y4e9 = e10) ?_ (fun y4e9 hx10 => ?_)
  · refine ok_block ?_
    refine ok_loopM hl10 (fun s10 => AS.mkL 38 [(1, .ptr 1 0), (3, .sv (slc 1 (List.map eI64 s10.1))), (4, .sv (.v (.string (bs s10.2))))] [(1, ⟨24, [.sv (.v (.bool x0_0)), .sv (slc 1 (List.map eU32 x0_1))]⟩)] []) (by (try dsimp only); exact weakL id rfl rfl rfl rfl rfl ⟨.ptr, .sv (SV.imp_refl _), .sv (SV.imp_refl _), trivial⟩ ⟨⟨_, rfl, ⟨.sv (SV.imp_refl _), .sv (SV.imp_refl _), trivial⟩⟩, trivial⟩ trivial (fun _ _ => rfl)) (fun s10 y10 G10 h hG10 hE10 => ?_)
    obtain ⟨y3l5, y4l5⟩ := s10
    try dsimp only
    refine ok_seq ?_
    refine ok_seq ?_
    refine ok_tailJ h (fun j13 => AS.mkL 38 [(1, .ptr 1 0), (3, .sv (slc 1 (List.map eI64 y3l5))), (4, .sv (.v (.string (bs y4l5)))), (16, .sv (.v (.bool j13)))] [(1, ⟨24, [.sv (.v (.bool x0_0)), .sv (slc 1 (List.map eU32 x0_1))]⟩)] []) (fun h => ?_) (fun y16j12 h => ?_)
    · refine ok_region ?_
      refine RT.mv .none rfl (tl rfl) ?_
      replace h := let_some h
      obtain ⟨x11, h11, h⟩ := h
      refine RT.lenM .none rfl (tl rfl) h11 ?_
      replace h := let_some h
      obtain ⟨x12, h12, h⟩ := h
      refine RT.gtr .none _ rfl rfl (tl rfl) h12 ?_
      refine RT.mv .none rfl (tl rfl) ?_
      replace h := bind_some h
      obtain ⟨c16_14, hg14, h⟩ := h
      cases x12
      · replace hg14 := br_f hg14
        refine RT.mv (.some rfl rfl) rfl (tl rfl) ?_
        replace hg14 := let_some hg14
        obtain ⟨x15, h15, hg14⟩ := hg14
        refine RT.seql (l := y4l5) (k := []) (.some rfl rfl) rfl rfl (tl rfl) h15 ?_
        obtain rfl := Option.some.inj hg14
        refine RT.pickF .none rfl rfl (tl rfl) ?_
        refine RT.done ?_
        refine AThen.n ?_
        refine ⟨x15, h, ?_⟩
        try dsimp only
        exact weakL id rfl rfl rfl rfl rfl ⟨.ptr, .sv (SV.imp_refl _), .sv (SV.imp_refl _), .sv (SV.imp_refl _), trivial⟩ ⟨⟨_, rfl, ⟨.sv (SV.imp_refl _), .sv (SV.imp_refl _), trivial⟩⟩, trivial⟩ trivial (fun _ _ => rfl)
      · replace hg14 := br_t hg14
        obtain rfl := Option.some.inj hg14
        refine RT.skV rfl rfl (sk rfl) (tl rfl) ?_
        refine RT.skV rfl rfl (sk rfl) (tl rfl) ?_
        refine RT.pickT .none rfl rfl (tl rfl) ?_
        refine RT.done ?_
        refine AThen.n ?_
        refine ⟨true, h, ?_⟩
        try dsimp only
        exact weakL id rfl rfl rfl rfl rfl ⟨.ptr, .sv (SV.imp_refl _), .sv (SV.imp_refl _), .sv (SV.imp_refl _), trivial⟩ ⟨⟨_, rfl, ⟨.sv (SV.imp_refl _), .sv (SV.imp_refl _), trivial⟩⟩, trivial⟩ trivial (fun _ _ => rfl)
    · try dsimp only
      refine AThen.n ?_
      cases y16j12
      · replace h := br_f h
        refine ok_condF rfl ?_
        refine ok_exit ?_
        refine AThen.x ?_
        refine AThen.x ?_
        refine AInB.x ?_
        refine AThen.n ?_
        obtain rfl := Option.some.inj h
        refine ⟨y4l5, hE10 _ rfl, ?_⟩
        try dsimp only
        exact weakL id rfl rfl rfl rfl rfl ⟨.ptr, .sv (SV.imp_refl _), trivial⟩ ⟨⟨_, rfl, ⟨.sv (SV.imp_refl _), .sv (SV.imp_refl _), trivial⟩⟩, trivial⟩ trivial (fun _ _ => rfl)
      · replace h := br_t h
        refine ok_condT rfl ?_
        refine ok_skip ?_
        refine AThen.n ?_
        refine ok_block ?_
        refine ok_seq ?_
        refine ok_region ?_
        refine RT.mv .none rfl (tl rfl) ?_
        refine RT.buildSl (l := [10]) (e := eI64) .none (.one rfl (.nil)) (tl rfl) rfl rfl rfl rfl rfl rfl ?_
        replace h := bind_some h
        obtain ⟨⟨x20a, x20b⟩, h20, h⟩ := h
        refine RT.call .none (ref01_div_ok h20) rfl ⟨rfl, rfl, trivial⟩ (tl rfl) ?_
        refine RT.mv .none rfl (tl rfl) ?_
        refine RT.extract .none rfl rfl (tl rfl) ?_
        refine RT.extract .none rfl rfl (tl rfl) ?_
        refine RT.asg .none rfl (tl rfl) ?_
        refine RT.asg .none rfl (tl rfl) ?_
        refine RT.done ?_
        refine AThen.n ?_
        refine ok_seq ?_
        refine ok_region ?_
        refine RT.mv .none rfl (tl rfl) ?_
        replace h := bind_some h
        obtain ⟨x24, h24, h⟩ := h
        refine RT.call .none (ref01_at_ok h24) rfl ⟨rfl, rfl, trivial⟩ (tl rfl) ?_
        replace h := let_some h
        obtain ⟨x25, h25, h⟩ := h
        refine RT.conv .none _ rfl (tl rfl) (UK.conv h25) ?_
        replace h := let_some h
        obtain ⟨x26, h26, h⟩ := h
        refine RT.add .none _ rfl rfl (tl rfl) (UK.add (a := 48) (b := x25) h26) ?_
        refine RT.buildSl (l := [x26]) (e := eU8) .none (.one rfl (.nil)) (tl rfl) rfl rfl rfl rfl rfl rfl ?_
        replace h := let_some h
        obtain ⟨x28, h28, h⟩ := h
        refine RT.toStr (w := [x26]) .none rfl (tl rfl) h28 ?_
        refine RT.mv .none rfl (tl rfl) ?_
        replace h := bind_some h
        obtain ⟨x30, h30, h⟩ := h
        refine RT.sadd (l := x28) (k := y4l5) .none rfl rfl (tl rfl) h30 ?_
        refine RT.asg .none rfl (tl rfl) ?_
        refine RT.done ?_
        refine AThen.n ?_
        refine ok_region ?_
        refine RT.mv .none rfl (tl rfl) ?_
        refine RT.asg .none rfl (tl rfl) ?_
        refine RT.done ?_
        refine AInB.n ?_
        obtain rfl := Option.some.inj h
        refine AThen.n ⟨(x20a, x30), hG10 _ rfl, ?_⟩
        try dsimp only
        exact weakL id rfl rfl rfl rfl rfl ⟨.ptr, .sv (SV.imp_refl _), .sv (SV.imp_refl _), trivial⟩ ⟨⟨_, rfl, ⟨.sv (SV.imp_refl _), .sv (SV.imp_refl _), trivial⟩⟩, trivial⟩ trivial (fun _ _ => rfl)
  · subst hx10
    try dsimp only
    refine AThen.n ?_
    refine ok_seq ?_
    refine ok_seq ?_
    refine ok_region ?_
    refine RT.load .none rfl rfl (.cons rfl (.cons rfl (.nil))) rfl (tl rfl) ?_
    replace ho10 := bind_some ho10
    obtain ⟨x33, h33, ho10⟩ := ho10
    refine RT.call .none (ref01_Sign_ok h33) rfl ⟨rfl, trivial⟩ (tl rfl) ?_
    replace ho10 := let_some ho10
    obtain ⟨x34, h34, ho10⟩ := ho10
    refine RT.lss .none _ rfl rfl (tl rfl) h34 ?_
    refine RT.done ?_
    refine AThen.n ?_
    cases x34
    · replace ho10 := br_f ho10
      refine ok_condF rfl ?_
      refine ok_skip ?_
      refine AThen.n ?_
      refine ok_seq ?_
      refine ok_region ?_
      refine RT.mv .none rfl (tl rfl) ?_
      refine RT.asg .none rfl (tl rfl) ?_
      refine RT.done ?_
      refine AThen.n ?_
      refine ok_ret ?_
      obtain rfl := Option.some.inj ho10
      exact ⟨.inr rfl, res_imp (.tmp rfl (.nil)) (SV.imp_refl _)⟩
    · replace ho10 := br_t ho10
      refine ok_condT rfl ?_
      refine ok_seq ?_
      refine ok_region ?_
      refine RT.mv .none rfl (tl rfl) ?_
      replace ho10 := bind_some ho10
      obtain ⟨x36, h36, ho10⟩ := ho10
      refine RT.sadd (l := [45]) (k := y4e9) .none rfl rfl (tl rfl) h36 ?_
      refine RT.asg .none rfl (tl rfl) ?_
      refine RT.done ?_
      refine AThen.n ?_
      refine ok_ret ?_
      refine AThen.r ?_
      obtain rfl := Option.some.inj ho10
      exact ⟨.inr rfl, res_imp (.tmp rfl (.nil)) (SV.imp_refl _)⟩
theorem ref01_Parse_ok {x0 : Str} {r : Zr × Int} (h : ref01_Parse_m x0 = some r) : Pure Try.prog 19 [.v (.string (bs x0))] (.tup [.agg (eZ r.1), .v (.int .i64 r.2)]) := by
  refine pure_of_ok Try.func19 rfl (Nat.le_of_ble_eq_true rfl) (fun wld M vs hvs => ?_)
  unfold ref01_Parse_m at h
  refine ok_seq ?_
  refine ok_region ?_
  refine RT.allocI .none (cs := [.v (.bool false), slc 1 (List.map eU32 [])]) (by exact ⟨SV.imp_refl _, imp_nil, trivial⟩) rfl (tl rfl) rfl rfl ?_
  refine RT.asg .none rfl (tl rfl) ?_
  refine RT.done ?_
  refine AThen.n ?_
  refine ok_seq ?_
  refine ok_tailJ h (fun j3 => AS.mkL 69 [(0, .sv (.v (.string (bs x0)))), (2, .ptr 2 0), (4, .sv (.v (.bool j3)))] [(2, ⟨24, [.sv (.v (.bool false)), .sv (slc 1 (List.map eU32 []))]⟩)] []) (fun h => ?_) (fun y4j2 h => ?_)
  · refine ok_region ?_
    refine RT.mv .none rfl (tl rfl) ?_
    replace h := let_some h
    obtain ⟨x9, h9, h⟩ := h
    refine RT.sneq (l := x0) (k := []) .none rfl rfl (tl rfl) h9 ?_
    refine RT.mv .none rfl (tl rfl) ?_
    replace h := bind_some h
    obtain ⟨c14_28, hg28, h⟩ := h
    cases x9
    · replace hg28 := br_f hg28
      obtain rfl := Option.some.inj hg28
      refine RT.skV rfl rfl (sk rfl) (tl rfl) ?_
      refine RT.skV rfl rfl (sk rfl) (tl rfl) ?_
      refine RT.skV rfl rfl (sk rfl) (tl rfl) ?_
      refine RT.pickF .none rfl rfl (tl rfl) ?_
      refine RT.asg .none rfl (tl rfl) ?_
      refine RT.done ?_
      refine AThen.n ?_
      refine ⟨false, h, ?_⟩
      try dsimp only
      exact weakL id rfl rfl rfl rfl rfl ⟨.sv (SV.imp_refl _), .ptr, .sv (SV.imp_refl _), trivial⟩ ⟨⟨_, rfl, ⟨.sv (SV.imp_refl _), .sv (SV.imp_refl _), trivial⟩⟩, trivial⟩ trivial (fun _ _ => rfl)
    · replace hg28 := br_t hg28
      refine RT.mv (.some rfl rfl) rfl (tl rfl) ?_
      replace hg28 := bind_some hg28
      obtain ⟨x12, h12, hg28⟩ := hg28
      refine RT.six (l := x0) (.some rfl rfl) rfl rfl (tl rfl) h12 ?_
      replace hg28 := let_some hg28
      obtain ⟨x13, h13, hg28⟩ := hg28
      refine RT.eql (.some rfl rfl) _ rfl rfl (tl rfl) (eqN (p := x12) (q := 45) h13) ?_
      obtain rfl := Option.some.inj hg28
      refine RT.pickT .none rfl rfl (tl rfl) ?_
      refine RT.asg .none rfl (tl rfl) ?_
      refine RT.done ?_
      refine AThen.n ?_
      refine ⟨x13, h, ?_⟩
      try dsimp only
      exact weakL id rfl rfl rfl rfl rfl ⟨.sv (SV.imp_refl _), .ptr, .sv (SV.imp_refl _), trivial⟩ ⟨⟨_, rfl, ⟨.sv (SV.imp_refl _), .sv (SV.imp_refl _), trivial⟩⟩, trivial⟩ trivial (fun _ _ => rfl)
  · try dsimp only
    refine AThen.n ?_
    refine ok_seq ?_
    refine ok_region ?_
    refine RT.mv .none rfl (tl rfl) ?_
    refine RT.asg .none rfl (tl rfl) ?_
    refine RT.done ?_
    refine AThen.n ?_
    refine ok_seq ?_
    refine ok_seq ?_
    refine ok_region ?_
    refine RT.mv .none rfl (tl rfl) ?_
    refine RT.done ?_
    refine AThen.n ?_
    refine ok_tailJ h (fun j5 => AS.mkL 69 [(2, .ptr 2 0), (4, .sv (.v (.bool j5.1))), (5, .sv (.v (.string (bs j5.2))))] [(2, ⟨24, [.sv (.v (.bool false)), .sv (slc 1 (List.map eU32 []))]⟩)] []) (fun h => ?_) (fun j5 h => ?_)
    · cases y4j2
      · replace h := br_f h
        refine ok_condF rfl ?_
        refine ok_skip ?_
        refine AThen.n ?_
        refine ⟨(false, x0), h, ?_⟩
        try dsimp only
        exact weakL id rfl rfl rfl rfl rfl ⟨.ptr, .sv (SV.imp_refl _), .sv (SV.imp_refl _), trivial⟩ ⟨⟨_, rfl, ⟨.sv (SV.imp_refl _), .sv (SV.imp_refl _), trivial⟩⟩, trivial⟩ trivial (fun _ _ => rfl)
      · replace h := br_t h
        refine ok_condT rfl ?_
        refine ok_region ?_
        refine RT.mv .none rfl (tl rfl) ?_
        replace h := bind_some h
        obtain ⟨x18, h18, h⟩ := h
        refine RT.ssl .none 1 (x0.length : Int) rfl ⟨_, rfl⟩ rfl (tl rfl) h18 ?_
        refine RT.asg .none rfl (tl rfl) ?_
        refine RT.done ?_
        refine AThen.n ?_
        refine ⟨(true, x18), h, ?_⟩
        try dsimp only
        exact weakL id rfl rfl rfl rfl rfl ⟨.ptr, .sv (SV.imp_refl _), .sv (SV.imp_refl _), trivial⟩ ⟨⟨_, rfl, ⟨.sv (SV.imp_refl _), .sv (SV.imp_refl _), trivial⟩⟩, trivial⟩ trivial (fun _ _ => rfl)
    · obtain ⟨y4j4, y5j4⟩ := j5
      try dsimp only
      refine AThen.n ?_
      refine ok_seq ?_
      refine ok_seq ?_
      refine ok_region ?_
      refine RT.mv .none rfl (tl rfl) ?_
      replace h := let_some h
      obtain ⟨x20, h20, h⟩ := h
      refine RT.slen (l := y5j4) .none rfl (tl rfl) h20 ?_
      replace h := let_some h
      obtain ⟨x21, h21, h⟩ := h
      refine RT.gtr .none _ rfl rfl (tl rfl) h21 ?_
      refine RT.done ?_
      refine AThen.n ?_
      cases x21
      · replace h := br_f h
        refine ok_condF rfl ?_
        refine ok_skip ?_
        refine AThen.n ?_
        refine ok_seq ?_
        refine ok_seq ?_
        refine ok_tailJ h (fun j10 => AS.mkL 69 [(2, .ptr 2 0), (4, .sv (.v (.bool y4j4))), (5, .sv (.v (.string (bs y5j4)))), (37, .sv (.v (.bool j10)))] [(2, ⟨24, [.sv (.v (.bool false)), .sv (slc 1 (List.map eU32 []))]⟩)] []) (fun h => ?_) (fun y37j9 h => ?_)
        · refine ok_region ?_
          refine RT.mv .none rfl (tl rfl) ?_
          replace h := let_some h
          obtain ⟨x24, h24, h⟩ := h
          refine RT.seql (l := y5j4) (k := []) .none rfl rfl (tl rfl) h24 ?_
          refine RT.mv .none rfl (tl rfl) ?_
          replace h := bind_some h
          obtain ⟨c37_25, hg25, h⟩ := h
          cases x24
          · replace hg25 := br_f hg25
            refine RT.mv (.some rfl rfl) rfl (tl rfl) ?_
            replace hg25 := bind_some hg25
            obtain ⟨x27, h27, hg25⟩ := hg25
            refine RT.six (l := y5j4) (.some rfl rfl) rfl rfl (tl rfl) h27 ?_
            replace hg25 := let_some hg25
            obtain ⟨x28, h28, hg25⟩ := hg25
            refine RT.eql (.some rfl rfl) _ rfl rfl (tl rfl) (eqN (p := x27) (q := 48) h28) ?_
            refine RT.mv (.some rfl rfl) rfl (tl rfl) ?_
            replace hg25 := bind_some hg25
            obtain ⟨c36_26, hg26, hg25⟩ := hg25
            cases x28
            · replace hg26 := br_f hg26
              obtain rfl := Option.some.inj hg26
              refine RT.skV rfl rfl (sk rfl) (tl rfl) ?_
              refine RT.skV rfl rfl (sk rfl) (tl rfl) ?_
              refine RT.skV rfl rfl (sk rfl) (tl rfl) ?_
              refine RT.skV rfl rfl (sk rfl) (tl rfl) ?_
              refine RT.skipU rfl rfl (tl rfl) ?_
              refine RT.skV rfl rfl (sk rfl) (tl rfl) ?_
              refine RT.pickF (.some rfl rfl) rfl rfl (tl rfl) ?_
              obtain rfl := Option.some.inj hg25
              refine RT.pickF .none rfl rfl (tl rfl) ?_
              refine RT.done ?_
              refine AThen.n ?_
              refine ⟨false, h, ?_⟩
              try dsimp only
              exact weakL id rfl rfl rfl rfl rfl ⟨.ptr, .sv (SV.imp_refl _), .sv (SV.imp_refl _), .sv (SV.imp_refl _), trivial⟩ ⟨⟨_, rfl, ⟨.sv (SV.imp_refl _), .sv (SV.imp_refl _), trivial⟩⟩, trivial⟩ trivial (fun _ _ => rfl)
            · replace hg26 := br_t hg26
              refine RT.mv (.some rfl rfl) rfl (tl rfl) ?_
              replace hg26 := let_some hg26
              obtain ⟨x31, h31, hg26⟩ := hg26
              refine RT.slen (l := y5j4) (.some rfl rfl) rfl (tl rfl) h31 ?_
              replace hg26 := let_some hg26
              obtain ⟨x32, h32, hg26⟩ := hg26
              refine RT.gtr (.some rfl rfl) _ rfl rfl (tl rfl) h32 ?_
              refine RT.mv (.some rfl rfl) rfl (tl rfl) ?_
              replace hg26 := bind_some hg26
              obtain ⟨c35_27, hg27, hg26⟩ := hg26
              cases x32
              · replace hg27 := br_f hg27
                refine RT.mv (.some rfl rfl) rfl (tl rfl) ?_
                obtain rfl := Option.some.inj hg27
                refine RT.pickF (.some rfl rfl) rfl rfl (tl rfl) ?_
                obtain rfl := Option.some.inj hg26
                refine RT.pickT (.some rfl rfl) rfl rfl (tl rfl) ?_
                obtain rfl := Option.some.inj hg25
                refine RT.pickF .none rfl rfl (tl rfl) ?_
                refine RT.done ?_
                refine AThen.n ?_
                refine ⟨y4j4, h, ?_⟩
                try dsimp only
                exact weakL id rfl rfl rfl rfl rfl ⟨.ptr, .sv (SV.imp_refl _), .sv (SV.imp_refl _), .sv (SV.imp_refl _), trivial⟩ ⟨⟨_, rfl, ⟨.sv (SV.imp_refl _), .sv (SV.imp_refl _), trivial⟩⟩, trivial⟩ trivial (fun _ _ => rfl)
              · replace hg27 := br_t hg27
                obtain rfl := Option.some.inj hg27
                refine RT.skV rfl rfl (sk rfl) (tl rfl) ?_
                refine RT.pickT (.some rfl rfl) rfl rfl (tl rfl) ?_
                obtain rfl := Option.some.inj hg26
                refine RT.pickT (.some rfl rfl) rfl rfl (tl rfl) ?_
                obtain rfl := Option.some.inj hg25
                refine RT.pickF .none rfl rfl (tl rfl) ?_
                refine RT.done ?_
                refine AThen.n ?_
                refine ⟨true, h, ?_⟩
                try dsimp only
                exact weakL id rfl rfl rfl rfl rfl ⟨.ptr, .sv (SV.imp_refl _), .sv (SV.imp_refl _), .sv (SV.imp_refl _), trivial⟩ ⟨⟨_, rfl, ⟨.sv (SV.imp_refl _), .sv (SV.imp_refl _), trivial⟩⟩, trivial⟩ trivial (fun _ _ => rfl)
          · replace hg25 := br_t hg25
            obtain rfl := Option.some.inj hg25
            refine RT.skV rfl rfl (sk rfl) (tl rfl) ?_
            refine RT.skV rfl rfl (sk rfl) (tl rfl) ?_
            refine RT.skV rfl rfl (sk rfl) (tl rfl) ?_
            refine RT.skV rfl rfl (sk rfl) (tl rfl) ?_
            refine RT.skipU rfl rfl (tl rfl) ?_
            refine RT.skipU rfl rfl (tl rfl) ?_
            refine RT.skipU rfl rfl (tl rfl) ?_
            refine RT.skipU rfl rfl (tl rfl) ?_
            refine RT.skipU rfl rfl (tl rfl) ?_
            refine RT.skipU rfl rfl (tl rfl) ?_
            refine RT.skV rfl rfl (sk rfl) (tl rfl) ?_
            refine RT.pickT .none rfl rfl (tl rfl) ?_
            refine RT.done ?_
            refine AThen.n ?_
            refine ⟨true, h, ?_⟩
            try dsimp only
            exact weakL id rfl rfl rfl rfl rfl ⟨.ptr, .sv (SV.imp_refl _), .sv (SV.imp_refl _), .sv (SV.imp_refl _), trivial⟩ ⟨⟨_, rfl, ⟨.sv (SV.imp_refl _), .sv (SV.imp_refl _), trivial⟩⟩, trivial⟩ trivial (fun _ _ => rfl)
        · try dsimp only
          refine AThen.n ?_
          cases y37j9
          · replace h := br_f h
            refine ok_condF rfl ?_
            refine ok_skip ?_
            refine AThen.n ?_
            refine ok_seq ?_
            refine ok_region ?_
            refine RT.asgI .none rfl (imp_nil (n := 1) (e := eI64)) (tl rfl) ?_
            refine RT.done ?_
            refine AThen.n ?_
            refine ok_seq ?_
            refine ok_seq ?_
            refine ok_region ?_
            refine RT.asg .none rfl (tl rfl) ?_
            refine RT.done ?_
            refine AThen.n ?_
            replace h := bind_some h
            obtain ⟨e20, hl20, ho20⟩ := h
            refine ok_tailP (fun (y6e19 : (List Int)) => AS.mkL 69 [(2, .ptr 2 0), (4, .sv (.v (.bool y4j4))), (6, .sv (slc 1 (List.map eI64 y6e19)))] [(2, ⟨24, [.sv (.v (.bool false)), .sv (slc 1 (List.map eU32 []))]⟩)] []) (fun y6e19 => .inl y6e19 = e20) ?_ (fun y6e19 hx20 => ?_)
            · refine ok_block ?_
              refine ok_loopM hl20 (fun s20 => AS.mkL 69 [(2, .ptr 2 0), (4, .sv (.v (.bool y4j4))), (5, .sv (.v (.string (bs y5j4)))), (6, .sv (slc 1 (List.map eI64 s20.1))), (7, .sv (.v (.int .i64 s20.2)))] [(2, ⟨24, [.sv (.v (.bool false)), .sv (slc 1 (List.map eU32 []))]⟩)] []) (by (try dsimp only); exact weakL id rfl rfl rfl rfl rfl ⟨.ptr, .sv (SV.imp_refl _), .sv (SV.imp_refl _), .sv (SV.imp_refl _), .sv (SV.imp_refl _), trivial⟩ ⟨⟨_, rfl, ⟨.sv (SV.imp_refl _), .sv (SV.imp_refl _), trivial⟩⟩, trivial⟩ trivial (fun _ _ => rfl)) (fun s20 y20 G20 h hG20 hE20 => ?_)
              obtain ⟨y6l15, y7l15⟩ := s20
              try dsimp only
              refine ok_seq ?_
              refine ok_seq ?_
              refine ok_region ?_
              refine RT.mv .none rfl (tl rfl) ?_
              refine RT.mv .none rfl (tl rfl) ?_
              replace h := let_some h
              obtain ⟨x41, h41, h⟩ := h
              refine RT.slen (l := y5j4) .none rfl (tl rfl) h41 ?_
              replace h := let_some h
              obtain ⟨x42, h42, h⟩ := h
              refine RT.lss .none _ rfl rfl (tl rfl) h42 ?_
              refine RT.done ?_
              refine AThen.n ?_
              cases x42
              · replace h := br_f h
                refine ok_condF rfl ?_
                refine ok_exit ?_
                refine AThen.x ?_
                refine AThen.x ?_
                refine AInB.x ?_
                refine AThen.n ?_
                obtain rfl := Option.some.inj h
                refine ⟨y6l15, hE20 _ rfl, ?_⟩
                try dsimp only
                exact weakL id rfl rfl rfl rfl rfl ⟨.ptr, .sv (SV.imp_refl _), .sv (SV.imp_refl _), trivial⟩ ⟨⟨_, rfl, ⟨.sv (SV.imp_refl _), .sv (SV.imp_refl _), trivial⟩⟩, trivial⟩ trivial (fun _ _ => rfl)
              · replace h := br_t h
                refine ok_condT rfl ?_
                refine ok_skip ?_
                refine AThen.n ?_
                refine ok_seq ?_
                refine ok_block ?_
                refine ok_seq ?_
                refine ok_seq ?_
                refine ok_tailJ h (fun j23 => AS.mkL 69 [(2, .ptr 2 0), (4, .sv (.v (.bool y4j4))), (5, .sv (.v (.string (bs y5j4)))), (6, .sv (slc 1 (List.map eI64 y6l15))), (7, .sv (.v (.int .i64 y7l15))), (54, .sv (.v (.bool j23)))] [(2, ⟨24, [.sv (.v (.bool false)), .sv (slc 1 (List.map eU32 []))]⟩)] []) (fun h => ?_) (fun y54j22 h => ?_)
                · refine ok_region ?_
                  refine RT.mv .none rfl (tl rfl) ?_
                  refine RT.mv .none rfl (tl rfl) ?_
                  replace h := bind_some h
                  obtain ⟨x47, h47, h⟩ := h
                  refine RT.six (l := y5j4) .none rfl rfl (tl rfl) h47 ?_
                  replace h := let_some h
                  obtain ⟨x48, h48, h⟩ := h
                  refine RT.lss .none _ rfl rfl (tl rfl) (ltN (p := x47) (q := 48) h48) ?_
                  refine RT.mv .none rfl (tl rfl) ?_
                  replace h := bind_some h
                  obtain ⟨c54_24, hg24, h⟩ := h
                  cases x48
                  · replace hg24 := br_f hg24
                    refine RT.mv (.some rfl rfl) rfl (tl rfl) ?_
                    refine RT.mv (.some rfl rfl) rfl (tl rfl) ?_
                    replace hg24 := bind_some hg24
                    obtain ⟨x52, h52, hg24⟩ := hg24
                    refine RT.six (l := y5j4) (.some rfl rfl) rfl rfl (tl rfl) h52 ?_
                    replace hg24 := let_some hg24
                    obtain ⟨x53, h53, hg24⟩ := hg24
                    refine RT.gtr (.some rfl rfl) _ rfl rfl (tl rfl) (ltN (p := 57) (q := x52) h53) ?_
                    obtain rfl := Option.some.inj hg24
                    refine RT.pickF .none rfl rfl (tl rfl) ?_
                    refine RT.done ?_
                    refine AThen.n ?_
                    refine ⟨x53, h, ?_⟩
                    try dsimp only
                    exact weakL id rfl rfl rfl rfl rfl ⟨.ptr, .sv (SV.imp_refl _), .sv (SV.imp_refl _), .sv (SV.imp_refl _), .sv (SV.imp_refl _), .sv (SV.imp_refl _), trivial⟩ ⟨⟨_, rfl, ⟨.sv (SV.imp_refl _), .sv (SV.imp_refl _), trivial⟩⟩, trivial⟩ trivial (fun _ _ => rfl)
                  · replace hg24 := br_t hg24
                    obtain rfl := Option.some.inj hg24
                    refine RT.skV rfl rfl (sk rfl) (tl rfl) ?_
                    refine RT.skV rfl rfl (sk rfl) (tl rfl) ?_
                    refine RT.skV rfl rfl (sk rfl) (tl rfl) ?_
                    refine RT.skV rfl rfl (sk rfl) (tl rfl) ?_
                    refine RT.pickT .none rfl rfl (tl rfl) ?_
                    refine RT.done ?_
                    refine AThen.n ?_
                    refine ⟨true, h, ?_⟩
                    try dsimp only
                    exact weakL id rfl rfl rfl rfl rfl ⟨.ptr, .sv (SV.imp_refl _), .sv (SV.imp_refl _), .sv (SV.imp_refl _), .sv (SV.imp_refl _), .sv (SV.imp_refl _), trivial⟩ ⟨⟨_, rfl, ⟨.sv (SV.imp_refl _), .sv (SV.imp_refl _), trivial⟩⟩, trivial⟩ trivial (fun _ _ => rfl)
                · try dsimp only
                  refine AThen.n ?_
                  cases y54j22
                  · replace h := br_f h
                    refine ok_condF rfl ?_
                    refine ok_skip ?_
                    refine AThen.n ?_
                    refine ok_region_draw mixed ?_
                    refine RT.mv .none rfl (tl rfl) ?_
                    replace h := bind_some h
                    obtain ⟨x57, h57, h⟩ := h
                    refine RT.call .none (ref01_times_ok h57) rfl ⟨rfl, rfl, trivial⟩ (tl rfl) ?_
                    refine RT.mv .none rfl (tl rfl) ?_
                    refine RT.mv .none rfl (tl rfl) ?_
                    replace h := bind_some h
                    obtain ⟨x60, h60, h⟩ := h
                    refine RT.six (l := y5j4) .none rfl rfl (tl rfl) h60 ?_
                    replace h := let_some h
                    obtain ⟨x61, h61, h⟩ := h
                    refine RT.sub .none _ rfl rfl (tl rfl) (UK.sub (a := x60) (b := 48) h61) ?_
                    replace h := let_some h
                    obtain ⟨x62, h62, h⟩ := h
                    refine RT.conv .none _ rfl (tl rfl) h62 ?_
                    refine RT.buildSl (l := [x62]) (e := eI64) .none (.one rfl (.nil)) (tl rfl) rfl rfl rfl rfl rfl rfl ?_
                    replace h := bind_some h
                    obtain ⟨x64, h64, h⟩ := h
                    refine RT.call .none (ref01_trim_ok h64) rfl ⟨rfl, trivial⟩ (tl rfl) ?_
                    replace h := bind_some h
                    obtain ⟨x65, h65, h⟩ := h
                    refine RT.call .none (ref01_add_ok h65) rfl ⟨rfl, rfl, trivial⟩ (tl rfl) ?_
                    refine RT.asg .none rfl (tl rfl) ?_
                    refine RT.done ⟨by kernel_rfl, ?_⟩
                    refine AInB.n ?_
                    refine AThen.n ?_
                    refine ok_region ?_
                    refine RT.mv .none rfl (tl rfl) ?_
                    replace h := let_some h
                    obtain ⟨x44, h44, h⟩ := h
                    refine RT.add .none _ rfl rfl (tl rfl) h44 ?_
                    refine RT.asg .none rfl (tl rfl) ?_
                    refine RT.done ?_
                    obtain rfl := Option.some.inj h
                    refine AThen.n ⟨(x65, x44), hG20 _ rfl, ?_⟩
                    try dsimp only
                    exact weakL id rfl rfl rfl rfl rfl ⟨.ptr, .sv (SV.imp_refl _), .sv (SV.imp_refl _), .sv (SV.imp_refl _), .sv (SV.imp_refl _), trivial⟩ ⟨⟨_, rfl, ⟨.sv (SV.imp_refl _), .sv (SV.imp_refl _), trivial⟩⟩, trivial⟩ trivial (fun _ _ => rfl)
                  · replace h := br_t h
                    refine ok_condT rfl ?_
                    refine ok_seq ?_
                    refine ok_region ?_
                    refine RT.buildI (cs := [_, _]) (cs' := [.v (.bool false), slc 1 (List.map eU32 [])]) .none (.nil) rfl ⟨SV.imp_refl _, imp_nil, trivial⟩ (tl rfl) ?_
                    refine RT.store .none rfl rfl rfl rfl rfl ?_
                    refine RT.asg .none rfl (tl rfl) ?_
                    refine RT.done ?_
                    refine AThen.n ?_
                    refine ok_ret ?_
                    refine AThen.r ?_
                    refine AInB.r ?_
                    refine AThen.r ?_
                    obtain rfl := Option.some.inj h
                    have he20 := hE20 _ rfl
                    subst he20
                    refine AThen.r ?_
                    refine AInB.r ?_
                    refine AThen.r ?_
                    refine AThen.r ?_
                    obtain rfl := Option.some.inj ho20
                    exact ⟨.inr rfl, res_imp (.agg rfl rfl (.cons rfl (.cons rfl (.nil))) rfl (.tmp rfl (.nil))) (SV.imp_refl _)⟩
            · subst hx20
              try dsimp only
              refine AThen.n ?_
              refine ok_seq ?_
              refine ok_region ?_
              refine RT.mv .none rfl (tl rfl) ?_
              refine RT.mv .none rfl (tl rfl) ?_
              replace ho20 := bind_some ho20
              obtain ⟨⟨x68_0, x68_1⟩, h68, ho20⟩ := ho20
              refine RT.call .none (ref01_of_ok h68) rfl ⟨rfl, rfl, trivial⟩ (tl rfl) ?_
              refine RT.store .none rfl rfl rfl rfl rfl ?_
              refine RT.asg .none rfl (tl rfl) ?_
              refine RT.done ?_
              refine AThen.n ?_
              refine ok_ret ?_
              obtain rfl := Option.some.inj ho20
              exact ⟨.inr rfl, res_imp (.agg rfl rfl (.cons rfl (.cons rfl (.nil))) rfl (.tmp rfl (.nil))) (SV.imp_refl _)⟩
          · replace h := br_t h
            refine ok_condT rfl ?_
            refine ok_seq ?_
            refine ok_region ?_
            refine RT.buildI (cs := [_, _]) (cs' := [.v (.bool false), slc 1 (List.map eU32 [])]) .none (.nil) rfl ⟨SV.imp_refl _, imp_nil, trivial⟩ (tl rfl) ?_
            refine RT.store .none rfl rfl rfl rfl rfl ?_
            refine RT.asg .none rfl (tl rfl) ?_
            refine RT.done ?_
            refine AThen.n ?_
            refine ok_ret ?_
            refine AThen.r ?_
            obtain rfl := Option.some.inj h
            exact ⟨.inr rfl, res_imp (.agg rfl rfl (.cons rfl (.cons rfl (.nil))) rfl (.tmp rfl (.nil))) (SV.imp_refl _)⟩
      · replace h := br_t h
        refine ok_condT rfl ?_
        refine ok_seq ?_
        refine ok_region ?_
        refine RT.buildI (cs := [_, _]) (cs' := [.v (.bool false), slc 1 (List.map eU32 [])]) .none (.nil) rfl ⟨SV.imp_refl _, imp_nil, trivial⟩ (tl rfl) ?_
        refine RT.store .none rfl rfl rfl rfl rfl ?_
        refine RT.asg .none rfl (tl rfl) ?_
        refine RT.done ?_
        refine AThen.n ?_
        refine ok_ret ?_
        refine AThen.r ?_
        obtain rfl := Option.some.inj h
        exact ⟨.inr rfl, res_imp (.agg rfl rfl (.cons rfl (.cons rfl (.nil))) rfl (.tmp rfl (.nil))) (SV.imp_refl _)⟩
end Go.Proofs.Ytgkafblpckcekaa
namespace Go.Proofs.Ytgkafblpckcekaa
open Go.Fw Go.RowKit
theorem law01_WholeParseMatches_ok {x0 : Zr} {x1 : Str} {r : Bool} (h : law01_WholeParseMatches_m x0 x1 = some r) : Pure Try.prog 4 [.agg (eZ x0), .v (.string (bs x1))] (.v (.bool r)) := by
  obtain ⟨x0_0, x0_1⟩ := x0
  refine pure_of_ok Try.func4 rfl (Nat.le_of_ble_eq_true rfl) (fun wld M vs hvs => ?_)
  unfold law01_WholeParseMatches_m at h
  refine ok_seq ?_
  refine ok_region ?_
  refine RT.box .none rfl (tl rfl) rfl rfl ?_
  refine RT.asg .none rfl (tl rfl) ?_
  refine RT.done ?_
  refine AThen.n ?_
  refine ok_seq ?_
  refine ok_seq ?_
  refine ok_tailJ h (fun j3 => AS.mkL 75 [(1, .sv (.v (.string (bs x1)))), (2, .ptr 2 0), (19, .sv (.v (.bool j3)))] [(2, ⟨24, [.sv (.v (.bool x0_0)), .sv (slc 1 (List.map eU32 x0_1))]⟩)] []) (fun h => ?_) (fun y19j2 h => ?_)
  · refine ok_region ?_
    refine RT.load .none rfl rfl (.cons rfl (.cons rfl (.nil))) rfl (tl rfl) ?_
    refine RT.buildSl (l := [⟨x0_0, x0_1⟩]) (e := eZ) .none (.agg rfl (.nil)) (tl rfl) rfl rfl rfl rfl rfl rfl ?_
    replace h := bind_some h
    obtain ⟨x14, h14, h⟩ := h
    refine RT.call .none (law01_Long_ok h14) rfl ⟨rfl, trivial⟩ (tl rfl) ?_
    refine RT.mv .none rfl (tl rfl) ?_
    replace h := bind_some h
    obtain ⟨c19_42, hg42, h⟩ := h
    cases x14
    · replace hg42 := br_f hg42
      refine RT.mv (.some rfl rfl) rfl (tl rfl) ?_
      replace hg42 := let_some hg42
      obtain ⟨x17, h17, hg42⟩ := hg42
      refine RT.slen (l := x1) (.some rfl rfl) rfl (tl rfl) h17 ?_
      replace hg42 := let_some hg42
      obtain ⟨x18, h18, hg42⟩ := hg42
      refine RT.gtr (.some rfl rfl) _ rfl rfl (tl rfl) h18 ?_
      obtain rfl := Option.some.inj hg42
      refine RT.pickF .none rfl rfl (tl rfl) ?_
      refine RT.done ?_
      refine AThen.n ?_
      refine ⟨x18, h, ?_⟩
      try dsimp only
      exact weakL id rfl rfl rfl rfl rfl ⟨.sv (SV.imp_refl _), .ptr, .sv (SV.imp_refl _), trivial⟩ ⟨⟨_, rfl, ⟨.sv (SV.imp_refl _), .sv (SV.imp_refl _), trivial⟩⟩, trivial⟩ trivial (fun _ _ => rfl)
    · replace hg42 := br_t hg42
      obtain rfl := Option.some.inj hg42
      refine RT.skV rfl rfl (sk rfl) (tl rfl) ?_
      refine RT.skV rfl rfl (sk rfl) (tl rfl) ?_
      refine RT.skV rfl rfl (sk rfl) (tl rfl) ?_
      refine RT.pickT .none rfl rfl (tl rfl) ?_
      refine RT.done ?_
      refine AThen.n ?_
      refine ⟨true, h, ?_⟩
      try dsimp only
      exact weakL id rfl rfl rfl rfl rfl ⟨.sv (SV.imp_refl _), .ptr, .sv (SV.imp_refl _), trivial⟩ ⟨⟨_, rfl, ⟨.sv (SV.imp_refl _), .sv (SV.imp_refl _), trivial⟩⟩, trivial⟩ trivial (fun _ _ => rfl)
  · try dsimp only
    refine AThen.n ?_
    cases y19j2
    · replace h := br_f h
      refine ok_condF rfl ?_
      refine ok_skip ?_
      refine AThen.n ?_
      refine ok_seq ?_
      refine ok_region ?_
      refine RT.load .none rfl rfl (.cons rfl (.cons rfl (.nil))) rfl (tl rfl) ?_
      replace h := bind_some h
      obtain ⟨x22, h22, h⟩ := h
      refine RT.call .none (whole_Format_ok h22) rfl ⟨rfl, trivial⟩ (tl rfl) ?_
      refine RT.asg .none rfl (tl rfl) ?_
      refine RT.done ?_
      refine AThen.n ?_
      refine ok_seq ?_
      refine ok_region ?_
      refine RT.mv .none rfl (tl rfl) ?_
      replace h := bind_some h
      obtain ⟨⟨⟨x25a_0, x25a_1⟩, x25b⟩, h25, h⟩ := h
      refine RT.call .none (whole_Parse_ok h25) rfl ⟨rfl, trivial⟩ (tl rfl) ?_
      refine RT.mv .none rfl (tl rfl) ?_
      refine RT.extract .none rfl rfl (tl rfl) ?_
      refine RT.extract .none rfl rfl (tl rfl) ?_
      refine RT.allocI .none (cs := [.v (.bool false), slc 1 (List.map eU32 [])]) (by exact ⟨SV.imp_refl _, imp_nil, trivial⟩) rfl (tl rfl) rfl rfl ?_
      refine RT.store .none rfl rfl rfl rfl rfl ?_
      refine RT.asg .none rfl (tl rfl) ?_
      refine RT.done ?_
      refine AThen.n ?_
      refine ok_seq ?_
      refine ok_region ?_
      refine RT.mv .none rfl (tl rfl) ?_
      replace h := bind_some h
      obtain ⟨⟨⟨x30a_0, x30a_1⟩, x30b⟩, h30, h⟩ := h
      refine RT.call .none (ref01_Parse_ok h30) rfl ⟨rfl, trivial⟩ (tl rfl) ?_
      refine RT.mv .none rfl (tl rfl) ?_
      refine RT.extract .none rfl rfl (tl rfl) ?_
      refine RT.extract .none rfl rfl (tl rfl) ?_
      refine RT.allocI .none (cs := [.v (.bool false), slc 1 (List.map eU32 [])]) (by exact ⟨SV.imp_refl _, imp_nil, trivial⟩) rfl (tl rfl) rfl rfl ?_
      refine RT.store .none rfl rfl rfl rfl rfl ?_
      refine RT.asg .none rfl (tl rfl) ?_
      refine RT.done ?_
      refine AThen.n ?_
      refine ok_seq ?_
      refine ok_region ?_
      refine RT.mv .none rfl (tl rfl) ?_
      replace h := bind_some h
      obtain ⟨⟨⟨x35a_0, x35a_1⟩, x35b⟩, h35, h⟩ := h
      refine RT.call .none (whole_Parse_ok h35) rfl ⟨rfl, trivial⟩ (tl rfl) ?_
      refine RT.mv .none rfl (tl rfl) ?_
      refine RT.extract .none rfl rfl (tl rfl) ?_
      refine RT.extract .none rfl rfl (tl rfl) ?_
      refine RT.allocI .none (cs := [.v (.bool false), slc 1 (List.map eU32 [])]) (by exact ⟨SV.imp_refl _, imp_nil, trivial⟩) rfl (tl rfl) rfl rfl ?_
      refine RT.store .none rfl rfl rfl rfl rfl ?_
      refine RT.asg .none rfl (tl rfl) ?_
      refine RT.done ?_
      refine AThen.n ?_
      refine ok_seq ?_
      refine ok_seq ?_
      refine ok_tailJ h (fun j18 => AS.mkL 75 [(1, .sv (.v (.string (bs x1)))), (6, .ptr 6 0), (7, .sv (.v (.int .i64 x25b))), (63, .sv (.v (.bool j18)))] [(6, ⟨24, [.sv (.v (.bool x25a_0)), .sv (slc 1 (List.map eU32 x25a_1))]⟩)] []) (fun h => ?_) (fun y63j17 h => ?_)
      · refine ok_region_draw mixed ?_
        refine RT.mv .none rfl (tl rfl) ?_
        refine RT.load .none rfl rfl (.cons rfl (.cons rfl (.nil))) rfl (tl rfl) ?_
        replace h := bind_some h
        obtain ⟨x40, h40, h⟩ := h
        refine RT.call .none (ref01_Text_ok h40) rfl ⟨rfl, trivial⟩ (tl rfl) ?_
        replace h := let_some h
        obtain ⟨x41, h41, h⟩ := h
        refine RT.sneq (l := x22) (k := x40) .none rfl rfl (tl rfl) h41 ?_
        refine RT.mv .none rfl (tl rfl) ?_
        replace h := bind_some h
        obtain ⟨c47_29, hg29, h⟩ := h
        cases x41
        · replace hg29 := br_f hg29
          refine RT.load (.some rfl rfl) rfl rfl (.cons rfl (.cons rfl (.nil))) rfl (tl rfl) ?_
          refine RT.load (.some rfl rfl) rfl rfl (.cons rfl (.cons rfl (.nil))) rfl (tl rfl) ?_
          replace hg29 := bind_some hg29
          obtain ⟨x45, h45, hg29⟩ := hg29
          refine RT.call (.some rfl rfl) (ref01_Same_ok h45) rfl ⟨rfl, rfl, trivial⟩ (tl rfl) ?_
          replace hg29 := let_some hg29
          obtain ⟨x46, h46, hg29⟩ := hg29
          refine RT.not (.some rfl rfl) rfl (tl rfl) _ h46 ?_
          obtain rfl := Option.some.inj hg29
          refine RT.pickF .none rfl rfl (tl rfl) ?_
          refine RT.mv .none rfl (tl rfl) ?_
          replace h := bind_some h
          obtain ⟨c52_30, hg30, h⟩ := h
          cases x46
          · replace hg30 := br_f hg30
            refine RT.mv (.some rfl rfl) rfl (tl rfl) ?_
            refine RT.mv (.some rfl rfl) rfl (tl rfl) ?_
            replace hg30 := let_some hg30
            obtain ⟨x51, h51, hg30⟩ := hg30
            refine RT.neq (.some rfl rfl) _ rfl rfl (tl rfl) (neI (p := x25b) (q := x30b) h51) ?_
            obtain rfl := Option.some.inj hg30
            refine RT.pickF .none rfl rfl (tl rfl) ?_
            refine RT.mv .none rfl (tl rfl) ?_
            replace h := bind_some h
            obtain ⟨c56_31, hg31, h⟩ := h
            cases x51
            · replace hg31 := br_f hg31
              refine RT.mv (.some rfl rfl) rfl (tl rfl) ?_
              replace hg31 := let_some hg31
              obtain ⟨x55, h55, hg31⟩ := hg31
              refine RT.neq (.some rfl rfl) _ rfl rfl (tl rfl) (neI (p := x35b) (q := 0) h55) ?_
              obtain rfl := Option.some.inj hg31
              refine RT.pickF .none rfl rfl (tl rfl) ?_
              refine RT.mv .none rfl (tl rfl) ?_
              replace h := bind_some h
              obtain ⟨c63_32, hg32, h⟩ := h
              cases x55
              · replace hg32 := br_f hg32
                refine RT.load (.some rfl rfl) rfl rfl (.cons rfl (.cons rfl (.nil))) rfl (tl rfl) ?_
                refine RT.load (.some rfl rfl) rfl rfl (.cons rfl (.cons rfl (.nil))) rfl (tl rfl) ?_
                replace hg32 := bind_some hg32
                obtain ⟨⟨x60_0, x60_1⟩, h60, hg32⟩ := hg32
                refine RT.call (.some rfl rfl) (ref01_Least_ok h60) rfl ⟨rfl, trivial⟩ (tl rfl) ?_
                replace hg32 := bind_some hg32
                obtain ⟨x61, h61, hg32⟩ := hg32
                refine RT.call (.some rfl rfl) (ref01_Same_ok h61) rfl ⟨rfl, rfl, trivial⟩ (tl rfl) ?_
                replace hg32 := let_some hg32
                obtain ⟨x62, h62, hg32⟩ := hg32
                refine RT.not (.some rfl rfl) rfl (tl rfl) _ h62 ?_
                obtain rfl := Option.some.inj hg32
                refine RT.pickF .none rfl rfl (tl rfl) ?_
                refine RT.done ⟨by kernel_rfl, ?_⟩
                refine AThen.n ?_
                refine ⟨x62, h, ?_⟩
                try dsimp only
                exact weakL id rfl rfl rfl rfl rfl ⟨.sv (SV.imp_refl _), .ptr, .sv (SV.imp_refl _), .sv (SV.imp_refl _), trivial⟩ ⟨⟨_, rfl, ⟨.sv (SV.imp_refl _), .sv (SV.imp_refl _), trivial⟩⟩, trivial⟩ trivial (fun _ _ => rfl)
              · replace hg32 := br_t hg32
                obtain rfl := Option.some.inj hg32
                refine RT.skV rfl rfl (sk rfl) (tl rfl) ?_
                refine RT.skV rfl rfl (sk rfl) (tl rfl) ?_
                refine RT.skV rfl rfl (sk rfl) (tl rfl) ?_
                refine RT.skV rfl rfl (sk rfl) (tl rfl) ?_
                refine RT.skV rfl rfl (sk rfl) (tl rfl) ?_
                refine RT.pickT .none rfl rfl (tl rfl) ?_
                refine RT.done ⟨by kernel_rfl, ?_⟩
                refine AThen.n ?_
                refine ⟨true, h, ?_⟩
                try dsimp only
                exact weakL id rfl rfl rfl rfl rfl ⟨.sv (SV.imp_refl _), .ptr, .sv (SV.imp_refl _), .sv (SV.imp_refl _), trivial⟩ ⟨⟨_, rfl, ⟨.sv (SV.imp_refl _), .sv (SV.imp_refl _), trivial⟩⟩, trivial⟩ trivial (fun _ _ => rfl)
            · replace hg31 := br_t hg31
              obtain rfl := Option.some.inj hg31
              refine RT.skV rfl rfl (sk rfl) (tl rfl) ?_
              refine RT.skV rfl rfl (sk rfl) (tl rfl) ?_
              refine RT.pickT .none rfl rfl (tl rfl) ?_
              refine RT.mv .none rfl (tl rfl) ?_
              replace h := bind_some h
              obtain ⟨c63_33, hg33, h⟩ := h
              replace hg33 := br_t hg33
              obtain rfl := Option.some.inj hg33
              refine RT.skV rfl rfl (sk rfl) (tl rfl) ?_
              refine RT.skV rfl rfl (sk rfl) (tl rfl) ?_
              refine RT.skV rfl rfl (sk rfl) (tl rfl) ?_
              refine RT.skV rfl rfl (sk rfl) (tl rfl) ?_
              refine RT.skV rfl rfl (sk rfl) (tl rfl) ?_
              refine RT.pickT .none rfl rfl (tl rfl) ?_
              refine RT.done ⟨by kernel_rfl, ?_⟩
              refine AThen.n ?_
              refine ⟨true, h, ?_⟩
              try dsimp only
              exact weakL id rfl rfl rfl rfl rfl ⟨.sv (SV.imp_refl _), .ptr, .sv (SV.imp_refl _), .sv (SV.imp_refl _), trivial⟩ ⟨⟨_, rfl, ⟨.sv (SV.imp_refl _), .sv (SV.imp_refl _), trivial⟩⟩, trivial⟩ trivial (fun _ _ => rfl)
          · replace hg30 := br_t hg30
            obtain rfl := Option.some.inj hg30
            refine RT.skV rfl rfl (sk rfl) (tl rfl) ?_
            refine RT.skV rfl rfl (sk rfl) (tl rfl) ?_
            refine RT.skV rfl rfl (sk rfl) (tl rfl) ?_
            refine RT.pickT .none rfl rfl (tl rfl) ?_
            refine RT.mv .none rfl (tl rfl) ?_
            replace h := bind_some h
            obtain ⟨c56_34, hg34, h⟩ := h
            replace hg34 := br_t hg34
            obtain rfl := Option.some.inj hg34
            refine RT.skV rfl rfl (sk rfl) (tl rfl) ?_
            refine RT.skV rfl rfl (sk rfl) (tl rfl) ?_
            refine RT.pickT .none rfl rfl (tl rfl) ?_
            refine RT.mv .none rfl (tl rfl) ?_
            replace h := bind_some h
            obtain ⟨c63_35, hg35, h⟩ := h
            replace hg35 := br_t hg35
            obtain rfl := Option.some.inj hg35
            refine RT.skV rfl rfl (sk rfl) (tl rfl) ?_
            refine RT.skV rfl rfl (sk rfl) (tl rfl) ?_
            refine RT.skV rfl rfl (sk rfl) (tl rfl) ?_
            refine RT.skV rfl rfl (sk rfl) (tl rfl) ?_
            refine RT.skV rfl rfl (sk rfl) (tl rfl) ?_
            refine RT.pickT .none rfl rfl (tl rfl) ?_
            refine RT.done ⟨by kernel_rfl, ?_⟩
            refine AThen.n ?_
            refine ⟨true, h, ?_⟩
            try dsimp only
            exact weakL id rfl rfl rfl rfl rfl ⟨.sv (SV.imp_refl _), .ptr, .sv (SV.imp_refl _), .sv (SV.imp_refl _), trivial⟩ ⟨⟨_, rfl, ⟨.sv (SV.imp_refl _), .sv (SV.imp_refl _), trivial⟩⟩, trivial⟩ trivial (fun _ _ => rfl)
        · replace hg29 := br_t hg29
          obtain rfl := Option.some.inj hg29
          refine RT.skV rfl rfl (sk rfl) (tl rfl) ?_
          refine RT.skV rfl rfl (sk rfl) (tl rfl) ?_
          refine RT.skV rfl rfl (sk rfl) (tl rfl) ?_
          refine RT.skV rfl rfl (sk rfl) (tl rfl) ?_
          refine RT.pickT .none rfl rfl (tl rfl) ?_
          refine RT.mv .none rfl (tl rfl) ?_
          replace h := bind_some h
          obtain ⟨c52_36, hg36, h⟩ := h
          replace hg36 := br_t hg36
          obtain rfl := Option.some.inj hg36
          refine RT.skV rfl rfl (sk rfl) (tl rfl) ?_
          refine RT.skV rfl rfl (sk rfl) (tl rfl) ?_
          refine RT.skV rfl rfl (sk rfl) (tl rfl) ?_
          refine RT.pickT .none rfl rfl (tl rfl) ?_
          refine RT.mv .none rfl (tl rfl) ?_
          replace h := bind_some h
          obtain ⟨c56_37, hg37, h⟩ := h
          replace hg37 := br_t hg37
          obtain rfl := Option.some.inj hg37
          refine RT.skV rfl rfl (sk rfl) (tl rfl) ?_
          refine RT.skV rfl rfl (sk rfl) (tl rfl) ?_
          refine RT.pickT .none rfl rfl (tl rfl) ?_
          refine RT.mv .none rfl (tl rfl) ?_
          replace h := bind_some h
          obtain ⟨c63_38, hg38, h⟩ := h
          replace hg38 := br_t hg38
          obtain rfl := Option.some.inj hg38
          refine RT.skV rfl rfl (sk rfl) (tl rfl) ?_
          refine RT.skV rfl rfl (sk rfl) (tl rfl) ?_
          refine RT.skV rfl rfl (sk rfl) (tl rfl) ?_
          refine RT.skV rfl rfl (sk rfl) (tl rfl) ?_
          refine RT.skV rfl rfl (sk rfl) (tl rfl) ?_
          refine RT.pickT .none rfl rfl (tl rfl) ?_
          refine RT.done ⟨by kernel_rfl, ?_⟩
          refine AThen.n ?_
          refine ⟨true, h, ?_⟩
          try dsimp only
          exact weakL id rfl rfl rfl rfl rfl ⟨.sv (SV.imp_refl _), .ptr, .sv (SV.imp_refl _), .sv (SV.imp_refl _), trivial⟩ ⟨⟨_, rfl, ⟨.sv (SV.imp_refl _), .sv (SV.imp_refl _), trivial⟩⟩, trivial⟩ trivial (fun _ _ => rfl)
      · try dsimp only
        refine AThen.n ?_
        cases y63j17
        · replace h := br_f h
          refine ok_condF rfl ?_
          refine ok_skip ?_
          refine AThen.n ?_
          refine ok_seq ?_
          refine ok_tailJ h (fun j24 => AS.mkL 75 [(4, .sv (.v (.bool j24)))] [] []) (fun h => ?_) (fun y4j23 h => ?_)
          · refine ok_region ?_
            refine RT.mv .none rfl (tl rfl) ?_
            replace h := let_some h
            obtain ⟨x65, h65, h⟩ := h
            refine RT.neq .none _ rfl rfl (tl rfl) (neI (p := x25b) (q := 0) h65) ?_
            refine RT.mv .none rfl (tl rfl) ?_
            replace h := bind_some h
            obtain ⟨c71_25, hg25, h⟩ := h
            cases x65
            · replace hg25 := br_f hg25
              refine RT.load (.some rfl rfl) rfl rfl (.cons rfl (.cons rfl (.nil))) rfl (tl rfl) ?_
              replace hg25 := bind_some hg25
              obtain ⟨x68, h68, hg25⟩ := hg25
              refine RT.call (.some rfl rfl) (whole_Format_ok h68) rfl ⟨rfl, trivial⟩ (tl rfl) ?_
              refine RT.mv (.some rfl rfl) rfl (tl rfl) ?_
              replace hg25 := let_some hg25
              obtain ⟨x70, h70, hg25⟩ := hg25
              refine RT.seql (l := x68) (k := x1) (.some rfl rfl) rfl rfl (tl rfl) h70 ?_
              obtain rfl := Option.some.inj hg25
              refine RT.pickF .none rfl rfl (tl rfl) ?_
              refine RT.mv .none rfl (tl rfl) ?_
              replace h := bind_some h
              obtain ⟨c74_26, hg26, h⟩ := h
              cases x70
              · replace hg26 := br_f hg26
                obtain rfl := Option.some.inj hg26
                refine RT.skV rfl rfl (sk rfl) (tl rfl) ?_
                refine RT.pickF .none rfl rfl (tl rfl) ?_
                refine RT.asg .none rfl (tl rfl) ?_
                refine RT.done ?_
                refine AThen.n ?_
                refine ⟨false, h, ?_⟩
                try dsimp only
                exact weakL id rfl rfl rfl rfl rfl ⟨.sv (SV.imp_refl _), trivial⟩ trivial trivial (fun _ _ => rfl)
              · replace hg26 := br_t hg26
                replace hg26 := bind_some hg26
                obtain ⟨x73, h73, hg26⟩ := hg26
                refine RT.call (.some rfl rfl) (law01_alive_ok h73) rfl trivial (tl rfl) ?_
                obtain rfl := Option.some.inj hg26
                refine RT.pickT .none rfl rfl (tl rfl) ?_
                refine RT.asg .none rfl (tl rfl) ?_
                refine RT.done ?_
                refine AThen.n ?_
                refine ⟨x73, h, ?_⟩
                try dsimp only
                exact weakL id rfl rfl rfl rfl rfl ⟨.sv (SV.imp_refl _), trivial⟩ trivial trivial (fun _ _ => rfl)
            · replace hg25 := br_t hg25
              obtain rfl := Option.some.inj hg25
              refine RT.skV rfl rfl (sk rfl) (tl rfl) ?_
              refine RT.skV rfl rfl (sk rfl) (tl rfl) ?_
              refine RT.skV rfl rfl (sk rfl) (tl rfl) ?_
              refine RT.skV rfl rfl (sk rfl) (tl rfl) ?_
              refine RT.pickT .none rfl rfl (tl rfl) ?_
              refine RT.mv .none rfl (tl rfl) ?_
              replace h := bind_some h
              obtain ⟨c74_27, hg27, h⟩ := h
              replace hg27 := br_t hg27
              replace hg27 := bind_some hg27
              obtain ⟨x73, h73, hg27⟩ := hg27
              refine RT.call (.some rfl rfl) (law01_alive_ok h73) rfl trivial (tl rfl) ?_
              obtain rfl := Option.some.inj hg27
              refine RT.pickT .none rfl rfl (tl rfl) ?_
              refine RT.asg .none rfl (tl rfl) ?_
              refine RT.done ?_
              refine AThen.n ?_
              refine ⟨x73, h, ?_⟩
              try dsimp only
              exact weakL id rfl rfl rfl rfl rfl ⟨.sv (SV.imp_refl _), trivial⟩ trivial trivial (fun _ _ => rfl)
          · try dsimp only
            refine AThen.n ?_
            refine ok_ret ?_
            obtain rfl := Option.some.inj h
            exact ⟨.inr rfl, res_imp (.tmp rfl (.nil)) (SV.imp_refl _)⟩
        · replace h := br_t h
          refine ok_condT rfl ?_
          refine ok_seq ?_
          refine ok_region ?_
          refine RT.asg .none rfl (tl rfl) ?_
          refine RT.done ?_
          refine AThen.n ?_
          refine ok_ret ?_
          refine AThen.r ?_
          obtain rfl := Option.some.inj h
          exact ⟨.inr rfl, res_imp (.tmp rfl (.nil)) (SV.imp_refl _)⟩
    · replace h := br_t h
      refine ok_condT rfl ?_
      refine ok_seq ?_
      refine ok_region ?_
      replace h := bind_some h
      obtain ⟨x20, h20, h⟩ := h
      refine RT.call .none (law01_alive_ok h20) rfl trivial (tl rfl) ?_
      refine RT.asg .none rfl (tl rfl) ?_
      refine RT.done ?_
      refine AThen.n ?_
      refine ok_ret ?_
      refine AThen.r ?_
      obtain rfl := Option.some.inj h
      exact ⟨.inr rfl, res_imp (.tmp rfl (.nil)) (SV.imp_refl _)⟩
end Go.Proofs.Ytgkafblpckcekaa
namespace Go.Fw
theorem w64_nat {n : Nat} (h : n ≤ 9223372036854775807) : IntKind.i64.wrap (n : Int) = n := nw_i64 (by omega)
theorem w64_id {x : Int} (h : -9223372036854775808 ≤ x) (h' : x ≤ 9223372036854775807) : IntKind.i64.wrap x = x := nw_i64 ⟨h, h'⟩
theorem w64_succ {n : Nat} (h : n < 9223372036854775807) : IntKind.i64.wrap ((n : Int) + 1) = ((n + 1 : Nat) : Int) := by rw [nw_i64 (by omega)]; simp
theorem w64_add {n m : Nat} (h : n + m ≤ 9223372036854775807) : IntKind.i64.wrap ((n : Int) + (m : Int)) = ((n + m : Nat) : Int) := by rw [nw_i64 (by omega)]; simp
theorem w64_pred {n : Nat} (h : n ≤ 9223372036854775807) : IntKind.i64.wrap (((n + 1 : Nat) : Int) - 1) = (n : Int) := by rw [nw_i64 (by omega)]; omega
theorem geti_nat {α : Type} {l : List α} {i : Nat} {a : α} (h : l[i]? = some a) : geti l (i : Int) = some a := by simp [geti, h]
theorem geti_zero {α : Type} {l : List α} {a : α} (h : l[0]? = some a) : geti l 0 = some a := by simp [geti, h]
theorem geti_one {α : Type} {l : List α} {a : α} (h : l[1]? = some a) : geti l 1 = some a := by simp [geti, h]
theorem cki_nat {α : Type} {l : List α} {i : Nat} (h : i < l.length) : cki l (i : Int) = some i := by simp [cki, h]
theorem stM_of {α : Type} {l : List α} {i : Nat} {y : α} (h : i < l.length) : stM l i y = some (l.set i y) := by simp [stM, h]
theorem apM_of {α : Type} {b : Nat} {l k : List α} (h : (l.length + k.length) * b ≤ 140737488355328) (h' : l.length + k.length ≤ 140737488355328) : apM b l k = some (l ++ k) := by simp [apM, h, h']
theorem apM1 {α : Type} {b : Nat} {l : List α} {x : α} (hb : b ≤ 100) (h : l.length ≤ 1000000000000) : apM b l [x] = some (l ++ [x]) := by
  apply apM_of
  · have : (l.length + [x].length) * b ≤ 1000000000001 * 100 := Nat.mul_le_mul (by simp; omega) hb
    omega
  · simp; omega
theorem apMl {α : Type} {b : Nat} {l k : List α} (hb : b ≤ 100) (h : l.length + k.length ≤ 1000000000000) : apM b l k = some (l ++ k) := by
  apply apM_of
  · have : (l.length + k.length) * b ≤ 1000000000000 * 100 := Nat.mul_le_mul h hb
    omega
  · omega
theorem mkE_of {α : Type} {b : Nat} {n : Nat} (hb : b ≤ 100) (h : n ≤ 1000000000000) : mkE (α := α) b (n : Int) = some [] := by
  have : b * n ≤ 100 * 1000000000000 := Nat.mul_le_mul hb h
  have h2 : (b : Int) * (n : Int) = ((b * n : Nat) : Int) := by simp
  unfold mkE
  rw [h2, if_pos ⟨by omega, by omega, by omega⟩]
theorem mkM_of {α : Type} {b : Nat} {n : Nat} {z : α} (hb : b ≤ 100) (h : n ≤ 1000000000000) : mkM b (n : Int) z = some (List.replicate n z) := by
  have : b * n ≤ 100 * 1000000000000 := Nat.mul_le_mul hb h
  have h2 : (b : Int) * (n : Int) = ((b * n : Nat) : Int) := by simp
  unfold mkM
  rw [h2, if_pos ⟨by omega, by omega, by omega⟩, Int.toNat_natCast]
theorem subM_nat {α : Type} {l : List α} {i j : Nat} (h : i ≤ j) (h' : j ≤ l.length) : subM l (i : Int) (j : Int) = some (cut l i j) := by
  unfold subM; rw [if_pos ⟨by omega, by omega, by omega⟩]; simp
theorem subM_zero {α : Type} {l : List α} {j : Nat} (h' : j ≤ l.length) : subM l 0 (j : Int) = some (l.take j) := by
  have := subM_nat (l := l) (i := 0) (j := j) (by omega) h'
  simpa [cut] using this
theorem usub_of {M a b : Nat} (h : b ≤ a) (h' : a < M) : usub M a b = a - b := by
  unfold usub; rw [show (a : Int) - (b : Int) = ((a - b : Nat) : Int) by omega, ← Int.natCast_emod, Int.toNat_natCast, Nat.mod_eq_of_lt (by omega)]
theorem usub_lt {M a b : Nat} (h : a < b) (h' : b ≤ M) : usub M a b = M + a - b := by
  unfold usub
  have : ((a : Int) - (b : Int)) % (M : Int) = ((M + a - b : Nat) : Int) := by
    rw [← Int.add_emod_right (a := (a : Int) - b), show (a : Int) - (b : Int) + (M : Int) = ((M + a - b : Nat) : Int) by omega, ← Int.natCast_emod, Nat.mod_eq_of_lt (by omega)]
  rw [this, Int.toNat_natCast]
theorem ckR_nat {o n i : Nat} (h : i < n) : ckR o n (i : Int) = some (o + i) := by simp [ckR, h]
theorem eqLen_of {α : Type} {l l' : List α} (h : l'.length = l.length) : eqLen l l' = some () := by simp [eqLen, h]
theorem uquo_of {M a b : Nat} (h : b ≠ 0) (h' : a < M) : uquo M a b = some (a / b) := by
  unfold uquo; rw [if_neg h, Nat.mod_eq_of_lt (Nat.lt_of_le_of_lt (Nat.div_le_self _ _) h')]
theorem urem_of {a b : Nat} (h : b ≠ 0) : urem a b = some (a % b) := by unfold urem; rw [if_neg h]
theorem bsm {α β : Type} {a : α} {f : α → Option β} : Option.bind (some a) f = f a := by
  have h : ∀ o, o = some a → Option.bind o f = f a := by intro o ho; rw [ho]; rfl
  exact h _ rfl
theorem ctm {α : Type} {x y : α} : (bif true then x else y) = x := by
  have h : ∀ b, b = true → (bif b then x else y) = x := by intro b hb; rw [hb]; rfl
  exact h _ rfl
theorem cfm {α : Type} {x y : α} : (bif false then x else y) = y := by
  have h : ∀ b, b = false → (bif b then x else y) = y := by intro b hb; rw [hb]; rfl
  exact h _ rfl
theorem bind_loop {S E R : Type} {body : S → Option (S ⊕ E)} {s : S} {f : E → Option R} {r : R} (I : S → Prop) (Post : E → Prop) (μ : S → Nat)
    (step : ∀ s, I s → (∃ s', body s = some (.inl s') ∧ I s' ∧ μ s' < μ s) ∨ (∃ e, body s = some (.inr e) ∧ Post e)) (h : I s) (hf : ∀ e, Post e → f e = some r) : (loopM body s).bind f = some r := by
  obtain ⟨e, h1, h2⟩ := loopM_inv I Post μ step h
  rw [h1]; exact hf e h2
theorem bind_loop_ex {S E R : Type} {body : S → Option (S ⊕ E)} {s : S} {f : E → Option R} {Q : R → Prop} (I : S → Prop) (Post : E → Prop) (μ : S → Nat)
    (step : ∀ s, I s → (∃ s', body s = some (.inl s') ∧ I s' ∧ μ s' < μ s) ∨ (∃ e, body s = some (.inr e) ∧ Post e)) (h : I s) (hf : ∀ e, Post e → ∃ r, f e = some r ∧ Q r) : ∃ r, (loopM body s).bind f = some r ∧ Q r := by
  obtain ⟨e, h1, h2⟩ := loopM_inv I Post μ step h
  rw [h1]; exact hf e h2
theorem bind_loop_to {S E R : Type} {body : S → Option (S ⊕ E)} {s : S} {f : E → Option R} {r : R} (st : Nat → S) (n : Nat) (e : E) (h0 : s = st 0) (hs : ∀ k, k < n → body (st k) = some (.inl (st (k + 1)))) (he : body (st n) = some (.inr e)) (hf : f e = some r) : (loopM body s).bind f = some r := by
  rw [h0, loopM_to st n hs he]; exact hf
theorem bind_range {S R : Type} {body : Nat → S → Option S} {s : S} {f : S → Option R} {r : R} (st : Nat → S) {n : Nat} (h0 : s = st 0) (hs : ∀ k, k < n → body k (st k) = some (st (k + 1))) (hf : f (st n) = some r) : (rangeM body n s).bind f = some r := by
  rw [h0, rangeM_to st n hs]; exact hf
end Go.Fw
namespace Go.Fw
def val (B : Nat) : List Nat → Nat
  | [] => 0
  | x :: l => x + B * val B l
def dig (B : Nat) : Nat → Nat → List Nat
  | 0, _ => []
  | n + 1, v => v % B :: dig B n (v / B)
def trimW (ws : List Nat) : List Nat := (ws.reverse.dropWhile (· == 0)).reverse
def can (B v : Nat) : List Nat := trimW (dig B v v)
theorem dig_len (B : Nat) : ∀ n v, (dig B n v).length = n
  | 0, _ => rfl
  | n + 1, v => by simp [dig, dig_len B n]
theorem val_dig (B : Nat) : ∀ n v, val B (dig B n v) = v % B ^ n
  | 0, v => by simp [dig, val, Nat.mod_one]
  | n + 1, v => by
    rw [dig, val, val_dig B n, Nat.pow_succ, Nat.mul_comm (B ^ n) B, Nat.mod_mul]
theorem dig_lt {B : Nat} (hB : 0 < B) : ∀ (n v x : Nat), x ∈ dig B n v → x < B
  | n + 1, v, x, h => by
    rcases List.mem_cons.1 h with rfl | h
    · exact Nat.mod_lt _ hB
    · exact dig_lt hB n _ x h
theorem val_lt {B : Nat} : ∀ (l : List Nat), (∀ x ∈ l, x < B) → val B l < B ^ l.length
  | [], _ => by simp [val]
  | x :: l, h => by
    have h1 := val_lt l (fun y hy => h y (List.mem_cons_of_mem _ hy))
    have h2 := h x (by simp)
    rw [val, List.length_cons, Nat.pow_succ]
    calc x + B * val B l < B + B * val B l := by omega
      _ = B * (val B l + 1) := by rw [Nat.mul_add]; omega
      _ ≤ B * B ^ l.length := Nat.mul_le_mul_left _ h1
      _ = B ^ l.length * B := Nat.mul_comm _ _
theorem dig_val {B : Nat} : ∀ (l : List Nat), (∀ x ∈ l, x < B) → dig B l.length (val B l) = l
  | [], _ => rfl
  | x :: l, h => by
    have h2 := h x (by simp)
    have hB : 0 < B := by omega
    rw [List.length_cons, dig, val, Nat.add_mul_mod_self_left, Nat.mod_eq_of_lt h2, Nat.add_mul_div_left _ _ hB, Nat.div_eq_of_lt h2, Nat.zero_add, dig_val l (fun y hy => h y (List.mem_cons_of_mem _ hy))]
theorem dig_get {B : Nat} : ∀ (n v j : Nat), j < n → (dig B n v)[j]? = some (v / B ^ j % B)
  | n + 1, v, 0, _ => by simp [dig]
  | n + 1, v, j + 1, h => by
    rw [dig, List.getElem?_cons_succ, dig_get n _ j (by omega), Nat.div_div_eq_div_mul, Nat.pow_succ, Nat.mul_comm B]
theorem val_app {B : Nat} : ∀ (a b : List Nat), val B (a ++ b) = val B a + B ^ a.length * val B b
  | [], b => by simp [val]
  | x :: a, b => by
    rw [List.cons_append, val, val, val_app a b, List.length_cons, Nat.pow_succ, Nat.mul_add, Nat.add_assoc, Nat.mul_comm (B ^ a.length) B, Nat.mul_assoc]
theorem dig_succ {B : Nat} : ∀ (n v : Nat), dig B (n + 1) v = dig B n v ++ [v / B ^ n % B]
  | 0, v => by simp [dig]
  | n + 1, v => by
    rw [dig, dig_succ n, dig, List.cons_append, Nat.div_div_eq_div_mul, Nat.pow_succ, Nat.mul_comm B]
theorem dig_congr {B : Nat} (hB : 0 < B) {n u v : Nat} (h : u % B ^ n = v % B ^ n) : dig B n u = dig B n v := by
  have h1 := dig_val (dig B n u) (dig_lt hB n u)
  have h2 := dig_val (dig B n v) (dig_lt hB n v)
  rw [dig_len, val_dig] at h1 h2
  rw [← h1, ← h2, h]
theorem dig_zero (B : Nat) : ∀ k, dig B k 0 = List.replicate k 0
  | 0 => rfl
  | k + 1 => by rw [dig, Nat.zero_mod, Nat.zero_div, dig_zero B k]; rfl
theorem dig_more {B : Nat} (hB : 0 < B) : ∀ (n k v : Nat), v < B ^ n → dig B (n + k) v = dig B n v ++ List.replicate k 0
  | 0, k, v, h => by
    have : v = 0 := by simpa using h
    subst this; rw [Nat.zero_add, dig_zero]; rfl
  | n + 1, k, v, h => by
    rw [show n + 1 + k = n + k + 1 by omega, dig, dig, List.cons_append, dig_more hB n k (v / B) (by rw [Nat.div_lt_iff_lt_mul hB]; rwa [Nat.pow_succ] at h)]
theorem lt_pow_self' {B : Nat} (hB : 2 ≤ B) : ∀ v, v < B ^ v
  | 0 => by simp
  | v + 1 => by
    have := lt_pow_self' hB v
    rw [Nat.pow_succ]
    have h2 : B ^ v * 2 ≤ B ^ v * B := Nat.mul_le_mul_left _ hB
    omega
theorem trimW_nil : trimW [] = [] := rfl
theorem trimW_zero (l : List Nat) : trimW (l ++ [0]) = trimW l := by simp [trimW]
theorem trimW_zeros (l : List Nat) : ∀ k, trimW (l ++ List.replicate k 0) = trimW l
  | 0 => by simp
  | k + 1 => by rw [List.replicate_succ', ← List.append_assoc, trimW_zero, trimW_zeros l k]
theorem trimW_last (l : List Nat) {x : Nat} (h : x ≠ 0) : trimW (l ++ [x]) = l ++ [x] := by simp [trimW, h]
theorem trim_cases (xs : List Nat) : xs = [] ∨ (∃ ys, xs = ys ++ [0]) ∨ (∃ ys y, y ≠ 0 ∧ xs = ys ++ [y]) := by
  rcases List.eq_nil_or_concat xs with rfl | ⟨ys, y, rfl⟩
  · exact .inl rfl
  · by_cases hy : y = 0
    · subst hy; exact .inr (.inl ⟨ys, by simp⟩)
    · exact .inr (.inr ⟨ys, y, hy, by simp⟩)
theorem trimW_pre : ∀ (n : Nat) (l : List Nat), l.length = n → ∃ k, l = trimW l ++ List.replicate k 0 := by
  intro n
  induction n with
  | zero => intro l h; obtain rfl := List.length_eq_zero_iff.1 h; exact ⟨0, rfl⟩
  | succ n ih =>
    intro l h
    rcases trim_cases l with rfl | ⟨ys, rfl⟩ | ⟨ys, y, hy, rfl⟩
    · simp at h
    · obtain ⟨k, hk⟩ := ih ys (by simpa using h)
      refine ⟨k + 1, ?_⟩
      rw [trimW_zero, List.replicate_succ', ← List.append_assoc, ← hk]
    · exact ⟨0, by rw [trimW_last _ hy]; simp⟩
theorem trimW_mem {l : List Nat} {x : Nat} (h : x ∈ trimW l) : x ∈ l := by
  obtain ⟨k, hk⟩ := trimW_pre _ l rfl
  rw [hk]; exact List.mem_append_left _ h
theorem trimW_len (l : List Nat) : (trimW l).length ≤ l.length := by
  obtain ⟨k, hk⟩ := trimW_pre _ l rfl
  have := congrArg List.length hk
  rw [List.length_append] at this; omega
theorem val_zeros (B : Nat) : ∀ k, val B (List.replicate k 0) = 0
  | 0 => rfl
  | k + 1 => by rw [List.replicate_succ, val, val_zeros B k]; simp
theorem val_trim (B : Nat) (l : List Nat) : val B (trimW l) = val B l := by
  obtain ⟨k, hk⟩ := trimW_pre _ l rfl
  conv => rhs; rw [hk, val_app, val_zeros]
  simp
theorem trim_dig {B : Nat} (hB : 2 ≤ B) {n v : Nat} (h : v < B ^ n) : trimW (dig B n v) = can B v := by
  have hv := lt_pow_self' hB v
  rcases Nat.le_total n v with hn | hn
  · obtain ⟨k, rfl⟩ := Nat.exists_eq_add_of_le hn
    rw [can, dig_more (by omega) n k _ h, trimW_zeros]
  · obtain ⟨k, rfl⟩ := Nat.exists_eq_add_of_le hn
    rw [can, dig_more (by omega) v k _ hv, trimW_zeros]
theorem trim_can {B : Nat} (hB : 2 ≤ B) {l : List Nat} (h : ∀ x ∈ l, x < B) : trimW l = can B (val B l) := by
  conv => lhs; rw [← dig_val l h]
  exact trim_dig hB (val_lt l h)
theorem val_can {B : Nat} (hB : 2 ≤ B) (v : Nat) : val B (can B v) = v := by
  rw [can, val_trim, val_dig, Nat.mod_eq_of_lt (lt_pow_self' hB v)]
theorem can_lt {B : Nat} (hB : 2 ≤ B) {v x : Nat} (h : x ∈ can B v) : x < B := dig_lt (by omega) v v x (trimW_mem h)
theorem can_zero (B : Nat) : can B 0 = [] := rfl
theorem can_nil {B : Nat} (hB : 2 ≤ B) {v : Nat} (h : can B v = []) : v = 0 := by have := val_can hB v; rw [h] at this; exact this.symm
theorem can_len {B : Nat} (hB : 2 ≤ B) {v n : Nat} (h : v < B ^ n) : (can B v).length ≤ n := by
  rw [← trim_dig hB h]
  have := trimW_len (dig B n v)
  rwa [dig_len] at this
theorem can_can {B : Nat} (hB : 2 ≤ B) (v : Nat) : trimW (can B v) = can B v := by
  rw [trim_can hB (fun x hx => can_lt hB hx), val_can hB]
theorem can_dig {B : Nat} (hB : 2 ≤ B) (v : Nat) : can B v = dig B (can B v).length v := by
  have := dig_val (can B v) (fun x hx => can_lt hB hx)
  rw [val_can hB] at this; exact this.symm
theorem lt_can_len {B : Nat} (hB : 2 ≤ B) (v : Nat) : v < B ^ (can B v).length := by
  have := val_lt (can B v) (fun x hx => can_lt hB hx)
  rwa [val_can hB] at this
theorem can_get {B : Nat} (hB : 2 ≤ B) {v j : Nat} (h : j < (can B v).length) : (can B v)[j]? = some (v / B ^ j % B) := by
  rw [can_dig hB v] at h ⊢
  rw [dig_len] at h
  exact dig_get _ _ _ h
theorem can_beyond {B : Nat} (hB : 2 ≤ B) {v j : Nat} (h : (can B v).length ≤ j) : v / B ^ j = 0 := by
  refine Nat.div_eq_of_lt (Nat.lt_of_lt_of_le (lt_can_len hB v) ?_)
  exact Nat.pow_le_pow_right (by omega) h
theorem can_last {B : Nat} (hB : 2 ≤ B) {v : Nat} (h : v ≠ 0) : ∃ l x, x ≠ 0 ∧ can B v = l ++ [x] := by
  rcases trim_cases (can B v) with e | ⟨ys, e⟩ | ⟨ys, y, hy, e⟩
  · exact absurd (can_nil hB e) h
  · exfalso
    have h1 := can_can hB v
    rw [e, trimW_zero] at h1
    have h2 := trimW_len ys
    rw [h1] at h2; simp at h2; omega
  · exact ⟨ys, y, hy, e⟩
theorem pow_le_of_can {B : Nat} (hB : 2 ≤ B) {v n : Nat} (h : n < (can B v).length) : B ^ n ≤ v := by
  by_cases h0 : v = 0
  · subst h0; simp [can_zero] at h
  obtain ⟨l, x, hx, e⟩ := can_last hB h0
  have h1 := val_can hB v
  rw [e, val_app] at h1
  have hl : n ≤ l.length := by rw [e] at h; simp at h; omega
  have h2 : B ^ n ≤ B ^ l.length := Nat.pow_le_pow_right (by omega) hl
  have h3 : B ^ l.length ≤ B ^ l.length * val B [x] := Nat.le_mul_of_pos_right _ (by simp [val]; omega)
  omega
theorem can_len_iff {B : Nat} (hB : 2 ≤ B) {v n : Nat} : (can B v).length ≤ n ↔ v < B ^ n := by
  refine ⟨fun h => ?_, can_len hB⟩
  exact Nat.lt_of_lt_of_le (lt_can_len hB v) (Nat.pow_le_pow_right (by omega) h)
theorem can_of {B : Nat} (hB : 2 ≤ B) {l : List Nat} {x : Nat} (hx : x ≠ 0) (h : ∀ y ∈ l ++ [x], y < B) : l ++ [x] = can B (val B (l ++ [x])) := by
  rw [← trim_can hB h, trimW_last _ hx]
theorem val_getD {B : Nat} : ∀ (l : List Nat), (∀ x ∈ l, x < B) → ∀ k, l.getD k 0 = val B l / B ^ k % B
  | [], _, k => by simp [val]
  | x :: l, h, 0 => by
    have h2 := h x (by simp)
    simp [val, Nat.add_mul_mod_self_left, Nat.mod_eq_of_lt h2]
  | x :: l, h, k + 1 => by
    have h2 := h x (by simp)
    have hB : 0 < B := by omega
    rw [List.getD_cons_succ, val_getD l (fun y hy => h y (List.mem_cons_of_mem _ hy)) k, val, Nat.pow_succ, Nat.mul_comm (B ^ k) B, ← Nat.div_div_eq_div_mul, Nat.add_mul_div_left _ _ hB, Nat.div_eq_of_lt h2, Nat.zero_add]
theorem mod_pow_step (B V k : Nat) : V % B ^ (k + 1) = V % B ^ k + B ^ k * (V / B ^ k % B) := by
  rw [Nat.pow_succ, Nat.mod_mul]
def cry (B V W k : Nat) : Nat := (V % B ^ k + W % B ^ k) / B ^ k
theorem cry_le {B : Nat} (hB : 0 < B) (V W k : Nat) : cry B V W k ≤ 1 := by
  have hP : 0 < B ^ k := Nat.pow_pos hB
  have h1 := Nat.mod_lt V hP
  have h2 := Nat.mod_lt W hP
  have : cry B V W k < 2 := by rw [cry, Nat.div_lt_iff_lt_mul hP]; omega
  omega
theorem cry_step {B : Nat} (hB : 0 < B) (V W k : Nat) : (V / B ^ k % B + W / B ^ k % B + cry B V W k) / B = cry B V W (k + 1) := by
  have hP : 0 < B ^ k := Nat.pow_pos hB
  rw [cry, cry, mod_pow_step, mod_pow_step, Nat.pow_succ, ← Nat.div_div_eq_div_mul]
  congr 1
  rw [show V % B ^ k + B ^ k * (V / B ^ k % B) + (W % B ^ k + B ^ k * (W / B ^ k % B)) = (V % B ^ k + W % B ^ k) + B ^ k * (V / B ^ k % B + W / B ^ k % B) by rw [Nat.mul_add]; omega, Nat.add_mul_div_left _ _ hP]
  omega
theorem cry_dig {B : Nat} (hB : 0 < B) (V W k : Nat) : (V / B ^ k % B + W / B ^ k % B + cry B V W k) % B = (V + W) / B ^ k % B := by
  have hP : 0 < B ^ k := Nat.pow_pos hB
  have h : (V + W) / B ^ k = V / B ^ k + W / B ^ k + cry B V W k := by
    have e1 := Nat.div_add_mod V (B ^ k)
    have e2 := Nat.div_add_mod W (B ^ k)
    rw [cry]
    conv => lhs; rw [← e1, ← e2]
    rw [show B ^ k * (V / B ^ k) + V % B ^ k + (B ^ k * (W / B ^ k) + W % B ^ k) = (V % B ^ k + W % B ^ k) + B ^ k * (V / B ^ k + W / B ^ k) by rw [Nat.mul_add]; omega, Nat.add_mul_div_left _ _ hP]
    omega
  rw [h]
  simp [Nat.add_mod]
theorem cry_end {B : Nat} {V W k : Nat} (hV : V < B ^ k) (hW : W < B ^ k) : cry B V W k = (V + W) / B ^ k := by
  rw [cry, Nat.mod_eq_of_lt hV, Nat.mod_eq_of_lt hW]
theorem cry_zero (B V W : Nat) : cry B V W 0 = 0 := by simp [cry, Nat.mod_one]
def lnd (B V W k : Nat) : Nat := (V % B ^ k + B ^ k - W % B ^ k) / B ^ k
theorem lnd_zero (B V W : Nat) : lnd B V W 0 = 1 := by simp [lnd, Nat.mod_one]
theorem lnd_le {B : Nat} (hB : 0 < B) (V W k : Nat) : lnd B V W k ≤ 1 := by
  have hP : 0 < B ^ k := Nat.pow_pos hB
  have h1 := Nat.mod_lt V hP
  have : lnd B V W k < 2 := by
    rw [lnd, Nat.div_lt_iff_lt_mul hP]
    generalize W % B ^ k = y at *
    generalize V % B ^ k = x at *
    omega
  omega
theorem lnd_num {B : Nat} (hB : 0 < B) (V W k : Nat) : V % B ^ (k + 1) + B ^ (k + 1) - W % B ^ (k + 1) = (V % B ^ k + B ^ k - W % B ^ k) + B ^ k * (V / B ^ k % B + (B - 1 - W / B ^ k % B)) := by
  have hP : 0 < B ^ k := Nat.pow_pos hB
  have h1 := Nat.mod_lt V hP
  have h2 := Nat.mod_lt W hP
  have h3 := Nat.mod_lt (W / B ^ k) hB
  rw [mod_pow_step, mod_pow_step, Nat.pow_succ]
  generalize B ^ k = p at *
  generalize V / p % B = x at *
  generalize W / p % B = y at *
  obtain ⟨z, rfl⟩ : ∃ z, B = y + 1 + z := ⟨B - y - 1, by omega⟩
  have e1 : y + 1 + z - 1 - y = z := by omega
  rw [e1, Nat.mul_add p x z, Nat.mul_add p (y + 1) z, Nat.mul_add p y 1]
  omega
theorem lnd_step {B : Nat} (hB : 0 < B) (V W k : Nat) : (V / B ^ k % B + (B - 1 - W / B ^ k % B) + lnd B V W k) / B = lnd B V W (k + 1) := by
  have hP : 0 < B ^ k := Nat.pow_pos hB
  rw [lnd, lnd, lnd_num hB, Nat.pow_succ, ← Nat.div_div_eq_div_mul, Nat.add_mul_div_left _ _ hP]
  congr 1
  omega
theorem sub_mod_eq {Q V W : Nat} (hQ : 0 < Q) (h : W ≤ V) : (V % Q + Q - W % Q) % Q = (V - W) % Q := by
  have e1 := Nat.div_add_mod V Q
  have e2 := Nat.div_add_mod W Q
  have h1 := Nat.mod_lt V hQ
  have h2 := Nat.mod_lt W hQ
  have hq : W / Q ≤ V / Q := Nat.div_le_div_right h
  generalize V % Q = r at *
  generalize W % Q = s at *
  generalize V / Q = a at *
  generalize W / Q = b at *
  obtain ⟨c, rfl⟩ := Nat.exists_eq_add_of_le hq
  rw [Nat.mul_add] at e1
  rcases Nat.lt_or_ge r s with hrs | hrs
  · cases c with
    | zero => simp at e1; omega
    | succ c =>
      rw [Nat.mul_add, Nat.mul_one] at e1
      rw [show V - W = Q * c + (r + Q - s) by omega, Nat.mul_add_mod]
  · rw [show V - W = Q * c + (r - s) by omega, Nat.mul_add_mod, show r + Q - s = r - s + Q by omega, Nat.add_mod_right]
theorem lnd_dig {B : Nat} (hB : 0 < B) {V W : Nat} (h : W ≤ V) (k : Nat) : (V / B ^ k % B + (B - 1 - W / B ^ k % B) + lnd B V W k) % B = (V - W) / B ^ k % B := by
  have hP : 0 < B ^ k := Nat.pow_pos hB
  have hQ : 0 < B ^ (k + 1) := Nat.pow_pos hB
  have e := sub_mod_eq hQ h
  have e2 : V / B ^ k % B + (B - 1 - W / B ^ k % B) + lnd B V W k = (V % B ^ (k + 1) + B ^ (k + 1) - W % B ^ (k + 1)) / B ^ k := by
    rw [lnd_num hB, Nat.add_mul_div_left _ _ hP, lnd]; omega
  rw [e2, ← Nat.mod_mul_right_div_self, ← Nat.mod_mul_right_div_self, ← Nat.pow_succ, e]
end Go.Fw
namespace Go.Fw
theorem dig_set {B : Nat} (hB : 0 < B) : ∀ (j N lo p d hi : Nat), lo < B ^ j → p < B → d < B → j < N → (dig B N (lo + B ^ j * (p + B * hi))).set j d = dig B N (lo + B ^ j * (d + B * hi))
  | 0, N + 1, lo, p, d, hi, hlo, hp, hd, _ => by
    have : lo = 0 := by simpa using hlo
    subst this
    simp only [Nat.pow_zero, Nat.zero_add, Nat.one_mul, dig, List.set_cons_zero, Nat.add_mul_mod_self_left, Nat.mod_eq_of_lt hd]
    rw [Nat.add_mul_div_left _ _ hB, Nat.add_mul_div_left _ _ hB, Nat.div_eq_of_lt hp, Nat.div_eq_of_lt hd]
  | j + 1, N + 1, lo, p, d, hi, hlo, hp, hd, hN => by
    have e : ∀ q, (lo + B ^ (j + 1) * (q + B * hi)) % B = lo % B := fun q => by
      rw [Nat.pow_succ, Nat.mul_comm (B ^ j) B, Nat.mul_assoc, Nat.add_mul_mod_self_left]
    have e2 : ∀ q, (lo + B ^ (j + 1) * (q + B * hi)) / B = lo / B + B ^ j * (q + B * hi) := fun q => by
      rw [Nat.pow_succ, Nat.mul_comm (B ^ j) B, Nat.mul_assoc, Nat.add_mul_div_left _ _ hB]
    have hlo' : lo / B < B ^ j := by rw [Nat.div_lt_iff_lt_mul hB]; rwa [Nat.pow_succ] at hlo
    rw [dig, dig, List.set_cons_succ, e, e, e2, e2, dig_set hB j N (lo / B) p d hi hlo' hp hd (by omega)]
theorem dig_put {B : Nat} (hB : 0 < B) {N j u u' d : Nat} (hj : j < N) (hd : d < B) (hlo : u' % B ^ j = u % B ^ j) (hdig : u' / B ^ j % B = d) (hhi : u' / B ^ (j + 1) = u / B ^ (j + 1)) : (dig B N u).set j d = dig B N u' := by
  have hP : 0 < B ^ j := Nat.pow_pos hB
  have f : ∀ u, u = u % B ^ j + B ^ j * (u / B ^ j % B + B * (u / B ^ (j + 1))) := fun u => by
    have e1 := Nat.mod_add_div u (B ^ j)
    have e2 := div_step' B u j
    rw [Nat.add_comm] at e2
    rw [← e2, e1]
  rw [f u, dig_set hB j N _ _ d _ (Nat.mod_lt _ hP) (Nat.mod_lt _ hB) hd hj]
  conv => rhs; rw [f u', hlo, hdig, hhi]
where
  div_step' (B v m : Nat) : v / B ^ m = B * (v / B ^ (m + 1)) + v / B ^ m % B := by
    rw [Nat.pow_succ, ← Nat.div_div_eq_div_mul, Nat.div_add_mod]
def sT (B V f e i : Nat) : Nat := V % B ^ i * f + e
def sC (B V f e i : Nat) : Nat := sT B V f e i / B ^ i
theorem sC_zero (B V f e : Nat) : sC B V f e 0 = e := by simp [sC, sT, Nat.mod_one]
theorem sT_step (B V f e i : Nat) : sT B V f e (i + 1) = sT B V f e i + B ^ i * (V / B ^ i % B * f) := by
  unfold sT
  rw [mod_pow_step, Nat.add_mul, Nat.mul_assoc]; omega
theorem sC_step {B : Nat} (hB : 0 < B) (V f e i : Nat) : (V / B ^ i % B * f + sC B V f e i) / B = sC B V f e (i + 1) := by
  have hP : 0 < B ^ i := Nat.pow_pos hB
  rw [sC, sC, sT_step, Nat.pow_succ, ← Nat.div_div_eq_div_mul, Nat.add_mul_div_left _ _ hP]
  congr 1; omega
theorem sC_dig {B : Nat} (hB : 0 < B) (V f e i : Nat) : (V / B ^ i % B * f + sC B V f e i) % B = (V * f + e) / B ^ i % B := by
  have hP : 0 < B ^ i := Nat.pow_pos hB
  have h1 : V * f + e = sT B V f e (i + 1) + B ^ i * (B * (V / B ^ (i + 1) * f)) := by
    have e1 := Nat.mod_add_div V (B ^ (i + 1))
    unfold sT
    conv => lhs; rw [← e1, Nat.add_mul]
    rw [Nat.pow_succ, Nat.mul_assoc, Nat.mul_assoc]; omega
  rw [h1, Nat.add_mul_div_left _ _ hP, Nat.add_mul_mod_self_left, sT_step, Nat.add_mul_div_left _ _ hP, sC, Nat.add_comm]
theorem sC_lt {B : Nat} (hB : 0 < B) {V f e : Nat} (hf : f < B) (he : e < B) (i : Nat) : sC B V f e i < B := by
  have hP : 0 < B ^ i := Nat.pow_pos hB
  rw [sC, Nat.div_lt_iff_lt_mul hP]
  have h1 : V % B ^ i ≤ B ^ i - 1 := by have := Nat.mod_lt V hP; omega
  have h2 : V % B ^ i * f ≤ (B ^ i - 1) * (B - 1) := Nat.mul_le_mul h1 (by omega)
  obtain ⟨p, hp⟩ : ∃ p, B ^ i = p + 1 := ⟨B ^ i - 1, by omega⟩
  obtain ⟨b, rfl⟩ : ∃ b, B = b + 1 := ⟨B - 1, by omega⟩
  unfold sT
  rw [hp] at h2 ⊢
  rw [Nat.add_sub_cancel, Nat.add_sub_cancel] at h2
  have h3 : (b + 1) * (p + 1) = p * b + b + p + 1 := by rw [Nat.add_mul, Nat.mul_add, Nat.mul_comm b p]; omega
  omega
theorem sC_end {B V f e i : Nat} (h : V < B ^ i) : sC B V f e i = (V * f + e) / B ^ i := by rw [sC, sT, Nat.mod_eq_of_lt h]
def sU (B V f e i : Nat) : Nat := sT B V f e i % B ^ i + B ^ i * (V / B ^ i)
theorem sU_zero (B V f e : Nat) : sU B V f e 0 = V := by simp [sU, Nat.mod_one]
theorem sU_lo (B V f e i : Nat) : sU B V f e i % B ^ i = sT B V f e i % B ^ i := by rw [sU, Nat.add_mul_mod_self_left, Nat.mod_mod]
theorem sU_hi {B : Nat} (hB : 0 < B) (V f e i : Nat) : sU B V f e i / B ^ i = V / B ^ i := by
  have hP : 0 < B ^ i := Nat.pow_pos hB
  rw [sU, Nat.add_mul_div_left _ _ hP, Nat.div_eq_of_lt (Nat.mod_lt _ hP), Nat.zero_add]
theorem sU_step {B : Nat} (hB : 0 < B) {V f e i N : Nat} (h : i < N) : (dig B N (sU B V f e i)).set i ((V / B ^ i % B * f + sC B V f e i) % B) = dig B N (sU B V f e (i + 1)) := by
  have hP : 0 < B ^ i := Nat.pow_pos hB
  have ht : sT B V f e (i + 1) % B ^ i = sT B V f e i % B ^ i := by rw [sT_step, Nat.add_mul_mod_self_left]
  have hs : sT B V f e (i + 1) / B ^ i = V / B ^ i % B * f + sC B V f e i := by rw [sT_step, Nat.add_mul_div_left _ _ hP, sC]; omega
  refine dig_put hB h (Nat.mod_lt _ hB) ?_ ?_ ?_
  · rw [sU_lo, ← ht, sU, Nat.pow_succ, Nat.mul_assoc, Nat.add_mul_mod_self_left, Nat.mod_mul_right_mod]
  · rw [sU, Nat.pow_succ, Nat.mul_assoc, Nat.add_mul_div_left _ _ hP, Nat.add_mul_mod_self_left, Nat.mod_mul_right_div_self, Nat.mod_mod, hs]
  · rw [sU_hi hB, Nat.pow_succ, ← Nat.div_div_eq_div_mul, ← Nat.div_div_eq_div_mul, sU_hi hB]
theorem sU_end {B : Nat} (hB : 0 < B) {V f e i : Nat} (h : V < B ^ i) : dig B i (sU B V f e i) = dig B i (V * f + e) := by
  refine dig_congr hB ?_
  rw [sU_lo, sT, Nat.mod_eq_of_lt h]
def qU (B V d n : Nat) : Nat := V % B ^ n + B ^ n * (V / B ^ n / d)
theorem qU_zero (B V d : Nat) : qU B V d 0 = V / d := by simp [qU, Nat.mod_one]
theorem qU_top {B V d n : Nat} (h : V < B ^ n) : qU B V d n = V := by simp [qU, Nat.mod_eq_of_lt h, Nat.div_eq_of_lt h]
theorem q_split (B V m : Nat) : V / B ^ m = B * (V / B ^ (m + 1)) + V / B ^ m % B := by rw [Nat.pow_succ, ← Nat.div_div_eq_div_mul, Nat.div_add_mod]
theorem q_num {B d : Nat} (V m : Nat) : V / B ^ m = (V / B ^ (m + 1) % d * B + V / B ^ m % B) + d * (B * (V / B ^ (m + 1) / d)) := by
  have h1 := q_split B V m
  have h2 := Nat.mod_add_div (V / B ^ (m + 1)) d
  generalize V / B ^ (m + 1) = q at *
  generalize V / B ^ m % B = y at *
  rw [h1]
  conv => lhs; rw [← h2]
  rw [Nat.mul_add, Nat.mul_left_comm B d, Nat.mul_comm B (q % d)]; omega
theorem q_div {B d : Nat} (hd : 0 < d) (V m : Nat) : V / B ^ m / d = B * (V / B ^ (m + 1) / d) + (V / B ^ (m + 1) % d * B + V / B ^ m % B) / d := by
  conv => lhs; rw [q_num (B := B) (d := d) V m]
  rw [Nat.add_mul_div_left _ _ hd, Nat.add_comm]
theorem q_mod {B d : Nat} (V m : Nat) : V / B ^ m % d = (V / B ^ (m + 1) % d * B + V / B ^ m % B) % d := by
  conv => lhs; rw [q_num (B := B) (d := d) V m]
  rw [Nat.add_mul_mod_self_left]
theorem q_lt {B d : Nat} (hB : 0 < B) (hd : 0 < d) (V m : Nat) : V / B ^ (m + 1) % d * B + V / B ^ m % B < d * B := by
  have h1 := Nat.mod_lt (V / B ^ (m + 1)) hd
  have h2 := Nat.mod_lt (V / B ^ m) hB
  have h3 : (V / B ^ (m + 1) % d + 1) * B ≤ d * B := Nat.mul_le_mul_right _ h1
  rw [Nat.add_mul] at h3; omega
theorem qU_hi {B : Nat} (hB : 0 < B) (V d n : Nat) : qU B V d n / B ^ n = V / B ^ n / d := by
  have hP : 0 < B ^ n := Nat.pow_pos hB
  rw [qU, Nat.add_mul_div_left _ _ hP, Nat.div_eq_of_lt (Nat.mod_lt _ hP), Nat.zero_add]
theorem qU_lo (B V d n : Nat) : qU B V d n % B ^ n = V % B ^ n := by rw [qU, Nat.add_mul_mod_self_left, Nat.mod_mod]
theorem qU_low1 {B : Nat} (V d m : Nat) : qU B V d (m + 1) % B ^ m = V % B ^ m := by
  rw [qU, Nat.pow_succ, Nat.mul_assoc, Nat.add_mul_mod_self_left, Nat.mod_mul_right_mod]
theorem qU_dig {B : Nat} (hB : 0 < B) {V d m N : Nat} (h : m < N) : (dig B N (qU B V d (m + 1)))[m]? = some (V / B ^ m % B) := by
  have hP : 0 < B ^ m := Nat.pow_pos hB
  rw [dig_get _ _ _ h, qU, Nat.pow_succ, Nat.mul_assoc, Nat.add_mul_div_left _ _ hP, Nat.add_mul_mod_self_left, Nat.mod_mul_right_div_self, Nat.mod_mod]
theorem qU_step {B : Nat} (hB : 0 < B) {V d m N : Nat} (hd : 0 < d) (h : m < N) : (dig B N (qU B V d (m + 1))).set m ((V / B ^ (m + 1) % d * B + V / B ^ m % B) / d) = dig B N (qU B V d m) := by
  have hx : (V / B ^ (m + 1) % d * B + V / B ^ m % B) / d < B := by rw [Nat.div_lt_iff_lt_mul hd, Nat.mul_comm B d]; exact q_lt hB hd V m
  have hq := q_div (B := B) hd V m
  refine dig_put hB h hx ?_ ?_ ?_
  · rw [qU_lo, qU_low1]
  · rw [qU_hi hB, hq, Nat.mul_add_mod, Nat.mod_eq_of_lt hx]
  · rw [qU_hi hB, Nat.pow_succ, ← Nat.div_div_eq_div_mul, qU_hi hB, hq, Nat.mul_add_div hB, Nat.div_eq_of_lt hx, ← Nat.pow_succ]; rfl
end Go.Fw
namespace Go.Fw
theorem can_one {B v : Nat} (hB : 2 ≤ B) (h0 : v ≠ 0) (h : v < B) : can B v = [v] := by
  have := can_of hB (l := []) h0 (by simpa using h)
  simpa [val] using this.symm
theorem can_two {B v : Nat} (hB : 2 ≤ B) (h0 : v / B ≠ 0) (h : v < B * B) : can B v = [v % B, v / B] := by
  have h1 : v / B < B := by rw [Nat.div_lt_iff_lt_mul (by omega)]; exact h
  have h2 : v % B < B := Nat.mod_lt _ (by omega)
  have := can_of hB (l := [v % B]) h0 (by simp; exact ⟨h2, h1⟩)
  simp only [List.cons_append, List.nil_append, val, Nat.mul_zero, Nat.add_zero] at this
  rw [Nat.mod_add_div] at this
  exact this.symm
theorem get_val {B : Nat} {l : List Nat} (h : ∀ x ∈ l, x < B) {i : Nat} (hi : i < l.length) : l[i]? = some (val B l / B ^ i % B) := by
  rw [← val_getD l h i]; simp [List.getD, hi]
def cmpN (v w : Nat) : Int := if v < w then -1 else if v = w then 0 else 1
theorem cmpN_lt {v w : Nat} (h : v < w) : cmpN v w = -1 := by simp [cmpN, h]
theorem cmpN_eq (v : Nat) : cmpN v v = 0 := by simp [cmpN]
theorem cmpN_gt {v w : Nat} (h : w < v) : cmpN v w = 1 := by
  have h1 : ¬ v < w := by omega
  have h2 : ¬ v = w := by omega
  simp [cmpN, h1, h2]
theorem can_lt_len {B v w : Nat} (hB : 2 ≤ B) (h : (can B v).length < (can B w).length) : v < w :=
  Nat.lt_of_lt_of_le (lt_can_len hB v) (pow_le_of_can hB h)
theorem div_step (B v m : Nat) : v / B ^ m = B * (v / B ^ (m + 1)) + v / B ^ m % B := by
  rw [Nat.pow_succ, ← Nat.div_div_eq_div_mul, Nat.div_add_mod]
theorem lt_of_div {B v w m : Nat} (h : v / B ^ m < w / B ^ m) : v < w := by
  rcases Nat.lt_or_ge v w with h1 | h1
  · exact h1
  · have := Nat.div_le_div_right (c := B ^ m) h1; omega
theorem dig_cases {B v w m : Nat} (h : v / B ^ (m + 1) = w / B ^ (m + 1)) : (v / B ^ m % B = w / B ^ m % B ∧ v / B ^ m = w / B ^ m) ∨ (v / B ^ m % B < w / B ^ m % B ∧ v < w) ∨ (w / B ^ m % B < v / B ^ m % B ∧ w < v) := by
  have h1 := div_step B v m
  have h2 := div_step B w m
  rw [← h] at h2
  rcases Nat.lt_trichotomy (v / B ^ m % B) (w / B ^ m % B) with h3 | h3 | h3
  · exact .inr (.inl ⟨h3, lt_of_div (B := B) (m := m) (by omega)⟩)
  · exact .inl ⟨h3, by omega⟩
  · exact .inr (.inr ⟨h3, lt_of_div (B := B) (m := m) (by omega)⟩)
end Go.Fw
namespace Go.Proofs.Ytgkafblpckcekaa
open Go.Fw
theorem trim_eq (l : List Nat) (hl : l.length ≤ 1000000000000) : whole_trim_m l = some (trimW l) := by
  unfold whole_trim_m
  refine bind_loop (fun y => y.length ≤ 1000000000000 ∧ trimW y = trimW l) (fun e => e = trimW l) (fun y => y.length) ?_ ⟨hl, rfl⟩ (fun e he => by rw [he])
  rintro y ⟨hy, ht⟩
  rcases trim_cases y with rfl | ⟨ys, rfl⟩ | ⟨ys, x, hx, rfl⟩
  · right; exact ⟨[], by simp [letJ], ht⟩
  · left
    have h1 : ((ys ++ [0]).length : Int) = ((ys.length + 1 : Nat) : Int) := by simp
    have h2 : ys.length ≤ 9223372036854775807 := by simp at hy; omega
    refine ⟨ys, ?_, ⟨by simp at hy ⊢; omega, by rw [← ht, trimW_zero]⟩, by simp⟩
    simp only [letJ, Option.bind_some, h1, w64_pred h2]
    rw [geti_nat (a := 0) (by simp), subM_zero (by simp)]
    simp
  · right
    have h1 : ((ys ++ [x]).length : Int) = ((ys.length + 1 : Nat) : Int) := by simp
    have h2 : ys.length ≤ 9223372036854775807 := by simp at hy; omega
    refine ⟨ys ++ [x], ?_, by rw [← ht, trimW_last _ hx]⟩
    simp only [letJ, Option.bind_some, h1, w64_pred h2]
    rw [geti_nat (a := x) (by simp)]
    simp [hx]
theorem trimT_eq (l : List Nat) (hl : l.length ≤ 1000000000000) : whole_trimT_m l = some (trimW l) := by
  unfold whole_trimT_m
  refine bind_loop (fun y => y.length ≤ 1000000000000 ∧ trimW y = trimW l) (fun e => e = trimW l) (fun y => y.length) ?_ ⟨hl, rfl⟩ (fun e he => by rw [he])
  rintro y ⟨hy, ht⟩
  rcases trim_cases y with rfl | ⟨ys, rfl⟩ | ⟨ys, x, hx, rfl⟩
  · right; exact ⟨[], by simp [letJ], ht⟩
  · left
    have h1 : ((ys ++ [0]).length : Int) = ((ys.length + 1 : Nat) : Int) := by simp
    have h2 : ys.length ≤ 9223372036854775807 := by simp at hy; omega
    refine ⟨ys, ?_, ⟨by simp at hy ⊢; omega, by rw [← ht, trimW_zero]⟩, by simp⟩
    simp only [letJ, Option.bind_some, h1, w64_pred h2]
    rw [cki_nat (by simp), subM_zero (by simp)]
    simp
  · right
    have h1 : ((ys ++ [x]).length : Int) = ((ys.length + 1 : Nat) : Int) := by simp
    have h2 : ys.length ≤ 9223372036854775807 := by simp at hy; omega
    refine ⟨ys ++ [x], ?_, by rw [← ht, trimW_last _ hx]⟩
    simp only [letJ, Option.bind_some, h1, w64_pred h2]
    rw [cki_nat (by simp)]
    simp [hx]
def zc (n : Bool) (v : Nat) : Zr := ⟨n && v != 0, can 4294967296 v⟩
theorem zc_zero (n : Bool) : zc n 0 = ⟨false, []⟩ := by simp [zc, can_zero]
theorem zc_pos (n : Bool) {v : Nat} (h : v ≠ 0) : zc n v = ⟨n, can 4294967296 v⟩ := by simp [zc, h]
def W32 (l : List Nat) : Prop := (∀ x ∈ l, x < 4294967296) ∧ l.length ≤ 1000000000
abbrev vl (l : List Nat) : Nat := val 4294967296 l
theorem build_eq (n : Bool) (l : List Nat) (h : W32 l) : whole_build_m n l = some (zc n (vl l)) := by
  unfold whole_build_m
  rw [trim_eq l (by have := h.2; omega), trim_can (by decide) h.1]
  show _ = some (zc n (val 4294967296 l))
  by_cases hz : val 4294967296 l = 0
  · rw [hz, zc_zero]; simp [can_zero]
  · have : can 4294967296 (val 4294967296 l) ≠ [] := fun e => hz (can_nil (by decide) e)
    rw [zc_pos _ hz]; simp [this]
theorem small_eq (n : Bool) (v : Nat) (h : v < 18446744073709551616) : whole_small_m n v = some (zc n v) := by
  unfold whole_small_m
  by_cases hz : v = 0
  · subst hz; simp [zc_zero]
  · rw [zc_pos _ hz]
    by_cases h1 : v / 2 ^ 32 = 0
    · rw [can_one (by decide) hz (by omega)]
      simp only [Option.bind_some, hz, h1, decide_false, decide_true, cond_false, cond_true]
      rw [Nat.mod_eq_of_lt (by omega)]
    · rw [can_two (by decide) (by omega) (by omega)]
      simp only [Option.bind_some, hz, h1, decide_false, cond_false]
      rw [Nat.mod_eq_of_lt (a := v / 2 ^ 32) (by omega)]
theorem or_add {a b s : Nat} (h : a < 2 ^ s) : a ||| b * 2 ^ s = a + b * 2 ^ s := by
  rw [Nat.or_comm, Nat.mul_comm b, ← Nat.two_pow_add_eq_or_of_lt h, Nat.add_comm]
theorem low_eq (l : List Nat) (h : ∀ x ∈ l, x < 4294967296) (hl : l.length ≤ 2) : whole_low_m l = some (vl l) := by
  rcases l with _ | ⟨x, _ | ⟨y, _ | ⟨z, l⟩⟩⟩
  · simp [whole_low_m, vl, val]
  · have hx := h x (by simp)
    simp only [whole_low_m, geti_zero (l := [x]) (a := x) rfl]
    simp [vl, val]; omega
  · have hx := h x (by simp)
    have hy := h y (by simp)
    simp only [whole_low_m, geti_zero (l := [x, y]) (a := x) rfl, geti_one (l := [x, y]) (a := y) rfl, Option.bind_some]
    rw [Nat.mod_eq_of_lt (a := x) (by omega), Nat.mod_eq_of_lt (a := y) (by omega), Nat.mod_eq_of_lt (a := y * 2 ^ 32) (by omega), or_add (by omega), Nat.mod_eq_of_lt (by omega)]
    simp [vl, val]; omega
  · simp at hl
theorem carrier_eq (x c : Nat) (h : x + c < 18446744073709551616) : whole_carrier_1_m x c = some ((x + c) % 4294967296, (x + c) / 4294967296) := by
  simp [whole_carrier_1_m, Nat.mod_eq_of_lt h]
theorem compareWords_eq (v w : Nat) (hv : (can 4294967296 v).length ≤ 1000000000) (hw : (can 4294967296 w).length ≤ 1000000000) : whole_compareWords_m (can 4294967296 v) (can 4294967296 w) = some (cmpN v w) := by
  unfold whole_compareWords_m
  rcases Nat.lt_trichotomy (can 4294967296 v).length (can 4294967296 w).length with hl | hl | hl
  · rw [cmpN_lt (can_lt_len (by decide) hl)]
    simp only [Option.bind_some]
    rw [show decide (((can 4294967296 v).length : Int) ≠ ((can 4294967296 w).length : Int)) = true by simp; omega, show decide (((can 4294967296 v).length : Int) < ((can 4294967296 w).length : Int)) = true by simp; omega]; rfl
  · simp only [Option.bind_some]
    rw [show decide (((can 4294967296 v).length : Int) ≠ ((can 4294967296 w).length : Int)) = false by simp; omega, cond_false]
    refine bind_loop (fun y => ∃ n : Nat, y = (n : Int) - 1 ∧ n ≤ (can 4294967296 v).length ∧ v / 4294967296 ^ n = w / 4294967296 ^ n) (fun e => e = (if v = w then .inl () else .inr (cmpN v w))) (fun y => (y + 1).toNat) ?_ ⟨(can 4294967296 v).length, ?_, Nat.le_refl _, ?_⟩ ?_
    · rintro y ⟨n, rfl, hn, he⟩
      cases n with
      | zero =>
        right
        have : v = w := by simpa using he
        subst this
        exact ⟨_, by simp, rfl⟩
      | succ m =>
        have hgv := can_get (B := 4294967296) (by decide) (v := v) (j := m) (by omega)
        have hgw := can_get (B := 4294967296) (by decide) (v := w) (j := m) (by omega)
        have e0 : ((m + 1 : Nat) : Int) - 1 = (m : Int) := by omega
        rw [e0]
        rcases dig_cases he with ⟨h1, h2⟩ | ⟨h1, h2⟩ | ⟨h1, h2⟩
        · left
          refine ⟨(m : Int) - 1, ?_, ⟨m, rfl, by omega, h2⟩, by omega⟩
          simp only [Option.bind_some, geti_nat hgv, geti_nat hgw, h1]
          rw [w64_id (by omega) (by omega)]
          simp
        · right
          refine ⟨.inr (-1), ?_, by rw [if_neg (by omega), cmpN_lt h2]⟩
          simp only [Option.bind_some, geti_nat hgv, geti_nat hgw]
          simp [h1, Nat.ne_of_lt h1]
        · right
          refine ⟨.inr 1, ?_, by rw [if_neg (by omega), cmpN_gt h2]⟩
          simp only [Option.bind_some, geti_nat hgv, geti_nat hgw]
          simp [Nat.not_lt_of_lt h1, Nat.ne_of_gt h1]
    · rw [w64_id (by omega) (by omega)]
    · rw [can_beyond (by decide) (Nat.le_refl _), can_beyond (by decide) (by omega)]
    · rintro e rfl
      by_cases h : v = w
      · subst h; simp [cmpN_eq]
      · simp [h]
  · rw [cmpN_gt (can_lt_len (by decide) hl)]
    simp only [Option.bind_some]
    rw [show decide (((can 4294967296 v).length : Int) ≠ ((can 4294967296 w).length : Int)) = true by simp; omega, show decide (((can 4294967296 v).length : Int) < ((can 4294967296 w).length : Int)) = false by simp; omega]; rfl
theorem getD_lt {l : List Nat} (h : ∀ x ∈ l, x < 4294967296) (i : Nat) : l.getD i 0 < 4294967296 := by
  rcases Nat.lt_or_ge i l.length with hi | hi
  · exact h _ (List.mem_of_getElem? (get_getD hi))
  · rw [getD_of_le hi]; decide
theorem addWords_eq (a b : List Nat) (ha : W32 a) (hb : W32 b) : whole_addWords_m a b = some (dig 4294967296 (max a.length b.length + 1) (vl a + vl b)) := by
  obtain ⟨hA, hla⟩ := ha
  obtain ⟨hB, hlb⟩ := hb
  have hV : val 4294967296 a < 4294967296 ^ (max a.length b.length) := Nat.lt_of_lt_of_le (val_lt a hA) (Nat.pow_le_pow_right (by decide) (by omega))
  have hW : val 4294967296 b < 4294967296 ^ (max a.length b.length) := Nat.lt_of_lt_of_le (val_lt b hB) (Nat.pow_le_pow_right (by decide) (by omega))
  unfold whole_addWords_m
  simp only [Option.bind_some]
  rw [show max (a.length : Int) (b.length : Int) = ((max a.length b.length : Nat) : Int) by omega, w64_succ (by omega), mkE_of (by decide) (by omega), Option.bind_some]
  refine bind_range (fun k => (cry 4294967296 (vl a) (vl b) k, dig 4294967296 k (vl a + vl b))) (by simp [cry_zero, dig]) (fun k hk => ?_) ?_
  · have hx := getD_lt hA k
    have hy := getD_lt hB k
    have hc := cry_le (B := 4294967296) (by decide) (vl a) (vl b) k
    have hxe := val_getD a hA k
    have hye := val_getD b hB k
    simp only [Option.bind_some]
    rw [Nat.mod_eq_of_lt (a := a.getD k 0) (by omega), Nat.mod_eq_of_lt (a := b.getD k 0) (by omega), Nat.mod_eq_of_lt (a := a.getD k 0 + b.getD k 0) (by omega), carrier_eq _ _ (by omega)]
    simp only [Option.bind_some]
    rw [apM1 (by decide) (by rw [dig_len]; omega), Option.bind_some, hxe, hye, cry_step (by decide), cry_dig (by decide), ← dig_succ]
  · have hc := cry_le (B := 4294967296) (by decide) (vl a) (vl b) (max a.length b.length)
    simp only
    rw [carrier_eq _ _ (by omega)]
    simp only [Option.bind_some]
    rw [apM1 (by decide) (by rw [dig_len]; omega), Option.bind_some, Nat.zero_add, cry_end hV hW, ← dig_succ]
theorem subWords_eq (a b : List Nat) (ha : W32 a) (hb : W32 b) (hl : b.length ≤ a.length) (hle : vl b ≤ vl a) : whole_subWords_m a b = some (dig 4294967296 a.length (vl a - vl b)) := by
  obtain ⟨hA, hla⟩ := ha
  obtain ⟨hB, hlb⟩ := hb
  have hmx : max a.length b.length = a.length := by omega
  unfold whole_subWords_m
  simp only [Option.bind_some]
  rw [mkE_of (by decide) (by omega), Option.bind_some, hmx]
  refine bind_range (fun k => (lnd 4294967296 (vl a) (vl b) k, dig 4294967296 k (vl a - vl b))) (by simp [lnd_zero, dig]) (fun k hk => ?_) rfl
  have hx := getD_lt hA k
  have hy := getD_lt hB k
  have hc := lnd_le (B := 4294967296) (by decide) (vl a) (vl b) k
  have hxe := val_getD a hA k
  have hye := val_getD b hB k
  simp only [Option.bind_some]
  rw [Nat.mod_eq_of_lt (a := a.getD k 0) (by omega), Nat.mod_eq_of_lt (a := b.getD k 0) (by omega), usub_of (by omega) (by omega), Nat.mod_eq_of_lt (a := a.getD k 0 + (4294967295 - b.getD k 0)) (by omega), carrier_eq _ _ (by omega)]
  simp only [Option.bind_some]
  rw [apM1 (by decide) (by rw [dig_len]; omega), Option.bind_some, hxe, hye, lnd_step (B := 4294967296) (by decide), lnd_dig (B := 4294967296) (by decide) hle, ← dig_succ]
end Go.Proofs.Ytgkafblpckcekaa
namespace Go.Proofs.Ytgkafblpckcekaa
open Go.Fw
theorem scaleWords_eq (a : List Nat) (f e : Nat) (ha : W32 a) (hf : f < 4294967296) (he : e < 4294967296) : whole_scaleWordsT_m a f e = some (dig 4294967296 (a.length + 1) (vl a * f + e)) := by
  obtain ⟨hA, hla⟩ := ha
  unfold whole_scaleWordsT_m
  simp only [Option.bind_some]
  refine bind_loop_to (fun i => ((i : Int), sC 4294967296 (vl a) f e i, dig 4294967296 a.length (sU 4294967296 (vl a) f e i))) a.length (sC 4294967296 (vl a) f e a.length, dig 4294967296 a.length (sU 4294967296 (vl a) f e a.length)) (by simp [sC_zero, sU_zero, dig_val a hA]) (fun i hi => ?_) (by simp) ?_
  · have hx : vl a / 4294967296 ^ i % 4294967296 < 4294967296 := Nat.mod_lt _ (by decide)
    have hc := sC_lt (B := 4294967296) (by decide) (V := vl a) hf he i
    have hxf : vl a / 4294967296 ^ i % 4294967296 * f ≤ 4294967295 * 4294967295 := Nat.mul_le_mul (by omega) (by omega)
    have hg : (dig 4294967296 a.length (sU 4294967296 (vl a) f e i))[i]? = some (vl a / 4294967296 ^ i % 4294967296) := by rw [dig_get _ _ _ hi, sU_hi (by decide)]
    simp only [show decide ((i : Int) < (a.length : Int)) = true by simp; omega, cond_true]
    rw [cki_nat (by rw [dig_len]; omega), Option.bind_some, hg]
    simp only [Option.bind_some]
    rw [Nat.mod_eq_of_lt (a := vl a / 4294967296 ^ i % 4294967296) (b := 18446744073709551616) (by omega), Nat.mod_eq_of_lt (b := 18446744073709551616) (by omega), carrier_eq _ _ (by omega)]
    simp only [Option.bind_some]
    rw [stM_of (by rw [dig_len]; omega), Option.bind_some, sC_step (B := 4294967296) (by decide), sU_step (B := 4294967296) (by decide) hi, w64_succ (by omega)]
  · have hc := sC_lt (B := 4294967296) (by decide) (V := vl a) hf he a.length
    simp only
    rw [carrier_eq _ _ (by omega)]
    simp only [Option.bind_some]
    rw [apM1 (by decide) (by rw [dig_len]; omega), Option.bind_some, Nat.zero_add, sC_end (val_lt a hA), sU_end (B := 4294967296) (by decide) (val_lt a hA), ← dig_succ]
theorem or_add' {a b s : Nat} (h : a < 2 ^ s) : b * 2 ^ s ||| a = b * 2 ^ s + a := by rw [Nat.or_comm, or_add h, Nat.add_comm]
theorem or32' {a b : Nat} (h : a < 4294967296) : b * 4294967296 ||| a = b * 4294967296 + a := or_add' (s := 32) h
theorem shortDiv_eq (a : List Nat) (d : Nat) (ha : W32 a) (hd : 0 < d) (hd2 : d ≤ 4294967296) : whole_shortDiv_m a d = some (vl a % d, dig 4294967296 a.length (vl a / d)) := by
  obtain ⟨hA, hla⟩ := ha
  unfold whole_shortDiv_m
  simp only [Option.bind_some]
  rw [w64_id (by omega) (by omega)]
  refine bind_loop_to (fun i => (vl a / 4294967296 ^ (a.length - i) % d, ((a.length - i : Nat) : Int) - 1, dig 4294967296 a.length (qU 4294967296 (vl a) d (a.length - i)))) a.length (vl a % d, dig 4294967296 a.length (vl a / d)) ?_ (fun i hi => ?_) (by simp [qU_zero]) ?_
  · simp only [Nat.sub_zero]
    rw [qU_top (val_lt a hA), dig_val a hA, Nat.div_eq_of_lt (val_lt a hA), Nat.zero_mod]
  · obtain ⟨m, hm⟩ : ∃ m, a.length - i = m + 1 := ⟨a.length - i - 1, by omega⟩
    have hm' : a.length - (i + 1) = m := by omega
    have hml : m < a.length := by omega
    rw [hm, hm']
    have hy : vl a / 4294967296 ^ m % 4294967296 < 4294967296 := Nat.mod_lt _ (by decide)
    have hr : vl a / 4294967296 ^ (m + 1) % d < d := Nat.mod_lt _ hd
    have hq := q_lt (B := 4294967296) (by decide) hd (vl a) m
    have hqd : (vl a / 4294967296 ^ (m + 1) % d * 4294967296 + vl a / 4294967296 ^ m % 4294967296) / d < 4294967296 := by rw [Nat.div_lt_iff_lt_mul hd, Nat.mul_comm 4294967296 d]; exact hq
    have hg := qU_dig (B := 4294967296) (by decide) (V := vl a) (d := d) (m := m) (N := a.length) hml
    have hlt : vl a / 4294967296 ^ (m + 1) % d * 4294967296 + vl a / 4294967296 ^ m % 4294967296 < 18446744073709551616 := by omega
    have hs1 : vl a / 4294967296 ^ (m + 1) % d * 4294967296 < 18446744073709551616 := Nat.lt_of_le_of_lt (Nat.le_add_right _ _) hlt
    have hs2 : vl a / 4294967296 ^ m % 4294967296 < 18446744073709551616 := Nat.lt_of_le_of_lt (Nat.le_add_left _ _) hlt
    have hi1 : ((m + 1 : Nat) : Int) - 1 = (m : Int) := by omega
    simp only [hi1, show decide ((0 : Int) ≤ (m : Int)) = true by simp, cond_true, Option.bind_some]
    rw [cki_nat (by rw [dig_len]; omega), Option.bind_some, hg]
    simp only [Option.bind_some]
    rw [show (2 : Nat) ^ 32 = 4294967296 from rfl]
    rw [Nat.mod_eq_of_lt (a := vl a / 4294967296 ^ (m + 1) % d * 4294967296) hs1, Nat.mod_eq_of_lt (a := vl a / 4294967296 ^ m % 4294967296) (b := 18446744073709551616) hs2, or32' hy, Nat.mod_eq_of_lt (a := vl a / 4294967296 ^ (m + 1) % d * 4294967296 + vl a / 4294967296 ^ m % 4294967296) hlt, uquo_of (by omega) hlt, urem_of (by omega)]
    simp only [Option.bind_some]
    rw [Nat.mod_eq_of_lt (b := 4294967296) (a := (vl a / 4294967296 ^ (m + 1) % d * 4294967296 + vl a / 4294967296 ^ m % 4294967296) / d) hqd, stM_of (by rw [dig_len]; omega), Option.bind_some, w64_id (by omega) (by omega)]
    rw [qU_step (B := 4294967296) (by decide) hd hml, ← q_mod (B := 4294967296) (d := d) (vl a) m]
  · simp only
    rw [eqLen_of (by rw [dig_len]), Option.bind_some]
theorem shiftLeft_eq (a : List Nat) (s : Nat) (ha : W32 a) (hs : s < 32) : whole_shiftLeft_m a s = some (dig 4294967296 (a.length + 1) (vl a * 2 ^ s)) := by
  obtain ⟨hA, hla⟩ := ha
  have hf : 2 ^ s < 4294967296 := by
    have : 2 ^ s < 2 ^ 32 := Nat.pow_lt_pow_right (by decide) hs
    omega
  unfold whole_shiftLeft_m
  simp only [Option.bind_some]
  rw [w64_succ (by omega), mkE_of (by decide) (by omega), Option.bind_some]
  refine bind_loop_to (fun i => ((i : Int), sC 4294967296 (vl a) (2 ^ s) 0 i, dig 4294967296 i (vl a * 2 ^ s + 0))) a.length (sC 4294967296 (vl a) (2 ^ s) 0 a.length, dig 4294967296 a.length (vl a * 2 ^ s + 0)) (by simp [sC_zero, dig]) (fun i hi => ?_) (by simp) ?_
  · have hx : vl a / 4294967296 ^ i % 4294967296 < 4294967296 := Nat.mod_lt _ (by decide)
    have hc := sC_lt (B := 4294967296) (by decide) (V := vl a) hf (show (0 : Nat) < 4294967296 by decide) i
    have hxf : vl a / 4294967296 ^ i % 4294967296 * 2 ^ s ≤ 4294967295 * 4294967295 := Nat.mul_le_mul (by omega) (by omega)
    have hg : a[i]? = some (vl a / 4294967296 ^ i % 4294967296) := get_val hA hi
    simp only [show decide ((i : Int) < (a.length : Int)) = true by simp; omega, cond_true]
    rw [geti_nat hg]
    simp only [Option.bind_some]
    rw [show min s 64 = s by omega, Nat.mod_eq_of_lt (a := vl a / 4294967296 ^ i % 4294967296) (b := 18446744073709551616) (by omega), Nat.mod_eq_of_lt (b := 18446744073709551616) (by omega), carrier_eq _ _ (by omega)]
    simp only [Option.bind_some]
    rw [apM1 (by decide) (by rw [dig_len]; omega), Option.bind_some, sC_step (B := 4294967296) (by decide), sC_dig (B := 4294967296) (by decide), w64_succ (by omega), ← dig_succ]
  · have hc := sC_lt (B := 4294967296) (by decide) (V := vl a) hf (show (0 : Nat) < 4294967296 by decide) a.length
    simp only
    rw [carrier_eq _ _ (by omega)]
    simp only [Option.bind_some]
    rw [apM1 (by decide) (by rw [dig_len]; omega), Option.bind_some, Nat.zero_add, sC_end (val_lt a hA), ← dig_succ]
    simp
theorem shiftLeftN_eq (a : List Nat) (s : Nat) : whole_shiftLeftN_m a s = whole_shiftLeft_m a s := rfl
def lenTab : Str := [0, 1, 2, 2, 3, 3, 3, 3, 4, 4, 4, 4, 4, 4, 4, 4, 5, 5, 5, 5, 5, 5, 5, 5, 5, 5, 5, 5, 5, 5, 5, 5] ++ List.replicate 32 6 ++ List.replicate 64 7 ++ List.replicate 128 8
theorem tab_ok : ∀ y : Nat, y < 256 → sgeti lenTab (y : Int) = some ((sgeti lenTab (y : Int)).getD 0) ∧ (sgeti lenTab (y : Int)).getD 0 ≤ 8 ∧ y < 2 ^ (sgeti lenTab (y : Int)).getD 0 ∧ (y = 0 ∨ 2 ^ (sgeti lenTab (y : Int)).getD 0 ≤ 2 * y) := by decide +kernel
set_option maxRecDepth 20000 in
theorem len32_eq (x : Nat) (h : x < 4294967296) : ∃ n : Nat, math_bits_Len32_m x = some (n : Int) ∧ n ≤ 32 ∧ x < 2 ^ n ∧ (x = 0 ∨ 2 ^ n ≤ 2 * x) := by
  have key : ∀ (y k : Nat), y < 256 → y = x / 2 ^ k → k ≤ 24 → (x ≠ 0 → y ≠ 0) → ∃ n : Nat, (((sgeti lenTab ((y % 256 : Nat) : Int)).bind fun x16 => (some (IntKind.i64.wrap (x16 : Int))).bind fun x17 => (some (IntKind.i64.wrap ((k : Int) + x17))).bind fun x18 => some x18) = some (n : Int)) ∧ n ≤ 32 ∧ x < 2 ^ n ∧ (x = 0 ∨ 2 ^ n ≤ 2 * x) := by
    intro y k hy hyx hk hnz
    obtain ⟨h1, h2, h3, h4⟩ := tab_ok y hy
    rw [Nat.mod_eq_of_lt hy, h1]
    generalize (sgeti lenTab (y : Int)).getD 0 = t at *
    have hp : 0 < 2 ^ k := Nat.two_pow_pos _
    have e1 : 2 ^ (k + t) = 2 ^ k * 2 ^ t := Nat.pow_add ..
    have e2 := Nat.div_add_mod x (2 ^ k)
    have e3 := Nat.mod_lt x hp
    rw [← hyx] at e2
    refine ⟨k + t, ?_, by omega, ?_, ?_⟩
    · simp only [Option.bind_some]
      rw [w64_nat (by omega), w64_add (by omega)]
    · rw [e1]
      have : 2 ^ k * (y + 1) ≤ 2 ^ k * 2 ^ t := Nat.mul_le_mul_left _ h3
      rw [Nat.mul_add] at this
      omega
    · rcases h4 with h4 | h4
      · left
        cases Nat.eq_zero_or_pos x with
        | inl h => exact h
        | inr h => exact absurd h4 (hnz (by omega))
      · right
        rw [e1]
        have : 2 ^ k * 2 ^ t ≤ 2 ^ k * (2 * y) := Nat.mul_le_mul_left _ h4
        rw [show 2 ^ k * (2 * y) = 2 * (2 ^ k * y) by rw [Nat.mul_left_comm]] at this
        omega
  unfold math_bits_Len32_m
  simp only [letJ, Option.bind_some]
  by_cases c1 : 65536 ≤ x
  · rw [show decide (65536 ≤ x) = true by simpa using c1]
    simp only [cond_true]
    by_cases c2 : 256 ≤ x / 2 ^ 16
    · rw [show decide (256 ≤ x / 2 ^ 16) = true by simpa using c2]
      simp only [cond_true]
      rw [show IntKind.i64.wrap (16 + 8) = ((24 : Nat) : Int) by decide]
      exact key (x / 2 ^ 16 / 2 ^ 8) 24 (by omega) (by omega) (by omega) (by omega)
    · rw [show decide (256 ≤ x / 2 ^ 16) = false by simpa using c2]
      simp only [cond_false]
      exact key (x / 2 ^ 16) 16 (by omega) rfl (by omega) (by omega)
  · rw [show decide (65536 ≤ x) = false by simpa using c1]
    simp only [cond_false]
    by_cases c2 : 256 ≤ x
    · rw [show decide (256 ≤ x) = true by simpa using c2]
      simp only [cond_true]
      rw [show IntKind.i64.wrap (0 + 8) = ((8 : Nat) : Int) by decide]
      exact key (x / 2 ^ 8) 8 (by omega) rfl (by omega) (by omega)
    · rw [show decide (256 ≤ x) = false by simpa using c2]
      simp only [cond_false]
      exact key x 0 (by omega) (by simp) (by omega) (fun h => h)
theorem lz_eq (x : Nat) (h : x < 4294967296) (h0 : x ≠ 0) : ∃ s : Nat, math_bits_LeadingZeros32_m x = some (s : Int) ∧ s < 32 ∧ 2147483648 ≤ x * 2 ^ s ∧ x * 2 ^ s < 4294967296 := by
  obtain ⟨n, h1, h2, h3, h4⟩ := len32_eq x h
  have h4 : 2 ^ n ≤ 2 * x := h4.resolve_left h0
  have hn : n ≠ 0 := by rintro rfl; simp at h3; omega
  refine ⟨32 - n, ?_, by omega, ?_, ?_⟩
  · unfold math_bits_LeadingZeros32_m
    rw [h1]
    simp only [Option.bind_some]
    rw [w64_id (by omega) (by omega)]
    congr 1; omega
  · have : 2 ^ n * 2 ^ (32 - n) ≤ 2 * x * 2 ^ (32 - n) := Nat.mul_le_mul_right _ h4
    rw [← Nat.pow_add, show n + (32 - n) = 32 by omega, Nat.mul_assoc] at this
    omega
  · have : x * 2 ^ (32 - n) < 2 ^ n * 2 ^ (32 - n) := Nat.mul_lt_mul_of_pos_right h3 (Nat.two_pow_pos _)
    rw [← Nat.pow_add, show n + (32 - n) = 32 by omega] at this
    omega
end Go.Proofs.Ytgkafblpckcekaa
namespace Go.Fw
section knuth
variable {B V U W : Nat}
theorem est_ge {P F T : Nat} (hP : 0 < P) (hF : 0 < F) (hV : F * P ≤ V) (hU : U < (T + 1) * P) : U / V ≤ T / F := by
  have hV0 : 0 < V := Nat.lt_of_lt_of_le (Nat.mul_pos hF hP) hV
  rw [Nat.le_div_iff_mul_le hF]
  rcases Nat.lt_or_ge T (U / V * F) with h | h
  · exfalso
    have h1 : U / V * V ≤ U := Nat.div_mul_le_self U V
    have h2 : U / V * (F * P) ≤ U / V * V := Nat.mul_le_mul_left _ hV
    have h3 : (T + 1) * P ≤ U / V * F * P := Nat.mul_le_mul_right _ h
    rw [Nat.mul_assoc] at h3
    omega
  · exact h
theorem est_dec {P F S T u g r : Nat} (hV : (F * B + S) * P ≤ V) (hU : U < (T * B + u + 1) * P) (hgr : g * F + r = T) (h : r * B + u < g * S) : U < g * V := by
  have h1 : g * ((F * B + S) * P) ≤ g * V := Nat.mul_le_mul_left _ hV
  have h2 : (T * B + u + 1) * P ≤ g * (F * B + S) * P := by
    apply Nat.mul_le_mul_right
    rw [Nat.mul_add, ← Nat.mul_assoc, ← hgr, Nat.add_mul]
    omega
  rw [Nat.mul_assoc] at h2
  omega
theorem est_le {P V2 U2 g : Nat} (hV : V < (V2 + 1) * P) (hU : U2 * P ≤ U) (hq : U / V < B) (hB : B ≤ V2) (hV0 : 0 < V) (h : g * V2 ≤ U2) : g ≤ U / V + 1 := by
  rcases Nat.lt_or_ge (U / V + 1) g with h' | h'
  · exfalso
    have h1 : U < (U / V + 1) * V := by have := Nat.lt_div_mul_add (a := U) hV0; rw [Nat.add_mul, Nat.one_mul]; exact this
    have h2 : (U / V + 1) * V ≤ (U / V + 1) * ((V2 + 1) * P) := Nat.mul_le_mul_left _ (Nat.le_of_lt hV)
    have h3 : g * V2 * P ≤ U2 * P := Nat.mul_le_mul_right _ h
    have h4 : (U / V + 2) * V2 ≤ g * V2 := Nat.mul_le_mul_right _ h'
    have h5 : (U / V + 2) * V2 * P ≤ g * V2 * P := Nat.mul_le_mul_right _ h4
    have h6 : (U / V + 1) * ((V2 + 1) * P) ≤ (U / V + 2) * V2 * P := by
      rw [← Nat.mul_assoc]
      apply Nat.mul_le_mul_right
      rw [Nat.mul_add, Nat.add_mul (U / V) 2 V2, Nat.add_mul (U / V) 1 V2]
      omega
    omega
  · exact h'
end knuth
def mix (B o i X U A : Nat) : Nat := A % B ^ o + B ^ o * (X % B ^ i + B ^ i * (U / B ^ i))
theorem mix_low (B o i X U A : Nat) : mix B o i X U A % B ^ o = A % B ^ o := by rw [mix, Nat.add_mul_mod_self_left, Nat.mod_mod]
section mix
variable {B : Nat} (hB : 0 < B) (o i X U A : Nat)
include hB
theorem mix_high : mix B o i X U A / B ^ o = X % B ^ i + B ^ i * (U / B ^ i) := by
  rw [mix, Nat.add_mul_div_left _ _ (Nat.pow_pos hB), Nat.div_eq_of_lt (Nat.mod_lt _ (Nat.pow_pos hB)), Nat.zero_add]
theorem mix_get : mix B o i X U A / B ^ (o + i) = U / B ^ i := by
  rw [Nat.pow_add, ← Nat.div_div_eq_div_mul, mix_high hB, Nat.add_mul_div_left _ _ (Nat.pow_pos hB), Nat.div_eq_of_lt (Nat.mod_lt _ (Nat.pow_pos hB)), Nat.zero_add]
theorem mix_lo2 : mix B o i X U A % B ^ (o + i) = A % B ^ o + B ^ o * (X % B ^ i) := by
  rw [Nat.pow_add, Nat.mod_mul, mix_low, mix_high hB, Nat.add_mul_mod_self_left, Nat.mod_mod]
theorem mix_put {N : Nat} (h : o + i < N) : (dig B N (mix B o i X U A)).set (o + i) (X / B ^ i % B) = dig B N (mix B o (i + 1) X U A) := by
  apply dig_put hB h (Nat.mod_lt _ hB)
  · rw [mix_lo2 hB, Nat.pow_add, Nat.mod_mul, mix_low, mix_high hB, Nat.pow_succ B i, Nat.mul_assoc, Nat.add_mul_mod_self_left, Nat.mod_mul, Nat.add_mul_mod_self_left, Nat.mod_mod]
  · rw [Nat.pow_add, ← Nat.div_div_eq_div_mul, mix_high hB, Nat.pow_succ B i, Nat.mod_mul, Nat.mul_assoc, Nat.add_assoc, ← Nat.mul_add, Nat.add_mul_div_left _ _ (Nat.pow_pos hB), Nat.div_eq_of_lt (Nat.mod_lt _ (Nat.pow_pos hB)), Nat.zero_add, Nat.add_mul_mod_self_left, Nat.mod_mod]
  · have h1 := mix_get hB o (i + 1) X U A
    have h2 := mix_get hB o i X U A
    rw [show o + i + 1 = o + (i + 1) by omega, h1, show o + (i + 1) = (o + i) + 1 by omega, Nat.pow_succ B (o + i), ← Nat.div_div_eq_div_mul, h2, Nat.pow_succ, ← Nat.div_div_eq_div_mul]
end mix
theorem mix_full {B o m X U A : Nat} (hU : U < B ^ m) : mix B o m X U A = A % B ^ o + B ^ o * (X % B ^ m) := by rw [mix, Nat.div_eq_of_lt hU]; simp
theorem mix_self {B : Nat} (o X A : Nat) : mix B o 0 X (A / B ^ o) A = A := by
  simp only [mix, Nat.pow_zero, Nat.mod_one, Nat.zero_add, Nat.one_mul, Nat.div_one]
  exact Nat.mod_add_div A (B ^ o)
theorem lnd_congr {B U U' T i : Nat} (h : U % B ^ i = U' % B ^ i) : lnd B U T i = lnd B U' T i := by rw [lnd, lnd, h]
theorem lnd_dig' {B : Nat} (hB : 0 < B) {U T m i : Nat} (hi : i < m) (hT : T ≤ U + B ^ m) : (U / B ^ i % B + (B - 1 - T / B ^ i % B) + lnd B U T i) % B = (U + B ^ m - T) / B ^ i % B := by
  have e : B ^ m = B ^ i * (B * B ^ (m - i - 1)) := by rw [← Nat.pow_succ', ← Nat.pow_add]; congr 1; omega
  have h1 : (U + B ^ m) % B ^ i = U % B ^ i := by rw [e, Nat.add_mul_mod_self_left]
  have h2 : (U + B ^ m) / B ^ i % B = U / B ^ i % B := by rw [e, Nat.add_mul_div_left _ _ (Nat.pow_pos hB), Nat.add_mul_mod_self_left]
  rw [← h2, lnd_congr (U' := U + B ^ m) h1.symm, lnd_dig hB hT]
theorem lnd_end {B m U T : Nat} (hB : 0 < B) (hU : U < B ^ m) (hT : T < B ^ m) : lnd B U T m = if U < T then 0 else 1 := by
  rw [lnd, Nat.mod_eq_of_lt hU, Nat.mod_eq_of_lt hT]
  have hp : 0 < B ^ m := Nat.pow_pos hB
  split
  · exact Nat.div_eq_of_lt (by omega)
  · rw [show U + B ^ m - T = (U - T) + B ^ m by omega, Nat.add_div_right _ hp, Nat.div_eq_of_lt (by omega)]
end Go.Fw
namespace Go.Proofs.Ytgkafblpckcekaa
open Go.Fw
theorem digN_get {N A j : Nat} (h : j < N) : (dig 4294967296 N A)[j]? = some (A / 4294967296 ^ j % 4294967296) := dig_get N A j h
theorem two32 : (2 : Nat) ^ 32 = 4294967296 := rfl
theorem two63 : (2 : Nat) ^ 63 = 9223372036854775808 := rfl
theorem win_div (A o j : Nat) : A / 4294967296 ^ (o + j) = A / 4294967296 ^ o / 4294967296 ^ j := by rw [Nat.pow_add, Nat.div_div_eq_div_mul]
theorem estimate_eq {N A o n : Nat} {v : List Nat} (hv : W32 v) (hn : v.length = n + 2) (hN : N ≤ 1000000001) (ho : o + (n + 2) < N)
    (hU : A / 4294967296 ^ o < 4294967296 * vl v) (hnorm : 2147483648 * 4294967296 ^ (n + 1) ≤ vl v) :
    ∃ r, whole_estimate_m (dig 4294967296 N A) o (n + 3) v = some r ∧ r.2 = dig 4294967296 N A ∧ A / 4294967296 ^ o / vl v ≤ r.1 ∧ r.1 ≤ A / 4294967296 ^ o / vl v + 1 := by
  obtain ⟨hV, hlv⟩ := hv
  obtain ⟨U, hUe⟩ : ∃ U, A / 4294967296 ^ o = U := ⟨_, rfl⟩
  obtain ⟨V, hVe⟩ : ∃ V, vl v = V := ⟨_, rfl⟩
  have hVlt : V < 4294967296 ^ (n + 2) := by rw [← hVe, ← hn]; exact val_lt v hV
  have hP1 : 0 < 4294967296 ^ (n + 1) := Nat.pow_pos (by decide)
  have hP : 0 < 4294967296 ^ n := Nat.pow_pos (by decide)
  have hpw1 : 4294967296 ^ (n + 1) = 4294967296 ^ n * 4294967296 := Nat.pow_succ ..
  have hpw2 : 4294967296 ^ (n + 2) = 4294967296 ^ (n + 1) * 4294967296 := Nat.pow_succ ..
  rw [hUe, hVe] at hU ⊢
  rw [hVe] at hnorm
  have hUlt : U < 4294967296 ^ (n + 1) * 4294967296 * 4294967296 := by
    have : 4294967296 * V < 4294967296 * 4294967296 ^ (n + 2) := Nat.mul_lt_mul_of_pos_left hVlt (by decide)
    rw [hpw2] at this
    omega
  obtain ⟨F, hF⟩ : ∃ F, V / 4294967296 ^ (n + 1) = F := ⟨_, rfl⟩
  obtain ⟨S, hS⟩ : ∃ S, V / 4294967296 ^ n % 4294967296 = S := ⟨_, rfl⟩
  obtain ⟨T, hT⟩ : ∃ T, U / 4294967296 ^ (n + 1) = T := ⟨_, rfl⟩
  obtain ⟨u, hu⟩ : ∃ u, U / 4294967296 ^ n % 4294967296 = u := ⟨_, rfl⟩
  have hFlt : F < 4294967296 := by rw [← hF, Nat.div_lt_iff_lt_mul hP1]; rw [hpw2, Nat.mul_comm] at hVlt; exact hVlt
  have hFge : 2147483648 ≤ F := by rw [← hF, Nat.le_div_iff_mul_le hP1]; exact hnorm
  have hSlt : S < 4294967296 := by rw [← hS]; exact Nat.mod_lt _ (by decide)
  have hult : u < 4294967296 := by rw [← hu]; exact Nat.mod_lt _ (by decide)
  have hTlt : T < 4294967296 * 4294967296 := by rw [← hT, Nat.div_lt_iff_lt_mul hP1]; rw [Nat.mul_comm, ← Nat.mul_assoc]; exact hUlt
  have hV2 : V / 4294967296 ^ n = F * 4294967296 + S := by rw [← hF, ← hS, hpw1, ← Nat.div_div_eq_div_mul, Nat.mul_comm, Nat.div_add_mod]
  have hU2 : U / 4294967296 ^ n = T * 4294967296 + u := by rw [← hT, ← hu, hpw1, ← Nat.div_div_eq_div_mul, Nat.mul_comm, Nat.div_add_mod]
  have hq : U / V < 4294967296 := by rw [Nat.div_lt_iff_lt_mul (by omega)]; exact hU
  have hVle : (F * 4294967296 + S) * 4294967296 ^ n ≤ V := by rw [← hV2]; exact Nat.div_mul_le_self _ _
  have hVgt : V < (F * 4294967296 + S + 1) * 4294967296 ^ n := by rw [← hV2, Nat.add_mul, Nat.one_mul]; exact Nat.lt_div_mul_add hP
  have hUle : (T * 4294967296 + u) * 4294967296 ^ n ≤ U := by rw [← hU2]; exact Nat.div_mul_le_self _ _
  have hUgt : U < (T * 4294967296 + u + 1) * 4294967296 ^ n := by rw [← hU2, Nat.add_mul, Nat.one_mul]; exact Nat.lt_div_mul_add hP
  have hVle1 : F * 4294967296 ^ (n + 1) ≤ V := by rw [← hF]; exact Nat.div_mul_le_self _ _
  have hUgt1 : U < (T + 1) * 4294967296 ^ (n + 1) := by rw [← hT, Nat.add_mul, Nat.one_mul]; exact Nat.lt_div_mul_add hP1
  have hVgt1 : V < (F + 1) * 4294967296 ^ (n + 1) := by rw [← hF, Nat.add_mul, Nat.one_mul]; exact Nat.lt_div_mul_add hP1
  have hTF : T < 4294967296 * (F + 1) := by
    rw [← hT, Nat.div_lt_iff_lt_mul hP1]
    have : 4294967296 * V < 4294967296 * ((F + 1) * 4294967296 ^ (n + 1)) := Nat.mul_lt_mul_of_pos_left hVgt1 (by decide)
    rw [Nat.mul_assoc]
    omega
  have g1 : (dig 4294967296 N A)[o + (n + 2)]? = some (U / 4294967296 ^ (n + 2) % 4294967296) := by rw [digN_get (by omega), win_div, hUe]
  have g2 : (dig 4294967296 N A)[o + (n + 1)]? = some (U / 4294967296 ^ (n + 1) % 4294967296) := by rw [digN_get (by omega), win_div, hUe]
  have g3 : (dig 4294967296 N A)[o + n]? = some u := by rw [digN_get (by omega), win_div, hUe, hu]
  have g4 : v[n + 1]? = some F := by rw [get_val hV (by omega), show val 4294967296 v = V from hVe, hF, Nat.mod_eq_of_lt hFlt]
  have g5 : v[n]? = some S := by rw [get_val hV (by omega), show val 4294967296 v = V from hVe, hS]
  have hun : U / 4294967296 ^ (n + 2) < 4294967296 := by rw [hpw2, ← Nat.div_div_eq_div_mul, hT, Nat.div_lt_iff_lt_mul (by decide)]; exact hTlt
  have htop : U / 4294967296 ^ (n + 2) % 4294967296 * 4294967296 + U / 4294967296 ^ (n + 1) % 4294967296 = T := by
    rw [Nat.mod_eq_of_lt hun, hpw2, ← Nat.div_div_eq_div_mul, hT, Nat.mul_comm, Nat.div_add_mod]
  obtain ⟨t1, ht1⟩ : ∃ t, U / 4294967296 ^ (n + 2) % 4294967296 = t := ⟨_, rfl⟩
  obtain ⟨t2, ht2⟩ : ∃ t, U / 4294967296 ^ (n + 1) % 4294967296 = t := ⟨_, rfl⟩
  have l1 : t1 < 4294967296 := by rw [← ht1]; exact Nat.mod_lt _ (by decide)
  have l2 : t2 < 4294967296 := by rw [← ht2]; exact Nat.mod_lt _ (by decide)
  rw [ht1] at g1 htop
  rw [ht2] at g2 htop
  clear ht1 ht2 hU2 hV2
  have c1 : ((n + 2 : Nat) : Int) - 1 = ((n + 1 : Nat) : Int) := by omega
  have c2 : ((n + 2 : Nat) : Int) - 2 = (n : Int) := by omega
  unfold whole_estimate_m
  simp only [Option.bind_some, hn, c1, c2]
  rw [w64_nat (by omega), w64_nat (by omega), ckR_nat (by omega), ckR_nat (by omega), ckR_nat (by omega)]
  simp only [Option.bind_some]
  rw [g1, g2, geti_nat g4, geti_nat g5]
  simp only [Option.bind_some, two32]
  rw [Nat.mod_eq_of_lt (a := t1) (by omega), Nat.mod_eq_of_lt (a := t2) (by omega), Nat.mod_eq_of_lt (a := t1 * 4294967296) (by omega), or32' l2, htop, Nat.mod_eq_of_lt (a := T) (by omega), Nat.mod_eq_of_lt (a := F) (by omega), Nat.mod_eq_of_lt (a := S) (by omega), uquo_of (by omega) (by omega), urem_of (by omega)]
  simp only [Option.bind_some]
  have hge0 := est_ge (V := V) (U := U) hP1 (show 0 < F by omega) hVle1 hUgt1
  have hle : ∀ g, g * (F * 4294967296 + S) ≤ T * 4294967296 + u → g ≤ U / V + 1 := fun g h => est_le (B := 4294967296) hVgt hUle hq (by omega) (by omega) h
  have hdec : ∀ g r, g * F + r = T → r * 4294967296 + u < g * S → U / V < g := fun g r i1 ht => (Nat.div_lt_iff_lt_mul (by omega)).2 (est_dec hVle hUgt i1 ht)
  have hg0 : T / F ≤ 4294967297 := by
    have : T / F < 4294967298 := by
      rw [Nat.div_lt_iff_lt_mul (by omega)]
      omega
    omega
  generalize U / V = q at *
  clear hVle hVgt hUle hUgt hVle1 hUgt1 hVgt1 hTF hUlt hnorm hVlt hpw1 hpw2 hP hP1 hF hS hT hu hUe hVe hU
  have hdm := Nat.div_add_mod T F
  have hml := Nat.mod_lt T (show 0 < F by omega)
  have hdm' : T / F * F + T % F = T := by rw [Nat.mul_comm]; exact hdm
  clear hdm
  refine bind_loop_ex (fun x => x.1 * F + x.2 = T ∧ q ≤ x.1 ∧ x.2 < 4294967296 ∧ x.1 ≤ 4294967297) (fun e => q ≤ e ∧ e ≤ q + 1) (fun x => x.1) ?_ ⟨hdm', hge0, by show T % F < _; omega, hg0⟩ ?_
  · rintro ⟨g, r⟩ ⟨i1, i2, i3, i4⟩
    simp only at i1 i2 i3 i4
    have down : q < g → (∃ s', (bif decide ((r + F) % 18446744073709551616 / 4294967296 ≠ 0) then some (.inr (usub 18446744073709551616 g 1)) else some (.inl (usub 18446744073709551616 g 1, (r + F) % 18446744073709551616)) : Option ((Nat × Nat) ⊕ Nat)) = some (.inl s') ∧ (s'.1 * F + s'.2 = T ∧ q ≤ s'.1 ∧ s'.2 < 4294967296 ∧ s'.1 ≤ 4294967297) ∧ s'.1 < g) ∨
        (∃ e, (bif decide ((r + F) % 18446744073709551616 / 4294967296 ≠ 0) then some (.inr (usub 18446744073709551616 g 1)) else some (.inl (usub 18446744073709551616 g 1, (r + F) % 18446744073709551616)) : Option ((Nat × Nat) ⊕ Nat)) = some (.inr e) ∧ q ≤ e ∧ e ≤ q + 1) := by
      intro hlt
      have e1 : (g - 1) * F + (r + F) = T := by
        obtain ⟨k, rfl⟩ : ∃ k, g = k + 1 := ⟨g - 1, by omega⟩
        rw [Nat.add_sub_cancel]; rw [Nat.add_mul] at i1; omega
      rw [usub_of (by omega) (by omega), Nat.mod_eq_of_lt (a := r + F) (by omega)]
      by_cases hb : r + F < 4294967296
      · left
        refine ⟨(g - 1, r + F), by simp [Nat.div_eq_of_lt hb], ⟨e1, by simp only; omega, hb, by simp only; omega⟩, by simp only; omega⟩
      · right
        have hne : (r + F) / 4294967296 ≠ 0 := by omega
        refine ⟨g - 1, by simp [hne], by omega, ?_⟩
        refine hle _ ?_
        have m1 : (g - 1) * S ≤ 4294967296 * 4294967295 := Nat.mul_le_mul (by omega) (by omega)
        rw [Nat.mul_add, ← Nat.mul_assoc]
        have m2 : ((g - 1) * F + (r + F)) * 4294967296 = T * 4294967296 := by rw [e1]
        rw [Nat.add_mul] at m2
        omega
    simp only [letJ, bsm]
    by_cases hg : g < 4294967296
    · rw [show decide (g / 4294967296 ≠ 0) = false by simp; omega]
      have hgS : g * S ≤ 4294967295 * 4294967295 := Nat.mul_le_mul (by omega) (by omega)
      simp only [cfm]
      rw [g3]
      simp only [bsm]
      rw [Nat.mod_eq_of_lt (a := g * S) (by omega), Nat.mod_eq_of_lt (a := r * 4294967296) (by omega), Nat.mod_eq_of_lt (a := u) (by omega), or32' hult, Nat.mod_eq_of_lt (a := r * 4294967296 + u) (by omega)]
      by_cases ht : r * 4294967296 + u < g * S
      · rw [show decide (r * 4294967296 + u < g * S) = true by simpa using ht]
        simp only [bsm, ctm]
        exact down (hdec _ _ i1 ht)
      · rw [show decide (r * 4294967296 + u < g * S) = false by simpa using ht]
        right
        refine ⟨g, by simp, i2, ?_⟩
        refine hle _ ?_
        rw [Nat.mul_add, ← Nat.mul_assoc, ← i1, Nat.add_mul]
        omega
    · rw [show decide (g / 4294967296 ≠ 0) = true by simp; omega]
      simp only [bsm, ctm]
      exact down (by omega)
  · rintro e ⟨h2, h3⟩
    exact ⟨(e, dig 4294967296 N A), by rw [eqLen_of rfl, Option.bind_some], rfl, h2, h3⟩
end Go.Proofs.Ytgkafblpckcekaa
namespace Go.Proofs.Ytgkafblpckcekaa
open Go.Fw
theorem subtractMultiple_eq {N A o n f : Nat} {v : List Nat} (hv : W32 v) (hn : v.length = n) (hN : N ≤ 1000000001) (ho : o + n < N) (hf : f ≤ 4294967296)
    (hU : A / 4294967296 ^ o < 4294967296 ^ (n + 1)) :
    whole_subtractMultiple_m (dig 4294967296 N A) o (n + 1) v f = some (decide (A / 4294967296 ^ o < vl v * f), dig 4294967296 N (A % 4294967296 ^ o + 4294967296 ^ o * ((A / 4294967296 ^ o + 4294967296 ^ (n + 1) - vl v * f) % 4294967296 ^ (n + 1)))) := by
  obtain ⟨hV, hlv⟩ := hv
  obtain ⟨U, hUe⟩ : ∃ U, A / 4294967296 ^ o = U := ⟨_, rfl⟩
  obtain ⟨V, hVe⟩ : ∃ V, vl v = V := ⟨_, rfl⟩
  have hVlt : V < 4294967296 ^ n := by rw [← hVe, ← hn]; exact val_lt v hV
  have hpn : 4294967296 ^ (n + 1) = 4294967296 ^ n * 4294967296 := Nat.pow_succ ..
  have hT : V * f < 4294967296 ^ (n + 1) := by
    rw [hpn]
    calc V * f ≤ V * 4294967296 := Nat.mul_le_mul_left _ hf
      _ < 4294967296 ^ n * 4294967296 := Nat.mul_lt_mul_of_pos_right hVlt (by decide)
  rw [hUe] at hU ⊢
  rw [hVe]
  obtain ⟨X, hX⟩ : ∃ X, U + 4294967296 ^ (n + 1) - V * f = X := ⟨_, rfl⟩
  rw [hX]
  unfold whole_subtractMultiple_m
  simp only [bsm]
  have hlndle : ∀ i, lnd 4294967296 U (V * f) i ≤ 1 := fun i => lnd_le (by decide) _ _ _
  refine bind_loop_to (fun i => (1 - lnd 4294967296 U (V * f) i, (i : Int), sC 4294967296 V f 0 i, dig 4294967296 N (mix 4294967296 o i X U A))) (n + 1) (1 - lnd 4294967296 U (V * f) (n + 1), dig 4294967296 N (mix 4294967296 o (n + 1) X U A)) ?_ (fun i hi => ?_) ?_ ?_
  · rw [lnd_zero, sC_zero, ← hUe, mix_self]; rfl
  ·
    obtain ⟨t, ht⟩ : ∃ t, V * f / 4294967296 ^ i % 4294967296 = t := ⟨_, rfl⟩
    obtain ⟨c, hc⟩ : ∃ c, sC 4294967296 V f 0 i = c := ⟨_, rfl⟩
    obtain ⟨p, hp⟩ : ∃ p, V / 4294967296 ^ i % 4294967296 * f = p := ⟨_, rfl⟩
    have hclt : c < 4294967296 := by
      rw [← hc, sC, sT, Nat.add_zero, Nat.div_lt_iff_lt_mul (Nat.pow_pos (by decide))]
      calc V % 4294967296 ^ i * f ≤ V % 4294967296 ^ i * 4294967296 := Nat.mul_le_mul_left _ hf
        _ < 4294967296 * 4294967296 ^ i := by rw [Nat.mul_comm]; exact Nat.mul_lt_mul_of_pos_left (Nat.mod_lt _ (Nat.pow_pos (by decide))) (by decide)
    have hple : p ≤ 4294967295 * 4294967296 := by
      rw [← hp]; exact Nat.mul_le_mul (by have := Nat.mod_lt (V / 4294967296 ^ i) (show 0 < 4294967296 by decide); omega) hf
    have hdig : (p + c) % 4294967296 = t := by rw [← hp, ← hc, sC_dig (B := 4294967296) (by decide), Nat.add_zero, ht]
    have hstep : (p + c) / 4294967296 = sC 4294967296 V f 0 (i + 1) := by rw [← hp, ← hc, sC_step (B := 4294967296) (by decide)]
    have htlt : t < 4294967296 := by rw [← ht]; exact Nat.mod_lt _ (by decide)
    obtain ⟨u, hu⟩ : ∃ u, U / 4294967296 ^ i % 4294967296 = u := ⟨_, rfl⟩
    have hult : u < 4294967296 := by rw [← hu]; exact Nat.mod_lt _ (by decide)
    have hg : (dig 4294967296 N (mix 4294967296 o i X U A))[o + i]? = some u := by rw [digN_get (by omega), mix_get (by decide), hu]
    have hl := hlndle i
    obtain ⟨l, hle⟩ : ∃ l, lnd 4294967296 U (V * f) i = l := ⟨_, rfl⟩
    have hxd : (u + (4294967296 - 1 - t) + l) % 4294967296 = X / 4294967296 ^ i % 4294967296 := by rw [← hu, ← ht, ← hle, lnd_dig' (B := 4294967296) (by decide) hi (by omega), hX]
    have hls : (u + (4294967296 - 1 - t) + l) / 4294967296 = lnd 4294967296 U (V * f) (i + 1) := by rw [← hu, ← ht, ← hle, lnd_step (B := 4294967296) (by decide)]
    rw [hle] at hl
    have hput := mix_put (B := 4294967296) (by decide) o i X U A (N := N) (by omega)
    rw [hle, hc, ← hls]
    simp only [show decide ((i : Int) < ((n + 1 : Nat) : Int)) = true by simp; omega, ctm, bsm, letJ]
    rw [ckR_nat (by omega)]
    simp only [bsm, hg]
    have way : ∀ k : Nat → Option ((Nat × Int × Nat × List Nat) ⊕ (Nat × List Nat)), (bif decide ((i : Int) < (v.length : Int)) then (geti v (i : Int)).bind fun x24 => k (x24 % 18446744073709551616 * f % 18446744073709551616) else k 0) = k p := by
      intro k
      by_cases hin : i < v.length
      · rw [show decide ((i : Int) < (v.length : Int)) = true by simp; omega, ctm]
        have hgv : v[i]? = some (V / 4294967296 ^ i % 4294967296) := by rw [← hVe]; exact get_val hV hin
        rw [geti_nat hgv, bsm, Nat.mod_eq_of_lt (a := V / 4294967296 ^ i % 4294967296) (b := 18446744073709551616) (by have := Nat.mod_lt (V / 4294967296 ^ i) (show 0 < 4294967296 by decide); omega), hp, Nat.mod_eq_of_lt (a := p) (by omega)]
      · rw [show decide ((i : Int) < (v.length : Int)) = false by simp; omega, cfm]
        have : V / 4294967296 ^ i = 0 := Nat.div_eq_of_lt (Nat.lt_of_lt_of_le hVlt (Nat.pow_le_pow_right (by decide) (by omega)))
        rw [← hp, this]; simp
    refine (way (fun y => (whole_carrier_1_m y c).bind _)).trans ?_
    rw [carrier_eq _ _ (by omega)]
    simp only [bsm]
    rw [hdig, hstep, Nat.mod_eq_of_lt (a := u) (by omega), Nat.mod_eq_of_lt (a := t) (by omega)]
    rw [stM_of (by rw [dig_len]; omega), bsm, w64_succ (by omega), two63]
    by_cases hbor : u < t + (1 - l)
    · have e1 : usub 18446744073709551616 (usub 18446744073709551616 u t) (1 - l) = 18446744073709551616 + u - t - (1 - l) := by
        by_cases h1 : u < t
        · rw [usub_lt h1 (by omega), usub_of (by omega) (by omega)]
        · rw [usub_of (a := u) (b := t) (by omega) (by omega), usub_lt (by omega) (by omega)]; omega
      rw [e1]
      have e2 : (18446744073709551616 + u - t - (1 - l)) % 4294967296 = X / 4294967296 ^ i % 4294967296 := by rw [← hxd]; omega
      have e3 : (18446744073709551616 + u - t - (1 - l)) / 9223372036854775808 = 1 - (u + (4294967296 - 1 - t) + l) / 4294967296 := by omega
      rw [e2, e3, hput]
    · have e1 : usub 18446744073709551616 (usub 18446744073709551616 u t) (1 - l) = u - t - (1 - l) := by
        rw [usub_of (a := u) (b := t) (by omega) (by omega), usub_of (by omega) (by omega)]
      rw [e1]
      have e2 : (u - t - (1 - l)) % 4294967296 = X / 4294967296 ^ i % 4294967296 := by rw [← hxd]; omega
      have e3 : (u - t - (1 - l)) / 9223372036854775808 = 1 - (u + (4294967296 - 1 - t) + l) / 4294967296 := by omega
      rw [e2, e3, hput]
  · simp
  · simp only [bsm]
    rw [eqLen_of (by rw [dig_len, dig_len]), bsm, mix_full hU, lnd_end (by decide) hU hT]
    congr 2
    by_cases h : U < V * f <;> simp [h]
end Go.Proofs.Ytgkafblpckcekaa
