/- The proofs that the code computes the plain functions. Made by program. -/
import Derived.Test.YtgkafblpckcekaaFwDen4
import Derived.Test.YtgkafblpckcekaaInst0
import Derived.Test.YtgkafblpckcekaaMR
namespace Go.Proofs.Ytgkafblpckcekaa
open Go.Fw Go.RowKit
theorem ref01_trim_ok {x0 : List Int} {r : List Int} (h : ref01_trim_m x0 = some r) : Pure Try.prog 63 [slc 1 (List.map eI64 x0)] (slc 1 (List.map eI64 r)) := by
  refine pure_of_ok Try.func63 rfl (Nat.le_of_ble_eq_true rfl) (fun wld M vs hvs => ?_)
  unfold ref01_trim_m at h
  refine ok_seq ?_
  refine ok_region ?_
  refine RT.asgI .none rfl (imp_nil (n := 1) (e := eI64)) (tl rfl) ?_
  refine RT.done ?_
  refine AThen.n ?_
  refine ok_seq ?_
  refine ok_region ?_
  refine RT.mv .none rfl (tl rfl) ?_
  replace h := let_some h
  obtain ⟨x5, h5, h⟩ := h
  refine RT.lenM .none rfl (tl rfl) h5 ?_
  refine RT.asg .none rfl (tl rfl) ?_
  refine RT.done ?_
  refine AThen.n ?_
  refine ok_seq ?_
  replace h := bind_some h
  obtain ⟨e10, hl10, ho10⟩ := h
  refine ok_tailP (fun (y3e9 : Int) => AS.mkL 21 [(0, .sv (slc 1 (List.map eI64 x0))), (3, .sv (.v (.int .i64 y3e9)))] [] []) (fun y3e9 => y3e9 = e10) ?_ (fun y3e9 hx10 => ?_)
  · refine ok_block ?_
    refine ok_loopM hl10 (fun s10 => AS.mkL 21 [(0, .sv (slc 1 (List.map eI64 x0))), (3, .sv (.v (.int .i64 s10)))] [] []) (by (try dsimp only); exact weakL id rfl rfl rfl rfl rfl ⟨.sv (SV.imp_refl _), .sv (SV.imp_refl _), trivial⟩ trivial trivial (fun _ _ => rfl)) (fun y3l5 y10 G10 h hG10 hE10 => ?_)
    try dsimp only
    refine ok_seq ?_
    refine ok_seq ?_
    refine ok_tailJ h (fun j13 => AS.mkL 21 [(0, .sv (slc 1 (List.map eI64 x0))), (3, .sv (.v (.int .i64 y3l5))), (15, .sv (.v (.bool j13)))] [] []) (fun h => ?_) (fun y15j12 h => ?_)
    · refine ok_region ?_
      refine RT.mv .none rfl (tl rfl) ?_
      replace h := let_some h
      obtain ⟨x7, h7, h⟩ := h
      refine RT.gtr .none _ rfl rfl (tl rfl) h7 ?_
      refine RT.mv .none rfl (tl rfl) ?_
      replace h := bind_some h
      obtain ⟨c15_14, hg14, h⟩ := h
      cases x7
      · replace hg14 := br_f hg14
        obtain rfl := Option.some.inj hg14
        refine RT.skV rfl rfl (sk rfl) (tl rfl) ?_
        refine RT.skV rfl rfl (sk rfl) (tl rfl) ?_
        refine RT.skV rfl rfl (sk rfl) (tl rfl) ?_
        refine RT.skV rfl rfl (sk rfl) (tl rfl) ?_
        refine RT.skV rfl rfl (sk rfl) (tl rfl) ?_
        refine RT.skV rfl rfl (sk rfl) (tl rfl) ?_
        refine RT.pickF .none rfl rfl (tl rfl) ?_
        refine RT.done ?_
        refine AThen.n ?_
        refine ⟨false, h, ?_⟩
        try dsimp only
        exact weakL id rfl rfl rfl rfl rfl ⟨.sv (SV.imp_refl _), .sv (SV.imp_refl _), .sv (SV.imp_refl _), trivial⟩ trivial trivial (fun _ _ => rfl)
      · replace hg14 := br_t hg14
        refine RT.mv (.some rfl rfl) rfl (tl rfl) ?_
        refine RT.mv (.some rfl rfl) rfl (tl rfl) ?_
        replace hg14 := let_some hg14
        obtain ⟨x11, h11, hg14⟩ := hg14
        refine RT.sub (.some rfl rfl) _ rfl rfl (tl rfl) h11 ?_
        replace hg14 := bind_some hg14
        obtain ⟨x12, h12, hg14⟩ := hg14
        refine RT.ixM (.some rfl rfl) rfl rfl (tl rfl) h12 ?_
        refine RT.loadRV (.some rfl rfl) rfl rfl (tl rfl) ?_
        replace hg14 := let_some hg14
        obtain ⟨x14, h14, hg14⟩ := hg14
        refine RT.eql (.some rfl rfl) _ rfl rfl (tl rfl) (eqI (p := x12) (q := 0) h14) ?_
        obtain rfl := Option.some.inj hg14
        refine RT.pickT .none rfl rfl (tl rfl) ?_
        refine RT.done ?_
        refine AThen.n ?_
        refine ⟨x14, h, ?_⟩
        try dsimp only
        exact weakL id rfl rfl rfl rfl rfl ⟨.sv (SV.imp_refl _), .sv (SV.imp_refl _), .sv (SV.imp_refl _), trivial⟩ trivial trivial (fun _ _ => rfl)
    · try dsimp only
      refine AThen.n ?_
      cases y15j12
      · replace h := br_f h
        refine ok_condF rfl ?_
        refine ok_exit ?_
        refine AThen.x ?_
        refine AThen.x ?_
        refine AInB.x ?_
        refine AThen.n ?_
        obtain rfl := Option.some.inj h
        refine ⟨y3l5, hE10 _ rfl, ?_⟩
        try dsimp only
        exact weakL id rfl rfl rfl rfl rfl ⟨.sv (SV.imp_refl _), .sv (SV.imp_refl _), trivial⟩ trivial trivial (fun _ _ => rfl)
      · replace h := br_t h
        refine ok_condT rfl ?_
        refine ok_skip ?_
        refine AThen.n ?_
        refine ok_block ?_
        refine ok_region ?_
        refine RT.mv .none rfl (tl rfl) ?_
        replace h := let_some h
        obtain ⟨x17, h17, h⟩ := h
        refine RT.sub .none _ rfl rfl (tl rfl) h17 ?_
        refine RT.asg .none rfl (tl rfl) ?_
        refine RT.done ?_
        refine AInB.n ?_
        obtain rfl := Option.some.inj h
        refine AThen.n ⟨x17, hG10 _ rfl, ?_⟩
        try dsimp only
        exact weakL id rfl rfl rfl rfl rfl ⟨.sv (SV.imp_refl _), .sv (SV.imp_refl _), trivial⟩ trivial trivial (fun _ _ => rfl)
  · subst hx10
    try dsimp only
    refine AThen.n ?_
    refine ok_seq ?_
    refine ok_region ?_
    refine RT.mv .none rfl (tl rfl) ?_
    refine RT.mv .none rfl (tl rfl) ?_
    replace ho10 := bind_some ho10
    obtain ⟨x20, h20, ho10⟩ := ho10
    refine RT.sliceM .none 0 y3e9 rfl rfl ⟨_, rfl⟩ (tl rfl) h20 ?_
    refine RT.asg .none rfl (tl rfl) ?_
    refine RT.done ?_
    refine AThen.n ?_
    refine ok_ret ?_
    obtain rfl := Option.some.inj ho10
    exact ⟨.inr rfl, res_imp (.tmp rfl (.nil)) (SV.imp_refl _)⟩
theorem ref01_halves_ok {x0 : List Nat} {r : List Int} (h : ref01_halves_m x0 = some r) : Pure Try.prog 49 [slc 1 (List.map eU32 x0)] (slc 1 (List.map eI64 r)) := by
  refine pure_of_ok Try.func49 rfl (Nat.le_of_ble_eq_true rfl) (fun wld M vs hvs => ?_)
  unfold ref01_halves_m at h
  refine ok_seq ?_
  refine ok_region ?_
  refine RT.asgI .none rfl (imp_nil (n := 1) (e := eI64)) (tl rfl) ?_
  refine RT.done ?_
  refine AThen.n ?_
  refine ok_seq ?_
  refine ok_region ?_
  refine RT.asg .none rfl (tl rfl) ?_
  refine RT.done ?_
  refine AThen.n ?_
  refine ok_weak (weak_nil 3 304 3 1 rfl rfl (tl rfl)) ?_
  refine ok_seq ?_
  refine ok_seq ?_
  refine ok_region ?_
  refine RT.asg .none rfl (tl rfl) ?_
  refine RT.done ?_
  refine AThen.n ?_
  replace h := bind_some h
  obtain ⟨e6, hl6, ho6⟩ := h
  refine ok_tailP (fun (r306e5 : (List Int)) => AS.mkL 28 [(3, .row 306)] [] [(306, TR 3 1 eI64 r306e5)]) (fun r306e5 => r306e5 = e6) ?_ (fun r306e5 hx6 => ?_)
  · refine ok_block ?_
    refine ok_loopM hl6 (fun s6 => AS.mkL 28 [(0, .sv (slc 1 (List.map eU32 x0))), (3, .row 306), (4, .sv (.v (.int .i64 s6.1)))] [] [(306, TR 3 1 eI64 s6.2)]) (by (try dsimp only); exact weakL (fun i => bif Nat.beq i 306 then 304 else i) rfl rfl rfl rfl rfl ⟨.sv (SV.imp_refl _), .row rfl, .sv (SV.imp_refl _), trivial⟩ trivial ⟨⟨_, rfl, SVIs.refl _⟩, trivial⟩ (fun i hi => by rw [beq_ne (show i ≠ 306 by omega)]; rfl)) (fun s6 y6 G6 h hG6 hE6 => ?_)
    obtain ⟨y4l3, r306l3⟩ := s6
    try dsimp only
    refine ok_seq ?_
    refine ok_seq ?_
    refine ok_region ?_
    refine RT.mv .none rfl (tl rfl) ?_
    refine RT.mv .none rfl (tl rfl) ?_
    replace h := let_some h
    obtain ⟨x7, h7, h⟩ := h
    refine RT.lenM .none rfl (tl rfl) h7 ?_
    replace h := let_some h
    obtain ⟨x8, h8, h⟩ := h
    refine RT.lss .none _ rfl rfl (tl rfl) h8 ?_
    refine RT.done ?_
    refine AThen.n ?_
    cases x8
    · replace h := br_f h
      refine ok_condF rfl ?_
      refine ok_exit ?_
      refine AThen.x ?_
      refine AThen.x ?_
      refine AInB.x ?_
      refine AThen.n ?_
      obtain rfl := Option.some.inj h
      refine ⟨r306l3, hE6 _ rfl, ?_⟩
      try dsimp only
      exact weakL id rfl rfl rfl rfl rfl ⟨.row rfl, trivial⟩ trivial ⟨⟨_, rfl, SVIs.refl _⟩, trivial⟩ (fun _ _ => rfl)
    · replace h := br_t h
      refine ok_condT rfl ?_
      refine ok_skip ?_
      refine AThen.n ?_
      refine ok_seq ?_
      refine ok_block ?_
      refine ok_region_draw mixed ?_
      refine RT.move .none (s := .row _) rfl (tl rfl) ?_
      refine RT.mv .none rfl (tl rfl) ?_
      refine RT.mv .none rfl (tl rfl) ?_
      replace h := bind_some h
      obtain ⟨x14, h14, h⟩ := h
      refine RT.ixM .none rfl rfl (tl rfl) h14 ?_
      refine RT.loadRV .none rfl rfl (tl rfl) ?_
      replace h := let_some h
      obtain ⟨x16, h16, h⟩ := h
      refine RT.rem .none _ rfl rfl (tl rfl) (by decide) (remU' (a := x14) (b := 65536) h16) ?_
      replace h := let_some h
      obtain ⟨x17, h17, h⟩ := h
      refine RT.conv .none _ rfl (tl rfl) h17 ?_
      refine RT.mv .none rfl (tl rfl) ?_
      refine RT.mv .none rfl (tl rfl) ?_
      replace h := bind_some h
      obtain ⟨x20, h20, h⟩ := h
      refine RT.ixM .none rfl rfl (tl rfl) h20 ?_
      refine RT.loadRV .none rfl rfl (tl rfl) ?_
      replace h := let_some h
      obtain ⟨x22, h22, h⟩ := h
      refine RT.quo .none _ rfl rfl (tl rfl) (by decide) (UK.quo' (a := x20) (b := 65536) h22) ?_
      replace h := let_some h
      obtain ⟨x23, h23, h⟩ := h
      refine RT.conv .none _ rfl (tl rfl) h23 ?_
      refine RT.buildSl (l := [x17, x23]) (e := eI64) .none (.one rfl (.one rfl (.nil))) (tl rfl) rfl rfl rfl rfl rfl rfl ?_
      replace h := bind_some h
      obtain ⟨x25, h25, h⟩ := h
      refine RT.apR (k := [x17, x23]) (e := eI64) .none rfl rfl rfl (tl rfl) rfl (tl rfl) h25 ?_
      refine RT.assign .none (s := .row _) rfl (tl rfl) ?_
      refine RT.done ⟨by kernel_rfl, ?_⟩
      refine AInB.n ?_
      refine AThen.n ?_
      refine ok_region ?_
      refine RT.mv .none rfl (tl rfl) ?_
      replace h := let_some h
      obtain ⟨x10, h10, h⟩ := h
      refine RT.add .none _ rfl rfl (tl rfl) h10 ?_
      refine RT.asg .none rfl (tl rfl) ?_
      refine RT.done ?_
      obtain rfl := Option.some.inj h
      refine AThen.n ⟨(x10, x25), hG6 _ rfl, ?_⟩
      try dsimp only
      exact weakL (fun i => bif Nat.beq i 306 then 25 else i) rfl rfl rfl rfl rfl ⟨.sv (SV.imp_refl _), .row rfl, .sv (SV.imp_refl _), trivial⟩ trivial ⟨⟨_, rfl, SVIs.refl _⟩, trivial⟩ (fun i hi => by rw [beq_ne (show i ≠ 306 by omega)]; rfl)
  · subst hx6
    try dsimp only
    refine AThen.n ?_
    refine ok_seq ?_
    refine ok_weak (weak_frzM (i := 306) (E1 := 3) (n := 1) (e := eI64) (l := r306e5) rfl) ?_
    refine ok_region ?_
    refine RT.mv .none rfl (tl rfl) ?_
    replace ho6 := bind_some ho6
    obtain ⟨x27, h27, ho6⟩ := ho6
    refine RT.call .none (ref01_trim_ok h27) rfl ⟨rfl, trivial⟩ (tl rfl) ?_
    refine RT.asg .none rfl (tl rfl) ?_
    refine RT.done ?_
    refine AThen.n ?_
    refine ok_ret ?_
    obtain rfl := Option.some.inj ho6
    exact ⟨.inr rfl, res_imp (.tmp rfl (.nil)) (SV.imp_refl _)⟩
theorem ref01_at_ok {x0 : List Int} {x1 : Int} {r : Int} (h : ref01_at_m x0 x1 = some r) : Pure Try.prog 64 [slc 1 (List.map eI64 x0), .v (.int .i64 x1)] (.v (.int .i64 r)) := by
  refine pure_of_ok Try.func64 rfl (Nat.le_of_ble_eq_true rfl) (fun wld M vs hvs => ?_)
  unfold ref01_at_m at h
  refine ok_seq ?_
  refine ok_region ?_
  refine RT.asg .none rfl (tl rfl) ?_
  refine RT.done ?_
  refine AThen.n ?_
  refine ok_seq ?_
  refine ok_seq ?_
  refine ok_region ?_
  refine RT.mv .none rfl (tl rfl) ?_
  refine RT.mv .none rfl (tl rfl) ?_
  replace h := let_some h
  obtain ⟨x7, h7, h⟩ := h
  refine RT.lenM .none rfl (tl rfl) h7 ?_
  replace h := let_some h
  obtain ⟨x8, h8, h⟩ := h
  refine RT.lss .none _ rfl rfl (tl rfl) h8 ?_
  refine RT.done ?_
  refine AThen.n ?_
  cases x8
  · replace h := br_f h
    refine ok_condF rfl ?_
    refine ok_skip ?_
    refine AThen.n ?_
    refine ok_seq ?_
    refine ok_region ?_
    refine RT.asg .none rfl (tl rfl) ?_
    refine RT.done ?_
    refine AThen.n ?_
    refine ok_ret ?_
    obtain rfl := Option.some.inj h
    exact ⟨.inr rfl, res_imp (.tmp rfl (.nil)) (SV.imp_refl _)⟩
  · replace h := br_t h
    refine ok_condT rfl ?_
    refine ok_seq ?_
    refine ok_region ?_
    refine RT.mv .none rfl (tl rfl) ?_
    refine RT.mv .none rfl (tl rfl) ?_
    replace h := bind_some h
    obtain ⟨x11, h11, h⟩ := h
    refine RT.ixM .none rfl rfl (tl rfl) h11 ?_
    refine RT.loadRV .none rfl rfl (tl rfl) ?_
    refine RT.asg .none rfl (tl rfl) ?_
    refine RT.done ?_
    refine AThen.n ?_
    refine ok_ret ?_
    refine AThen.r ?_
    obtain rfl := Option.some.inj h
    exact ⟨.inr rfl, res_imp (.tmp rfl (.nil)) (SV.imp_refl _)⟩
theorem ref01_of_ok {x0 : Bool} {x1 : List Int} {r : Zr} (h : ref01_of_m x0 x1 = some r) : Pure Try.prog 53 [.v (.bool x0), slc 1 (List.map eI64 x1)] (.agg (eZ r)) := by
  refine pure_of_ok Try.func53 rfl (Nat.le_of_ble_eq_true rfl) (fun wld M vs hvs => ?_)
  unfold ref01_of_m at h
  refine ok_seq ?_
  refine ok_region ?_
  refine RT.allocI .none (cs := [.v (.bool false), slc 1 (List.map eU32 [])]) (by exact ⟨SV.imp_refl _, imp_nil, trivial⟩) rfl (tl rfl) rfl rfl ?_
  refine RT.done ?_
  refine AThen.n ?_
  refine ok_seq ?_
  refine ok_region ?_
  refine RT.mv .none rfl (tl rfl) ?_
  replace h := bind_some h
  obtain ⟨x8, h8, h⟩ := h
  refine RT.call .none (ref01_trim_ok h8) rfl ⟨rfl, trivial⟩ (tl rfl) ?_
  refine RT.asg .none rfl (tl rfl) ?_
  refine RT.done ?_
  refine AThen.n ?_
  refine ok_seq ?_
  refine ok_region ?_
  refine RT.asg .none rfl (tl rfl) ?_
  refine RT.done ?_
  refine AThen.n ?_
  refine ok_weak (weak_nil 5 304 51 1 rfl rfl (tl rfl)) ?_
  refine ok_seq ?_
  refine ok_seq ?_
  refine ok_region ?_
  refine RT.asg .none rfl (tl rfl) ?_
  refine RT.done ?_
  refine AThen.n ?_
  replace h := bind_some h
  obtain ⟨e6, hl6, ho6⟩ := h
  refine ok_tailP (fun (r306e5 : (List Nat)) => AS.mkL 37 [(0, .sv (.v (.bool x0))), (4, .ptr 4 0), (5, .row 306)] [(4, ⟨24, [.sv (.v (.bool false)), .sv (slc 1 (List.map eU32 []))]⟩)] [(306, TR 51 1 eU32 r306e5)]) (fun r306e5 => r306e5 = e6) ?_ (fun r306e5 hx6 => ?_)
  · refine ok_block ?_
    refine ok_loopM hl6 (fun s6 => AS.mkL 37 [(0, .sv (.v (.bool x0))), (1, .sv (slc 1 (List.map eI64 x8))), (4, .ptr 4 0), (5, .row 306), (6, .sv (.v (.int .i64 s6.1)))] [(4, ⟨24, [.sv (.v (.bool false)), .sv (slc 1 (List.map eU32 []))]⟩)] [(306, TR 51 1 eU32 s6.2)]) (by (try dsimp only); exact weakL (fun i => bif Nat.beq i 306 then 304 else i) rfl rfl rfl rfl rfl ⟨.sv (SV.imp_refl _), .sv (SV.imp_refl _), .ptr, .row rfl, .sv (SV.imp_refl _), trivial⟩ ⟨⟨_, rfl, ⟨.sv (SV.imp_refl _), .sv (SV.imp_refl _), trivial⟩⟩, trivial⟩ ⟨⟨_, rfl, SVIs.refl _⟩, trivial⟩ (fun i hi => by rw [beq_ne (show i ≠ 306 by omega)]; rfl)) (fun s6 y6 G6 h hG6 hE6 => ?_)
    obtain ⟨y6l3, r306l3⟩ := s6
    try dsimp only
    refine ok_seq ?_
    refine ok_seq ?_
    refine ok_region ?_
    refine RT.mv .none rfl (tl rfl) ?_
    refine RT.mv .none rfl (tl rfl) ?_
    replace h := let_some h
    obtain ⟨x11, h11, h⟩ := h
    refine RT.lenM .none rfl (tl rfl) h11 ?_
    replace h := let_some h
    obtain ⟨x12, h12, h⟩ := h
    refine RT.lss .none _ rfl rfl (tl rfl) h12 ?_
    refine RT.done ?_
    refine AThen.n ?_
    cases x12
    · replace h := br_f h
      refine ok_condF rfl ?_
      refine ok_exit ?_
      refine AThen.x ?_
      refine AThen.x ?_
      refine AInB.x ?_
      refine AThen.n ?_
      obtain rfl := Option.some.inj h
      refine ⟨r306l3, hE6 _ rfl, ?_⟩
      try dsimp only
      exact weakL id rfl rfl rfl rfl rfl ⟨.sv (SV.imp_refl _), .ptr, .row rfl, trivial⟩ ⟨⟨_, rfl, ⟨.sv (SV.imp_refl _), .sv (SV.imp_refl _), trivial⟩⟩, trivial⟩ ⟨⟨_, rfl, SVIs.refl _⟩, trivial⟩ (fun _ _ => rfl)
    · replace h := br_t h
      refine ok_condT rfl ?_
      refine ok_skip ?_
      refine AThen.n ?_
      refine ok_seq ?_
      refine ok_block ?_
      refine ok_region ?_
      refine RT.move .none (s := .row _) rfl (tl rfl) ?_
      refine RT.mv .none rfl (tl rfl) ?_
      refine RT.mv .none rfl (tl rfl) ?_
      replace h := bind_some h
      obtain ⟨x18, h18, h⟩ := h
      refine RT.call .none (ref01_at_ok h18) rfl ⟨rfl, rfl, trivial⟩ (tl rfl) ?_
      replace h := let_some h
      obtain ⟨x19, h19, h⟩ := h
      refine RT.conv .none _ rfl (tl rfl) (UK.conv h19) ?_
      refine RT.mv .none rfl (tl rfl) ?_
      refine RT.mv .none rfl (tl rfl) ?_
      replace h := let_some h
      obtain ⟨x22, h22, h⟩ := h
      refine RT.add .none _ rfl rfl (tl rfl) h22 ?_
      replace h := bind_some h
      obtain ⟨x23, h23, h⟩ := h
      refine RT.call .none (ref01_at_ok h23) rfl ⟨rfl, rfl, trivial⟩ (tl rfl) ?_
      replace h := let_some h
      obtain ⟨x24, h24, h⟩ := h
      refine RT.conv .none _ rfl (tl rfl) (UK.conv h24) ?_
      replace h := let_some h
      obtain ⟨x25, h25, h⟩ := h
      refine RT.mul .none _ rfl rfl (tl rfl) (UK.mul (a := x24) (b := 65536) h25) ?_
      replace h := let_some h
      obtain ⟨x26, h26, h⟩ := h
      refine RT.add .none _ rfl rfl (tl rfl) (UK.add (a := x19) (b := x25) h26) ?_
      refine RT.buildSl (l := [x26]) (e := eU32) .none (.one rfl (.nil)) (tl rfl) rfl rfl rfl rfl rfl rfl ?_
      replace h := bind_some h
      obtain ⟨x28, h28, h⟩ := h
      refine RT.apR (k := [x26]) (e := eU32) .none rfl rfl rfl (tl rfl) rfl (tl rfl) h28 ?_
      refine RT.assign .none (s := .row _) rfl (tl rfl) ?_
      refine RT.done ?_
      refine AInB.n ?_
      refine AThen.n ?_
      refine ok_region ?_
      refine RT.mv .none rfl (tl rfl) ?_
      replace h := let_some h
      obtain ⟨x14, h14, h⟩ := h
      refine RT.add .none _ rfl rfl (tl rfl) h14 ?_
      refine RT.asg .none rfl (tl rfl) ?_
      refine RT.done ?_
      obtain rfl := Option.some.inj h
      refine AThen.n ⟨(x14, x28), hG6 _ rfl, ?_⟩
      try dsimp only
      exact weakL (fun i => bif Nat.beq i 306 then 28 else i) rfl rfl rfl rfl rfl ⟨.sv (SV.imp_refl _), .sv (SV.imp_refl _), .ptr, .row rfl, .sv (SV.imp_refl _), trivial⟩ ⟨⟨_, rfl, ⟨.sv (SV.imp_refl _), .sv (SV.imp_refl _), trivial⟩⟩, trivial⟩ ⟨⟨_, rfl, SVIs.refl _⟩, trivial⟩ (fun i hi => by rw [beq_ne (show i ≠ 306 by omega)]; rfl)
  · subst hx6
    try dsimp only
    refine AThen.n ?_
    refine ok_seq ?_
    refine ok_tailJ ho6 (fun j9 => AS.mkL 37 [(4, .ptr 4 0)] [(4, ⟨24, [.sv (.v (.bool j9)), .sv (slc 1 (List.map eU32 r306e5))]⟩)] []) (fun ho6 => ?_) (fun b4_0j8 ho6 => ?_)
    · refine ok_weak (weak_frzM (i := 306) (E1 := 51) (n := 1) (e := eU32) (l := r306e5) rfl) ?_
      refine ok_region ?_
      refine RT.mv .none rfl (tl rfl) ?_
      refine RT.mv .none rfl (tl rfl) ?_
      replace ho6 := bind_some ho6
      obtain ⟨c34_10, hg10, ho6⟩ := ho6
      cases x0
      · replace hg10 := br_f hg10
        obtain rfl := Option.some.inj hg10
        refine RT.skV rfl rfl (sk rfl) (tl rfl) ?_
        refine RT.skV rfl rfl (sk rfl) (tl rfl) ?_
        refine RT.skV rfl rfl (sk rfl) (tl rfl) ?_
        refine RT.pickF .none rfl rfl (tl rfl) ?_
        refine RT.mv .none rfl (tl rfl) ?_
        refine RT.buildI (cs := [_, _]) (cs' := [.v (.bool false), slc 1 (List.map eU32 r306e5)]) .none (.one rfl (.one rfl (.nil))) rfl ⟨SV.imp_refl _, SV.imp_refl _, trivial⟩ (tl rfl) ?_
        refine RT.store .none rfl rfl rfl rfl rfl ?_
        refine RT.done ?_
        refine AThen.n ?_
        refine ⟨false, ho6, ?_⟩
        try dsimp only
        exact weakL id rfl rfl rfl rfl rfl ⟨.ptr, trivial⟩ ⟨⟨_, rfl, ⟨.sv (SV.imp_refl _), .sv (SV.imp_refl _), trivial⟩⟩, trivial⟩ trivial (fun _ _ => rfl)
      · replace hg10 := br_t hg10
        refine RT.mv (.some rfl rfl) rfl (tl rfl) ?_
        replace hg10 := let_some hg10
        obtain ⟨x32, h32, hg10⟩ := hg10
        refine RT.lenM (.some rfl rfl) rfl (tl rfl) h32 ?_
        replace hg10 := let_some hg10
        obtain ⟨x33, h33, hg10⟩ := hg10
        refine RT.gtr (.some rfl rfl) _ rfl rfl (tl rfl) h33 ?_
        obtain rfl := Option.some.inj hg10
        refine RT.pickT .none rfl rfl (tl rfl) ?_
        refine RT.mv .none rfl (tl rfl) ?_
        refine RT.buildI (cs := [_, _]) (cs' := [.v (.bool x33), slc 1 (List.map eU32 r306e5)]) .none (.one rfl (.one rfl (.nil))) rfl ⟨SV.imp_refl _, SV.imp_refl _, trivial⟩ (tl rfl) ?_
        refine RT.store .none rfl rfl rfl rfl rfl ?_
        refine RT.done ?_
        refine AThen.n ?_
        refine ⟨x33, ho6, ?_⟩
        try dsimp only
        exact weakL id rfl rfl rfl rfl rfl ⟨.ptr, trivial⟩ ⟨⟨_, rfl, ⟨.sv (SV.imp_refl _), .sv (SV.imp_refl _), trivial⟩⟩, trivial⟩ trivial (fun _ _ => rfl)
    · try dsimp only
      refine AThen.n ?_
      refine ok_ret ?_
      obtain rfl := Option.some.inj ho6
      exact ⟨.inr rfl, res_imp (.agg rfl rfl (.cons rfl (.cons rfl (.nil))) rfl (.nil)) (SV.imp_refl _)⟩
theorem ref01_Least_ok {x0 : Zr} {r : Zr} (h : ref01_Least_m x0 = some r) : Pure Try.prog 21 [.agg (eZ x0)] (.agg (eZ r)) := by
  obtain ⟨x0_0, x0_1⟩ := x0
  refine pure_of_ok Try.func21 rfl (Nat.le_of_ble_eq_true rfl) (fun wld M vs hvs => ?_)
  unfold ref01_Least_m at h
  refine ok_seq ?_
  refine ok_region ?_
  refine RT.box .none rfl (tl rfl) rfl rfl ?_
  refine RT.allocI .none (cs := [.v (.bool false), slc 1 (List.map eU32 [])]) (by exact ⟨SV.imp_refl _, imp_nil, trivial⟩) rfl (tl rfl) rfl rfl ?_
  refine RT.done ?_
  refine AThen.n ?_
  refine ok_seq ?_
  refine ok_region_draw mixed ?_
  refine RT.fieldAddr .none rfl (tl rfl) rfl ?_
  refine RT.ldV .none rfl rfl rfl (tl rfl) ?_
  refine RT.fieldAddr .none rfl (tl rfl) rfl ?_
  refine RT.ldV .none rfl rfl rfl (tl rfl) ?_
  replace h := bind_some h
  obtain ⟨x7, h7, h⟩ := h
  refine RT.call .none (ref01_halves_ok h7) rfl ⟨rfl, trivial⟩ (tl rfl) ?_
  replace h := bind_some h
  obtain ⟨⟨x8_0, x8_1⟩, h8, h⟩ := h
  refine RT.call .none (ref01_of_ok h8) rfl ⟨rfl, rfl, trivial⟩ (tl rfl) ?_
  refine RT.store .none rfl rfl rfl rfl rfl ?_
  refine RT.done ⟨by kernel_rfl, ?_⟩
  refine AThen.n ?_
  refine ok_ret ?_
  obtain rfl := Option.some.inj h
  exact ⟨.inr rfl, res_imp (.agg rfl rfl (.cons rfl (.cons rfl (.nil))) rfl (.nil)) (SV.imp_refl _)⟩
theorem ref01_Same_ok {x0 : Zr} {x1 : Zr} {r : Bool} (h : ref01_Same_m x0 x1 = some r) : Pure Try.prog 14 [.agg (eZ x0), .agg (eZ x1)] (.v (.bool r)) := by
  obtain ⟨x0_0, x0_1⟩ := x0
  obtain ⟨x1_0, x1_1⟩ := x1
  refine pure_of_ok Try.func14 rfl (Nat.le_of_ble_eq_true rfl) (fun wld M vs hvs => ?_)
  unfold ref01_Same_m at h
  refine ok_seq ?_
  refine ok_region ?_
  refine RT.box .none rfl (tl rfl) rfl rfl ?_
  refine RT.box .none rfl (tl rfl) rfl rfl ?_
  refine RT.asg .none rfl (tl rfl) ?_
  refine RT.done ?_
  refine AThen.n ?_
  refine ok_seq ?_
  refine ok_seq ?_
  refine ok_tailJ h (fun j3 => AS.mkL 38 [(2, .ptr 2 0), (3, .ptr 3 0), (19, .sv (.v (.bool j3)))] [(3, ⟨24, [.sv (.v (.bool x1_0)), .sv (slc 1 (List.map eU32 x1_1))]⟩), (2, ⟨24, [.sv (.v (.bool x0_0)), .sv (slc 1 (List.map eU32 x0_1))]⟩)] []) (fun h => ?_) (fun y19j2 h => ?_)
  · refine ok_region ?_
    refine RT.fieldAddr .none rfl (tl rfl) rfl ?_
    refine RT.ldV .none rfl rfl rfl (tl rfl) ?_
    refine RT.fieldAddr .none rfl (tl rfl) rfl ?_
    refine RT.ldV .none rfl rfl rfl (tl rfl) ?_
    replace h := let_some h
    obtain ⟨x10, h10, h⟩ := h
    refine RT.bneq .none _ rfl rfl (tl rfl) h10 ?_
    refine RT.mv .none rfl (tl rfl) ?_
    replace h := bind_some h
    obtain ⟨c19_10, hg10, h⟩ := h
    cases x10
    · replace hg10 := br_f hg10
      refine RT.fieldAddr (.some rfl rfl) rfl (tl rfl) rfl ?_
      refine RT.ldV (.some rfl rfl) rfl rfl rfl (tl rfl) ?_
      replace hg10 := let_some hg10
      obtain ⟨x14, h14, hg10⟩ := hg10
      refine RT.lenM (.some rfl rfl) rfl (tl rfl) h14 ?_
      refine RT.fieldAddr (.some rfl rfl) rfl (tl rfl) rfl ?_
      refine RT.ldV (.some rfl rfl) rfl rfl rfl (tl rfl) ?_
      replace hg10 := let_some hg10
      obtain ⟨x17, h17, hg10⟩ := hg10
      refine RT.lenM (.some rfl rfl) rfl (tl rfl) h17 ?_
      replace hg10 := let_some hg10
      obtain ⟨x18, h18, hg10⟩ := hg10
      refine RT.neq (.some rfl rfl) _ rfl rfl (tl rfl) (neI (p := x14) (q := x17) h18) ?_
      obtain rfl := Option.some.inj hg10
      refine RT.pickF .none rfl rfl (tl rfl) ?_
      refine RT.done ?_
      refine AThen.n ?_
      refine ⟨x18, h, ?_⟩
      try dsimp only
      exact weakL id rfl rfl rfl rfl rfl ⟨.ptr, .ptr, .sv (SV.imp_refl _), trivial⟩ ⟨⟨_, rfl, ⟨.sv (SV.imp_refl _), .sv (SV.imp_refl _), trivial⟩⟩, ⟨_, rfl, ⟨.sv (SV.imp_refl _), .sv (SV.imp_refl _), trivial⟩⟩, trivial⟩ trivial (fun _ _ => rfl)
    · replace hg10 := br_t hg10
      obtain rfl := Option.some.inj hg10
      refine RT.skV rfl rfl (sk rfl) (tl rfl) ?_
      refine RT.skV rfl rfl (sk rfl) (tl rfl) ?_
      refine RT.skV rfl rfl (sk rfl) (tl rfl) ?_
      refine RT.skV rfl rfl (sk rfl) (tl rfl) ?_
      refine RT.skV rfl rfl (sk rfl) (tl rfl) ?_
      refine RT.skV rfl rfl (sk rfl) (tl rfl) ?_
      refine RT.skV rfl rfl (sk rfl) (tl rfl) ?_
      refine RT.pickT .none rfl rfl (tl rfl) ?_
      refine RT.done ?_
      refine AThen.n ?_
      refine ⟨true, h, ?_⟩
      try dsimp only
      exact weakL id rfl rfl rfl rfl rfl ⟨.ptr, .ptr, .sv (SV.imp_refl _), trivial⟩ ⟨⟨_, rfl, ⟨.sv (SV.imp_refl _), .sv (SV.imp_refl _), trivial⟩⟩, ⟨_, rfl, ⟨.sv (SV.imp_refl _), .sv (SV.imp_refl _), trivial⟩⟩, trivial⟩ trivial (fun _ _ => rfl)
  · try dsimp only
    refine AThen.n ?_
    cases y19j2
    · replace h := br_f h
      refine ok_condF rfl ?_
      refine ok_skip ?_
      refine AThen.n ?_
      refine ok_seq ?_
      refine ok_seq ?_
      refine ok_region ?_
      refine RT.asg .none rfl (tl rfl) ?_
      refine RT.done ?_
      refine AThen.n ?_
      replace h := bind_some h
      obtain ⟨e9, hl9, ho9⟩ := h
      refine ok_tailP (fun (xe9 : Unit) => AS.mkL 38 [] [] []) (fun xe9 => .inl xe9 = e9) ?_ (fun xe9 hx9 => ?_)
      · refine ok_block ?_
        refine ok_loopM hl9 (fun s9 => AS.mkL 38 [(2, .ptr 2 0), (3, .ptr 3 0), (5, .sv (.v (.int .i64 s9)))] [(3, ⟨24, [.sv (.v (.bool x1_0)), .sv (slc 1 (List.map eU32 x1_1))]⟩), (2, ⟨24, [.sv (.v (.bool x0_0)), .sv (slc 1 (List.map eU32 x0_1))]⟩)] []) (by (try dsimp only); exact weakL id rfl rfl rfl rfl rfl ⟨.ptr, .ptr, .sv (SV.imp_refl _), trivial⟩ ⟨⟨_, rfl, ⟨.sv (SV.imp_refl _), .sv (SV.imp_refl _), trivial⟩⟩, ⟨_, rfl, ⟨.sv (SV.imp_refl _), .sv (SV.imp_refl _), trivial⟩⟩, trivial⟩ trivial (fun _ _ => rfl)) (fun y5l6 y9 G9 h hG9 hE9 => ?_)
        try dsimp only
        refine ok_seq ?_
        refine ok_seq ?_
        refine ok_region ?_
        refine RT.mv .none rfl (tl rfl) ?_
        refine RT.fieldAddr .none rfl (tl rfl) rfl ?_
        refine RT.ldV .none rfl rfl rfl (tl rfl) ?_
        replace h := let_some h
        obtain ⟨x23, h23, h⟩ := h
        refine RT.lenM .none rfl (tl rfl) h23 ?_
        replace h := let_some h
        obtain ⟨x24, h24, h⟩ := h
        refine RT.lss .none _ rfl rfl (tl rfl) h24 ?_
        refine RT.done ?_
        refine AThen.n ?_
        cases x24
        · replace h := br_f h
          refine ok_condF rfl ?_
          refine ok_exit ?_
          refine AThen.x ?_
          refine AThen.x ?_
          refine AInB.x ?_
          refine AThen.n ?_
          obtain rfl := Option.some.inj h
          refine ⟨(), hE9 _ rfl, ?_⟩
          try dsimp only
          exact weakL id rfl rfl rfl rfl rfl trivial trivial trivial (fun _ _ => rfl)
        · replace h := br_t h
          refine ok_condT rfl ?_
          refine ok_skip ?_
          refine AThen.n ?_
          refine ok_seq ?_
          refine ok_block ?_
          refine ok_seq ?_
          refine ok_region_draw mixed ?_
          refine RT.fieldAddr .none rfl (tl rfl) rfl ?_
          refine RT.ldV .none rfl rfl rfl (tl rfl) ?_
          refine RT.mv .none rfl (tl rfl) ?_
          replace h := bind_some h
          obtain ⟨x30, h30, h⟩ := h
          refine RT.ixM .none rfl rfl (tl rfl) h30 ?_
          refine RT.loadRV .none rfl rfl (tl rfl) ?_
          refine RT.fieldAddr .none rfl (tl rfl) rfl ?_
          refine RT.ldV .none rfl rfl rfl (tl rfl) ?_
          refine RT.mv .none rfl (tl rfl) ?_
          replace h := bind_some h
          obtain ⟨x35, h35, h⟩ := h
          refine RT.ixM .none rfl rfl (tl rfl) h35 ?_
          refine RT.loadRV .none rfl rfl (tl rfl) ?_
          replace h := let_some h
          obtain ⟨x37, h37, h⟩ := h
          refine RT.neq .none _ rfl rfl (tl rfl) (neN (p := x30) (q := x35) h37) ?_
          refine RT.done ⟨by kernel_rfl, ?_⟩
          refine AThen.n ?_
          cases x37
          · replace h := br_f h
            refine ok_condF rfl ?_
            refine ok_skip ?_
            refine AInB.n ?_
            refine AThen.n ?_
            refine ok_region ?_
            refine RT.mv .none rfl (tl rfl) ?_
            replace h := let_some h
            obtain ⟨x26, h26, h⟩ := h
            refine RT.add .none _ rfl rfl (tl rfl) h26 ?_
            refine RT.asg .none rfl (tl rfl) ?_
            refine RT.done ?_
            obtain rfl := Option.some.inj h
            refine AThen.n ⟨x26, hG9 _ rfl, ?_⟩
            try dsimp only
            exact weakL id rfl rfl rfl rfl rfl ⟨.ptr, .ptr, .sv (SV.imp_refl _), trivial⟩ ⟨⟨_, rfl, ⟨.sv (SV.imp_refl _), .sv (SV.imp_refl _), trivial⟩⟩, ⟨_, rfl, ⟨.sv (SV.imp_refl _), .sv (SV.imp_refl _), trivial⟩⟩, trivial⟩ trivial (fun _ _ => rfl)
          · replace h := br_t h
            refine ok_condT rfl ?_
            refine ok_seq ?_
            refine ok_region ?_
            refine RT.asg .none rfl (tl rfl) ?_
            refine RT.done ?_
            refine AThen.n ?_
            refine ok_ret ?_
            refine AInB.r ?_
            refine AThen.r ?_
            obtain rfl := Option.some.inj h
            have he9 := hE9 _ rfl
            subst he9
            refine AThen.r ?_
            refine AInB.r ?_
            refine AThen.r ?_
            refine AThen.r ?_
            obtain rfl := Option.some.inj ho9
            exact ⟨.inr rfl, res_imp (.tmp rfl (.nil)) (SV.imp_refl _)⟩
      · subst hx9
        try dsimp only
        refine AThen.n ?_
        refine ok_seq ?_
        refine ok_region ?_
        refine RT.asg .none rfl (tl rfl) ?_
        refine RT.done ?_
        refine AThen.n ?_
        refine ok_ret ?_
        obtain rfl := Option.some.inj ho9
        exact ⟨.inr rfl, res_imp (.tmp rfl (.nil)) (SV.imp_refl _)⟩
    · replace h := br_t h
      refine ok_condT rfl ?_
      refine ok_seq ?_
      refine ok_region ?_
      refine RT.asg .none rfl (tl rfl) ?_
      refine RT.done ?_
      refine AThen.n ?_
      refine ok_ret ?_
      refine AThen.r ?_
      obtain rfl := Option.some.inj h
      exact ⟨.inr rfl, res_imp (.tmp rfl (.nil)) (SV.imp_refl _)⟩
theorem ref01_From_ok {x0 : Int} {r : Zr} (h : ref01_From_m x0 = some r) : Pure Try.prog 33 [.v (.int .i64 x0)] (.agg (eZ r)) := by
  refine pure_of_ok Try.func33 rfl (Nat.le_of_ble_eq_true rfl) (fun wld M vs hvs => ?_)
  unfold ref01_From_m at h
  refine ok_seq ?_
  refine ok_region ?_
  refine RT.allocI .none (cs := [.v (.bool false), slc 1 (List.map eU32 [])]) (by exact ⟨SV.imp_refl _, imp_nil, trivial⟩) rfl (tl rfl) rfl rfl ?_
  refine RT.done ?_
  refine AThen.n ?_
  refine ok_seq ?_
  refine ok_region ?_
  refine RT.mv .none rfl (tl rfl) ?_
  replace h := let_some h
  obtain ⟨x5, h5, h⟩ := h
  refine RT.conv .none _ rfl (tl rfl) (UK.conv h5) ?_
  refine RT.asg .none rfl (tl rfl) ?_
  refine RT.done ?_
  refine AThen.n ?_
  refine ok_seq ?_
  refine ok_seq ?_
  refine ok_region ?_
  refine RT.mv .none rfl (tl rfl) ?_
  replace h := let_some h
  obtain ⟨x7, h7, h⟩ := h
  refine RT.lss .none _ rfl rfl (tl rfl) h7 ?_
  refine RT.done ?_
  refine AThen.n ?_
  refine ok_tailJ h (fun j2 => AS.mkL 21 [(0, .sv (.v (.int .i64 x0))), (2, .ptr 2 0), (3, .sv (.v (.int .u64 ((j2 : Nat) : Int))))] [(2, ⟨24, [.sv (.v (.bool false)), .sv (slc 1 (List.map eU32 []))]⟩)] []) (fun h => ?_) (fun y3j1 h => ?_)
  · cases x7
    · replace h := br_f h
      refine ok_condF rfl ?_
      refine ok_skip ?_
      refine AThen.n ?_
      refine ⟨x5, h, ?_⟩
      try dsimp only
      exact weakL id rfl rfl rfl rfl rfl ⟨.sv (SV.imp_refl _), .ptr, .sv (SV.imp_refl _), trivial⟩ ⟨⟨_, rfl, ⟨.sv (SV.imp_refl _), .sv (SV.imp_refl _), trivial⟩⟩, trivial⟩ trivial (fun _ _ => rfl)
    · replace h := br_t h
      refine ok_condT rfl ?_
      refine ok_region ?_
      refine RT.mv .none rfl (tl rfl) ?_
      replace h := let_some h
      obtain ⟨x9, h9, h⟩ := h
      refine RT.neg .none _ rfl (tl rfl) (UK.neg h9) ?_
      refine RT.asg .none rfl (tl rfl) ?_
      refine RT.done ?_
      refine AThen.n ?_
      refine ⟨x9, h, ?_⟩
      try dsimp only
      exact weakL id rfl rfl rfl rfl rfl ⟨.sv (SV.imp_refl _), .ptr, .sv (SV.imp_refl _), trivial⟩ ⟨⟨_, rfl, ⟨.sv (SV.imp_refl _), .sv (SV.imp_refl _), trivial⟩⟩, trivial⟩ trivial (fun _ _ => rfl)
  · try dsimp only
    refine AThen.n ?_
    refine ok_seq ?_
    refine ok_region ?_
    refine RT.mv .none rfl (tl rfl) ?_
    replace h := let_some h
    obtain ⟨x11, h11, h⟩ := h
    refine RT.lss .none _ rfl rfl (tl rfl) h11 ?_
    refine RT.mv .none rfl (tl rfl) ?_
    replace h := let_some h
    obtain ⟨x13, h13, h⟩ := h
    refine RT.rem .none _ rfl rfl (tl rfl) (by decide) (remU' (a := y3j1) (b := 4294967296) h13) ?_
    replace h := let_some h
    obtain ⟨x14, h14, h⟩ := h
    refine RT.conv .none _ rfl (tl rfl) (UK.nat h14) ?_
    refine RT.mv .none rfl (tl rfl) ?_
    replace h := let_some h
    obtain ⟨x16, h16, h⟩ := h
    refine RT.quo .none _ rfl rfl (tl rfl) (by decide) (UK.quo' (a := y3j1) (b := 4294967296) h16) ?_
    replace h := let_some h
    obtain ⟨x17, h17, h⟩ := h
    refine RT.conv .none _ rfl (tl rfl) (UK.nat h17) ?_
    refine RT.buildSl (l := [x14, x17]) (e := eU32) .none (.one rfl (.one rfl (.nil))) (tl rfl) rfl rfl rfl rfl rfl rfl ?_
    refine RT.buildI (cs := [_, _]) (cs' := [.v (.bool x11), slc 1 (List.map eU32 [x14, x17])]) .none (.one rfl (.one rfl (.nil))) rfl ⟨SV.imp_refl _, SV.imp_refl _, trivial⟩ (tl rfl) ?_
    replace h := bind_some h
    obtain ⟨⟨x20_0, x20_1⟩, h20, h⟩ := h
    refine RT.call .none (ref01_Least_ok h20) rfl ⟨rfl, trivial⟩ (tl rfl) ?_
    refine RT.store .none rfl rfl rfl rfl rfl ?_
    refine RT.done ?_
    refine AThen.n ?_
    refine ok_ret ?_
    obtain rfl := Option.some.inj h
    exact ⟨.inr rfl, res_imp (.agg rfl rfl (.cons rfl (.cons rfl (.nil))) rfl (.nil)) (SV.imp_refl _)⟩
end Go.Proofs.Ytgkafblpckcekaa
