/- The proofs that the code computes the plain functions. Made by program. -/
import Derived.Test.YtgkafblpckcekaaW4
import Derived.Test.YtgkafblpckcekaaR0
import Derived.Test.YtgkafblpckcekaaML1
namespace Go.Proofs.Ytgkafblpckcekaa
open Go.Fw Go.RowKit
theorem law01_n_ok {x0 : Int} {r : Zr} (h : law01_n_m x0 = some r) : Pure Try.prog 42 [.v (.int .i64 x0)] (.agg (eZ r)) := by
  refine pure_of_ok Try.func42 rfl (Nat.le_of_ble_eq_true rfl) (fun wld M vs hvs => ?_)
  unfold law01_n_m at h
  refine ok_seq ?_
  refine ok_region ?_
  refine RT.allocI .none (cs := [.v (.bool false), slc 1 (List.map eU32 [])]) (by exact ⟨SV.imp_refl _, imp_nil, trivial⟩) rfl (tl rfl) rfl rfl ?_
  refine RT.done ?_
  refine AThen.n ?_
  refine ok_seq ?_
  refine ok_region ?_
  refine RT.mv .none rfl (tl rfl) ?_
  replace h := bind_some h
  obtain ⟨⟨x4_0, x4_1⟩, h4, h⟩ := h
  refine RT.call .none (whole_FromInt64_ok h4) rfl ⟨rfl, trivial⟩ (tl rfl) ?_
  refine RT.store .none rfl rfl rfl rfl rfl ?_
  refine RT.done ?_
  refine AThen.n ?_
  refine ok_ret ?_
  obtain rfl := Option.some.inj h
  exact ⟨.inr rfl, res_imp (.agg rfl rfl (.cons rfl (.cons rfl (.nil))) rfl (.nil)) (SV.imp_refl _)⟩
theorem law01_is_ok {x0 : Zr} {x1 : Int} {r : Bool} (h : law01_is_m x0 x1 = some r) : Pure Try.prog 43 [.agg (eZ x0), .v (.int .i64 x1)] (.v (.bool r)) := by
  obtain ⟨x0_0, x0_1⟩ := x0
  refine pure_of_ok Try.func43 rfl (Nat.le_of_ble_eq_true rfl) (fun wld M vs hvs => ?_)
  unfold law01_is_m at h
  refine ok_seq ?_
  refine ok_region ?_
  refine RT.box .none rfl (tl rfl) rfl rfl ?_
  refine RT.asg .none rfl (tl rfl) ?_
  refine RT.done ?_
  refine AThen.n ?_
  refine ok_seq ?_
  refine ok_region_draw mixed ?_
  refine RT.load .none rfl rfl (.cons rfl (.cons rfl (.nil))) rfl (tl rfl) ?_
  refine RT.mv .none rfl (tl rfl) ?_
  replace h := bind_some h
  obtain ⟨⟨x7_0, x7_1⟩, h7, h⟩ := h
  refine RT.call .none (ref01_From_ok h7) rfl ⟨rfl, trivial⟩ (tl rfl) ?_
  replace h := bind_some h
  obtain ⟨x8, h8, h⟩ := h
  refine RT.call .none (ref01_Same_ok h8) rfl ⟨rfl, rfl, trivial⟩ (tl rfl) ?_
  refine RT.asg .none rfl (tl rfl) ?_
  refine RT.done ⟨by kernel_rfl, ?_⟩
  refine AThen.n ?_
  refine ok_ret ?_
  obtain rfl := Option.some.inj h
  exact ⟨.inr rfl, res_imp (.tmp rfl (.nil)) (SV.imp_refl _)⟩
theorem law01_alive_ok  {r : Bool} (h : law01_alive_m = some r) : Pure Try.prog 10 [] (.v (.bool r)) := by
  refine pure_of_ok Try.func10 rfl (Nat.le_of_ble_eq_true rfl) (fun wld M vs hvs => ?_)
  unfold law01_alive_m at h
  refine ok_seq ?_
  refine ok_region ?_
  refine RT.asg .none rfl (tl rfl) ?_
  refine RT.done ?_
  refine AThen.n ?_
  refine ok_seq ?_
  refine ok_region ?_
  replace h := bind_some h
  obtain ⟨⟨x13_0, x13_1⟩, h13, h⟩ := h
  refine RT.call .none (law01_n_ok h13) rfl ⟨rfl, trivial⟩ (tl rfl) ?_
  replace h := bind_some h
  obtain ⟨⟨x14_0, x14_1⟩, h14, h⟩ := h
  refine RT.call .none (law01_n_ok h14) rfl ⟨rfl, trivial⟩ (tl rfl) ?_
  replace h := bind_some h
  obtain ⟨⟨⟨x15a_0, x15a_1⟩, ⟨x15b_0, x15b_1⟩, x15c⟩, h15, h⟩ := h
  refine RT.call .none (whole_DivMod_ok h15) rfl ⟨rfl, rfl, trivial⟩ (tl rfl) ?_
  refine RT.mv .none rfl (tl rfl) ?_
  refine RT.extract .none rfl rfl (tl rfl) ?_
  refine RT.extract .none rfl rfl (tl rfl) ?_
  refine RT.extract .none rfl rfl (tl rfl) ?_
  refine RT.allocI .none (cs := [.v (.bool false), slc 1 (List.map eU32 [])]) (by exact ⟨SV.imp_refl _, imp_nil, trivial⟩) rfl (tl rfl) rfl rfl ?_
  refine RT.allocI .none (cs := [.v (.bool false), slc 1 (List.map eU32 [])]) (by exact ⟨SV.imp_refl _, imp_nil, trivial⟩) rfl (tl rfl) rfl rfl ?_
  refine RT.store .none rfl rfl rfl rfl rfl ?_
  refine RT.store .none rfl rfl rfl rfl rfl ?_
  refine RT.asg .none rfl (tl rfl) ?_
  refine RT.done ?_
  refine AThen.n ?_
  refine ok_seq ?_
  refine ok_region ?_
  replace h := bind_some h
  obtain ⟨⟨x20_0, x20_1⟩, h20, h⟩ := h
  refine RT.call .none (law01_n_ok h20) rfl ⟨rfl, trivial⟩ (tl rfl) ?_
  replace h := bind_some h
  obtain ⟨⟨x21_0, x21_1⟩, h21, h⟩ := h
  refine RT.call .none (law01_n_ok h21) rfl ⟨rfl, trivial⟩ (tl rfl) ?_
  replace h := bind_some h
  obtain ⟨⟨⟨x22a_0, x22a_1⟩, ⟨x22b_0, x22b_1⟩, x22c⟩, h22, h⟩ := h
  refine RT.call .none (whole_DivMod_ok h22) rfl ⟨rfl, rfl, trivial⟩ (tl rfl) ?_
  refine RT.mv .none rfl (tl rfl) ?_
  refine RT.extract .none rfl rfl (tl rfl) ?_
  refine RT.extract .none rfl rfl (tl rfl) ?_
  refine RT.extract .none rfl rfl (tl rfl) ?_
  refine RT.allocI .none (cs := [.v (.bool false), slc 1 (List.map eU32 [])]) (by exact ⟨SV.imp_refl _, imp_nil, trivial⟩) rfl (tl rfl) rfl rfl ?_
  refine RT.allocI .none (cs := [.v (.bool false), slc 1 (List.map eU32 [])]) (by exact ⟨SV.imp_refl _, imp_nil, trivial⟩) rfl (tl rfl) rfl rfl ?_
  refine RT.store .none rfl rfl rfl rfl rfl ?_
  refine RT.store .none rfl rfl rfl rfl rfl ?_
  refine RT.asg .none rfl (tl rfl) ?_
  refine RT.done ?_
  refine AThen.n ?_
  refine ok_seq ?_
  refine ok_region ?_
  replace h := bind_some h
  obtain ⟨⟨x27_0, x27_1⟩, h27, h⟩ := h
  refine RT.call .none (law01_n_ok h27) rfl ⟨rfl, trivial⟩ (tl rfl) ?_
  replace h := bind_some h
  obtain ⟨⟨x28_0, x28_1⟩, h28, h⟩ := h
  refine RT.call .none (law01_n_ok h28) rfl ⟨rfl, trivial⟩ (tl rfl) ?_
  replace h := bind_some h
  obtain ⟨⟨⟨x29a_0, x29a_1⟩, ⟨x29b_0, x29b_1⟩, x29c⟩, h29, h⟩ := h
  refine RT.call .none (whole_DivMod_ok h29) rfl ⟨rfl, rfl, trivial⟩ (tl rfl) ?_
  refine RT.mv .none rfl (tl rfl) ?_
  refine RT.extract .none rfl rfl (tl rfl) ?_
  refine RT.extract .none rfl rfl (tl rfl) ?_
  refine RT.extract .none rfl rfl (tl rfl) ?_
  refine RT.allocI .none (cs := [.v (.bool false), slc 1 (List.map eU32 [])]) (by exact ⟨SV.imp_refl _, imp_nil, trivial⟩) rfl (tl rfl) rfl rfl ?_
  refine RT.allocI .none (cs := [.v (.bool false), slc 1 (List.map eU32 [])]) (by exact ⟨SV.imp_refl _, imp_nil, trivial⟩) rfl (tl rfl) rfl rfl ?_
  refine RT.store .none rfl rfl rfl rfl rfl ?_
  refine RT.store .none rfl rfl rfl rfl rfl ?_
  refine RT.asg .none rfl (tl rfl) ?_
  refine RT.done ?_
  refine AThen.n ?_
  refine ok_seq ?_
  refine ok_region ?_
  replace h := bind_some h
  obtain ⟨⟨⟨x34a_0, x34a_1⟩, x34b⟩, h34, h⟩ := h
  refine RT.call .none (whole_Parse_ok h34) rfl ⟨rfl, trivial⟩ (tl rfl) ?_
  refine RT.mv .none rfl (tl rfl) ?_
  refine RT.extract .none rfl rfl (tl rfl) ?_
  refine RT.extract .none rfl rfl (tl rfl) ?_
  refine RT.allocI .none (cs := [.v (.bool false), slc 1 (List.map eU32 [])]) (by exact ⟨SV.imp_refl _, imp_nil, trivial⟩) rfl (tl rfl) rfl rfl ?_
  refine RT.store .none rfl rfl rfl rfl rfl ?_
  refine RT.asg .none rfl (tl rfl) ?_
  refine RT.done ?_
  refine AThen.n ?_
  refine ok_seq ?_
  refine ok_seq ?_
  refine ok_tailJ h (fun j10 => AS.mkL 90 [(1, .ptr 1 0), (2, .ptr 2 0), (4, .ptr 4 0), (5, .ptr 5 0), (7, .ptr 7 0), (8, .ptr 8 0), (50, .sv (.v (.bool j10)))] [(8, ⟨24, [.sv (.v (.bool x29b_0)), .sv (slc 1 (List.map eU32 x29b_1))]⟩), (7, ⟨24, [.sv (.v (.bool x29a_0)), .sv (slc 1 (List.map eU32 x29a_1))]⟩), (5, ⟨24, [.sv (.v (.bool x22b_0)), .sv (slc 1 (List.map eU32 x22b_1))]⟩), (4, ⟨24, [.sv (.v (.bool x22a_0)), .sv (slc 1 (List.map eU32 x22a_1))]⟩), (2, ⟨24, [.sv (.v (.bool x15b_0)), .sv (slc 1 (List.map eU32 x15b_1))]⟩), (1, ⟨24, [.sv (.v (.bool x15a_0)), .sv (slc 1 (List.map eU32 x15a_1))]⟩)] []) (fun h => ?_) (fun y50j9 h => ?_)
  · refine ok_region ?_
    refine RT.mv .none rfl (tl rfl) ?_
    replace h := let_some h
    obtain ⟨x38, h38, h⟩ := h
    refine RT.neq .none _ rfl rfl (tl rfl) (neI (p := x15c) (q := 0) h38) ?_
    refine RT.mv .none rfl (tl rfl) ?_
    replace h := bind_some h
    obtain ⟨c42_99, hg99, h⟩ := h
    cases x38
    · replace hg99 := br_f hg99
      refine RT.mv (.some rfl rfl) rfl (tl rfl) ?_
      replace hg99 := let_some hg99
      obtain ⟨x41, h41, hg99⟩ := hg99
      refine RT.neq (.some rfl rfl) _ rfl rfl (tl rfl) (neI (p := x22c) (q := 0) h41) ?_
      obtain rfl := Option.some.inj hg99
      refine RT.pickF .none rfl rfl (tl rfl) ?_
      refine RT.mv .none rfl (tl rfl) ?_
      replace h := bind_some h
      obtain ⟨c46_100, hg100, h⟩ := h
      cases x41
      · replace hg100 := br_f hg100
        refine RT.mv (.some rfl rfl) rfl (tl rfl) ?_
        replace hg100 := let_some hg100
        obtain ⟨x45, h45, hg100⟩ := hg100
        refine RT.neq (.some rfl rfl) _ rfl rfl (tl rfl) (neI (p := x29c) (q := 0) h45) ?_
        obtain rfl := Option.some.inj hg100
        refine RT.pickF .none rfl rfl (tl rfl) ?_
        refine RT.mv .none rfl (tl rfl) ?_
        replace h := bind_some h
        obtain ⟨c50_101, hg101, h⟩ := h
        cases x45
        · replace hg101 := br_f hg101
          refine RT.mv (.some rfl rfl) rfl (tl rfl) ?_
          replace hg101 := let_some hg101
          obtain ⟨x49, h49, hg101⟩ := hg101
          refine RT.neq (.some rfl rfl) _ rfl rfl (tl rfl) (neI (p := x34b) (q := 3) h49) ?_
          obtain rfl := Option.some.inj hg101
          refine RT.pickF .none rfl rfl (tl rfl) ?_
          refine RT.done ?_
          refine AThen.n ?_
          refine ⟨x49, h, ?_⟩
          try dsimp only
          exact weakL id rfl rfl rfl rfl rfl ⟨.ptr, .ptr, .ptr, .ptr, .ptr, .ptr, .sv (SV.imp_refl _), trivial⟩ ⟨⟨_, rfl, ⟨.sv (SV.imp_refl _), .sv (SV.imp_refl _), trivial⟩⟩, ⟨_, rfl, ⟨.sv (SV.imp_refl _), .sv (SV.imp_refl _), trivial⟩⟩, ⟨_, rfl, ⟨.sv (SV.imp_refl _), .sv (SV.imp_refl _), trivial⟩⟩, ⟨_, rfl, ⟨.sv (SV.imp_refl _), .sv (SV.imp_refl _), trivial⟩⟩, ⟨_, rfl, ⟨.sv (SV.imp_refl _), .sv (SV.imp_refl _), trivial⟩⟩, ⟨_, rfl, ⟨.sv (SV.imp_refl _), .sv (SV.imp_refl _), trivial⟩⟩, trivial⟩ trivial (fun _ _ => rfl)
        · replace hg101 := br_t hg101
          obtain rfl := Option.some.inj hg101
          refine RT.skV rfl rfl (sk rfl) (tl rfl) ?_
          refine RT.skV rfl rfl (sk rfl) (tl rfl) ?_
          refine RT.pickT .none rfl rfl (tl rfl) ?_
          refine RT.done ?_
          refine AThen.n ?_
          refine ⟨true, h, ?_⟩
          try dsimp only
          exact weakL id rfl rfl rfl rfl rfl ⟨.ptr, .ptr, .ptr, .ptr, .ptr, .ptr, .sv (SV.imp_refl _), trivial⟩ ⟨⟨_, rfl, ⟨.sv (SV.imp_refl _), .sv (SV.imp_refl _), trivial⟩⟩, ⟨_, rfl, ⟨.sv (SV.imp_refl _), .sv (SV.imp_refl _), trivial⟩⟩, ⟨_, rfl, ⟨.sv (SV.imp_refl _), .sv (SV.imp_refl _), trivial⟩⟩, ⟨_, rfl, ⟨.sv (SV.imp_refl _), .sv (SV.imp_refl _), trivial⟩⟩, ⟨_, rfl, ⟨.sv (SV.imp_refl _), .sv (SV.imp_refl _), trivial⟩⟩, ⟨_, rfl, ⟨.sv (SV.imp_refl _), .sv (SV.imp_refl _), trivial⟩⟩, trivial⟩ trivial (fun _ _ => rfl)
      · replace hg100 := br_t hg100
        obtain rfl := Option.some.inj hg100
        refine RT.skV rfl rfl (sk rfl) (tl rfl) ?_
        refine RT.skV rfl rfl (sk rfl) (tl rfl) ?_
        refine RT.pickT .none rfl rfl (tl rfl) ?_
        refine RT.mv .none rfl (tl rfl) ?_
        replace h := bind_some h
        obtain ⟨c50_102, hg102, h⟩ := h
        replace hg102 := br_t hg102
        obtain rfl := Option.some.inj hg102
        refine RT.skV rfl rfl (sk rfl) (tl rfl) ?_
        refine RT.skV rfl rfl (sk rfl) (tl rfl) ?_
        refine RT.pickT .none rfl rfl (tl rfl) ?_
        refine RT.done ?_
        refine AThen.n ?_
        refine ⟨true, h, ?_⟩
        try dsimp only
        exact weakL id rfl rfl rfl rfl rfl ⟨.ptr, .ptr, .ptr, .ptr, .ptr, .ptr, .sv (SV.imp_refl _), trivial⟩ ⟨⟨_, rfl, ⟨.sv (SV.imp_refl _), .sv (SV.imp_refl _), trivial⟩⟩, ⟨_, rfl, ⟨.sv (SV.imp_refl _), .sv (SV.imp_refl _), trivial⟩⟩, ⟨_, rfl, ⟨.sv (SV.imp_refl _), .sv (SV.imp_refl _), trivial⟩⟩, ⟨_, rfl, ⟨.sv (SV.imp_refl _), .sv (SV.imp_refl _), trivial⟩⟩, ⟨_, rfl, ⟨.sv (SV.imp_refl _), .sv (SV.imp_refl _), trivial⟩⟩, ⟨_, rfl, ⟨.sv (SV.imp_refl _), .sv (SV.imp_refl _), trivial⟩⟩, trivial⟩ trivial (fun _ _ => rfl)
    · replace hg99 := br_t hg99
      obtain rfl := Option.some.inj hg99
      refine RT.skV rfl rfl (sk rfl) (tl rfl) ?_
      refine RT.skV rfl rfl (sk rfl) (tl rfl) ?_
      refine RT.pickT .none rfl rfl (tl rfl) ?_
      refine RT.mv .none rfl (tl rfl) ?_
      replace h := bind_some h
      obtain ⟨c46_103, hg103, h⟩ := h
      replace hg103 := br_t hg103
      obtain rfl := Option.some.inj hg103
      refine RT.skV rfl rfl (sk rfl) (tl rfl) ?_
      refine RT.skV rfl rfl (sk rfl) (tl rfl) ?_
      refine RT.pickT .none rfl rfl (tl rfl) ?_
      refine RT.mv .none rfl (tl rfl) ?_
      replace h := bind_some h
      obtain ⟨c50_104, hg104, h⟩ := h
      replace hg104 := br_t hg104
      obtain rfl := Option.some.inj hg104
      refine RT.skV rfl rfl (sk rfl) (tl rfl) ?_
      refine RT.skV rfl rfl (sk rfl) (tl rfl) ?_
      refine RT.pickT .none rfl rfl (tl rfl) ?_
      refine RT.done ?_
      refine AThen.n ?_
      refine ⟨true, h, ?_⟩
      try dsimp only
      exact weakL id rfl rfl rfl rfl rfl ⟨.ptr, .ptr, .ptr, .ptr, .ptr, .ptr, .sv (SV.imp_refl _), trivial⟩ ⟨⟨_, rfl, ⟨.sv (SV.imp_refl _), .sv (SV.imp_refl _), trivial⟩⟩, ⟨_, rfl, ⟨.sv (SV.imp_refl _), .sv (SV.imp_refl _), trivial⟩⟩, ⟨_, rfl, ⟨.sv (SV.imp_refl _), .sv (SV.imp_refl _), trivial⟩⟩, ⟨_, rfl, ⟨.sv (SV.imp_refl _), .sv (SV.imp_refl _), trivial⟩⟩, ⟨_, rfl, ⟨.sv (SV.imp_refl _), .sv (SV.imp_refl _), trivial⟩⟩, ⟨_, rfl, ⟨.sv (SV.imp_refl _), .sv (SV.imp_refl _), trivial⟩⟩, trivial⟩ trivial (fun _ _ => rfl)
  · try dsimp only
    refine AThen.n ?_
    cases y50j9
    · replace h := br_f h
      refine ok_condF rfl ?_
      refine ok_skip ?_
      refine AThen.n ?_
      refine ok_seq ?_
      refine ok_tailJ h (fun j55 => AS.mkL 90 [(0, .sv (.v (.bool j55)))] [] []) (fun h => ?_) (fun y0j54 h => ?_)
      · refine ok_region ?_
        refine RT.load .none rfl rfl (.cons rfl (.cons rfl (.nil))) rfl (tl rfl) ?_
        replace h := bind_some h
        obtain ⟨x52, h52, h⟩ := h
        refine RT.call .none (law01_is_ok h52) rfl ⟨rfl, rfl, trivial⟩ (tl rfl) ?_
        refine RT.mv .none rfl (tl rfl) ?_
        replace h := bind_some h
        obtain ⟨c56_56, hg56, h⟩ := h
        cases x52
        · replace hg56 := br_f hg56
          obtain rfl := Option.some.inj hg56
          refine RT.skV rfl rfl (sk rfl) (tl rfl) ?_
          refine RT.skV rfl rfl (sk rfl) (tl rfl) ?_
          refine RT.pickF .none rfl rfl (tl rfl) ?_
          refine RT.mv .none rfl (tl rfl) ?_
          replace h := bind_some h
          obtain ⟨c60_85, hg85, h⟩ := h
          replace hg85 := br_f hg85
          obtain rfl := Option.some.inj hg85
          refine RT.skV rfl rfl (sk rfl) (tl rfl) ?_
          refine RT.skV rfl rfl (sk rfl) (tl rfl) ?_
          refine RT.pickF .none rfl rfl (tl rfl) ?_
          refine RT.mv .none rfl (tl rfl) ?_
          replace h := bind_some h
          obtain ⟨c64_86, hg86, h⟩ := h
          replace hg86 := br_f hg86
          obtain rfl := Option.some.inj hg86
          refine RT.skV rfl rfl (sk rfl) (tl rfl) ?_
          refine RT.skV rfl rfl (sk rfl) (tl rfl) ?_
          refine RT.pickF .none rfl rfl (tl rfl) ?_
          refine RT.mv .none rfl (tl rfl) ?_
          replace h := bind_some h
          obtain ⟨c68_87, hg87, h⟩ := h
          replace hg87 := br_f hg87
          obtain rfl := Option.some.inj hg87
          refine RT.skV rfl rfl (sk rfl) (tl rfl) ?_
          refine RT.skV rfl rfl (sk rfl) (tl rfl) ?_
          refine RT.pickF .none rfl rfl (tl rfl) ?_
          refine RT.mv .none rfl (tl rfl) ?_
          replace h := bind_some h
          obtain ⟨c72_88, hg88, h⟩ := h
          replace hg88 := br_f hg88
          obtain rfl := Option.some.inj hg88
          refine RT.skV rfl rfl (sk rfl) (tl rfl) ?_
          refine RT.skV rfl rfl (sk rfl) (tl rfl) ?_
          refine RT.pickF .none rfl rfl (tl rfl) ?_
          refine RT.mv .none rfl (tl rfl) ?_
          replace h := bind_some h
          obtain ⟨c78_89, hg89, h⟩ := h
          replace hg89 := br_f hg89
          obtain rfl := Option.some.inj hg89
          refine RT.skV rfl rfl (sk rfl) (tl rfl) ?_
          refine RT.skV rfl rfl (sk rfl) (tl rfl) ?_
          refine RT.skV rfl rfl (sk rfl) (tl rfl) ?_
          refine RT.skV rfl rfl (sk rfl) (tl rfl) ?_
          refine RT.pickF .none rfl rfl (tl rfl) ?_
          refine RT.mv .none rfl (tl rfl) ?_
          replace h := bind_some h
          obtain ⟨c84_90, hg90, h⟩ := h
          replace hg90 := br_f hg90
          obtain rfl := Option.some.inj hg90
          refine RT.skV rfl rfl (sk rfl) (tl rfl) ?_
          refine RT.skV rfl rfl (sk rfl) (tl rfl) ?_
          refine RT.skV rfl rfl (sk rfl) (tl rfl) ?_
          refine RT.skV rfl rfl (sk rfl) (tl rfl) ?_
          refine RT.pickF .none rfl rfl (tl rfl) ?_
          refine RT.mv .none rfl (tl rfl) ?_
          replace h := bind_some h
          obtain ⟨c89_91, hg91, h⟩ := h
          replace hg91 := br_f hg91
          obtain rfl := Option.some.inj hg91
          refine RT.skV rfl rfl (sk rfl) (tl rfl) ?_
          refine RT.skV rfl rfl (sk rfl) (tl rfl) ?_
          refine RT.skV rfl rfl (sk rfl) (tl rfl) ?_
          refine RT.pickF .none rfl rfl (tl rfl) ?_
          refine RT.asg .none rfl (tl rfl) ?_
          refine RT.done ?_
          refine AThen.n ?_
          refine ⟨false, h, ?_⟩
          try dsimp only
          exact weakL id rfl rfl rfl rfl rfl ⟨.sv (SV.imp_refl _), trivial⟩ trivial trivial (fun _ _ => rfl)
        · replace hg56 := br_t hg56
          refine RT.load (.some rfl rfl) rfl rfl (.cons rfl (.cons rfl (.nil))) rfl (tl rfl) ?_
          replace hg56 := bind_some hg56
          obtain ⟨x55, h55, hg56⟩ := hg56
          refine RT.call (.some rfl rfl) (law01_is_ok h55) rfl ⟨rfl, rfl, trivial⟩ (tl rfl) ?_
          obtain rfl := Option.some.inj hg56
          refine RT.pickT .none rfl rfl (tl rfl) ?_
          refine RT.mv .none rfl (tl rfl) ?_
          replace h := bind_some h
          obtain ⟨c60_57, hg57, h⟩ := h
          cases x55
          · replace hg57 := br_f hg57
            obtain rfl := Option.some.inj hg57
            refine RT.skV rfl rfl (sk rfl) (tl rfl) ?_
            refine RT.skV rfl rfl (sk rfl) (tl rfl) ?_
            refine RT.pickF .none rfl rfl (tl rfl) ?_
            refine RT.mv .none rfl (tl rfl) ?_
            replace h := bind_some h
            obtain ⟨c64_79, hg79, h⟩ := h
            replace hg79 := br_f hg79
            obtain rfl := Option.some.inj hg79
            refine RT.skV rfl rfl (sk rfl) (tl rfl) ?_
            refine RT.skV rfl rfl (sk rfl) (tl rfl) ?_
            refine RT.pickF .none rfl rfl (tl rfl) ?_
            refine RT.mv .none rfl (tl rfl) ?_
            replace h := bind_some h
            obtain ⟨c68_80, hg80, h⟩ := h
            replace hg80 := br_f hg80
            obtain rfl := Option.some.inj hg80
            refine RT.skV rfl rfl (sk rfl) (tl rfl) ?_
            refine RT.skV rfl rfl (sk rfl) (tl rfl) ?_
            refine RT.pickF .none rfl rfl (tl rfl) ?_
            refine RT.mv .none rfl (tl rfl) ?_
            replace h := bind_some h
            obtain ⟨c72_81, hg81, h⟩ := h
            replace hg81 := br_f hg81
            obtain rfl := Option.some.inj hg81
            refine RT.skV rfl rfl (sk rfl) (tl rfl) ?_
            refine RT.skV rfl rfl (sk rfl) (tl rfl) ?_
            refine RT.pickF .none rfl rfl (tl rfl) ?_
            refine RT.mv .none rfl (tl rfl) ?_
            replace h := bind_some h
            obtain ⟨c78_82, hg82, h⟩ := h
            replace hg82 := br_f hg82
            obtain rfl := Option.some.inj hg82
            refine RT.skV rfl rfl (sk rfl) (tl rfl) ?_
            refine RT.skV rfl rfl (sk rfl) (tl rfl) ?_
            refine RT.skV rfl rfl (sk rfl) (tl rfl) ?_
            refine RT.skV rfl rfl (sk rfl) (tl rfl) ?_
            refine RT.pickF .none rfl rfl (tl rfl) ?_
            refine RT.mv .none rfl (tl rfl) ?_
            replace h := bind_some h
            obtain ⟨c84_83, hg83, h⟩ := h
            replace hg83 := br_f hg83
            obtain rfl := Option.some.inj hg83
            refine RT.skV rfl rfl (sk rfl) (tl rfl) ?_
            refine RT.skV rfl rfl (sk rfl) (tl rfl) ?_
            refine RT.skV rfl rfl (sk rfl) (tl rfl) ?_
            refine RT.skV rfl rfl (sk rfl) (tl rfl) ?_
            refine RT.pickF .none rfl rfl (tl rfl) ?_
            refine RT.mv .none rfl (tl rfl) ?_
            replace h := bind_some h
            obtain ⟨c89_84, hg84, h⟩ := h
            replace hg84 := br_f hg84
            obtain rfl := Option.some.inj hg84
            refine RT.skV rfl rfl (sk rfl) (tl rfl) ?_
            refine RT.skV rfl rfl (sk rfl) (tl rfl) ?_
            refine RT.skV rfl rfl (sk rfl) (tl rfl) ?_
            refine RT.pickF .none rfl rfl (tl rfl) ?_
            refine RT.asg .none rfl (tl rfl) ?_
            refine RT.done ?_
            refine AThen.n ?_
            refine ⟨false, h, ?_⟩
            try dsimp only
            exact weakL id rfl rfl rfl rfl rfl ⟨.sv (SV.imp_refl _), trivial⟩ trivial trivial (fun _ _ => rfl)
          · replace hg57 := br_t hg57
            refine RT.load (.some rfl rfl) rfl rfl (.cons rfl (.cons rfl (.nil))) rfl (tl rfl) ?_
            replace hg57 := bind_some hg57
            obtain ⟨x59, h59, hg57⟩ := hg57
            refine RT.call (.some rfl rfl) (law01_is_ok h59) rfl ⟨rfl, rfl, trivial⟩ (tl rfl) ?_
            obtain rfl := Option.some.inj hg57
            refine RT.pickT .none rfl rfl (tl rfl) ?_
            refine RT.mv .none rfl (tl rfl) ?_
            replace h := bind_some h
            obtain ⟨c64_58, hg58, h⟩ := h
            cases x59
            · replace hg58 := br_f hg58
              obtain rfl := Option.some.inj hg58
              refine RT.skV rfl rfl (sk rfl) (tl rfl) ?_
              refine RT.skV rfl rfl (sk rfl) (tl rfl) ?_
              refine RT.pickF .none rfl rfl (tl rfl) ?_
              refine RT.mv .none rfl (tl rfl) ?_
              replace h := bind_some h
              obtain ⟨c68_74, hg74, h⟩ := h
              replace hg74 := br_f hg74
              obtain rfl := Option.some.inj hg74
              refine RT.skV rfl rfl (sk rfl) (tl rfl) ?_
              refine RT.skV rfl rfl (sk rfl) (tl rfl) ?_
              refine RT.pickF .none rfl rfl (tl rfl) ?_
              refine RT.mv .none rfl (tl rfl) ?_
              replace h := bind_some h
              obtain ⟨c72_75, hg75, h⟩ := h
              replace hg75 := br_f hg75
              obtain rfl := Option.some.inj hg75
              refine RT.skV rfl rfl (sk rfl) (tl rfl) ?_
              refine RT.skV rfl rfl (sk rfl) (tl rfl) ?_
              refine RT.pickF .none rfl rfl (tl rfl) ?_
              refine RT.mv .none rfl (tl rfl) ?_
              replace h := bind_some h
              obtain ⟨c78_76, hg76, h⟩ := h
              replace hg76 := br_f hg76
              obtain rfl := Option.some.inj hg76
              refine RT.skV rfl rfl (sk rfl) (tl rfl) ?_
              refine RT.skV rfl rfl (sk rfl) (tl rfl) ?_
              refine RT.skV rfl rfl (sk rfl) (tl rfl) ?_
              refine RT.skV rfl rfl (sk rfl) (tl rfl) ?_
              refine RT.pickF .none rfl rfl (tl rfl) ?_
              refine RT.mv .none rfl (tl rfl) ?_
              replace h := bind_some h
              obtain ⟨c84_77, hg77, h⟩ := h
              replace hg77 := br_f hg77
              obtain rfl := Option.some.inj hg77
              refine RT.skV rfl rfl (sk rfl) (tl rfl) ?_
              refine RT.skV rfl rfl (sk rfl) (tl rfl) ?_
              refine RT.skV rfl rfl (sk rfl) (tl rfl) ?_
              refine RT.skV rfl rfl (sk rfl) (tl rfl) ?_
              refine RT.pickF .none rfl rfl (tl rfl) ?_
              refine RT.mv .none rfl (tl rfl) ?_
              replace h := bind_some h
              obtain ⟨c89_78, hg78, h⟩ := h
              replace hg78 := br_f hg78
              obtain rfl := Option.some.inj hg78
              refine RT.skV rfl rfl (sk rfl) (tl rfl) ?_
              refine RT.skV rfl rfl (sk rfl) (tl rfl) ?_
              refine RT.skV rfl rfl (sk rfl) (tl rfl) ?_
              refine RT.pickF .none rfl rfl (tl rfl) ?_
              refine RT.asg .none rfl (tl rfl) ?_
              refine RT.done ?_
              refine AThen.n ?_
              refine ⟨false, h, ?_⟩
              try dsimp only
              exact weakL id rfl rfl rfl rfl rfl ⟨.sv (SV.imp_refl _), trivial⟩ trivial trivial (fun _ _ => rfl)
            · replace hg58 := br_t hg58
              refine RT.load (.some rfl rfl) rfl rfl (.cons rfl (.cons rfl (.nil))) rfl (tl rfl) ?_
              replace hg58 := bind_some hg58
              obtain ⟨x63, h63, hg58⟩ := hg58
              refine RT.call (.some rfl rfl) (law01_is_ok h63) rfl ⟨rfl, rfl, trivial⟩ (tl rfl) ?_
              obtain rfl := Option.some.inj hg58
              refine RT.pickT .none rfl rfl (tl rfl) ?_
              refine RT.mv .none rfl (tl rfl) ?_
              replace h := bind_some h
              obtain ⟨c68_59, hg59, h⟩ := h
              cases x63
              · replace hg59 := br_f hg59
                obtain rfl := Option.some.inj hg59
                refine RT.skV rfl rfl (sk rfl) (tl rfl) ?_
                refine RT.skV rfl rfl (sk rfl) (tl rfl) ?_
                refine RT.pickF .none rfl rfl (tl rfl) ?_
                refine RT.mv .none rfl (tl rfl) ?_
                replace h := bind_some h
                obtain ⟨c72_70, hg70, h⟩ := h
                replace hg70 := br_f hg70
                obtain rfl := Option.some.inj hg70
                refine RT.skV rfl rfl (sk rfl) (tl rfl) ?_
                refine RT.skV rfl rfl (sk rfl) (tl rfl) ?_
                refine RT.pickF .none rfl rfl (tl rfl) ?_
                refine RT.mv .none rfl (tl rfl) ?_
                replace h := bind_some h
                obtain ⟨c78_71, hg71, h⟩ := h
                replace hg71 := br_f hg71
                obtain rfl := Option.some.inj hg71
                refine RT.skV rfl rfl (sk rfl) (tl rfl) ?_
                refine RT.skV rfl rfl (sk rfl) (tl rfl) ?_
                refine RT.skV rfl rfl (sk rfl) (tl rfl) ?_
                refine RT.skV rfl rfl (sk rfl) (tl rfl) ?_
                refine RT.pickF .none rfl rfl (tl rfl) ?_
                refine RT.mv .none rfl (tl rfl) ?_
                replace h := bind_some h
                obtain ⟨c84_72, hg72, h⟩ := h
                replace hg72 := br_f hg72
                obtain rfl := Option.some.inj hg72
                refine RT.skV rfl rfl (sk rfl) (tl rfl) ?_
                refine RT.skV rfl rfl (sk rfl) (tl rfl) ?_
                refine RT.skV rfl rfl (sk rfl) (tl rfl) ?_
                refine RT.skV rfl rfl (sk rfl) (tl rfl) ?_
                refine RT.pickF .none rfl rfl (tl rfl) ?_
                refine RT.mv .none rfl (tl rfl) ?_
                replace h := bind_some h
                obtain ⟨c89_73, hg73, h⟩ := h
                replace hg73 := br_f hg73
                obtain rfl := Option.some.inj hg73
                refine RT.skV rfl rfl (sk rfl) (tl rfl) ?_
                refine RT.skV rfl rfl (sk rfl) (tl rfl) ?_
                refine RT.skV rfl rfl (sk rfl) (tl rfl) ?_
                refine RT.pickF .none rfl rfl (tl rfl) ?_
                refine RT.asg .none rfl (tl rfl) ?_
                refine RT.done ?_
                refine AThen.n ?_
                refine ⟨false, h, ?_⟩
                try dsimp only
                exact weakL id rfl rfl rfl rfl rfl ⟨.sv (SV.imp_refl _), trivial⟩ trivial trivial (fun _ _ => rfl)
              · replace hg59 := br_t hg59
                refine RT.load (.some rfl rfl) rfl rfl (.cons rfl (.cons rfl (.nil))) rfl (tl rfl) ?_
                replace hg59 := bind_some hg59
                obtain ⟨x67, h67, hg59⟩ := hg59
                refine RT.call (.some rfl rfl) (law01_is_ok h67) rfl ⟨rfl, rfl, trivial⟩ (tl rfl) ?_
                obtain rfl := Option.some.inj hg59
                refine RT.pickT .none rfl rfl (tl rfl) ?_
                refine RT.mv .none rfl (tl rfl) ?_
                replace h := bind_some h
                obtain ⟨c72_60, hg60, h⟩ := h
                cases x67
                · replace hg60 := br_f hg60
                  obtain rfl := Option.some.inj hg60
                  refine RT.skV rfl rfl (sk rfl) (tl rfl) ?_
                  refine RT.skV rfl rfl (sk rfl) (tl rfl) ?_
                  refine RT.pickF .none rfl rfl (tl rfl) ?_
                  refine RT.mv .none rfl (tl rfl) ?_
                  replace h := bind_some h
                  obtain ⟨c78_67, hg67, h⟩ := h
                  replace hg67 := br_f hg67
                  obtain rfl := Option.some.inj hg67
                  refine RT.skV rfl rfl (sk rfl) (tl rfl) ?_
                  refine RT.skV rfl rfl (sk rfl) (tl rfl) ?_
                  refine RT.skV rfl rfl (sk rfl) (tl rfl) ?_
                  refine RT.skV rfl rfl (sk rfl) (tl rfl) ?_
                  refine RT.pickF .none rfl rfl (tl rfl) ?_
                  refine RT.mv .none rfl (tl rfl) ?_
                  replace h := bind_some h
                  obtain ⟨c84_68, hg68, h⟩ := h
                  replace hg68 := br_f hg68
                  obtain rfl := Option.some.inj hg68
                  refine RT.skV rfl rfl (sk rfl) (tl rfl) ?_
                  refine RT.skV rfl rfl (sk rfl) (tl rfl) ?_
                  refine RT.skV rfl rfl (sk rfl) (tl rfl) ?_
                  refine RT.skV rfl rfl (sk rfl) (tl rfl) ?_
                  refine RT.pickF .none rfl rfl (tl rfl) ?_
                  refine RT.mv .none rfl (tl rfl) ?_
                  replace h := bind_some h
                  obtain ⟨c89_69, hg69, h⟩ := h
                  replace hg69 := br_f hg69
                  obtain rfl := Option.some.inj hg69
                  refine RT.skV rfl rfl (sk rfl) (tl rfl) ?_
                  refine RT.skV rfl rfl (sk rfl) (tl rfl) ?_
                  refine RT.skV rfl rfl (sk rfl) (tl rfl) ?_
                  refine RT.pickF .none rfl rfl (tl rfl) ?_
                  refine RT.asg .none rfl (tl rfl) ?_
                  refine RT.done ?_
                  refine AThen.n ?_
                  refine ⟨false, h, ?_⟩
                  try dsimp only
                  exact weakL id rfl rfl rfl rfl rfl ⟨.sv (SV.imp_refl _), trivial⟩ trivial trivial (fun _ _ => rfl)
                · replace hg60 := br_t hg60
                  refine RT.load (.some rfl rfl) rfl rfl (.cons rfl (.cons rfl (.nil))) rfl (tl rfl) ?_
                  replace hg60 := bind_some hg60
                  obtain ⟨x71, h71, hg60⟩ := hg60
                  refine RT.call (.some rfl rfl) (law01_is_ok h71) rfl ⟨rfl, rfl, trivial⟩ (tl rfl) ?_
                  obtain rfl := Option.some.inj hg60
                  refine RT.pickT .none rfl rfl (tl rfl) ?_
                  refine RT.mv .none rfl (tl rfl) ?_
                  replace h := bind_some h
                  obtain ⟨c78_61, hg61, h⟩ := h
                  cases x71
                  · replace hg61 := br_f hg61
                    obtain rfl := Option.some.inj hg61
                    refine RT.skV rfl rfl (sk rfl) (tl rfl) ?_
                    refine RT.skV rfl rfl (sk rfl) (tl rfl) ?_
                    refine RT.skV rfl rfl (sk rfl) (tl rfl) ?_
                    refine RT.skV rfl rfl (sk rfl) (tl rfl) ?_
                    refine RT.pickF .none rfl rfl (tl rfl) ?_
                    refine RT.mv .none rfl (tl rfl) ?_
                    replace h := bind_some h
                    obtain ⟨c84_65, hg65, h⟩ := h
                    replace hg65 := br_f hg65
                    obtain rfl := Option.some.inj hg65
                    refine RT.skV rfl rfl (sk rfl) (tl rfl) ?_
                    refine RT.skV rfl rfl (sk rfl) (tl rfl) ?_
                    refine RT.skV rfl rfl (sk rfl) (tl rfl) ?_
                    refine RT.skV rfl rfl (sk rfl) (tl rfl) ?_
                    refine RT.pickF .none rfl rfl (tl rfl) ?_
                    refine RT.mv .none rfl (tl rfl) ?_
                    replace h := bind_some h
                    obtain ⟨c89_66, hg66, h⟩ := h
                    replace hg66 := br_f hg66
                    obtain rfl := Option.some.inj hg66
                    refine RT.skV rfl rfl (sk rfl) (tl rfl) ?_
                    refine RT.skV rfl rfl (sk rfl) (tl rfl) ?_
                    refine RT.skV rfl rfl (sk rfl) (tl rfl) ?_
                    refine RT.pickF .none rfl rfl (tl rfl) ?_
                    refine RT.asg .none rfl (tl rfl) ?_
                    refine RT.done ?_
                    refine AThen.n ?_
                    refine ⟨false, h, ?_⟩
                    try dsimp only
                    exact weakL id rfl rfl rfl rfl rfl ⟨.sv (SV.imp_refl _), trivial⟩ trivial trivial (fun _ _ => rfl)
                  · replace hg61 := br_t hg61
                    replace hg61 := bind_some hg61
                    obtain ⟨⟨x74_0, x74_1⟩, h74, hg61⟩ := hg61
                    refine RT.call (.some rfl rfl) (law01_n_ok h74) rfl ⟨rfl, trivial⟩ (tl rfl) ?_
                    replace hg61 := bind_some hg61
                    obtain ⟨⟨x75_0, x75_1⟩, h75, hg61⟩ := hg61
                    refine RT.call (.some rfl rfl) (law01_n_ok h75) rfl ⟨rfl, trivial⟩ (tl rfl) ?_
                    replace hg61 := bind_some hg61
                    obtain ⟨⟨x76_0, x76_1⟩, h76, hg61⟩ := hg61
                    refine RT.call (.some rfl rfl) (whole_GCD_ok h76) rfl ⟨rfl, rfl, trivial⟩ (tl rfl) ?_
                    replace hg61 := bind_some hg61
                    obtain ⟨x77, h77, hg61⟩ := hg61
                    refine RT.call (.some rfl rfl) (law01_is_ok h77) rfl ⟨rfl, rfl, trivial⟩ (tl rfl) ?_
                    obtain rfl := Option.some.inj hg61
                    refine RT.pickT .none rfl rfl (tl rfl) ?_
                    refine RT.mv .none rfl (tl rfl) ?_
                    replace h := bind_some h
                    obtain ⟨c84_62, hg62, h⟩ := h
                    cases x77
                    · replace hg62 := br_f hg62
                      obtain rfl := Option.some.inj hg62
                      refine RT.skV rfl rfl (sk rfl) (tl rfl) ?_
                      refine RT.skV rfl rfl (sk rfl) (tl rfl) ?_
                      refine RT.skV rfl rfl (sk rfl) (tl rfl) ?_
                      refine RT.skV rfl rfl (sk rfl) (tl rfl) ?_
                      refine RT.pickF .none rfl rfl (tl rfl) ?_
                      refine RT.mv .none rfl (tl rfl) ?_
                      replace h := bind_some h
                      obtain ⟨c89_64, hg64, h⟩ := h
                      replace hg64 := br_f hg64
                      obtain rfl := Option.some.inj hg64
                      refine RT.skV rfl rfl (sk rfl) (tl rfl) ?_
                      refine RT.skV rfl rfl (sk rfl) (tl rfl) ?_
                      refine RT.skV rfl rfl (sk rfl) (tl rfl) ?_
                      refine RT.pickF .none rfl rfl (tl rfl) ?_
                      refine RT.asg .none rfl (tl rfl) ?_
                      refine RT.done ?_
                      refine AThen.n ?_
                      refine ⟨false, h, ?_⟩
                      try dsimp only
                      exact weakL id rfl rfl rfl rfl rfl ⟨.sv (SV.imp_refl _), trivial⟩ trivial trivial (fun _ _ => rfl)
                    · replace hg62 := br_t hg62
                      replace hg62 := bind_some hg62
                      obtain ⟨⟨x80_0, x80_1⟩, h80, hg62⟩ := hg62
                      refine RT.call (.some rfl rfl) (law01_n_ok h80) rfl ⟨rfl, trivial⟩ (tl rfl) ?_
                      replace hg62 := bind_some hg62
                      obtain ⟨⟨x81_0, x81_1⟩, h81, hg62⟩ := hg62
                      refine RT.call (.some rfl rfl) (law01_n_ok h81) rfl ⟨rfl, trivial⟩ (tl rfl) ?_
                      replace hg62 := bind_some hg62
                      obtain ⟨⟨x82_0, x82_1⟩, h82, hg62⟩ := hg62
                      refine RT.call (.some rfl rfl) (whole_GCD_ok h82) rfl ⟨rfl, rfl, trivial⟩ (tl rfl) ?_
                      replace hg62 := bind_some hg62
                      obtain ⟨x83, h83, hg62⟩ := hg62
                      refine RT.call (.some rfl rfl) (law01_is_ok h83) rfl ⟨rfl, rfl, trivial⟩ (tl rfl) ?_
                      obtain rfl := Option.some.inj hg62
                      refine RT.pickT .none rfl rfl (tl rfl) ?_
                      refine RT.mv .none rfl (tl rfl) ?_
                      replace h := bind_some h
                      obtain ⟨c89_63, hg63, h⟩ := h
                      cases x83
                      · replace hg63 := br_f hg63
                        obtain rfl := Option.some.inj hg63
                        refine RT.skV rfl rfl (sk rfl) (tl rfl) ?_
                        refine RT.skV rfl rfl (sk rfl) (tl rfl) ?_
                        refine RT.skV rfl rfl (sk rfl) (tl rfl) ?_
                        refine RT.pickF .none rfl rfl (tl rfl) ?_
                        refine RT.asg .none rfl (tl rfl) ?_
                        refine RT.done ?_
                        refine AThen.n ?_
                        refine ⟨false, h, ?_⟩
                        try dsimp only
                        exact weakL id rfl rfl rfl rfl rfl ⟨.sv (SV.imp_refl _), trivial⟩ trivial trivial (fun _ _ => rfl)
                      · replace hg63 := br_t hg63
                        replace hg63 := bind_some hg63
                        obtain ⟨⟨x86_0, x86_1⟩, h86, hg63⟩ := hg63
                        refine RT.call (.some rfl rfl) (law01_n_ok h86) rfl ⟨rfl, trivial⟩ (tl rfl) ?_
                        replace hg63 := bind_some hg63
                        obtain ⟨x87, h87, hg63⟩ := hg63
                        refine RT.call (.some rfl rfl) (whole_Format_ok h87) rfl ⟨rfl, trivial⟩ (tl rfl) ?_
                        replace hg63 := let_some hg63
                        obtain ⟨x88, h88, hg63⟩ := hg63
                        refine RT.seql (l := x87) (k := [45, 57, 50, 50, 51, 51, 55, 50, 48, 51, 54, 56, 53, 52, 55, 55, 53, 56, 48, 56]) (.some rfl rfl) rfl rfl (tl rfl) h88 ?_
                        obtain rfl := Option.some.inj hg63
                        refine RT.pickT .none rfl rfl (tl rfl) ?_
                        refine RT.asg .none rfl (tl rfl) ?_
                        refine RT.done ?_
                        refine AThen.n ?_
                        refine ⟨x88, h, ?_⟩
                        try dsimp only
                        exact weakL id rfl rfl rfl rfl rfl ⟨.sv (SV.imp_refl _), trivial⟩ trivial trivial (fun _ _ => rfl)
      · try dsimp only
        refine AThen.n ?_
        refine ok_ret ?_
        obtain rfl := Option.some.inj h
        exact ⟨.inr rfl, res_imp (.tmp rfl (.nil)) (SV.imp_refl _)⟩
    · replace h := br_t h
      refine ok_condT rfl ?_
      refine ok_seq ?_
      refine ok_region ?_
      refine RT.asg .none rfl (tl rfl) ?_
      refine RT.done ?_
      refine AThen.n ?_
      refine ok_ret ?_
      refine AThen.r ?_
      obtain rfl := Option.some.inj h
      exact ⟨.inr rfl, res_imp (.tmp rfl (.nil)) (SV.imp_refl _)⟩
theorem law01_Long_ok {x0 : List Zr} {r : Bool} (h : law01_Long_m x0 = some r) : Pure Try.prog 9 [slc 2 (List.map eZ x0)] (.v (.bool r)) := by
  refine pure_of_ok Try.func9 rfl (Nat.le_of_ble_eq_true rfl) (fun wld M vs hvs => ?_)
  unfold law01_Long_m at h
  refine ok_seq ?_
  refine ok_region ?_
  refine RT.asg .none rfl (tl rfl) ?_
  refine RT.done ?_
  refine AThen.n ?_
  refine ok_seq ?_
  refine ok_seq ?_
  refine ok_region ?_
  refine RT.asg .none rfl (tl rfl) ?_
  refine RT.done ?_
  refine AThen.n ?_
  replace h := bind_some h
  obtain ⟨e6, hl6, ho6⟩ := h
  refine ok_tailP (fun (xe6 : Unit) => AS.mkL 17 [] [] []) (fun xe6 => .inl xe6 = e6) ?_ (fun xe6 hx6 => ?_)
  · refine ok_block ?_
    refine ok_loopM hl6 (fun s6 => AS.mkL 17 [(0, .sv (slc 2 (List.map eZ x0))), (3, .sv (.v (.int .i64 s6)))] [] []) (by (try dsimp only); exact weakL id rfl rfl rfl rfl rfl ⟨.sv (SV.imp_refl _), .sv (SV.imp_refl _), trivial⟩ trivial trivial (fun _ _ => rfl)) (fun y3l3 y6 G6 h hG6 hE6 => ?_)
    try dsimp only
    refine ok_seq ?_
    refine ok_seq ?_
    refine ok_region ?_
    refine RT.mv .none rfl (tl rfl) ?_
    refine RT.mv .none rfl (tl rfl) ?_
    replace h := let_some h
    obtain ⟨x6, h6, h⟩ := h
    refine RT.lenM .none rfl (tl rfl) h6 ?_
    replace h := let_some h
    obtain ⟨x7, h7, h⟩ := h
    refine RT.lss .none _ rfl rfl (tl rfl) h7 ?_
    refine RT.done ?_
    refine AThen.n ?_
    cases x7
    · replace h := br_f h
      refine ok_condF rfl ?_
      refine ok_exit ?_
      refine AThen.x ?_
      refine AThen.x ?_
      refine AInB.x ?_
      refine AThen.n ?_
      obtain rfl := Option.some.inj h
      refine ⟨(), hE6 _ rfl, ?_⟩
      try dsimp only
      exact weakL id rfl rfl rfl rfl rfl trivial trivial trivial (fun _ _ => rfl)
    · replace h := br_t h
      refine ok_condT rfl ?_
      refine ok_skip ?_
      refine AThen.n ?_
      refine ok_seq ?_
      refine ok_block ?_
      refine ok_seq ?_
      refine ok_region ?_
      refine RT.mv .none rfl (tl rfl) ?_
      refine RT.mv .none rfl (tl rfl) ?_
      replace h := bind_some h
      obtain ⟨⟨x12_0, x12_1⟩, h12, h⟩ := h
      refine RT.ixM .none rfl rfl (tl rfl) h12 ?_
      refine RT.fieldAddrR .none rfl (tl rfl) rfl ?_
      refine RT.loadRV .none rfl rfl (tl rfl) ?_
      replace h := let_some h
      obtain ⟨x15, h15, h⟩ := h
      refine RT.lenM .none rfl (tl rfl) h15 ?_
      replace h := let_some h
      obtain ⟨x16, h16, h⟩ := h
      refine RT.gtr .none _ rfl rfl (tl rfl) h16 ?_
      refine RT.done ?_
      refine AThen.n ?_
      cases x16
      · replace h := br_f h
        refine ok_condF rfl ?_
        refine ok_skip ?_
        refine AInB.n ?_
        refine AThen.n ?_
        refine ok_region ?_
        refine RT.mv .none rfl (tl rfl) ?_
        replace h := let_some h
        obtain ⟨x9, h9, h⟩ := h
        refine RT.add .none _ rfl rfl (tl rfl) h9 ?_
        refine RT.asg .none rfl (tl rfl) ?_
        refine RT.done ?_
        obtain rfl := Option.some.inj h
        refine AThen.n ⟨x9, hG6 _ rfl, ?_⟩
        try dsimp only
        exact weakL id rfl rfl rfl rfl rfl ⟨.sv (SV.imp_refl _), .sv (SV.imp_refl _), trivial⟩ trivial trivial (fun _ _ => rfl)
      · replace h := br_t h
        refine ok_condT rfl ?_
        refine ok_seq ?_
        refine ok_region ?_
        refine RT.asg .none rfl (tl rfl) ?_
        refine RT.done ?_
        refine AThen.n ?_
        refine ok_ret ?_
        refine AInB.r ?_
        refine AThen.r ?_
        obtain rfl := Option.some.inj h
        have he6 := hE6 _ rfl
        subst he6
        refine AThen.r ?_
        refine AInB.r ?_
        refine AThen.r ?_
        refine AThen.r ?_
        obtain rfl := Option.some.inj ho6
        exact ⟨.inr rfl, res_imp (.tmp rfl (.nil)) (SV.imp_refl _)⟩
  · subst hx6
    try dsimp only
    refine AThen.n ?_
    refine ok_seq ?_
    refine ok_region ?_
    refine RT.asg .none rfl (tl rfl) ?_
    refine RT.done ?_
    refine AThen.n ?_
    refine ok_ret ?_
    obtain rfl := Option.some.inj ho6
    exact ⟨.inr rfl, res_imp (.tmp rfl (.nil)) (SV.imp_refl _)⟩
theorem law01_Own_ok {x0 : Zr} {r : Zr} (h : law01_Own_m x0 = some r) : Pure Try.prog 11 [.agg (eZ x0)] (.agg (eZ r)) := by
  obtain ⟨x0_0, x0_1⟩ := x0
  refine pure_of_ok Try.func11 rfl (Nat.le_of_ble_eq_true rfl) (fun wld M vs hvs => ?_)
  unfold law01_Own_m at h
  refine ok_seq ?_
  refine ok_region ?_
  refine RT.box .none rfl (tl rfl) rfl rfl ?_
  refine RT.allocI .none (cs := [.v (.bool false), slc 1 (List.map eU32 [])]) (by exact ⟨SV.imp_refl _, imp_nil, trivial⟩) rfl (tl rfl) rfl rfl ?_
  refine RT.done ?_
  refine AThen.n ?_
  refine ok_seq ?_
  refine ok_region_draw mixed ?_
  refine RT.fieldAddr .none rfl (tl rfl) rfl ?_
  refine RT.ldV .none rfl rfl rfl (tl rfl) ?_
  refine RT.fieldAddr .none rfl (tl rfl) rfl ?_
  refine RT.ldV .none rfl rfl rfl (tl rfl) ?_
  replace h := bind_some h
  obtain ⟨x7, h7, h⟩ := h
  refine RT.apIN (k := x0_1) (e := eU32) .none rfl rfl (tl rfl) rfl (tl rfl) h7 ?_
  refine RT.buildI (cs := [_, _]) (cs' := [.v (.bool x0_0), slc 1 (List.map eU32 x7)]) .none (.one rfl (.one rfl (.nil))) rfl ⟨SV.imp_refl _, SV.imp_refl _, trivial⟩ (tl rfl) ?_
  refine RT.store .none rfl rfl rfl rfl rfl ?_
  refine RT.done ⟨by kernel_rfl, ?_⟩
  refine AThen.n ?_
  refine ok_ret ?_
  obtain rfl := Option.some.inj h
  exact ⟨.inr rfl, res_imp (.agg rfl rfl (.cons rfl (.cons rfl (.nil))) rfl (.nil)) (SV.imp_refl _)⟩
theorem law01_divides_ok {x0 : Zr} {x1 : Zr} {r : Bool} (h : law01_divides_m x0 x1 = some r) : Pure Try.prog 27 [.agg (eZ x0), .agg (eZ x1)] (.v (.bool r)) := by
  obtain ⟨x0_0, x0_1⟩ := x0
  obtain ⟨x1_0, x1_1⟩ := x1
  refine pure_of_ok Try.func27 rfl (Nat.le_of_ble_eq_true rfl) (fun wld M vs hvs => ?_)
  unfold law01_divides_m at h
  refine ok_seq ?_
  refine ok_region ?_
  refine RT.box .none rfl (tl rfl) rfl rfl ?_
  refine RT.box .none rfl (tl rfl) rfl rfl ?_
  refine RT.asg .none rfl (tl rfl) ?_
  refine RT.done ?_
  refine AThen.n ?_
  refine ok_seq ?_
  refine ok_seq ?_
  refine ok_region ?_
  refine RT.load .none rfl rfl (.cons rfl (.cons rfl (.nil))) rfl (tl rfl) ?_
  replace h := bind_some h
  obtain ⟨x9, h9, h⟩ := h
  refine RT.call .none (whole_Sign_ok h9) rfl ⟨rfl, trivial⟩ (tl rfl) ?_
  replace h := let_some h
  obtain ⟨x10, h10, h⟩ := h
  refine RT.eql .none _ rfl rfl (tl rfl) (eqI (p := x9) (q := 0) h10) ?_
  refine RT.done ?_
  refine AThen.n ?_
  cases x10
  · replace h := br_f h
    refine ok_condF rfl ?_
    refine ok_skip ?_
    refine AThen.n ?_
    refine ok_seq ?_
    refine ok_region ?_
    refine RT.load .none rfl rfl (.cons rfl (.cons rfl (.nil))) rfl (tl rfl) ?_
    refine RT.load .none rfl rfl (.cons rfl (.cons rfl (.nil))) rfl (tl rfl) ?_
    replace h := bind_some h
    obtain ⟨⟨⟨x17a_0, x17a_1⟩, ⟨x17b_0, x17b_1⟩, x17c⟩, h17, h⟩ := h
    refine RT.call .none (whole_DivMod_ok h17) rfl ⟨rfl, rfl, trivial⟩ (tl rfl) ?_
    refine RT.mv .none rfl (tl rfl) ?_
    refine RT.extract .none rfl rfl (tl rfl) ?_
    refine RT.extract .none rfl rfl (tl rfl) ?_
    refine RT.extract .none rfl rfl (tl rfl) ?_
    refine RT.allocI .none (cs := [.v (.bool false), slc 1 (List.map eU32 [])]) (by exact ⟨SV.imp_refl _, imp_nil, trivial⟩) rfl (tl rfl) rfl rfl ?_
    refine RT.allocI .none (cs := [.v (.bool false), slc 1 (List.map eU32 [])]) (by exact ⟨SV.imp_refl _, imp_nil, trivial⟩) rfl (tl rfl) rfl rfl ?_
    refine RT.store .none rfl rfl rfl rfl rfl ?_
    refine RT.store .none rfl rfl rfl rfl rfl ?_
    refine RT.asg .none rfl (tl rfl) ?_
    refine RT.done ?_
    refine AThen.n ?_
    refine ok_seq ?_
    refine ok_tailJ h (fun j3 => AS.mkL 28 [(4, .sv (.v (.bool j3)))] [] []) (fun h => ?_) (fun y4j2 h => ?_)
    · refine ok_region ?_
      refine RT.mv .none rfl (tl rfl) ?_
      replace h := let_some h
      obtain ⟨x22, h22, h⟩ := h
      refine RT.eql .none _ rfl rfl (tl rfl) (eqI (p := x17c) (q := 0) h22) ?_
      refine RT.mv .none rfl (tl rfl) ?_
      replace h := bind_some h
      obtain ⟨c27_4, hg4, h⟩ := h
      cases x22
      · replace hg4 := br_f hg4
        obtain rfl := Option.some.inj hg4
        refine RT.skV rfl rfl (sk rfl) (tl rfl) ?_
        refine RT.skV rfl rfl (sk rfl) (tl rfl) ?_
        refine RT.skV rfl rfl (sk rfl) (tl rfl) ?_
        refine RT.pickF .none rfl rfl (tl rfl) ?_
        refine RT.asg .none rfl (tl rfl) ?_
        refine RT.done ?_
        refine AThen.n ?_
        refine ⟨false, h, ?_⟩
        try dsimp only
        exact weakL id rfl rfl rfl rfl rfl ⟨.sv (SV.imp_refl _), trivial⟩ trivial trivial (fun _ _ => rfl)
      · replace hg4 := br_t hg4
        refine RT.load (.some rfl rfl) rfl rfl (.cons rfl (.cons rfl (.nil))) rfl (tl rfl) ?_
        replace hg4 := bind_some hg4
        obtain ⟨x25, h25, hg4⟩ := hg4
        refine RT.call (.some rfl rfl) (whole_Sign_ok h25) rfl ⟨rfl, trivial⟩ (tl rfl) ?_
        replace hg4 := let_some hg4
        obtain ⟨x26, h26, hg4⟩ := hg4
        refine RT.eql (.some rfl rfl) _ rfl rfl (tl rfl) (eqI (p := x25) (q := 0) h26) ?_
        obtain rfl := Option.some.inj hg4
        refine RT.pickT .none rfl rfl (tl rfl) ?_
        refine RT.asg .none rfl (tl rfl) ?_
        refine RT.done ?_
        refine AThen.n ?_
        refine ⟨x26, h, ?_⟩
        try dsimp only
        exact weakL id rfl rfl rfl rfl rfl ⟨.sv (SV.imp_refl _), trivial⟩ trivial trivial (fun _ _ => rfl)
    · try dsimp only
      refine AThen.n ?_
      refine ok_ret ?_
      obtain rfl := Option.some.inj h
      exact ⟨.inr rfl, res_imp (.tmp rfl (.nil)) (SV.imp_refl _)⟩
  · replace h := br_t h
    refine ok_condT rfl ?_
    refine ok_seq ?_
    refine ok_region ?_
    refine RT.load .none rfl rfl (.cons rfl (.cons rfl (.nil))) rfl (tl rfl) ?_
    replace h := bind_some h
    obtain ⟨x12, h12, h⟩ := h
    refine RT.call .none (whole_Sign_ok h12) rfl ⟨rfl, trivial⟩ (tl rfl) ?_
    replace h := let_some h
    obtain ⟨x13, h13, h⟩ := h
    refine RT.eql .none _ rfl rfl (tl rfl) (eqI (p := x12) (q := 0) h13) ?_
    refine RT.asg .none rfl (tl rfl) ?_
    refine RT.done ?_
    refine AThen.n ?_
    refine ok_ret ?_
    refine AThen.r ?_
    obtain rfl := Option.some.inj h
    exact ⟨.inr rfl, res_imp (.tmp rfl (.nil)) (SV.imp_refl _)⟩
end Go.Proofs.Ytgkafblpckcekaa
