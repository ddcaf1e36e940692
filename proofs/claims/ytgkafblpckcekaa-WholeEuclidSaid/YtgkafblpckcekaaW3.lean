/- The proofs that the code computes the plain functions. Made by program. -/
import Derived.Test.YtgkafblpckcekaaW2
import Derived.Test.YtgkafblpckcekaaMW
namespace Go.Proofs.Ytgkafblpckcekaa
open Go.Fw Go.RowKit
theorem whole_FromInt64_ok {x0 : Int} {r : Zr} (h : whole_FromInt64_m x0 = some r) : Pure Try.prog 32 [.v (.int .i64 x0)] (.agg (eZ r)) := by
  refine pure_of_ok Try.func32 rfl (Nat.le_of_ble_eq_true rfl) (fun wld M vs hvs => ?_)
  unfold whole_FromInt64_m at h
  refine ok_seq ?_
  refine ok_region ?_
  refine RT.allocI .none (cs := [.v (.bool false), slc 1 (List.map eU32 [])]) (by exact ⟨SV.imp_refl _, imp_nil, trivial⟩) rfl (tl rfl) rfl rfl ?_
  refine RT.done ?_
  refine AThen.n ?_
  refine ok_seq ?_
  refine ok_region ?_
  refine RT.mv .none rfl (tl rfl) ?_
  replace h := let_some h
  obtain ⟨x5, h5, h⟩ := h
  refine RT.conv .none _ rfl (tl rfl) (UK.conv h5) ?_
  refine RT.asg .none rfl (tl rfl) ?_
  refine RT.done ?_
  refine AThen.n ?_
  refine ok_seq ?_
  refine ok_seq ?_
  refine ok_region ?_
  refine RT.mv .none rfl (tl rfl) ?_
  replace h := let_some h
  obtain ⟨x7, h7, h⟩ := h
  refine RT.lss .none _ rfl rfl (tl rfl) h7 ?_
  refine RT.done ?_
  refine AThen.n ?_
  refine ok_tailJ h (fun j2 => AS.mkL 14 [(0, .sv (.v (.int .i64 x0))), (2, .ptr 2 0), (3, .sv (.v (.int .u64 ((j2 : Nat) : Int))))] [(2, ⟨24, [.sv (.v (.bool false)), .sv (slc 1 (List.map eU32 []))]⟩)] []) (fun h => ?_) (fun y3j1 h => ?_)
  · cases x7
    · replace h := br_f h
      refine ok_condF rfl ?_
      refine ok_skip ?_
      refine AThen.n ?_
      refine ⟨x5, h, ?_⟩
      try dsimp only
      exact weakL id rfl rfl rfl rfl rfl ⟨.sv (SV.imp_refl _), .ptr, .sv (SV.imp_refl _), trivial⟩ ⟨⟨_, rfl, ⟨.sv (SV.imp_refl _), .sv (SV.imp_refl _), trivial⟩⟩, trivial⟩ trivial (fun _ _ => rfl)
    · replace h := br_t h
      refine ok_condT rfl ?_
      refine ok_region ?_
      refine RT.mv .none rfl (tl rfl) ?_
      replace h := let_some h
      obtain ⟨x9, h9, h⟩ := h
      refine RT.neg .none _ rfl (tl rfl) (UK.neg h9) ?_
      refine RT.asg .none rfl (tl rfl) ?_
      refine RT.done ?_
      refine AThen.n ?_
      refine ⟨x9, h, ?_⟩
      try dsimp only
      exact weakL id rfl rfl rfl rfl rfl ⟨.sv (SV.imp_refl _), .ptr, .sv (SV.imp_refl _), trivial⟩ ⟨⟨_, rfl, ⟨.sv (SV.imp_refl _), .sv (SV.imp_refl _), trivial⟩⟩, trivial⟩ trivial (fun _ _ => rfl)
  · try dsimp only
    refine AThen.n ?_
    refine ok_seq ?_
    refine ok_region ?_
    refine RT.mv .none rfl (tl rfl) ?_
    replace h := let_some h
    obtain ⟨x11, h11, h⟩ := h
    refine RT.lss .none _ rfl rfl (tl rfl) h11 ?_
    refine RT.mv .none rfl (tl rfl) ?_
    replace h := bind_some h
    obtain ⟨⟨x13_0, x13_1⟩, h13, h⟩ := h
    refine RT.call .none (whole_small_ok h13) rfl ⟨rfl, rfl, trivial⟩ (tl rfl) ?_
    refine RT.store .none rfl rfl rfl rfl rfl ?_
    refine RT.done ?_
    refine AThen.n ?_
    refine ok_ret ?_
    obtain rfl := Option.some.inj h
    exact ⟨.inr rfl, res_imp (.agg rfl rfl (.cons rfl (.cons rfl (.nil))) rfl (.nil)) (SV.imp_refl _)⟩
theorem whole_Int64_ok {x0 : Zr} {r : Int × Bool} (h : whole_Int64_m x0 = some r) : Pure Try.prog 30 [.agg (eZ x0)] (.tup [.v (.int .i64 r.1), .v (.bool r.2)]) := by
  obtain ⟨x0_0, x0_1⟩ := x0
  refine pure_of_ok Try.func30 rfl (Nat.le_of_ble_eq_true rfl) (fun wld M vs hvs => ?_)
  unfold whole_Int64_m at h
  refine ok_seq ?_
  refine ok_region ?_
  refine RT.box .none rfl (tl rfl) rfl rfl ?_
  refine RT.asg .none rfl (tl rfl) ?_
  refine RT.asg .none rfl (tl rfl) ?_
  refine RT.done ?_
  refine AThen.n ?_
  refine ok_seq ?_
  refine ok_region ?_
  refine RT.fieldAddr .none rfl (tl rfl) rfl ?_
  refine RT.ldV .none rfl rfl rfl (tl rfl) ?_
  replace h := bind_some h
  obtain ⟨x8, h8, h⟩ := h
  refine RT.call .none (whole_trim_ok h8) rfl ⟨rfl, trivial⟩ (tl rfl) ?_
  refine RT.asg .none rfl (tl rfl) ?_
  refine RT.done ?_
  refine AThen.n ?_
  refine ok_seq ?_
  refine ok_seq ?_
  refine ok_region ?_
  refine RT.mv .none rfl (tl rfl) ?_
  replace h := let_some h
  obtain ⟨x10, h10, h⟩ := h
  refine RT.lenM .none rfl (tl rfl) h10 ?_
  replace h := let_some h
  obtain ⟨x11, h11, h⟩ := h
  refine RT.gtr .none _ rfl rfl (tl rfl) h11 ?_
  refine RT.done ?_
  refine AThen.n ?_
  cases x11
  · replace h := br_f h
    refine ok_condF rfl ?_
    refine ok_skip ?_
    refine AThen.n ?_
    refine ok_seq ?_
    refine ok_region ?_
    refine RT.mv .none rfl (tl rfl) ?_
    replace h := bind_some h
    obtain ⟨x13, h13, h⟩ := h
    refine RT.call .none (whole_low_ok h13) rfl ⟨rfl, trivial⟩ (tl rfl) ?_
    refine RT.asg .none rfl (tl rfl) ?_
    refine RT.done ?_
    refine AThen.n ?_
    refine ok_seq ?_
    refine ok_seq ?_
    refine ok_region ?_
    refine RT.fieldAddr .none rfl (tl rfl) rfl ?_
    refine RT.ldV .none rfl rfl rfl (tl rfl) ?_
    refine RT.done ?_
    refine AThen.n ?_
    cases x0_0
    · replace h := br_f h
      refine ok_condF rfl ?_
      refine ok_skip ?_
      refine AThen.n ?_
      refine ok_seq ?_
      refine ok_seq ?_
      refine ok_region ?_
      refine RT.mv .none rfl (tl rfl) ?_
      replace h := let_some h
      obtain ⟨x22, h22, h⟩ := h
      refine RT.geq .none _ rfl rfl (tl rfl) (leN (p := 9223372036854775808) (q := x13) h22) ?_
      refine RT.done ?_
      refine AThen.n ?_
      cases x22
      · replace h := br_f h
        refine ok_condF rfl ?_
        refine ok_skip ?_
        refine AThen.n ?_
        refine ok_seq ?_
        refine ok_region ?_
        refine RT.mv .none rfl (tl rfl) ?_
        replace h := let_some h
        obtain ⟨x24, h24, h⟩ := h
        refine RT.conv .none _ rfl (tl rfl) h24 ?_
        refine RT.asg .none rfl (tl rfl) ?_
        refine RT.asg .none rfl (tl rfl) ?_
        refine RT.done ?_
        refine AThen.n ?_
        refine ok_ret ?_
        obtain rfl := Option.some.inj h
        exact ⟨.inr rfl, res_imp (.tmp rfl (.tmp rfl (.nil))) (SV.imp_refl _)⟩
      · replace h := br_t h
        refine ok_condT rfl ?_
        refine ok_seq ?_
        refine ok_region ?_
        refine RT.asg .none rfl (tl rfl) ?_
        refine RT.asg .none rfl (tl rfl) ?_
        refine RT.done ?_
        refine AThen.n ?_
        refine ok_ret ?_
        refine AThen.r ?_
        obtain rfl := Option.some.inj h
        exact ⟨.inr rfl, res_imp (.tmp rfl (.tmp rfl (.nil))) (SV.imp_refl _)⟩
    · replace h := br_t h
      refine ok_condT rfl ?_
      refine ok_seq ?_
      refine ok_seq ?_
      refine ok_region ?_
      refine RT.mv .none rfl (tl rfl) ?_
      replace h := let_some h
      obtain ⟨x17, h17, h⟩ := h
      refine RT.gtr .none _ rfl rfl (tl rfl) (ltN (p := 9223372036854775808) (q := x13) h17) ?_
      refine RT.done ?_
      refine AThen.n ?_
      cases x17
      · replace h := br_f h
        refine ok_condF rfl ?_
        refine ok_skip ?_
        refine AThen.n ?_
        refine ok_seq ?_
        refine ok_region ?_
        refine RT.mv .none rfl (tl rfl) ?_
        replace h := let_some h
        obtain ⟨x19, h19, h⟩ := h
        refine RT.neg .none _ rfl (tl rfl) (UK.neg h19) ?_
        replace h := let_some h
        obtain ⟨x20, h20, h⟩ := h
        refine RT.conv .none _ rfl (tl rfl) h20 ?_
        refine RT.asg .none rfl (tl rfl) ?_
        refine RT.asg .none rfl (tl rfl) ?_
        refine RT.done ?_
        refine AThen.n ?_
        refine ok_ret ?_
        refine AThen.r ?_
        obtain rfl := Option.some.inj h
        exact ⟨.inr rfl, res_imp (.tmp rfl (.tmp rfl (.nil))) (SV.imp_refl _)⟩
      · replace h := br_t h
        refine ok_condT rfl ?_
        refine ok_seq ?_
        refine ok_region ?_
        refine RT.asg .none rfl (tl rfl) ?_
        refine RT.asg .none rfl (tl rfl) ?_
        refine RT.done ?_
        refine AThen.n ?_
        refine ok_ret ?_
        refine AThen.r ?_
        refine AThen.r ?_
        obtain rfl := Option.some.inj h
        exact ⟨.inr rfl, res_imp (.tmp rfl (.tmp rfl (.nil))) (SV.imp_refl _)⟩
  · replace h := br_t h
    refine ok_condT rfl ?_
    refine ok_seq ?_
    refine ok_region ?_
    refine RT.asg .none rfl (tl rfl) ?_
    refine RT.asg .none rfl (tl rfl) ?_
    refine RT.done ?_
    refine AThen.n ?_
    refine ok_ret ?_
    refine AThen.r ?_
    obtain rfl := Option.some.inj h
    exact ⟨.inr rfl, res_imp (.tmp rfl (.tmp rfl (.nil))) (SV.imp_refl _)⟩
theorem whole_IsCanonical_ok {x0 : Zr} {r : Bool} (h : whole_IsCanonical_m x0 = some r) : Pure Try.prog 29 [.agg (eZ x0)] (.v (.bool r)) := by
  obtain ⟨x0_0, x0_1⟩ := x0
  refine pure_of_ok Try.func29 rfl (Nat.le_of_ble_eq_true rfl) (fun wld M vs hvs => ?_)
  unfold whole_IsCanonical_m at h
  refine ok_seq ?_
  refine ok_region ?_
  refine RT.box .none rfl (tl rfl) rfl rfl ?_
  refine RT.asg .none rfl (tl rfl) ?_
  refine RT.done ?_
  refine AThen.n ?_
  refine ok_seq ?_
  refine ok_seq ?_
  refine ok_region ?_
  refine RT.fieldAddr .none rfl (tl rfl) rfl ?_
  refine RT.ldV .none rfl rfl rfl (tl rfl) ?_
  replace h := let_some h
  obtain ⟨x5, h5, h⟩ := h
  refine RT.lenM .none rfl (tl rfl) h5 ?_
  replace h := let_some h
  obtain ⟨x6, h6, h⟩ := h
  refine RT.eql .none _ rfl rfl (tl rfl) (eqI (p := x5) (q := 0) h6) ?_
  refine RT.done ?_
  refine AThen.n ?_
  cases x6
  · replace h := br_f h
    refine ok_condF rfl ?_
    refine ok_skip ?_
    refine AThen.n ?_
    refine ok_seq ?_
    refine ok_region ?_
    refine RT.fieldAddr .none rfl (tl rfl) rfl ?_
    refine RT.ldV .none rfl rfl rfl (tl rfl) ?_
    refine RT.fieldAddr .none rfl (tl rfl) rfl ?_
    refine RT.ldV .none rfl rfl rfl (tl rfl) ?_
    replace h := let_some h
    obtain ⟨x14, h14, h⟩ := h
    refine RT.lenM .none rfl (tl rfl) h14 ?_
    replace h := let_some h
    obtain ⟨x15, h15, h⟩ := h
    refine RT.sub .none _ rfl rfl (tl rfl) h15 ?_
    replace h := bind_some h
    obtain ⟨x16, h16, h⟩ := h
    refine RT.ixM .none rfl rfl (tl rfl) h16 ?_
    refine RT.loadRV .none rfl rfl (tl rfl) ?_
    replace h := let_some h
    obtain ⟨x18, h18, h⟩ := h
    refine RT.neq .none _ rfl rfl (tl rfl) (neN (p := x16) (q := 0) h18) ?_
    refine RT.asg .none rfl (tl rfl) ?_
    refine RT.done ?_
    refine AThen.n ?_
    refine ok_ret ?_
    obtain rfl := Option.some.inj h
    exact ⟨.inr rfl, res_imp (.tmp rfl (.nil)) (SV.imp_refl _)⟩
  · replace h := br_t h
    refine ok_condT rfl ?_
    refine ok_seq ?_
    refine ok_region ?_
    refine RT.fieldAddr .none rfl (tl rfl) rfl ?_
    refine RT.ldV .none rfl rfl rfl (tl rfl) ?_
    replace h := let_some h
    obtain ⟨x9, h9, h⟩ := h
    refine RT.not .none rfl (tl rfl) _ h9 ?_
    refine RT.asg .none rfl (tl rfl) ?_
    refine RT.done ?_
    refine AThen.n ?_
    refine ok_ret ?_
    refine AThen.r ?_
    obtain rfl := Option.some.inj h
    exact ⟨.inr rfl, res_imp (.tmp rfl (.nil)) (SV.imp_refl _)⟩
theorem whole_signedSum_ok {x0 : Bool} {x1 : List Nat} {x2 : Bool} {x3 : List Nat} {r : Zr} (h : whole_signedSum_m x0 x1 x2 x3 = some r) : Pure Try.prog 66 [.v (.bool x0), slc 1 (List.map eU32 x1), .v (.bool x2), slc 1 (List.map eU32 x3)] (.agg (eZ r)) := by
  refine pure_of_ok Try.func66 rfl (Nat.le_of_ble_eq_true rfl) (fun wld M vs hvs => ?_)
  unfold whole_signedSum_m at h
  refine ok_seq ?_
  refine ok_region ?_
  refine RT.allocI .none (cs := [.v (.bool false), slc 1 (List.map eU32 [])]) (by exact ⟨SV.imp_refl _, imp_nil, trivial⟩) rfl (tl rfl) rfl rfl ?_
  refine RT.done ?_
  refine AThen.n ?_
  refine ok_seq ?_
  refine ok_seq ?_
  refine ok_region ?_
  refine RT.mv .none rfl (tl rfl) ?_
  refine RT.mv .none rfl (tl rfl) ?_
  replace h := let_some h
  obtain ⟨x11, h11, h⟩ := h
  refine RT.beql .none _ rfl rfl (tl rfl) h11 ?_
  refine RT.done ?_
  refine AThen.n ?_
  cases x11
  · replace h := br_f h
    refine ok_condF rfl ?_
    refine ok_skip ?_
    refine AThen.n ?_
    refine ok_seq ?_
    refine ok_seq ?_
    refine ok_region ?_
    refine RT.mv .none rfl (tl rfl) ?_
    refine RT.mv .none rfl (tl rfl) ?_
    replace h := bind_some h
    obtain ⟨x19, h19, h⟩ := h
    refine RT.call .none (whole_compareWords_ok h19) rfl ⟨rfl, rfl, trivial⟩ (tl rfl) ?_
    replace h := let_some h
    obtain ⟨x20, h20, h⟩ := h
    refine RT.lss .none _ rfl rfl (tl rfl) h20 ?_
    refine RT.done ?_
    refine AThen.n ?_
    cases x20
    · replace h := br_f h
      refine ok_condF rfl ?_
      refine ok_skip ?_
      refine AThen.n ?_
      refine ok_seq ?_
      refine ok_region ?_
      refine RT.mv .none rfl (tl rfl) ?_
      refine RT.mv .none rfl (tl rfl) ?_
      refine RT.mv .none rfl (tl rfl) ?_
      replace h := bind_some h
      obtain ⟨x29, h29, h⟩ := h
      refine RT.call .none (whole_subWords_ok h29) rfl ⟨rfl, rfl, trivial⟩ (tl rfl) ?_
      replace h := bind_some h
      obtain ⟨⟨x30_0, x30_1⟩, h30, h⟩ := h
      refine RT.call .none (whole_build_ok h30) rfl ⟨rfl, rfl, trivial⟩ (tl rfl) ?_
      refine RT.store .none rfl rfl rfl rfl rfl ?_
      refine RT.done ?_
      refine AThen.n ?_
      refine ok_ret ?_
      obtain rfl := Option.some.inj h
      exact ⟨.inr rfl, res_imp (.agg rfl rfl (.cons rfl (.cons rfl (.nil))) rfl (.nil)) (SV.imp_refl _)⟩
    · replace h := br_t h
      refine ok_condT rfl ?_
      refine ok_seq ?_
      refine ok_region ?_
      refine RT.mv .none rfl (tl rfl) ?_
      refine RT.mv .none rfl (tl rfl) ?_
      refine RT.mv .none rfl (tl rfl) ?_
      replace h := bind_some h
      obtain ⟨x24, h24, h⟩ := h
      refine RT.call .none (whole_subWords_ok h24) rfl ⟨rfl, rfl, trivial⟩ (tl rfl) ?_
      replace h := bind_some h
      obtain ⟨⟨x25_0, x25_1⟩, h25, h⟩ := h
      refine RT.call .none (whole_build_ok h25) rfl ⟨rfl, rfl, trivial⟩ (tl rfl) ?_
      refine RT.store .none rfl rfl rfl rfl rfl ?_
      refine RT.done ?_
      refine AThen.n ?_
      refine ok_ret ?_
      refine AThen.r ?_
      obtain rfl := Option.some.inj h
      exact ⟨.inr rfl, res_imp (.agg rfl rfl (.cons rfl (.cons rfl (.nil))) rfl (.nil)) (SV.imp_refl _)⟩
  · replace h := br_t h
    refine ok_condT rfl ?_
    refine ok_seq ?_
    refine ok_region ?_
    refine RT.mv .none rfl (tl rfl) ?_
    refine RT.mv .none rfl (tl rfl) ?_
    refine RT.mv .none rfl (tl rfl) ?_
    replace h := bind_some h
    obtain ⟨x15, h15, h⟩ := h
    refine RT.call .none (whole_addWords_ok h15) rfl ⟨rfl, rfl, trivial⟩ (tl rfl) ?_
    replace h := bind_some h
    obtain ⟨⟨x16_0, x16_1⟩, h16, h⟩ := h
    refine RT.call .none (whole_build_ok h16) rfl ⟨rfl, rfl, trivial⟩ (tl rfl) ?_
    refine RT.store .none rfl rfl rfl rfl rfl ?_
    refine RT.done ?_
    refine AThen.n ?_
    refine ok_ret ?_
    refine AThen.r ?_
    obtain rfl := Option.some.inj h
    exact ⟨.inr rfl, res_imp (.agg rfl rfl (.cons rfl (.cons rfl (.nil))) rfl (.nil)) (SV.imp_refl _)⟩
theorem whole_Add_ok {x0 : Zr} {x1 : Zr} {r : Zr} (h : whole_Add_m x0 x1 = some r) : Pure Try.prog 24 [.agg (eZ x0), .agg (eZ x1)] (.agg (eZ r)) := by
  obtain ⟨x0_0, x0_1⟩ := x0
  obtain ⟨x1_0, x1_1⟩ := x1
  refine pure_of_ok Try.func24 rfl (Nat.le_of_ble_eq_true rfl) (fun wld M vs hvs => ?_)
  unfold whole_Add_m at h
  refine ok_seq ?_
  refine ok_region ?_
  refine RT.box .none rfl (tl rfl) rfl rfl ?_
  refine RT.box .none rfl (tl rfl) rfl rfl ?_
  refine RT.allocI .none (cs := [.v (.bool false), slc 1 (List.map eU32 [])]) (by exact ⟨SV.imp_refl _, imp_nil, trivial⟩) rfl (tl rfl) rfl rfl ?_
  refine RT.done ?_
  refine AThen.n ?_
  refine ok_seq ?_
  refine ok_region ?_
  refine RT.load .none rfl rfl (.cons rfl (.cons rfl (.nil))) rfl (tl rfl) ?_
  replace h := bind_some h
  obtain ⟨⟨x12a, x12b⟩, h12, h⟩ := h
  refine RT.call .none (whole_Int64_ok h12) rfl ⟨rfl, trivial⟩ (tl rfl) ?_
  refine RT.mv .none rfl (tl rfl) ?_
  refine RT.extract .none rfl rfl (tl rfl) ?_
  refine RT.extract .none rfl rfl (tl rfl) ?_
  refine RT.asg .none rfl (tl rfl) ?_
  refine RT.asg .none rfl (tl rfl) ?_
  refine RT.done ?_
  refine AThen.n ?_
  refine ok_seq ?_
  refine ok_region ?_
  refine RT.load .none rfl rfl (.cons rfl (.cons rfl (.nil))) rfl (tl rfl) ?_
  replace h := bind_some h
  obtain ⟨⟨x17a, x17b⟩, h17, h⟩ := h
  refine RT.call .none (whole_Int64_ok h17) rfl ⟨rfl, trivial⟩ (tl rfl) ?_
  refine RT.mv .none rfl (tl rfl) ?_
  refine RT.extract .none rfl rfl (tl rfl) ?_
  refine RT.extract .none rfl rfl (tl rfl) ?_
  refine RT.asg .none rfl (tl rfl) ?_
  refine RT.asg .none rfl (tl rfl) ?_
  refine RT.done ?_
  refine AThen.n ?_
  refine ok_seq ?_
  refine ok_seq ?_
  refine ok_tailJ h (fun j3 => AS.mkL 48 [(2, .ptr 2 0), (3, .ptr 3 0), (4, .ptr 4 0), (5, .sv (.v (.int .i64 x12a))), (7, .sv (.v (.int .i64 x17a))), (23, .sv (.v (.bool j3)))] [(4, ⟨24, [.sv (.v (.bool false)), .sv (slc 1 (List.map eU32 []))]⟩), (3, ⟨24, [.sv (.v (.bool x1_0)), .sv (slc 1 (List.map eU32 x1_1))]⟩), (2, ⟨24, [.sv (.v (.bool x0_0)), .sv (slc 1 (List.map eU32 x0_1))]⟩)] []) (fun h => ?_) (fun y23j2 h => ?_)
  · refine ok_region ?_
    refine RT.mv .none rfl (tl rfl) ?_
    refine RT.mv .none rfl (tl rfl) ?_
    replace h := bind_some h
    obtain ⟨c23_6, hg6, h⟩ := h
    cases x12b
    · replace hg6 := br_f hg6
      obtain rfl := Option.some.inj hg6
      refine RT.skV rfl rfl (sk rfl) (tl rfl) ?_
      refine RT.pickF .none rfl rfl (tl rfl) ?_
      refine RT.done ?_
      refine AThen.n ?_
      refine ⟨false, h, ?_⟩
      try dsimp only
      exact weakL id rfl rfl rfl rfl rfl ⟨.ptr, .ptr, .ptr, .sv (SV.imp_refl _), .sv (SV.imp_refl _), .sv (SV.imp_refl _), trivial⟩ ⟨⟨_, rfl, ⟨.sv (SV.imp_refl _), .sv (SV.imp_refl _), trivial⟩⟩, ⟨_, rfl, ⟨.sv (SV.imp_refl _), .sv (SV.imp_refl _), trivial⟩⟩, ⟨_, rfl, ⟨.sv (SV.imp_refl _), .sv (SV.imp_refl _), trivial⟩⟩, trivial⟩ trivial (fun _ _ => rfl)
    · replace hg6 := br_t hg6
      refine RT.mv (.some rfl rfl) rfl (tl rfl) ?_
      obtain rfl := Option.some.inj hg6
      refine RT.pickT .none rfl rfl (tl rfl) ?_
      refine RT.done ?_
      refine AThen.n ?_
      refine ⟨x17b, h, ?_⟩
      try dsimp only
      exact weakL id rfl rfl rfl rfl rfl ⟨.ptr, .ptr, .ptr, .sv (SV.imp_refl _), .sv (SV.imp_refl _), .sv (SV.imp_refl _), trivial⟩ ⟨⟨_, rfl, ⟨.sv (SV.imp_refl _), .sv (SV.imp_refl _), trivial⟩⟩, ⟨_, rfl, ⟨.sv (SV.imp_refl _), .sv (SV.imp_refl _), trivial⟩⟩, ⟨_, rfl, ⟨.sv (SV.imp_refl _), .sv (SV.imp_refl _), trivial⟩⟩, trivial⟩ trivial (fun _ _ => rfl)
  · try dsimp only
    refine AThen.n ?_
    refine ok_tailJ h (fun j5 => AS.mkL 48 [(2, .ptr 2 0), (3, .ptr 3 0), (4, .ptr 4 0)] [(4, ⟨24, [.sv (.v (.bool false)), .sv (slc 1 (List.map eU32 []))]⟩), (3, ⟨24, [.sv (.v (.bool x1_0)), .sv (slc 1 (List.map eU32 x1_1))]⟩), (2, ⟨24, [.sv (.v (.bool x0_0)), .sv (slc 1 (List.map eU32 x0_1))]⟩)] []) (fun h => ?_) (fun j5 h => ?_)
    · cases y23j2
      · replace h := br_f h
        refine ok_condF rfl ?_
        refine ok_skip ?_
        refine AThen.n ?_
        refine ⟨(), h, ?_⟩
        try dsimp only
        exact weakL id rfl rfl rfl rfl rfl ⟨.ptr, .ptr, .ptr, trivial⟩ ⟨⟨_, rfl, ⟨.sv (SV.imp_refl _), .sv (SV.imp_refl _), trivial⟩⟩, ⟨_, rfl, ⟨.sv (SV.imp_refl _), .sv (SV.imp_refl _), trivial⟩⟩, ⟨_, rfl, ⟨.sv (SV.imp_refl _), .sv (SV.imp_refl _), trivial⟩⟩, trivial⟩ trivial (fun _ _ => rfl)
      · replace h := br_t h
        refine ok_condT rfl ?_
        refine ok_seq ?_
        refine ok_region ?_
        refine RT.mv .none rfl (tl rfl) ?_
        refine RT.mv .none rfl (tl rfl) ?_
        replace h := let_some h
        obtain ⟨x26, h26, h⟩ := h
        refine RT.add .none _ rfl rfl (tl rfl) h26 ?_
        refine RT.asg .none rfl (tl rfl) ?_
        refine RT.done ?_
        refine AThen.n ?_
        refine ok_seq ?_
        refine ok_region ?_
        refine RT.mv .none rfl (tl rfl) ?_
        refine RT.mv .none rfl (tl rfl) ?_
        replace h := let_some h
        obtain ⟨x29, h29, h⟩ := h
        refine RT.xor .none _ rfl rfl (tl rfl) h29 ?_
        refine RT.mv .none rfl (tl rfl) ?_
        refine RT.mv .none rfl (tl rfl) ?_
        replace h := let_some h
        obtain ⟨x32, h32, h⟩ := h
        refine RT.xor .none _ rfl rfl (tl rfl) h32 ?_
        replace h := let_some h
        obtain ⟨x33, h33, h⟩ := h
        refine RT.and .none _ rfl rfl (tl rfl) h33 ?_
        replace h := let_some h
        obtain ⟨x34, h34, h⟩ := h
        refine RT.geq .none _ rfl rfl (tl rfl) h34 ?_
        refine RT.done ?_
        refine AThen.n ?_
        cases x34
        · replace h := br_f h
          refine ok_condF rfl ?_
          refine ok_skip ?_
          refine AThen.n ?_
          refine ⟨(), h, ?_⟩
          try dsimp only
          exact weakL id rfl rfl rfl rfl rfl ⟨.ptr, .ptr, .ptr, trivial⟩ ⟨⟨_, rfl, ⟨.sv (SV.imp_refl _), .sv (SV.imp_refl _), trivial⟩⟩, ⟨_, rfl, ⟨.sv (SV.imp_refl _), .sv (SV.imp_refl _), trivial⟩⟩, ⟨_, rfl, ⟨.sv (SV.imp_refl _), .sv (SV.imp_refl _), trivial⟩⟩, trivial⟩ trivial (fun _ _ => rfl)
        · replace h := br_t h
          refine ok_condT rfl ?_
          refine ok_seq ?_
          refine ok_region ?_
          refine RT.mv .none rfl (tl rfl) ?_
          replace h := bind_some h
          obtain ⟨⟨x36_0, x36_1⟩, h36, h⟩ := h
          refine RT.call .none (whole_FromInt64_ok h36) rfl ⟨rfl, trivial⟩ (tl rfl) ?_
          refine RT.store .none rfl rfl rfl rfl rfl ?_
          refine RT.done ?_
          refine AThen.n ?_
          refine ok_ret ?_
          refine AThen.r ?_
          refine AThen.r ?_
          obtain rfl := Option.some.inj h
          exact ⟨.inr rfl, res_imp (.agg rfl rfl (.cons rfl (.cons rfl (.nil))) rfl (.nil)) (SV.imp_refl _)⟩
    · try dsimp only
      refine AThen.n ?_
      refine ok_seq ?_
      refine ok_region_draw mixed ?_
      refine RT.fieldAddr .none rfl (tl rfl) rfl ?_
      refine RT.ldV .none rfl rfl rfl (tl rfl) ?_
      refine RT.fieldAddr .none rfl (tl rfl) rfl ?_
      refine RT.ldV .none rfl rfl rfl (tl rfl) ?_
      replace h := bind_some h
      obtain ⟨x41, h41, h⟩ := h
      refine RT.call .none (whole_trim_ok h41) rfl ⟨rfl, trivial⟩ (tl rfl) ?_
      refine RT.fieldAddr .none rfl (tl rfl) rfl ?_
      refine RT.ldV .none rfl rfl rfl (tl rfl) ?_
      refine RT.fieldAddr .none rfl (tl rfl) rfl ?_
      refine RT.ldV .none rfl rfl rfl (tl rfl) ?_
      replace h := bind_some h
      obtain ⟨x46, h46, h⟩ := h
      refine RT.call .none (whole_trim_ok h46) rfl ⟨rfl, trivial⟩ (tl rfl) ?_
      replace h := bind_some h
      obtain ⟨⟨x47_0, x47_1⟩, h47, h⟩ := h
      refine RT.call .none (whole_signedSum_ok h47) rfl ⟨rfl, rfl, rfl, rfl, trivial⟩ (tl rfl) ?_
      refine RT.store .none rfl rfl rfl rfl rfl ?_
      refine RT.done ⟨by kernel_rfl, ?_⟩
      refine AThen.n ?_
      refine ok_ret ?_
      obtain rfl := Option.some.inj h
      exact ⟨.inr rfl, res_imp (.agg rfl rfl (.cons rfl (.cons rfl (.nil))) rfl (.nil)) (SV.imp_refl _)⟩
theorem whole_Sub_ok {x0 : Zr} {x1 : Zr} {r : Zr} (h : whole_Sub_m x0 x1 = some r) : Pure Try.prog 28 [.agg (eZ x0), .agg (eZ x1)] (.agg (eZ r)) := by
  obtain ⟨x0_0, x0_1⟩ := x0
  obtain ⟨x1_0, x1_1⟩ := x1
  refine pure_of_ok Try.func28 rfl (Nat.le_of_ble_eq_true rfl) (fun wld M vs hvs => ?_)
  unfold whole_Sub_m at h
  refine ok_seq ?_
  refine ok_region ?_
  refine RT.box .none rfl (tl rfl) rfl rfl ?_
  refine RT.box .none rfl (tl rfl) rfl rfl ?_
  refine RT.allocI .none (cs := [.v (.bool false), slc 1 (List.map eU32 [])]) (by exact ⟨SV.imp_refl _, imp_nil, trivial⟩) rfl (tl rfl) rfl rfl ?_
  refine RT.done ?_
  refine AThen.n ?_
  refine ok_seq ?_
  refine ok_region ?_
  refine RT.load .none rfl rfl (.cons rfl (.cons rfl (.nil))) rfl (tl rfl) ?_
  replace h := bind_some h
  obtain ⟨⟨x12a, x12b⟩, h12, h⟩ := h
  refine RT.call .none (whole_Int64_ok h12) rfl ⟨rfl, trivial⟩ (tl rfl) ?_
  refine RT.mv .none rfl (tl rfl) ?_
  refine RT.extract .none rfl rfl (tl rfl) ?_
  refine RT.extract .none rfl rfl (tl rfl) ?_
  refine RT.asg .none rfl (tl rfl) ?_
  refine RT.asg .none rfl (tl rfl) ?_
  refine RT.done ?_
  refine AThen.n ?_
  refine ok_seq ?_
  refine ok_region ?_
  refine RT.load .none rfl rfl (.cons rfl (.cons rfl (.nil))) rfl (tl rfl) ?_
  replace h := bind_some h
  obtain ⟨⟨x17a, x17b⟩, h17, h⟩ := h
  refine RT.call .none (whole_Int64_ok h17) rfl ⟨rfl, trivial⟩ (tl rfl) ?_
  refine RT.mv .none rfl (tl rfl) ?_
  refine RT.extract .none rfl rfl (tl rfl) ?_
  refine RT.extract .none rfl rfl (tl rfl) ?_
  refine RT.asg .none rfl (tl rfl) ?_
  refine RT.asg .none rfl (tl rfl) ?_
  refine RT.done ?_
  refine AThen.n ?_
  refine ok_seq ?_
  refine ok_seq ?_
  refine ok_tailJ h (fun j3 => AS.mkL 49 [(2, .ptr 2 0), (3, .ptr 3 0), (4, .ptr 4 0), (5, .sv (.v (.int .i64 x12a))), (7, .sv (.v (.int .i64 x17a))), (23, .sv (.v (.bool j3)))] [(4, ⟨24, [.sv (.v (.bool false)), .sv (slc 1 (List.map eU32 []))]⟩), (3, ⟨24, [.sv (.v (.bool x1_0)), .sv (slc 1 (List.map eU32 x1_1))]⟩), (2, ⟨24, [.sv (.v (.bool x0_0)), .sv (slc 1 (List.map eU32 x0_1))]⟩)] []) (fun h => ?_) (fun y23j2 h => ?_)
  · refine ok_region ?_
    refine RT.mv .none rfl (tl rfl) ?_
    refine RT.mv .none rfl (tl rfl) ?_
    replace h := bind_some h
    obtain ⟨c23_6, hg6, h⟩ := h
    cases x12b
    · replace hg6 := br_f hg6
      obtain rfl := Option.some.inj hg6
      refine RT.skV rfl rfl (sk rfl) (tl rfl) ?_
      refine RT.pickF .none rfl rfl (tl rfl) ?_
      refine RT.done ?_
      refine AThen.n ?_
      refine ⟨false, h, ?_⟩
      try dsimp only
      exact weakL id rfl rfl rfl rfl rfl ⟨.ptr, .ptr, .ptr, .sv (SV.imp_refl _), .sv (SV.imp_refl _), .sv (SV.imp_refl _), trivial⟩ ⟨⟨_, rfl, ⟨.sv (SV.imp_refl _), .sv (SV.imp_refl _), trivial⟩⟩, ⟨_, rfl, ⟨.sv (SV.imp_refl _), .sv (SV.imp_refl _), trivial⟩⟩, ⟨_, rfl, ⟨.sv (SV.imp_refl _), .sv (SV.imp_refl _), trivial⟩⟩, trivial⟩ trivial (fun _ _ => rfl)
    · replace hg6 := br_t hg6
      refine RT.mv (.some rfl rfl) rfl (tl rfl) ?_
      obtain rfl := Option.some.inj hg6
      refine RT.pickT .none rfl rfl (tl rfl) ?_
      refine RT.done ?_
      refine AThen.n ?_
      refine ⟨x17b, h, ?_⟩
      try dsimp only
      exact weakL id rfl rfl rfl rfl rfl ⟨.ptr, .ptr, .ptr, .sv (SV.imp_refl _), .sv (SV.imp_refl _), .sv (SV.imp_refl _), trivial⟩ ⟨⟨_, rfl, ⟨.sv (SV.imp_refl _), .sv (SV.imp_refl _), trivial⟩⟩, ⟨_, rfl, ⟨.sv (SV.imp_refl _), .sv (SV.imp_refl _), trivial⟩⟩, ⟨_, rfl, ⟨.sv (SV.imp_refl _), .sv (SV.imp_refl _), trivial⟩⟩, trivial⟩ trivial (fun _ _ => rfl)
  · try dsimp only
    refine AThen.n ?_
    refine ok_tailJ h (fun j5 => AS.mkL 49 [(2, .ptr 2 0), (3, .ptr 3 0), (4, .ptr 4 0)] [(4, ⟨24, [.sv (.v (.bool false)), .sv (slc 1 (List.map eU32 []))]⟩), (3, ⟨24, [.sv (.v (.bool x1_0)), .sv (slc 1 (List.map eU32 x1_1))]⟩), (2, ⟨24, [.sv (.v (.bool x0_0)), .sv (slc 1 (List.map eU32 x0_1))]⟩)] []) (fun h => ?_) (fun j5 h => ?_)
    · cases y23j2
      · replace h := br_f h
        refine ok_condF rfl ?_
        refine ok_skip ?_
        refine AThen.n ?_
        refine ⟨(), h, ?_⟩
        try dsimp only
        exact weakL id rfl rfl rfl rfl rfl ⟨.ptr, .ptr, .ptr, trivial⟩ ⟨⟨_, rfl, ⟨.sv (SV.imp_refl _), .sv (SV.imp_refl _), trivial⟩⟩, ⟨_, rfl, ⟨.sv (SV.imp_refl _), .sv (SV.imp_refl _), trivial⟩⟩, ⟨_, rfl, ⟨.sv (SV.imp_refl _), .sv (SV.imp_refl _), trivial⟩⟩, trivial⟩ trivial (fun _ _ => rfl)
      · replace h := br_t h
        refine ok_condT rfl ?_
        refine ok_seq ?_
        refine ok_region ?_
        refine RT.mv .none rfl (tl rfl) ?_
        refine RT.mv .none rfl (tl rfl) ?_
        replace h := let_some h
        obtain ⟨x26, h26, h⟩ := h
        refine RT.sub .none _ rfl rfl (tl rfl) h26 ?_
        refine RT.asg .none rfl (tl rfl) ?_
        refine RT.done ?_
        refine AThen.n ?_
        refine ok_seq ?_
        refine ok_region ?_
        refine RT.mv .none rfl (tl rfl) ?_
        refine RT.mv .none rfl (tl rfl) ?_
        replace h := let_some h
        obtain ⟨x29, h29, h⟩ := h
        refine RT.xor .none _ rfl rfl (tl rfl) h29 ?_
        refine RT.mv .none rfl (tl rfl) ?_
        refine RT.mv .none rfl (tl rfl) ?_
        replace h := let_some h
        obtain ⟨x32, h32, h⟩ := h
        refine RT.xor .none _ rfl rfl (tl rfl) h32 ?_
        replace h := let_some h
        obtain ⟨x33, h33, h⟩ := h
        refine RT.and .none _ rfl rfl (tl rfl) h33 ?_
        replace h := let_some h
        obtain ⟨x34, h34, h⟩ := h
        refine RT.geq .none _ rfl rfl (tl rfl) h34 ?_
        refine RT.done ?_
        refine AThen.n ?_
        cases x34
        · replace h := br_f h
          refine ok_condF rfl ?_
          refine ok_skip ?_
          refine AThen.n ?_
          refine ⟨(), h, ?_⟩
          try dsimp only
          exact weakL id rfl rfl rfl rfl rfl ⟨.ptr, .ptr, .ptr, trivial⟩ ⟨⟨_, rfl, ⟨.sv (SV.imp_refl _), .sv (SV.imp_refl _), trivial⟩⟩, ⟨_, rfl, ⟨.sv (SV.imp_refl _), .sv (SV.imp_refl _), trivial⟩⟩, ⟨_, rfl, ⟨.sv (SV.imp_refl _), .sv (SV.imp_refl _), trivial⟩⟩, trivial⟩ trivial (fun _ _ => rfl)
        · replace h := br_t h
          refine ok_condT rfl ?_
          refine ok_seq ?_
          refine ok_region ?_
          refine RT.mv .none rfl (tl rfl) ?_
          replace h := bind_some h
          obtain ⟨⟨x36_0, x36_1⟩, h36, h⟩ := h
          refine RT.call .none (whole_FromInt64_ok h36) rfl ⟨rfl, trivial⟩ (tl rfl) ?_
          refine RT.store .none rfl rfl rfl rfl rfl ?_
          refine RT.done ?_
          refine AThen.n ?_
          refine ok_ret ?_
          refine AThen.r ?_
          refine AThen.r ?_
          obtain rfl := Option.some.inj h
          exact ⟨.inr rfl, res_imp (.agg rfl rfl (.cons rfl (.cons rfl (.nil))) rfl (.nil)) (SV.imp_refl _)⟩
    · try dsimp only
      refine AThen.n ?_
      refine ok_seq ?_
      refine ok_region_draw mixed ?_
      refine RT.fieldAddr .none rfl (tl rfl) rfl ?_
      refine RT.ldV .none rfl rfl rfl (tl rfl) ?_
      refine RT.fieldAddr .none rfl (tl rfl) rfl ?_
      refine RT.ldV .none rfl rfl rfl (tl rfl) ?_
      replace h := bind_some h
      obtain ⟨x41, h41, h⟩ := h
      refine RT.call .none (whole_trim_ok h41) rfl ⟨rfl, trivial⟩ (tl rfl) ?_
      refine RT.fieldAddr .none rfl (tl rfl) rfl ?_
      refine RT.ldV .none rfl rfl rfl (tl rfl) ?_
      replace h := let_some h
      obtain ⟨x44, h44, h⟩ := h
      refine RT.not .none rfl (tl rfl) _ h44 ?_
      refine RT.fieldAddr .none rfl (tl rfl) rfl ?_
      refine RT.ldV .none rfl rfl rfl (tl rfl) ?_
      replace h := bind_some h
      obtain ⟨x47, h47, h⟩ := h
      refine RT.call .none (whole_trim_ok h47) rfl ⟨rfl, trivial⟩ (tl rfl) ?_
      replace h := bind_some h
      obtain ⟨⟨x48_0, x48_1⟩, h48, h⟩ := h
      refine RT.call .none (whole_signedSum_ok h48) rfl ⟨rfl, rfl, rfl, rfl, trivial⟩ (tl rfl) ?_
      refine RT.store .none rfl rfl rfl rfl rfl ?_
      refine RT.done ⟨by kernel_rfl, ?_⟩
      refine AThen.n ?_
      refine ok_ret ?_
      obtain rfl := Option.some.inj h
      exact ⟨.inr rfl, res_imp (.agg rfl rfl (.cons rfl (.cons rfl (.nil))) rfl (.nil)) (SV.imp_refl _)⟩
theorem whole_Mul_ok {x0 : Zr} {x1 : Zr} {r : Zr} (h : whole_Mul_m x0 x1 = some r) : Pure Try.prog 25 [.agg (eZ x0), .agg (eZ x1)] (.agg (eZ r)) := by
  obtain ⟨x0_0, x0_1⟩ := x0
  obtain ⟨x1_0, x1_1⟩ := x1
  refine pure_of_ok Try.func25 rfl (Nat.le_of_ble_eq_true rfl) (fun wld M vs hvs => ?_)
  unfold whole_Mul_m at h
  refine ok_seq ?_
  refine ok_region ?_
  refine RT.box .none rfl (tl rfl) rfl rfl ?_
  refine RT.box .none rfl (tl rfl) rfl rfl ?_
  refine RT.allocI .none (cs := [.v (.bool false), slc 1 (List.map eU32 [])]) (by exact ⟨SV.imp_refl _, imp_nil, trivial⟩) rfl (tl rfl) rfl rfl ?_
  refine RT.done ?_
  refine AThen.n ?_
  refine ok_seq ?_
  refine ok_region_draw mixed ?_
  refine RT.fieldAddr .none rfl (tl rfl) rfl ?_
  refine RT.ldV .none rfl rfl rfl (tl rfl) ?_
  replace h := bind_some h
  obtain ⟨x9, h9, h⟩ := h
  refine RT.call .none (whole_trim_ok h9) rfl ⟨rfl, trivial⟩ (tl rfl) ?_
  refine RT.fieldAddr .none rfl (tl rfl) rfl ?_
  refine RT.ldV .none rfl rfl rfl (tl rfl) ?_
  replace h := bind_some h
  obtain ⟨x12, h12, h⟩ := h
  refine RT.call .none (whole_trim_ok h12) rfl ⟨rfl, trivial⟩ (tl rfl) ?_
  refine RT.asg .none rfl (tl rfl) ?_
  refine RT.asg .none rfl (tl rfl) ?_
  refine RT.done ⟨by kernel_rfl, ?_⟩
  refine AThen.n ?_
  refine ok_seq ?_
  refine ok_seq ?_
  refine ok_tailJ h (fun j3 => AS.mkL 41 [(2, .ptr 2 0), (3, .ptr 3 0), (4, .ptr 4 0), (5, .sv (slc 1 (List.map eU32 x9))), (6, .sv (slc 1 (List.map eU32 x12))), (20, .sv (.v (.bool j3)))] [(4, ⟨24, [.sv (.v (.bool false)), .sv (slc 1 (List.map eU32 []))]⟩), (3, ⟨24, [.sv (.v (.bool x1_0)), .sv (slc 1 (List.map eU32 x1_1))]⟩), (2, ⟨24, [.sv (.v (.bool x0_0)), .sv (slc 1 (List.map eU32 x0_1))]⟩)] []) (fun h => ?_) (fun y20j2 h => ?_)
  · refine ok_region ?_
    refine RT.mv .none rfl (tl rfl) ?_
    replace h := let_some h
    obtain ⟨x14, h14, h⟩ := h
    refine RT.lenM .none rfl (tl rfl) h14 ?_
    replace h := let_some h
    obtain ⟨x15, h15, h⟩ := h
    refine RT.leq .none _ rfl rfl (tl rfl) h15 ?_
    refine RT.mv .none rfl (tl rfl) ?_
    replace h := bind_some h
    obtain ⟨c20_4, hg4, h⟩ := h
    cases x15
    · replace hg4 := br_f hg4
      obtain rfl := Option.some.inj hg4
      refine RT.skV rfl rfl (sk rfl) (tl rfl) ?_
      refine RT.skV rfl rfl (sk rfl) (tl rfl) ?_
      refine RT.skV rfl rfl (sk rfl) (tl rfl) ?_
      refine RT.pickF .none rfl rfl (tl rfl) ?_
      refine RT.done ?_
      refine AThen.n ?_
      refine ⟨false, h, ?_⟩
      try dsimp only
      exact weakL id rfl rfl rfl rfl rfl ⟨.ptr, .ptr, .ptr, .sv (SV.imp_refl _), .sv (SV.imp_refl _), .sv (SV.imp_refl _), trivial⟩ ⟨⟨_, rfl, ⟨.sv (SV.imp_refl _), .sv (SV.imp_refl _), trivial⟩⟩, ⟨_, rfl, ⟨.sv (SV.imp_refl _), .sv (SV.imp_refl _), trivial⟩⟩, ⟨_, rfl, ⟨.sv (SV.imp_refl _), .sv (SV.imp_refl _), trivial⟩⟩, trivial⟩ trivial (fun _ _ => rfl)
    · replace hg4 := br_t hg4
      refine RT.mv (.some rfl rfl) rfl (tl rfl) ?_
      replace hg4 := let_some hg4
      obtain ⟨x18, h18, hg4⟩ := hg4
      refine RT.lenM (.some rfl rfl) rfl (tl rfl) h18 ?_
      replace hg4 := let_some hg4
      obtain ⟨x19, h19, hg4⟩ := hg4
      refine RT.leq (.some rfl rfl) _ rfl rfl (tl rfl) h19 ?_
      obtain rfl := Option.some.inj hg4
      refine RT.pickT .none rfl rfl (tl rfl) ?_
      refine RT.done ?_
      refine AThen.n ?_
      refine ⟨x19, h, ?_⟩
      try dsimp only
      exact weakL id rfl rfl rfl rfl rfl ⟨.ptr, .ptr, .ptr, .sv (SV.imp_refl _), .sv (SV.imp_refl _), .sv (SV.imp_refl _), trivial⟩ ⟨⟨_, rfl, ⟨.sv (SV.imp_refl _), .sv (SV.imp_refl _), trivial⟩⟩, ⟨_, rfl, ⟨.sv (SV.imp_refl _), .sv (SV.imp_refl _), trivial⟩⟩, ⟨_, rfl, ⟨.sv (SV.imp_refl _), .sv (SV.imp_refl _), trivial⟩⟩, trivial⟩ trivial (fun _ _ => rfl)
  · try dsimp only
    refine AThen.n ?_
    cases y20j2
    · replace h := br_f h
      refine ok_condF rfl ?_
      refine ok_skip ?_
      refine AThen.n ?_
      refine ok_seq ?_
      refine ok_region_draw mixed ?_
      refine RT.fieldAddr .none rfl (tl rfl) rfl ?_
      refine RT.ldV .none rfl rfl rfl (tl rfl) ?_
      refine RT.fieldAddr .none rfl (tl rfl) rfl ?_
      refine RT.ldV .none rfl rfl rfl (tl rfl) ?_
      replace h := let_some h
      obtain ⟨x36, h36, h⟩ := h
      refine RT.bneq .none _ rfl rfl (tl rfl) h36 ?_
      refine RT.mv .none rfl (tl rfl) ?_
      refine RT.mv .none rfl (tl rfl) ?_
      replace h := bind_some h
      obtain ⟨x39, h39, h⟩ := h
      refine RT.call .none (whole_mulWords_ok h39) rfl ⟨rfl, rfl, trivial⟩ (tl rfl) ?_
      replace h := bind_some h
      obtain ⟨⟨x40_0, x40_1⟩, h40, h⟩ := h
      refine RT.call .none (whole_build_ok h40) rfl ⟨rfl, rfl, trivial⟩ (tl rfl) ?_
      refine RT.store .none rfl rfl rfl rfl rfl ?_
      refine RT.done ⟨by kernel_rfl, ?_⟩
      refine AThen.n ?_
      refine ok_ret ?_
      obtain rfl := Option.some.inj h
      exact ⟨.inr rfl, res_imp (.agg rfl rfl (.cons rfl (.cons rfl (.nil))) rfl (.nil)) (SV.imp_refl _)⟩
    · replace h := br_t h
      refine ok_condT rfl ?_
      refine ok_seq ?_
      refine ok_region_draw mixed ?_
      refine RT.fieldAddr .none rfl (tl rfl) rfl ?_
      refine RT.ldV .none rfl rfl rfl (tl rfl) ?_
      refine RT.fieldAddr .none rfl (tl rfl) rfl ?_
      refine RT.ldV .none rfl rfl rfl (tl rfl) ?_
      replace h := let_some h
      obtain ⟨x25, h25, h⟩ := h
      refine RT.bneq .none _ rfl rfl (tl rfl) h25 ?_
      refine RT.mv .none rfl (tl rfl) ?_
      replace h := bind_some h
      obtain ⟨x27, h27, h⟩ := h
      refine RT.call .none (whole_low_ok h27) rfl ⟨rfl, trivial⟩ (tl rfl) ?_
      refine RT.mv .none rfl (tl rfl) ?_
      replace h := bind_some h
      obtain ⟨x29, h29, h⟩ := h
      refine RT.call .none (whole_low_ok h29) rfl ⟨rfl, trivial⟩ (tl rfl) ?_
      replace h := let_some h
      obtain ⟨x30, h30, h⟩ := h
      refine RT.mul .none _ rfl rfl (tl rfl) (UK.mul (a := x27) (b := x29) h30) ?_
      replace h := bind_some h
      obtain ⟨⟨x31_0, x31_1⟩, h31, h⟩ := h
      refine RT.call .none (whole_small_ok h31) rfl ⟨rfl, rfl, trivial⟩ (tl rfl) ?_
      refine RT.store .none rfl rfl rfl rfl rfl ?_
      refine RT.done ⟨by kernel_rfl, ?_⟩
      refine AThen.n ?_
      refine ok_ret ?_
      refine AThen.r ?_
      obtain rfl := Option.some.inj h
      exact ⟨.inr rfl, res_imp (.agg rfl rfl (.cons rfl (.cons rfl (.nil))) rfl (.nil)) (SV.imp_refl _)⟩
theorem whole_Neg_ok {x0 : Zr} {r : Zr} (h : whole_Neg_m x0 = some r) : Pure Try.prog 37 [.agg (eZ x0)] (.agg (eZ r)) := by
  obtain ⟨x0_0, x0_1⟩ := x0
  refine pure_of_ok Try.func37 rfl (Nat.le_of_ble_eq_true rfl) (fun wld M vs hvs => ?_)
  unfold whole_Neg_m at h
  refine ok_seq ?_
  refine ok_region ?_
  refine RT.box .none rfl (tl rfl) rfl rfl ?_
  refine RT.allocI .none (cs := [.v (.bool false), slc 1 (List.map eU32 [])]) (by exact ⟨SV.imp_refl _, imp_nil, trivial⟩) rfl (tl rfl) rfl rfl ?_
  refine RT.done ?_
  refine AThen.n ?_
  refine ok_seq ?_
  refine ok_region_draw mixed ?_
  refine RT.fieldAddr .none rfl (tl rfl) rfl ?_
  refine RT.ldV .none rfl rfl rfl (tl rfl) ?_
  replace h := let_some h
  obtain ⟨x5, h5, h⟩ := h
  refine RT.not .none rfl (tl rfl) _ h5 ?_
  refine RT.fieldAddr .none rfl (tl rfl) rfl ?_
  refine RT.ldV .none rfl rfl rfl (tl rfl) ?_
  replace h := bind_some h
  obtain ⟨x8, h8, h⟩ := h
  refine RT.call .none (whole_trim_ok h8) rfl ⟨rfl, trivial⟩ (tl rfl) ?_
  replace h := bind_some h
  obtain ⟨x9, h9, h⟩ := h
  refine RT.call .none (slices_Clone_ok h9) rfl ⟨rfl, trivial⟩ (tl rfl) ?_
  replace h := bind_some h
  obtain ⟨⟨x10_0, x10_1⟩, h10, h⟩ := h
  refine RT.call .none (whole_build_ok h10) rfl ⟨rfl, rfl, trivial⟩ (tl rfl) ?_
  refine RT.store .none rfl rfl rfl rfl rfl ?_
  refine RT.done ⟨by kernel_rfl, ?_⟩
  refine AThen.n ?_
  refine ok_ret ?_
  obtain rfl := Option.some.inj h
  exact ⟨.inr rfl, res_imp (.agg rfl rfl (.cons rfl (.cons rfl (.nil))) rfl (.nil)) (SV.imp_refl _)⟩
theorem whole_Abs_ok {x0 : Zr} {r : Zr} (h : whole_Abs_m x0 = some r) : Pure Try.prog 26 [.agg (eZ x0)] (.agg (eZ r)) := by
  obtain ⟨x0_0, x0_1⟩ := x0
  refine pure_of_ok Try.func26 rfl (Nat.le_of_ble_eq_true rfl) (fun wld M vs hvs => ?_)
  unfold whole_Abs_m at h
  refine ok_seq ?_
  refine ok_region ?_
  refine RT.box .none rfl (tl rfl) rfl rfl ?_
  refine RT.allocI .none (cs := [.v (.bool false), slc 1 (List.map eU32 [])]) (by exact ⟨SV.imp_refl _, imp_nil, trivial⟩) rfl (tl rfl) rfl rfl ?_
  refine RT.done ?_
  refine AThen.n ?_
  refine ok_seq ?_
  refine ok_region ?_
  refine RT.fieldAddr .none rfl (tl rfl) rfl ?_
  refine RT.ldV .none rfl rfl rfl (tl rfl) ?_
  replace h := bind_some h
  obtain ⟨x5, h5, h⟩ := h
  refine RT.call .none (whole_trim_ok h5) rfl ⟨rfl, trivial⟩ (tl rfl) ?_
  replace h := bind_some h
  obtain ⟨x6, h6, h⟩ := h
  refine RT.call .none (slices_Clone_ok h6) rfl ⟨rfl, trivial⟩ (tl rfl) ?_
  replace h := bind_some h
  obtain ⟨⟨x7_0, x7_1⟩, h7, h⟩ := h
  refine RT.call .none (whole_build_ok h7) rfl ⟨rfl, rfl, trivial⟩ (tl rfl) ?_
  refine RT.store .none rfl rfl rfl rfl rfl ?_
  refine RT.done ?_
  refine AThen.n ?_
  refine ok_ret ?_
  obtain rfl := Option.some.inj h
  exact ⟨.inr rfl, res_imp (.agg rfl rfl (.cons rfl (.cons rfl (.nil))) rfl (.nil)) (SV.imp_refl _)⟩
theorem whole_Sign_ok {x0 : Zr} {r : Int} (h : whole_Sign_m x0 = some r) : Pure Try.prog 22 [.agg (eZ x0)] (.v (.int .i64 r)) := by
  obtain ⟨x0_0, x0_1⟩ := x0
  refine pure_of_ok Try.func22 rfl (Nat.le_of_ble_eq_true rfl) (fun wld M vs hvs => ?_)
  unfold whole_Sign_m at h
  refine ok_seq ?_
  refine ok_region ?_
  refine RT.box .none rfl (tl rfl) rfl rfl ?_
  refine RT.asg .none rfl (tl rfl) ?_
  refine RT.done ?_
  refine AThen.n ?_
  refine ok_seq ?_
  refine ok_block ?_
  refine ok_seq ?_
  refine ok_region ?_
  refine RT.fieldAddr .none rfl (tl rfl) rfl ?_
  refine RT.ldV .none rfl rfl rfl (tl rfl) ?_
  replace h := bind_some h
  obtain ⟨x6, h6, h⟩ := h
  refine RT.call .none (whole_trim_ok h6) rfl ⟨rfl, trivial⟩ (tl rfl) ?_
  replace h := let_some h
  obtain ⟨x7, h7, h⟩ := h
  refine RT.lenM .none rfl (tl rfl) h7 ?_
  replace h := let_some h
  obtain ⟨x8, h8, h⟩ := h
  refine RT.eql .none _ rfl rfl (tl rfl) (eqI (p := x7) (q := 0) h8) ?_
  refine RT.asg .none rfl (tl rfl) ?_
  refine RT.done ?_
  refine AThen.n ?_
  cases x8
  · replace h := br_f h
    refine ok_condF rfl ?_
    refine ok_seq ?_
    refine ok_region ?_
    refine RT.fieldAddr .none rfl (tl rfl) rfl ?_
    refine RT.ldV .none rfl rfl rfl (tl rfl) ?_
    refine RT.asg .none rfl (tl rfl) ?_
    refine RT.done ?_
    refine AThen.n ?_
    cases x0_0
    · replace h := br_f h
      refine ok_condF rfl ?_
      refine ok_skip ?_
      refine AInB.n ?_
      refine AThen.n ?_
      refine ok_seq ?_
      refine ok_region ?_
      refine RT.asg .none rfl (tl rfl) ?_
      refine RT.done ?_
      refine AThen.n ?_
      refine ok_ret ?_
      obtain rfl := Option.some.inj h
      exact ⟨.inr rfl, res_imp (.tmp rfl (.nil)) (SV.imp_refl _)⟩
    · replace h := br_t h
      refine ok_condT rfl ?_
      refine ok_seq ?_
      refine ok_region ?_
      refine RT.asg .none rfl (tl rfl) ?_
      refine RT.done ?_
      refine AThen.n ?_
      refine ok_ret ?_
      refine AInB.r ?_
      refine AThen.r ?_
      obtain rfl := Option.some.inj h
      exact ⟨.inr rfl, res_imp (.tmp rfl (.nil)) (SV.imp_refl _)⟩
  · replace h := br_t h
    refine ok_condT rfl ?_
    refine ok_seq ?_
    refine ok_region ?_
    refine RT.asg .none rfl (tl rfl) ?_
    refine RT.done ?_
    refine AThen.n ?_
    refine ok_ret ?_
    refine AInB.r ?_
    refine AThen.r ?_
    obtain rfl := Option.some.inj h
    exact ⟨.inr rfl, res_imp (.tmp rfl (.nil)) (SV.imp_refl _)⟩
theorem whole_Cmp_ok {x0 : Zr} {x1 : Zr} {r : Int} (h : whole_Cmp_m x0 x1 = some r) : Pure Try.prog 23 [.agg (eZ x0), .agg (eZ x1)] (.v (.int .i64 r)) := by
  obtain ⟨x0_0, x0_1⟩ := x0
  obtain ⟨x1_0, x1_1⟩ := x1
  refine pure_of_ok Try.func23 rfl (Nat.le_of_ble_eq_true rfl) (fun wld M vs hvs => ?_)
  unfold whole_Cmp_m at h
  refine ok_seq ?_
  refine ok_region ?_
  refine RT.box .none rfl (tl rfl) rfl rfl ?_
  refine RT.box .none rfl (tl rfl) rfl rfl ?_
  refine RT.asg .none rfl (tl rfl) ?_
  refine RT.done ?_
  refine AThen.n ?_
  refine ok_seq ?_
  refine ok_region_draw mixed ?_
  refine RT.load .none rfl rfl (.cons rfl (.cons rfl (.nil))) rfl (tl rfl) ?_
  replace h := bind_some h
  obtain ⟨x8, h8, h⟩ := h
  refine RT.call .none (whole_Sign_ok h8) rfl ⟨rfl, trivial⟩ (tl rfl) ?_
  refine RT.load .none rfl rfl (.cons rfl (.cons rfl (.nil))) rfl (tl rfl) ?_
  replace h := bind_some h
  obtain ⟨x10, h10, h⟩ := h
  refine RT.call .none (whole_Sign_ok h10) rfl ⟨rfl, trivial⟩ (tl rfl) ?_
  refine RT.asg .none rfl (tl rfl) ?_
  refine RT.asg .none rfl (tl rfl) ?_
  refine RT.done ⟨by kernel_rfl, ?_⟩
  refine AThen.n ?_
  refine ok_seq ?_
  refine ok_block ?_
  refine ok_seq ?_
  refine ok_region ?_
  refine RT.mv .none rfl (tl rfl) ?_
  refine RT.mv .none rfl (tl rfl) ?_
  replace h := let_some h
  obtain ⟨x14, h14, h⟩ := h
  refine RT.lss .none _ rfl rfl (tl rfl) h14 ?_
  refine RT.asg .none rfl (tl rfl) ?_
  refine RT.done ?_
  refine AThen.n ?_
  cases x14
  · replace h := br_f h
    refine ok_condF rfl ?_
    refine ok_seq ?_
    refine ok_region ?_
    refine RT.mv .none rfl (tl rfl) ?_
    refine RT.mv .none rfl (tl rfl) ?_
    replace h := let_some h
    obtain ⟨x18, h18, h⟩ := h
    refine RT.gtr .none _ rfl rfl (tl rfl) h18 ?_
    refine RT.asg .none rfl (tl rfl) ?_
    refine RT.done ?_
    refine AThen.n ?_
    cases x18
    · replace h := br_f h
      refine ok_condF rfl ?_
      refine ok_seq ?_
      refine ok_region ?_
      refine RT.mv .none rfl (tl rfl) ?_
      replace h := let_some h
      obtain ⟨x21, h21, h⟩ := h
      refine RT.lss .none _ rfl rfl (tl rfl) h21 ?_
      refine RT.asg .none rfl (tl rfl) ?_
      refine RT.done ?_
      refine AThen.n ?_
      cases x21
      · replace h := br_f h
        refine ok_condF rfl ?_
        refine ok_skip ?_
        refine AInB.n ?_
        refine AThen.n ?_
        refine ok_seq ?_
        refine ok_region_draw mixed ?_
        refine RT.fieldAddr .none rfl (tl rfl) rfl ?_
        refine RT.ldV .none rfl rfl rfl (tl rfl) ?_
        replace h := bind_some h
        obtain ⟨x31, h31, h⟩ := h
        refine RT.call .none (whole_trim_ok h31) rfl ⟨rfl, trivial⟩ (tl rfl) ?_
        refine RT.fieldAddr .none rfl (tl rfl) rfl ?_
        refine RT.ldV .none rfl rfl rfl (tl rfl) ?_
        replace h := bind_some h
        obtain ⟨x34, h34, h⟩ := h
        refine RT.call .none (whole_trim_ok h34) rfl ⟨rfl, trivial⟩ (tl rfl) ?_
        replace h := bind_some h
        obtain ⟨x35, h35, h⟩ := h
        refine RT.call .none (whole_compareWords_ok h35) rfl ⟨rfl, rfl, trivial⟩ (tl rfl) ?_
        refine RT.asg .none rfl (tl rfl) ?_
        refine RT.done ⟨by kernel_rfl, ?_⟩
        refine AThen.n ?_
        refine ok_ret ?_
        obtain rfl := Option.some.inj h
        exact ⟨.inr rfl, res_imp (.tmp rfl (.nil)) (SV.imp_refl _)⟩
      · replace h := br_t h
        refine ok_condT rfl ?_
        refine ok_seq ?_
        refine ok_region_draw mixed ?_
        refine RT.fieldAddr .none rfl (tl rfl) rfl ?_
        refine RT.ldV .none rfl rfl rfl (tl rfl) ?_
        replace h := bind_some h
        obtain ⟨x24, h24, h⟩ := h
        refine RT.call .none (whole_trim_ok h24) rfl ⟨rfl, trivial⟩ (tl rfl) ?_
        refine RT.fieldAddr .none rfl (tl rfl) rfl ?_
        refine RT.ldV .none rfl rfl rfl (tl rfl) ?_
        replace h := bind_some h
        obtain ⟨x27, h27, h⟩ := h
        refine RT.call .none (whole_trim_ok h27) rfl ⟨rfl, trivial⟩ (tl rfl) ?_
        replace h := bind_some h
        obtain ⟨x28, h28, h⟩ := h
        refine RT.call .none (whole_compareWords_ok h28) rfl ⟨rfl, rfl, trivial⟩ (tl rfl) ?_
        refine RT.asg .none rfl (tl rfl) ?_
        refine RT.done ⟨by kernel_rfl, ?_⟩
        refine AThen.n ?_
        refine ok_ret ?_
        refine AInB.r ?_
        refine AThen.r ?_
        obtain rfl := Option.some.inj h
        exact ⟨.inr rfl, res_imp (.tmp rfl (.nil)) (SV.imp_refl _)⟩
    · replace h := br_t h
      refine ok_condT rfl ?_
      refine ok_seq ?_
      refine ok_region ?_
      refine RT.asg .none rfl (tl rfl) ?_
      refine RT.done ?_
      refine AThen.n ?_
      refine ok_ret ?_
      refine AInB.r ?_
      refine AThen.r ?_
      obtain rfl := Option.some.inj h
      exact ⟨.inr rfl, res_imp (.tmp rfl (.nil)) (SV.imp_refl _)⟩
  · replace h := br_t h
    refine ok_condT rfl ?_
    refine ok_seq ?_
    refine ok_region ?_
    refine RT.asg .none rfl (tl rfl) ?_
    refine RT.done ?_
    refine AThen.n ?_
    refine ok_ret ?_
    refine AInB.r ?_
    refine AThen.r ?_
    obtain rfl := Option.some.inj h
    exact ⟨.inr rfl, res_imp (.tmp rfl (.nil)) (SV.imp_refl _)⟩
theorem whole_DivMod_ok {x0 : Zr} {x1 : Zr} {r : Zr × Zr × Int} (h : whole_DivMod_m x0 x1 = some r) : Pure Try.prog 12 [.agg (eZ x0), .agg (eZ x1)] (.tup [.agg (eZ r.1), .agg (eZ r.2.1), .v (.int .i64 r.2.2)]) := by
  obtain ⟨x0_0, x0_1⟩ := x0
  obtain ⟨x1_0, x1_1⟩ := x1
  refine pure_of_ok Try.func12 rfl (Nat.le_of_ble_eq_true rfl) (fun wld M vs hvs => ?_)
  unfold whole_DivMod_m at h
  refine ok_seq ?_
  refine ok_region ?_
  refine RT.box .none rfl (tl rfl) rfl rfl ?_
  refine RT.box .none rfl (tl rfl) rfl rfl ?_
  refine RT.allocI .none (cs := [.v (.bool false), slc 1 (List.map eU32 [])]) (by exact ⟨SV.imp_refl _, imp_nil, trivial⟩) rfl (tl rfl) rfl rfl ?_
  refine RT.allocI .none (cs := [.v (.bool false), slc 1 (List.map eU32 [])]) (by exact ⟨SV.imp_refl _, imp_nil, trivial⟩) rfl (tl rfl) rfl rfl ?_
  refine RT.asg .none rfl (tl rfl) ?_
  refine RT.done ?_
  refine AThen.n ?_
  refine ok_seq ?_
  refine ok_region_draw mixed ?_
  refine RT.fieldAddr .none rfl (tl rfl) rfl ?_
  refine RT.ldV .none rfl rfl rfl (tl rfl) ?_
  replace h := bind_some h
  obtain ⟨x13, h13, h⟩ := h
  refine RT.call .none (whole_trim_ok h13) rfl ⟨rfl, trivial⟩ (tl rfl) ?_
  refine RT.fieldAddr .none rfl (tl rfl) rfl ?_
  refine RT.ldV .none rfl rfl rfl (tl rfl) ?_
  replace h := bind_some h
  obtain ⟨x16, h16, h⟩ := h
  refine RT.call .none (whole_trim_ok h16) rfl ⟨rfl, trivial⟩ (tl rfl) ?_
  refine RT.asg .none rfl (tl rfl) ?_
  refine RT.asg .none rfl (tl rfl) ?_
  refine RT.done ⟨by kernel_rfl, ?_⟩
  refine AThen.n ?_
  refine ok_seq ?_
  refine ok_seq ?_
  refine ok_region ?_
  refine RT.mv .none rfl (tl rfl) ?_
  replace h := let_some h
  obtain ⟨x18, h18, h⟩ := h
  refine RT.lenM .none rfl (tl rfl) h18 ?_
  replace h := let_some h
  obtain ⟨x19, h19, h⟩ := h
  refine RT.eql .none _ rfl rfl (tl rfl) (eqI (p := x18) (q := 0) h19) ?_
  refine RT.done ?_
  refine AThen.n ?_
  cases x19
  · replace h := br_f h
    refine ok_condF rfl ?_
    refine ok_skip ?_
    refine AThen.n ?_
    refine ok_seq ?_
    refine ok_region ?_
    refine RT.mv .none rfl (tl rfl) ?_
    refine RT.mv .none rfl (tl rfl) ?_
    replace h := bind_some h
    obtain ⟨⟨x25a, x25b⟩, h25, h⟩ := h
    refine RT.call .none (whole_divWords_ok h25) rfl ⟨rfl, rfl, trivial⟩ (tl rfl) ?_
    refine RT.mv .none rfl (tl rfl) ?_
    refine RT.extract .none rfl rfl (tl rfl) ?_
    refine RT.extract .none rfl rfl (tl rfl) ?_
    refine RT.asg .none rfl (tl rfl) ?_
    refine RT.asg .none rfl (tl rfl) ?_
    refine RT.done ?_
    refine AThen.n ?_
    refine ok_seq ?_
    refine ok_region ?_
    refine RT.mv .none rfl (tl rfl) ?_
    replace h := bind_some h
    obtain ⟨x29, h29, h⟩ := h
    refine RT.call .none (whole_trim_ok h29) rfl ⟨rfl, trivial⟩ (tl rfl) ?_
    refine RT.asg .none rfl (tl rfl) ?_
    refine RT.done ?_
    refine AThen.n ?_
    refine ok_seq ?_
    refine ok_seq ?_
    refine ok_tailJ h (fun j3 => AS.mkL 52 [(2, .ptr 2 0), (3, .ptr 3 0), (4, .ptr 4 0), (5, .ptr 5 0), (8, .sv (slc 1 (List.map eU32 x16))), (9, .sv (slc 1 (List.map eU32 x25a))), (10, .sv (slc 1 (List.map eU32 x29))), (36, .sv (.v (.bool j3.1)))] [(5, ⟨24, [.sv (.v (.bool false)), .sv (slc 1 (List.map eU32 []))]⟩), (4, ⟨24, [.sv (.v (.bool false)), .sv (slc 1 (List.map eU32 []))]⟩), (3, ⟨24, [.sv (.v (.bool x1_0)), .sv (slc 1 (List.map eU32 x1_1))]⟩), (2, ⟨24, [.sv (.v (.bool j3.2)), .sv (slc 1 (List.map eU32 x0_1))]⟩)] []) (fun h => ?_) (fun j3 h => ?_)
    · refine ok_region ?_
      refine RT.fieldAddr .none rfl (tl rfl) rfl ?_
      refine RT.ldV .none rfl rfl rfl (tl rfl) ?_
      refine RT.mv .none rfl (tl rfl) ?_
      replace h := bind_some h
      obtain ⟨c36_6, hg6, h⟩ := h
      cases x0_0
      · replace hg6 := br_f hg6
        obtain rfl := Option.some.inj hg6
        refine RT.skV rfl rfl (sk rfl) (tl rfl) ?_
        refine RT.skV rfl rfl (sk rfl) (tl rfl) ?_
        refine RT.skV rfl rfl (sk rfl) (tl rfl) ?_
        refine RT.pickF .none rfl rfl (tl rfl) ?_
        refine RT.done ?_
        refine AThen.n ?_
        refine ⟨(false, false), h, ?_⟩
        try dsimp only
        exact weakL id rfl rfl rfl rfl rfl ⟨.ptr, .ptr, .ptr, .ptr, .sv (SV.imp_refl _), .sv (SV.imp_refl _), .sv (SV.imp_refl _), .sv (SV.imp_refl _), trivial⟩ ⟨⟨_, rfl, ⟨.sv (SV.imp_refl _), .sv (SV.imp_refl _), trivial⟩⟩, ⟨_, rfl, ⟨.sv (SV.imp_refl _), .sv (SV.imp_refl _), trivial⟩⟩, ⟨_, rfl, ⟨.sv (SV.imp_refl _), .sv (SV.imp_refl _), trivial⟩⟩, ⟨_, rfl, ⟨.sv (SV.imp_refl _), .sv (SV.imp_refl _), trivial⟩⟩, trivial⟩ trivial (fun _ _ => rfl)
      · replace hg6 := br_t hg6
        refine RT.mv (.some rfl rfl) rfl (tl rfl) ?_
        replace hg6 := let_some hg6
        obtain ⟨x34, h34, hg6⟩ := hg6
        refine RT.lenM (.some rfl rfl) rfl (tl rfl) h34 ?_
        replace hg6 := let_some hg6
        obtain ⟨x35, h35, hg6⟩ := hg6
        refine RT.gtr (.some rfl rfl) _ rfl rfl (tl rfl) h35 ?_
        obtain rfl := Option.some.inj hg6
        refine RT.pickT .none rfl rfl (tl rfl) ?_
        refine RT.done ?_
        refine AThen.n ?_
        refine ⟨(x35, true), h, ?_⟩
        try dsimp only
        exact weakL id rfl rfl rfl rfl rfl ⟨.ptr, .ptr, .ptr, .ptr, .sv (SV.imp_refl _), .sv (SV.imp_refl _), .sv (SV.imp_refl _), .sv (SV.imp_refl _), trivial⟩ ⟨⟨_, rfl, ⟨.sv (SV.imp_refl _), .sv (SV.imp_refl _), trivial⟩⟩, ⟨_, rfl, ⟨.sv (SV.imp_refl _), .sv (SV.imp_refl _), trivial⟩⟩, ⟨_, rfl, ⟨.sv (SV.imp_refl _), .sv (SV.imp_refl _), trivial⟩⟩, ⟨_, rfl, ⟨.sv (SV.imp_refl _), .sv (SV.imp_refl _), trivial⟩⟩, trivial⟩ trivial (fun _ _ => rfl)
    · obtain ⟨y36j2, b2_0j2⟩ := j3
      try dsimp only
      refine AThen.n ?_
      refine ok_tailJ h (fun j5 => AS.mkL 52 [(2, .ptr 2 0), (3, .ptr 3 0), (4, .ptr 4 0), (5, .ptr 5 0), (9, .sv (slc 1 (List.map eU32 j5.1))), (10, .sv (slc 1 (List.map eU32 j5.2)))] [(5, ⟨24, [.sv (.v (.bool false)), .sv (slc 1 (List.map eU32 []))]⟩), (4, ⟨24, [.sv (.v (.bool false)), .sv (slc 1 (List.map eU32 []))]⟩), (3, ⟨24, [.sv (.v (.bool x1_0)), .sv (slc 1 (List.map eU32 x1_1))]⟩), (2, ⟨24, [.sv (.v (.bool b2_0j2)), .sv (slc 1 (List.map eU32 x0_1))]⟩)] []) (fun h => ?_) (fun j5 h => ?_)
      · cases y36j2
        · replace h := br_f h
          refine ok_condF rfl ?_
          refine ok_skip ?_
          refine AThen.n ?_
          refine ⟨(x25a, x29), h, ?_⟩
          try dsimp only
          exact weakL id rfl rfl rfl rfl rfl ⟨.ptr, .ptr, .ptr, .ptr, .sv (SV.imp_refl _), .sv (SV.imp_refl _), trivial⟩ ⟨⟨_, rfl, ⟨.sv (SV.imp_refl _), .sv (SV.imp_refl _), trivial⟩⟩, ⟨_, rfl, ⟨.sv (SV.imp_refl _), .sv (SV.imp_refl _), trivial⟩⟩, ⟨_, rfl, ⟨.sv (SV.imp_refl _), .sv (SV.imp_refl _), trivial⟩⟩, ⟨_, rfl, ⟨.sv (SV.imp_refl _), .sv (SV.imp_refl _), trivial⟩⟩, trivial⟩ trivial (fun _ _ => rfl)
        · replace h := br_t h
          refine ok_condT rfl ?_
          refine ok_seq ?_
          refine ok_region ?_
          refine RT.mv .none rfl (tl rfl) ?_
          refine RT.buildSl (l := [1]) (e := eU32) .none (.one rfl (.nil)) (tl rfl) rfl rfl rfl rfl rfl rfl ?_
          replace h := bind_some h
          obtain ⟨x39, h39, h⟩ := h
          refine RT.call .none (whole_addWords_ok h39) rfl ⟨rfl, rfl, trivial⟩ (tl rfl) ?_
          refine RT.asg .none rfl (tl rfl) ?_
          refine RT.done ?_
          refine AThen.n ?_
          refine ok_region ?_
          refine RT.mv .none rfl (tl rfl) ?_
          refine RT.mv .none rfl (tl rfl) ?_
          replace h := bind_some h
          obtain ⟨x42, h42, h⟩ := h
          refine RT.call .none (whole_subWords_ok h42) rfl ⟨rfl, rfl, trivial⟩ (tl rfl) ?_
          refine RT.asg .none rfl (tl rfl) ?_
          refine RT.done ?_
          refine AThen.n ?_
          refine ⟨(x39, x42), h, ?_⟩
          try dsimp only
          exact weakL id rfl rfl rfl rfl rfl ⟨.ptr, .ptr, .ptr, .ptr, .sv (SV.imp_refl _), .sv (SV.imp_refl _), trivial⟩ ⟨⟨_, rfl, ⟨.sv (SV.imp_refl _), .sv (SV.imp_refl _), trivial⟩⟩, ⟨_, rfl, ⟨.sv (SV.imp_refl _), .sv (SV.imp_refl _), trivial⟩⟩, ⟨_, rfl, ⟨.sv (SV.imp_refl _), .sv (SV.imp_refl _), trivial⟩⟩, ⟨_, rfl, ⟨.sv (SV.imp_refl _), .sv (SV.imp_refl _), trivial⟩⟩, trivial⟩ trivial (fun _ _ => rfl)
      · obtain ⟨y9j4, y10j4⟩ := j5
        try dsimp only
        refine AThen.n ?_
        refine ok_seq ?_
        refine ok_region ?_
        refine RT.fieldAddr .none rfl (tl rfl) rfl ?_
        refine RT.ldV .none rfl rfl rfl (tl rfl) ?_
        refine RT.fieldAddr .none rfl (tl rfl) rfl ?_
        refine RT.ldV .none rfl rfl rfl (tl rfl) ?_
        replace h := let_some h
        obtain ⟨x47, h47, h⟩ := h
        refine RT.bneq .none _ rfl rfl (tl rfl) h47 ?_
        refine RT.mv .none rfl (tl rfl) ?_
        replace h := bind_some h
        obtain ⟨⟨x49_0, x49_1⟩, h49, h⟩ := h
        refine RT.call .none (whole_build_ok h49) rfl ⟨rfl, rfl, trivial⟩ (tl rfl) ?_
        refine RT.mv .none rfl (tl rfl) ?_
        replace h := bind_some h
        obtain ⟨⟨x51_0, x51_1⟩, h51, h⟩ := h
        refine RT.call .none (whole_build_ok h51) rfl ⟨rfl, rfl, trivial⟩ (tl rfl) ?_
        refine RT.store .none rfl rfl rfl rfl rfl ?_
        refine RT.store .none rfl rfl rfl rfl rfl ?_
        refine RT.asg .none rfl (tl rfl) ?_
        refine RT.done ?_
        refine AThen.n ?_
        refine ok_ret ?_
        obtain rfl := Option.some.inj h
        exact ⟨.inr rfl, res_imp (.agg rfl rfl (.cons rfl (.cons rfl (.nil))) rfl (.agg rfl rfl (.cons rfl (.cons rfl (.nil))) rfl (.tmp rfl (.nil)))) (SV.imp_refl _)⟩
  · replace h := br_t h
    refine ok_condT rfl ?_
    refine ok_seq ?_
    refine ok_region ?_
    refine RT.buildI (cs := [_, _]) (cs' := [.v (.bool false), slc 1 (List.map eU32 [])]) .none (.nil) rfl ⟨SV.imp_refl _, imp_nil, trivial⟩ (tl rfl) ?_
    refine RT.buildI (cs := [_, _]) (cs' := [.v (.bool false), slc 1 (List.map eU32 [])]) .none (.nil) rfl ⟨SV.imp_refl _, imp_nil, trivial⟩ (tl rfl) ?_
    refine RT.store .none rfl rfl rfl rfl rfl ?_
    refine RT.store .none rfl rfl rfl rfl rfl ?_
    refine RT.asg .none rfl (tl rfl) ?_
    refine RT.done ?_
    refine AThen.n ?_
    refine ok_ret ?_
    refine AThen.r ?_
    obtain rfl := Option.some.inj h
    exact ⟨.inr rfl, res_imp (.agg rfl rfl (.cons rfl (.cons rfl (.nil))) rfl (.agg rfl rfl (.cons rfl (.cons rfl (.nil))) rfl (.tmp rfl (.nil)))) (SV.imp_refl _)⟩
theorem whole_GCD_ok {x0 : Zr} {x1 : Zr} {r : Zr} (h : whole_GCD_m x0 x1 = some r) : Pure Try.prog 15 [.agg (eZ x0), .agg (eZ x1)] (.agg (eZ r)) := by
  obtain ⟨x0_0, x0_1⟩ := x0
  obtain ⟨x1_0, x1_1⟩ := x1
  refine pure_of_ok Try.func15 rfl (Nat.le_of_ble_eq_true rfl) (fun wld M vs hvs => ?_)
  unfold whole_GCD_m at h
  refine ok_seq ?_
  refine ok_region ?_
  refine RT.box .none rfl (tl rfl) rfl rfl ?_
  refine RT.box .none rfl (tl rfl) rfl rfl ?_
  refine RT.allocI .none (cs := [.v (.bool false), slc 1 (List.map eU32 [])]) (by exact ⟨SV.imp_refl _, imp_nil, trivial⟩) rfl (tl rfl) rfl rfl ?_
  refine RT.done ?_
  refine AThen.n ?_
  refine ok_seq ?_
  refine ok_region_draw mixed ?_
  refine RT.fieldAddr .none rfl (tl rfl) rfl ?_
  refine RT.ldV .none rfl rfl rfl (tl rfl) ?_
  replace h := bind_some h
  obtain ⟨x13, h13, h⟩ := h
  refine RT.call .none (whole_trim_ok h13) rfl ⟨rfl, trivial⟩ (tl rfl) ?_
  refine RT.fieldAddr .none rfl (tl rfl) rfl ?_
  refine RT.ldV .none rfl rfl rfl (tl rfl) ?_
  replace h := bind_some h
  obtain ⟨x16, h16, h⟩ := h
  refine RT.call .none (whole_trim_ok h16) rfl ⟨rfl, trivial⟩ (tl rfl) ?_
  refine RT.asg .none rfl (tl rfl) ?_
  refine RT.asg .none rfl (tl rfl) ?_
  refine RT.done ⟨by kernel_rfl, ?_⟩
  refine AThen.n ?_
  refine ok_seq ?_
  replace h := bind_some h
  obtain ⟨e12, hl12, ho12⟩ := h
  refine ok_tailP (fun (xe12 : (List Nat) × (List Nat)) => AS.mkL 57 [(4, .ptr 4 0), (5, .sv (slc 1 (List.map eU32 xe12.1))), (6, .sv (slc 1 (List.map eU32 xe12.2)))] [(4, ⟨24, [.sv (.v (.bool false)), .sv (slc 1 (List.map eU32 []))]⟩)] []) (fun xe12 => xe12 = e12) ?_ (fun xe12 hx12 => ?_)
  · refine ok_block ?_
    refine ok_loopM hl12 (fun s12 => AS.mkL 57 [(4, .ptr 4 0), (5, .sv (slc 1 (List.map eU32 s12.1))), (6, .sv (slc 1 (List.map eU32 s12.2)))] [(4, ⟨24, [.sv (.v (.bool false)), .sv (slc 1 (List.map eU32 []))]⟩)] []) (by (try dsimp only); exact weakL id rfl rfl rfl rfl rfl ⟨.ptr, .sv (SV.imp_refl _), .sv (SV.imp_refl _), trivial⟩ ⟨⟨_, rfl, ⟨.sv (SV.imp_refl _), .sv (SV.imp_refl _), trivial⟩⟩, trivial⟩ trivial (fun _ _ => rfl)) (fun s12 y12 G12 h hG12 hE12 => ?_)
    obtain ⟨y5l6, y6l6⟩ := s12
    try dsimp only
    refine ok_seq ?_
    refine ok_seq ?_
    refine ok_tailJ h (fun j16 => AS.mkL 57 [(4, .ptr 4 0), (5, .sv (slc 1 (List.map eU32 y5l6))), (6, .sv (slc 1 (List.map eU32 y6l6))), (29, .sv (.v (.bool j16)))] [(4, ⟨24, [.sv (.v (.bool false)), .sv (slc 1 (List.map eU32 []))]⟩)] []) (fun h => ?_) (fun y29j15 h => ?_)
    · refine ok_region ?_
      refine RT.mv .none rfl (tl rfl) ?_
      replace h := let_some h
      obtain ⟨x18, h18, h⟩ := h
      refine RT.lenM .none rfl (tl rfl) h18 ?_
      replace h := let_some h
      obtain ⟨x19, h19, h⟩ := h
      refine RT.gtr .none _ rfl rfl (tl rfl) h19 ?_
      refine RT.mv .none rfl (tl rfl) ?_
      replace h := bind_some h
      obtain ⟨c29_17, hg17, h⟩ := h
      cases x19
      · replace hg17 := br_f hg17
        obtain rfl := Option.some.inj hg17
        refine RT.skV rfl rfl (sk rfl) (tl rfl) ?_
        refine RT.skV rfl rfl (sk rfl) (tl rfl) ?_
        refine RT.skV rfl rfl (sk rfl) (tl rfl) ?_
        refine RT.skV rfl rfl (sk rfl) (tl rfl) ?_
        refine RT.skipU rfl rfl (tl rfl) ?_
        refine RT.skipU rfl rfl (tl rfl) ?_
        refine RT.skipU rfl rfl (tl rfl) ?_
        refine RT.skV rfl rfl (sk rfl) (tl rfl) ?_
        refine RT.pickF .none rfl rfl (tl rfl) ?_
        refine RT.done ?_
        refine AThen.n ?_
        refine ⟨false, h, ?_⟩
        try dsimp only
        exact weakL id rfl rfl rfl rfl rfl ⟨.ptr, .sv (SV.imp_refl _), .sv (SV.imp_refl _), .sv (SV.imp_refl _), trivial⟩ ⟨⟨_, rfl, ⟨.sv (SV.imp_refl _), .sv (SV.imp_refl _), trivial⟩⟩, trivial⟩ trivial (fun _ _ => rfl)
      · replace hg17 := br_t hg17
        refine RT.mv (.some rfl rfl) rfl (tl rfl) ?_
        replace hg17 := let_some hg17
        obtain ⟨x22, h22, hg17⟩ := hg17
        refine RT.lenM (.some rfl rfl) rfl (tl rfl) h22 ?_
        replace hg17 := let_some hg17
        obtain ⟨x23, h23, hg17⟩ := hg17
        refine RT.gtr (.some rfl rfl) _ rfl rfl (tl rfl) h23 ?_
        refine RT.mv (.some rfl rfl) rfl (tl rfl) ?_
        replace hg17 := bind_some hg17
        obtain ⟨c28_18, hg18, hg17⟩ := hg17
        cases x23
        · replace hg18 := br_f hg18
          refine RT.mv (.some rfl rfl) rfl (tl rfl) ?_
          replace hg18 := let_some hg18
          obtain ⟨x26, h26, hg18⟩ := hg18
          refine RT.lenM (.some rfl rfl) rfl (tl rfl) h26 ?_
          replace hg18 := let_some hg18
          obtain ⟨x27, h27, hg18⟩ := hg18
          refine RT.gtr (.some rfl rfl) _ rfl rfl (tl rfl) h27 ?_
          obtain rfl := Option.some.inj hg18
          refine RT.pickF (.some rfl rfl) rfl rfl (tl rfl) ?_
          obtain rfl := Option.some.inj hg17
          refine RT.pickT .none rfl rfl (tl rfl) ?_
          refine RT.done ?_
          refine AThen.n ?_
          refine ⟨x27, h, ?_⟩
          try dsimp only
          exact weakL id rfl rfl rfl rfl rfl ⟨.ptr, .sv (SV.imp_refl _), .sv (SV.imp_refl _), .sv (SV.imp_refl _), trivial⟩ ⟨⟨_, rfl, ⟨.sv (SV.imp_refl _), .sv (SV.imp_refl _), trivial⟩⟩, trivial⟩ trivial (fun _ _ => rfl)
        · replace hg18 := br_t hg18
          obtain rfl := Option.some.inj hg18
          refine RT.skV rfl rfl (sk rfl) (tl rfl) ?_
          refine RT.skV rfl rfl (sk rfl) (tl rfl) ?_
          refine RT.skV rfl rfl (sk rfl) (tl rfl) ?_
          refine RT.pickT (.some rfl rfl) rfl rfl (tl rfl) ?_
          obtain rfl := Option.some.inj hg17
          refine RT.pickT .none rfl rfl (tl rfl) ?_
          refine RT.done ?_
          refine AThen.n ?_
          refine ⟨true, h, ?_⟩
          try dsimp only
          exact weakL id rfl rfl rfl rfl rfl ⟨.ptr, .sv (SV.imp_refl _), .sv (SV.imp_refl _), .sv (SV.imp_refl _), trivial⟩ ⟨⟨_, rfl, ⟨.sv (SV.imp_refl _), .sv (SV.imp_refl _), trivial⟩⟩, trivial⟩ trivial (fun _ _ => rfl)
    · try dsimp only
      refine AThen.n ?_
      cases y29j15
      · replace h := br_f h
        refine ok_condF rfl ?_
        refine ok_exit ?_
        refine AThen.x ?_
        refine AThen.x ?_
        refine AInB.x ?_
        refine AThen.n ?_
        obtain rfl := Option.some.inj h
        refine ⟨(y5l6, y6l6), hE12 _ rfl, ?_⟩
        try dsimp only
        exact weakL id rfl rfl rfl rfl rfl ⟨.ptr, .sv (SV.imp_refl _), .sv (SV.imp_refl _), trivial⟩ ⟨⟨_, rfl, ⟨.sv (SV.imp_refl _), .sv (SV.imp_refl _), trivial⟩⟩, trivial⟩ trivial (fun _ _ => rfl)
      · replace h := br_t h
        refine ok_condT rfl ?_
        refine ok_skip ?_
        refine AThen.n ?_
        refine ok_block ?_
        refine ok_seq ?_
        refine ok_region ?_
        refine RT.mv .none rfl (tl rfl) ?_
        refine RT.mv .none rfl (tl rfl) ?_
        replace h := bind_some h
        obtain ⟨⟨x33a, x33b⟩, h33, h⟩ := h
        refine RT.call .none (whole_divWords_ok h33) rfl ⟨rfl, rfl, trivial⟩ (tl rfl) ?_
        refine RT.mv .none rfl (tl rfl) ?_
        refine RT.extract .none rfl rfl (tl rfl) ?_
        refine RT.extract .none rfl rfl (tl rfl) ?_
        refine RT.asg .none rfl (tl rfl) ?_
        refine RT.asg .none rfl (tl rfl) ?_
        refine RT.done ?_
        refine AThen.n ?_
        refine ok_region ?_
        refine RT.mv .none rfl (tl rfl) ?_
        refine RT.mv .none rfl (tl rfl) ?_
        replace h := bind_some h
        obtain ⟨x38, h38, h⟩ := h
        refine RT.call .none (whole_trim_ok h38) rfl ⟨rfl, trivial⟩ (tl rfl) ?_
        refine RT.asg .none rfl (tl rfl) ?_
        refine RT.asg .none rfl (tl rfl) ?_
        refine RT.done ?_
        refine AInB.n ?_
        obtain rfl := Option.some.inj h
        refine AThen.n ⟨(y6l6, x38), hG12 _ rfl, ?_⟩
        try dsimp only
        exact weakL id rfl rfl rfl rfl rfl ⟨.ptr, .sv (SV.imp_refl _), .sv (SV.imp_refl _), trivial⟩ ⟨⟨_, rfl, ⟨.sv (SV.imp_refl _), .sv (SV.imp_refl _), trivial⟩⟩, trivial⟩ trivial (fun _ _ => rfl)
  · subst hx12
    obtain ⟨y5e11, y6e11⟩ := xe12
    try dsimp only
    refine AThen.n ?_
    refine ok_seq ?_
    refine ok_seq ?_
    refine ok_region ?_
    refine RT.mv .none rfl (tl rfl) ?_
    replace ho12 := let_some ho12
    obtain ⟨x40, h40, ho12⟩ := ho12
    refine RT.lenM .none rfl (tl rfl) h40 ?_
    replace ho12 := let_some ho12
    obtain ⟨x41, h41, ho12⟩ := ho12
    refine RT.eql .none _ rfl rfl (tl rfl) (eqI (p := x40) (q := 0) h41) ?_
    refine RT.done ?_
    refine AThen.n ?_
    cases x41
    · replace ho12 := br_f ho12
      refine ok_condF rfl ?_
      refine ok_skip ?_
      refine AThen.n ?_
      refine ok_seq ?_
      refine ok_region ?_
      refine RT.mv .none rfl (tl rfl) ?_
      replace ho12 := bind_some ho12
      obtain ⟨x46, h46, ho12⟩ := ho12
      refine RT.call .none (whole_low_ok h46) rfl ⟨rfl, trivial⟩ (tl rfl) ?_
      refine RT.mv .none rfl (tl rfl) ?_
      replace ho12 := bind_some ho12
      obtain ⟨x48, h48, ho12⟩ := ho12
      refine RT.call .none (whole_low_ok h48) rfl ⟨rfl, trivial⟩ (tl rfl) ?_
      refine RT.asg .none rfl (tl rfl) ?_
      refine RT.asg .none rfl (tl rfl) ?_
      refine RT.done ?_
      refine AThen.n ?_
      refine ok_seq ?_
      replace ho12 := bind_some ho12
      obtain ⟨e24, hl24, ho24⟩ := ho12
      refine ok_tailP (fun (y9e23 : Nat) => AS.mkL 57 [(4, .ptr 4 0), (9, .sv (.v (.int .u64 ((y9e23 : Nat) : Int))))] [(4, ⟨24, [.sv (.v (.bool false)), .sv (slc 1 (List.map eU32 []))]⟩)] []) (fun y9e23 => y9e23 = e24) ?_ (fun y9e23 hx24 => ?_)
      · refine ok_block ?_
        refine ok_loopM hl24 (fun s24 => AS.mkL 57 [(4, .ptr 4 0), (9, .sv (.v (.int .u64 ((s24.1 : Nat) : Int)))), (10, .sv (.v (.int .u64 ((s24.2 : Nat) : Int))))] [(4, ⟨24, [.sv (.v (.bool false)), .sv (slc 1 (List.map eU32 []))]⟩)] []) (by (try dsimp only); exact weakL id rfl rfl rfl rfl rfl ⟨.ptr, .sv (SV.imp_refl _), .sv (SV.imp_refl _), trivial⟩ ⟨⟨_, rfl, ⟨.sv (SV.imp_refl _), .sv (SV.imp_refl _), trivial⟩⟩, trivial⟩ trivial (fun _ _ => rfl)) (fun s24 y24 G24 h hG24 hE24 => ?_)
        obtain ⟨y9l21, y10l21⟩ := s24
        try dsimp only
        refine ok_seq ?_
        refine ok_seq ?_
        refine ok_region ?_
        refine RT.mv .none rfl (tl rfl) ?_
        replace h := let_some h
        obtain ⟨x50, h50, h⟩ := h
        refine RT.gtr .none _ rfl rfl (tl rfl) (ltN (p := 0) (q := y10l21) h50) ?_
        refine RT.done ?_
        refine AThen.n ?_
        cases x50
        · replace h := br_f h
          refine ok_condF rfl ?_
          refine ok_exit ?_
          refine AThen.x ?_
          refine AThen.x ?_
          refine AInB.x ?_
          refine AThen.n ?_
          obtain rfl := Option.some.inj h
          refine ⟨y9l21, hE24 _ rfl, ?_⟩
          try dsimp only
          exact weakL id rfl rfl rfl rfl rfl ⟨.ptr, .sv (SV.imp_refl _), trivial⟩ ⟨⟨_, rfl, ⟨.sv (SV.imp_refl _), .sv (SV.imp_refl _), trivial⟩⟩, trivial⟩ trivial (fun _ _ => rfl)
        · replace h := br_t h
          refine ok_condT rfl ?_
          refine ok_skip ?_
          refine AThen.n ?_
          refine ok_block ?_
          refine ok_region_draw mixed ?_
          refine RT.mv .none rfl (tl rfl) ?_
          refine RT.mv .none rfl (tl rfl) ?_
          refine RT.mv .none rfl (tl rfl) ?_
          replace h := bind_some h
          obtain ⟨x54, h54, h⟩ := h
          refine RT.rem .none _ rfl rfl (tl rfl) (nzR h54) (remU h54) ?_
          refine RT.asg .none rfl (tl rfl) ?_
          refine RT.asg .none rfl (tl rfl) ?_
          refine RT.done ⟨by kernel_rfl, ?_⟩
          refine AInB.n ?_
          obtain rfl := Option.some.inj h
          refine AThen.n ⟨(y10l21, x54), hG24 _ rfl, ?_⟩
          try dsimp only
          exact weakL id rfl rfl rfl rfl rfl ⟨.ptr, .sv (SV.imp_refl _), .sv (SV.imp_refl _), trivial⟩ ⟨⟨_, rfl, ⟨.sv (SV.imp_refl _), .sv (SV.imp_refl _), trivial⟩⟩, trivial⟩ trivial (fun _ _ => rfl)
      · subst hx24
        try dsimp only
        refine AThen.n ?_
        refine ok_seq ?_
        refine ok_region ?_
        refine RT.mv .none rfl (tl rfl) ?_
        replace ho24 := bind_some ho24
        obtain ⟨⟨x56_0, x56_1⟩, h56, ho24⟩ := ho24
        refine RT.call .none (whole_small_ok h56) rfl ⟨rfl, rfl, trivial⟩ (tl rfl) ?_
        refine RT.store .none rfl rfl rfl rfl rfl ?_
        refine RT.done ?_
        refine AThen.n ?_
        refine ok_ret ?_
        obtain rfl := Option.some.inj ho24
        exact ⟨.inr rfl, res_imp (.agg rfl rfl (.cons rfl (.cons rfl (.nil))) rfl (.nil)) (SV.imp_refl _)⟩
    · replace ho12 := br_t ho12
      refine ok_condT rfl ?_
      refine ok_seq ?_
      refine ok_region ?_
      refine RT.mv .none rfl (tl rfl) ?_
      replace ho12 := bind_some ho12
      obtain ⟨x43, h43, ho12⟩ := ho12
      refine RT.call .none (slices_Clone_ok h43) rfl ⟨rfl, trivial⟩ (tl rfl) ?_
      replace ho12 := bind_some ho12
      obtain ⟨⟨x44_0, x44_1⟩, h44, ho12⟩ := ho12
      refine RT.call .none (whole_build_ok h44) rfl ⟨rfl, rfl, trivial⟩ (tl rfl) ?_
      refine RT.store .none rfl rfl rfl rfl rfl ?_
      refine RT.done ?_
      refine AThen.n ?_
      refine ok_ret ?_
      refine AThen.r ?_
      obtain rfl := Option.some.inj ho12
      exact ⟨.inr rfl, res_imp (.agg rfl rfl (.cons rfl (.cons rfl (.nil))) rfl (.nil)) (SV.imp_refl _)⟩
end Go.Proofs.Ytgkafblpckcekaa
