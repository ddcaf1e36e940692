/- The proofs that the code computes the plain functions. Made by program. -/
import Derived.Test.YtgkafblpckcekaaL1
import Derived.Test.YtgkafblpckcekaaML1
namespace Go.Proofs.Ytgkafblpckcekaa
open Go.Fw Go.RowKit
theorem law01_WholeRing_ok {x0 : Zr} {x1 : Zr} {x2 : Zr} {r : Bool} (h : law01_WholeRing_m x0 x1 x2 = some r) : Pure Try.prog 7 [.agg (eZ x0), .agg (eZ x1), .agg (eZ x2)] (.v (.bool r)) := by
  obtain ⟨x0_0, x0_1⟩ := x0
  obtain ⟨x1_0, x1_1⟩ := x1
  obtain ⟨x2_0, x2_1⟩ := x2
  refine pure_of_ok Try.func7 rfl (Nat.le_of_ble_eq_true rfl) (fun wld M vs hvs => ?_)
  unfold law01_WholeRing_m at h
  refine ok_seq ?_
  refine ok_region ?_
  refine RT.box .none rfl (tl rfl) rfl rfl ?_
  refine RT.box .none rfl (tl rfl) rfl rfl ?_
  refine RT.box .none rfl (tl rfl) rfl rfl ?_
  refine RT.asg .none rfl (tl rfl) ?_
  refine RT.done ?_
  refine AThen.n ?_
  refine ok_seq ?_
  refine ok_seq ?_
  refine ok_region ?_
  refine RT.load .none rfl rfl (.cons rfl (.cons rfl (.nil))) rfl (tl rfl) ?_
  refine RT.load .none rfl rfl (.cons rfl (.cons rfl (.nil))) rfl (tl rfl) ?_
  refine RT.load .none rfl rfl (.cons rfl (.cons rfl (.nil))) rfl (tl rfl) ?_
  refine RT.buildSl (l := [⟨x0_0, x0_1⟩, ⟨x1_0, x1_1⟩, ⟨x2_0, x2_1⟩]) (e := eZ) .none (.agg rfl (.agg rfl (.agg rfl (.nil)))) (tl rfl) rfl rfl rfl rfl rfl rfl ?_
  replace h := bind_some h
  obtain ⟨x17, h17, h⟩ := h
  refine RT.call .none (law01_Long_ok h17) rfl ⟨rfl, trivial⟩ (tl rfl) ?_
  refine RT.done ?_
  refine AThen.n ?_
  cases x17
  · replace h := br_f h
    refine ok_condF rfl ?_
    refine ok_skip ?_
    refine AThen.n ?_
    refine ok_seq ?_
    refine ok_region ?_
    refine RT.asg .none rfl (tl rfl) ?_
    refine RT.done ?_
    refine AThen.n ?_
    refine ok_seq ?_
    refine ok_region_draw mixed ?_
    refine RT.load .none rfl rfl (.cons rfl (.cons rfl (.nil))) rfl (tl rfl) ?_
    refine RT.load .none rfl rfl (.cons rfl (.cons rfl (.nil))) rfl (tl rfl) ?_
    replace h := bind_some h
    obtain ⟨⟨x21_0, x21_1⟩, h21, h⟩ := h
    refine RT.call .none (whole_Add_ok h21) rfl ⟨rfl, rfl, trivial⟩ (tl rfl) ?_
    refine RT.load .none rfl rfl (.cons rfl (.cons rfl (.nil))) rfl (tl rfl) ?_
    refine RT.load .none rfl rfl (.cons rfl (.cons rfl (.nil))) rfl (tl rfl) ?_
    replace h := bind_some h
    obtain ⟨⟨x24_0, x24_1⟩, h24, h⟩ := h
    refine RT.call .none (whole_Add_ok h24) rfl ⟨rfl, rfl, trivial⟩ (tl rfl) ?_
    refine RT.allocI .none (cs := [.v (.bool false), slc 1 (List.map eU32 [])]) (by exact ⟨SV.imp_refl _, imp_nil, trivial⟩) rfl (tl rfl) rfl rfl ?_
    refine RT.allocI .none (cs := [.v (.bool false), slc 1 (List.map eU32 [])]) (by exact ⟨SV.imp_refl _, imp_nil, trivial⟩) rfl (tl rfl) rfl rfl ?_
    refine RT.store .none rfl rfl rfl rfl rfl ?_
    refine RT.store .none rfl rfl rfl rfl rfl ?_
    refine RT.done ⟨by kernel_rfl, ?_⟩
    refine AThen.n ?_
    refine ok_seq ?_
    refine ok_region_draw mixed ?_
    refine RT.load .none rfl rfl (.cons rfl (.cons rfl (.nil))) rfl (tl rfl) ?_
    refine RT.load .none rfl rfl (.cons rfl (.cons rfl (.nil))) rfl (tl rfl) ?_
    replace h := bind_some h
    obtain ⟨⟨x27_0, x27_1⟩, h27, h⟩ := h
    refine RT.call .none (whole_Mul_ok h27) rfl ⟨rfl, rfl, trivial⟩ (tl rfl) ?_
    refine RT.load .none rfl rfl (.cons rfl (.cons rfl (.nil))) rfl (tl rfl) ?_
    refine RT.load .none rfl rfl (.cons rfl (.cons rfl (.nil))) rfl (tl rfl) ?_
    replace h := bind_some h
    obtain ⟨⟨x30_0, x30_1⟩, h30, h⟩ := h
    refine RT.call .none (whole_Mul_ok h30) rfl ⟨rfl, rfl, trivial⟩ (tl rfl) ?_
    refine RT.allocI .none (cs := [.v (.bool false), slc 1 (List.map eU32 [])]) (by exact ⟨SV.imp_refl _, imp_nil, trivial⟩) rfl (tl rfl) rfl rfl ?_
    refine RT.allocI .none (cs := [.v (.bool false), slc 1 (List.map eU32 [])]) (by exact ⟨SV.imp_refl _, imp_nil, trivial⟩) rfl (tl rfl) rfl rfl ?_
    refine RT.store .none rfl rfl rfl rfl rfl ?_
    refine RT.store .none rfl rfl rfl rfl rfl ?_
    refine RT.done ⟨by kernel_rfl, ?_⟩
    refine AThen.n ?_
    refine ok_seq ?_
    refine ok_seq ?_
    refine ok_tailJ h (fun j15 => AS.mkL 136 [(3, .ptr 3 0), (4, .ptr 4 0), (5, .ptr 5 0), (7, .sv (.v (.func (.func 14) #[] #[]))), (9, .ptr 9 0), (10, .ptr 10 0), (81, .sv (.v (.bool j15)))] [(10, ⟨24, [.sv (.v (.bool x27_0)), .sv (slc 1 (List.map eU32 x27_1))]⟩), (9, ⟨24, [.sv (.v (.bool x24_0)), .sv (slc 1 (List.map eU32 x24_1))]⟩), (5, ⟨24, [.sv (.v (.bool x2_0)), .sv (slc 1 (List.map eU32 x2_1))]⟩), (4, ⟨24, [.sv (.v (.bool x1_0)), .sv (slc 1 (List.map eU32 x1_1))]⟩), (3, ⟨24, [.sv (.v (.bool x0_0)), .sv (slc 1 (List.map eU32 x0_1))]⟩)] []) (fun h => ?_) (fun y81j14 h => ?_)
    · refine ok_region_draw mixed ?_
      refine RT.mv .none rfl (tl rfl) ?_
      refine RT.load .none rfl rfl (.cons rfl (.cons rfl (.nil))) rfl (tl rfl) ?_
      refine RT.load .none rfl rfl (.cons rfl (.cons rfl (.nil))) rfl (tl rfl) ?_
      refine RT.load .none rfl rfl (.cons rfl (.cons rfl (.nil))) rfl (tl rfl) ?_
      replace h := bind_some h
      obtain ⟨⟨x35_0, x35_1⟩, h35, h⟩ := h
      refine RT.call .none (whole_Add_ok h35) rfl ⟨rfl, rfl, trivial⟩ (tl rfl) ?_
      replace h := bind_some h
      obtain ⟨x36, h36, h⟩ := h
      refine RT.call .none (ref01_Same_ok h36) rfl ⟨rfl, rfl, trivial⟩ (tl rfl) ?_
      replace h := let_some h
      obtain ⟨x37, h37, h⟩ := h
      refine RT.not .none rfl (tl rfl) _ h37 ?_
      refine RT.mv .none rfl (tl rfl) ?_
      replace h := bind_some h
      obtain ⟨c46_70, hg70, h⟩ := h
      cases x37
      · replace hg70 := br_f hg70
        refine RT.mv (.some rfl rfl) rfl (tl rfl) ?_
        refine RT.load (.some rfl rfl) rfl rfl (.cons rfl (.cons rfl (.nil))) rfl (tl rfl) ?_
        refine RT.load (.some rfl rfl) rfl rfl (.cons rfl (.cons rfl (.nil))) rfl (tl rfl) ?_
        refine RT.load (.some rfl rfl) rfl rfl (.cons rfl (.cons rfl (.nil))) rfl (tl rfl) ?_
        replace hg70 := bind_some hg70
        obtain ⟨⟨x43_0, x43_1⟩, h43, hg70⟩ := hg70
        refine RT.call (.some rfl rfl) (whole_Mul_ok h43) rfl ⟨rfl, rfl, trivial⟩ (tl rfl) ?_
        replace hg70 := bind_some hg70
        obtain ⟨x44, h44, hg70⟩ := hg70
        refine RT.call (.some rfl rfl) (ref01_Same_ok h44) rfl ⟨rfl, rfl, trivial⟩ (tl rfl) ?_
        replace hg70 := let_some hg70
        obtain ⟨x45, h45, hg70⟩ := hg70
        refine RT.not (.some rfl rfl) rfl (tl rfl) _ h45 ?_
        obtain rfl := Option.some.inj hg70
        refine RT.pickF .none rfl rfl (tl rfl) ?_
        refine RT.mv .none rfl (tl rfl) ?_
        replace h := bind_some h
        obtain ⟨c57_71, hg71, h⟩ := h
        cases x45
        · replace hg71 := br_f hg71
          refine RT.mv (.some rfl rfl) rfl (tl rfl) ?_
          refine RT.load (.some rfl rfl) rfl rfl (.cons rfl (.cons rfl (.nil))) rfl (tl rfl) ?_
          refine RT.load (.some rfl rfl) rfl rfl (.cons rfl (.cons rfl (.nil))) rfl (tl rfl) ?_
          replace hg71 := bind_some hg71
          obtain ⟨⟨x51_0, x51_1⟩, h51, hg71⟩ := hg71
          refine RT.call (.some rfl rfl) (whole_Add_ok h51) rfl ⟨rfl, rfl, trivial⟩ (tl rfl) ?_
          refine RT.load (.some rfl rfl) rfl rfl (.cons rfl (.cons rfl (.nil))) rfl (tl rfl) ?_
          refine RT.load (.some rfl rfl) rfl rfl (.cons rfl (.cons rfl (.nil))) rfl (tl rfl) ?_
          replace hg71 := bind_some hg71
          obtain ⟨⟨x54_0, x54_1⟩, h54, hg71⟩ := hg71
          refine RT.call (.some rfl rfl) (whole_Add_ok h54) rfl ⟨rfl, rfl, trivial⟩ (tl rfl) ?_
          replace hg71 := bind_some hg71
          obtain ⟨x55, h55, hg71⟩ := hg71
          refine RT.call (.some rfl rfl) (ref01_Same_ok h55) rfl ⟨rfl, rfl, trivial⟩ (tl rfl) ?_
          replace hg71 := let_some hg71
          obtain ⟨x56, h56, hg71⟩ := hg71
          refine RT.not (.some rfl rfl) rfl (tl rfl) _ h56 ?_
          obtain rfl := Option.some.inj hg71
          refine RT.pickF .none rfl rfl (tl rfl) ?_
          refine RT.mv .none rfl (tl rfl) ?_
          replace h := bind_some h
          obtain ⟨c68_72, hg72, h⟩ := h
          cases x56
          · replace hg72 := br_f hg72
            refine RT.mv (.some rfl rfl) rfl (tl rfl) ?_
            refine RT.load (.some rfl rfl) rfl rfl (.cons rfl (.cons rfl (.nil))) rfl (tl rfl) ?_
            refine RT.load (.some rfl rfl) rfl rfl (.cons rfl (.cons rfl (.nil))) rfl (tl rfl) ?_
            replace hg72 := bind_some hg72
            obtain ⟨⟨x62_0, x62_1⟩, h62, hg72⟩ := hg72
            refine RT.call (.some rfl rfl) (whole_Mul_ok h62) rfl ⟨rfl, rfl, trivial⟩ (tl rfl) ?_
            refine RT.load (.some rfl rfl) rfl rfl (.cons rfl (.cons rfl (.nil))) rfl (tl rfl) ?_
            refine RT.load (.some rfl rfl) rfl rfl (.cons rfl (.cons rfl (.nil))) rfl (tl rfl) ?_
            replace hg72 := bind_some hg72
            obtain ⟨⟨x65_0, x65_1⟩, h65, hg72⟩ := hg72
            refine RT.call (.some rfl rfl) (whole_Mul_ok h65) rfl ⟨rfl, rfl, trivial⟩ (tl rfl) ?_
            replace hg72 := bind_some hg72
            obtain ⟨x66, h66, hg72⟩ := hg72
            refine RT.call (.some rfl rfl) (ref01_Same_ok h66) rfl ⟨rfl, rfl, trivial⟩ (tl rfl) ?_
            replace hg72 := let_some hg72
            obtain ⟨x67, h67, hg72⟩ := hg72
            refine RT.not (.some rfl rfl) rfl (tl rfl) _ h67 ?_
            obtain rfl := Option.some.inj hg72
            refine RT.pickF .none rfl rfl (tl rfl) ?_
            refine RT.mv .none rfl (tl rfl) ?_
            replace h := bind_some h
            obtain ⟨c81_73, hg73, h⟩ := h
            cases x67
            · replace hg73 := br_f hg73
              refine RT.mv (.some rfl rfl) rfl (tl rfl) ?_
              refine RT.load (.some rfl rfl) rfl rfl (.cons rfl (.cons rfl (.nil))) rfl (tl rfl) ?_
              refine RT.load (.some rfl rfl) rfl rfl (.cons rfl (.cons rfl (.nil))) rfl (tl rfl) ?_
              replace hg73 := bind_some hg73
              obtain ⟨⟨x73_0, x73_1⟩, h73, hg73⟩ := hg73
              refine RT.call (.some rfl rfl) (whole_Mul_ok h73) rfl ⟨rfl, rfl, trivial⟩ (tl rfl) ?_
              refine RT.load (.some rfl rfl) rfl rfl (.cons rfl (.cons rfl (.nil))) rfl (tl rfl) ?_
              refine RT.load (.some rfl rfl) rfl rfl (.cons rfl (.cons rfl (.nil))) rfl (tl rfl) ?_
              refine RT.load (.some rfl rfl) rfl rfl (.cons rfl (.cons rfl (.nil))) rfl (tl rfl) ?_
              replace hg73 := bind_some hg73
              obtain ⟨⟨x77_0, x77_1⟩, h77, hg73⟩ := hg73
              refine RT.call (.some rfl rfl) (whole_Mul_ok h77) rfl ⟨rfl, rfl, trivial⟩ (tl rfl) ?_
              replace hg73 := bind_some hg73
              obtain ⟨⟨x78_0, x78_1⟩, h78, hg73⟩ := hg73
              refine RT.call (.some rfl rfl) (whole_Add_ok h78) rfl ⟨rfl, rfl, trivial⟩ (tl rfl) ?_
              replace hg73 := bind_some hg73
              obtain ⟨x79, h79, hg73⟩ := hg73
              refine RT.call (.some rfl rfl) (ref01_Same_ok h79) rfl ⟨rfl, rfl, trivial⟩ (tl rfl) ?_
              replace hg73 := let_some hg73
              obtain ⟨x80, h80, hg73⟩ := hg73
              refine RT.not (.some rfl rfl) rfl (tl rfl) _ h80 ?_
              obtain rfl := Option.some.inj hg73
              refine RT.pickF .none rfl rfl (tl rfl) ?_
              refine RT.done ⟨by kernel_rfl, ?_⟩
              refine AThen.n ?_
              refine ⟨x80, h, ?_⟩
              try dsimp only
              exact weakL id rfl rfl rfl rfl rfl ⟨.ptr, .ptr, .ptr, .sv (SV.imp_refl _), .ptr, .ptr, .sv (SV.imp_refl _), trivial⟩ ⟨⟨_, rfl, ⟨.sv (SV.imp_refl _), .sv (SV.imp_refl _), trivial⟩⟩, ⟨_, rfl, ⟨.sv (SV.imp_refl _), .sv (SV.imp_refl _), trivial⟩⟩, ⟨_, rfl, ⟨.sv (SV.imp_refl _), .sv (SV.imp_refl _), trivial⟩⟩, ⟨_, rfl, ⟨.sv (SV.imp_refl _), .sv (SV.imp_refl _), trivial⟩⟩, ⟨_, rfl, ⟨.sv (SV.imp_refl _), .sv (SV.imp_refl _), trivial⟩⟩, trivial⟩ trivial (fun _ _ => rfl)
            · replace hg73 := br_t hg73
              obtain rfl := Option.some.inj hg73
              refine RT.skV rfl rfl (sk rfl) (tl rfl) ?_
              refine RT.skV rfl rfl (sk rfl) (tl rfl) ?_
              refine RT.skV rfl rfl (sk rfl) (tl rfl) ?_
              refine RT.skV rfl rfl (sk rfl) (tl rfl) ?_
              refine RT.skV rfl rfl (sk rfl) (tl rfl) ?_
              refine RT.skV rfl rfl (sk rfl) (tl rfl) ?_
              refine RT.skV rfl rfl (sk rfl) (tl rfl) ?_
              refine RT.skV rfl rfl (sk rfl) (tl rfl) ?_
              refine RT.skV rfl rfl (sk rfl) (tl rfl) ?_
              refine RT.skV rfl rfl (sk rfl) (tl rfl) ?_
              refine RT.skV rfl rfl (sk rfl) (tl rfl) ?_
              refine RT.pickT .none rfl rfl (tl rfl) ?_
              refine RT.done ⟨by kernel_rfl, ?_⟩
              refine AThen.n ?_
              refine ⟨true, h, ?_⟩
              try dsimp only
              exact weakL id rfl rfl rfl rfl rfl ⟨.ptr, .ptr, .ptr, .sv (SV.imp_refl _), .ptr, .ptr, .sv (SV.imp_refl _), trivial⟩ ⟨⟨_, rfl, ⟨.sv (SV.imp_refl _), .sv (SV.imp_refl _), trivial⟩⟩, ⟨_, rfl, ⟨.sv (SV.imp_refl _), .sv (SV.imp_refl _), trivial⟩⟩, ⟨_, rfl, ⟨.sv (SV.imp_refl _), .sv (SV.imp_refl _), trivial⟩⟩, ⟨_, rfl, ⟨.sv (SV.imp_refl _), .sv (SV.imp_refl _), trivial⟩⟩, ⟨_, rfl, ⟨.sv (SV.imp_refl _), .sv (SV.imp_refl _), trivial⟩⟩, trivial⟩ trivial (fun _ _ => rfl)
          · replace hg72 := br_t hg72
            obtain rfl := Option.some.inj hg72
            refine RT.skV rfl rfl (sk rfl) (tl rfl) ?_
            refine RT.skV rfl rfl (sk rfl) (tl rfl) ?_
            refine RT.skV rfl rfl (sk rfl) (tl rfl) ?_
            refine RT.skV rfl rfl (sk rfl) (tl rfl) ?_
            refine RT.skV rfl rfl (sk rfl) (tl rfl) ?_
            refine RT.skV rfl rfl (sk rfl) (tl rfl) ?_
            refine RT.skV rfl rfl (sk rfl) (tl rfl) ?_
            refine RT.skV rfl rfl (sk rfl) (tl rfl) ?_
            refine RT.skV rfl rfl (sk rfl) (tl rfl) ?_
            refine RT.pickT .none rfl rfl (tl rfl) ?_
            refine RT.mv .none rfl (tl rfl) ?_
            replace h := bind_some h
            obtain ⟨c81_74, hg74, h⟩ := h
            replace hg74 := br_t hg74
            obtain rfl := Option.some.inj hg74
            refine RT.skV rfl rfl (sk rfl) (tl rfl) ?_
            refine RT.skV rfl rfl (sk rfl) (tl rfl) ?_
            refine RT.skV rfl rfl (sk rfl) (tl rfl) ?_
            refine RT.skV rfl rfl (sk rfl) (tl rfl) ?_
            refine RT.skV rfl rfl (sk rfl) (tl rfl) ?_
            refine RT.skV rfl rfl (sk rfl) (tl rfl) ?_
            refine RT.skV rfl rfl (sk rfl) (tl rfl) ?_
            refine RT.skV rfl rfl (sk rfl) (tl rfl) ?_
            refine RT.skV rfl rfl (sk rfl) (tl rfl) ?_
            refine RT.skV rfl rfl (sk rfl) (tl rfl) ?_
            refine RT.skV rfl rfl (sk rfl) (tl rfl) ?_
            refine RT.pickT .none rfl rfl (tl rfl) ?_
            refine RT.done ⟨by kernel_rfl, ?_⟩
            refine AThen.n ?_
            refine ⟨true, h, ?_⟩
            try dsimp only
            exact weakL id rfl rfl rfl rfl rfl ⟨.ptr, .ptr, .ptr, .sv (SV.imp_refl _), .ptr, .ptr, .sv (SV.imp_refl _), trivial⟩ ⟨⟨_, rfl, ⟨.sv (SV.imp_refl _), .sv (SV.imp_refl _), trivial⟩⟩, ⟨_, rfl, ⟨.sv (SV.imp_refl _), .sv (SV.imp_refl _), trivial⟩⟩, ⟨_, rfl, ⟨.sv (SV.imp_refl _), .sv (SV.imp_refl _), trivial⟩⟩, ⟨_, rfl, ⟨.sv (SV.imp_refl _), .sv (SV.imp_refl _), trivial⟩⟩, ⟨_, rfl, ⟨.sv (SV.imp_refl _), .sv (SV.imp_refl _), trivial⟩⟩, trivial⟩ trivial (fun _ _ => rfl)
        · replace hg71 := br_t hg71
          obtain rfl := Option.some.inj hg71
          refine RT.skV rfl rfl (sk rfl) (tl rfl) ?_
          refine RT.skV rfl rfl (sk rfl) (tl rfl) ?_
          refine RT.skV rfl rfl (sk rfl) (tl rfl) ?_
          refine RT.skV rfl rfl (sk rfl) (tl rfl) ?_
          refine RT.skV rfl rfl (sk rfl) (tl rfl) ?_
          refine RT.skV rfl rfl (sk rfl) (tl rfl) ?_
          refine RT.skV rfl rfl (sk rfl) (tl rfl) ?_
          refine RT.skV rfl rfl (sk rfl) (tl rfl) ?_
          refine RT.skV rfl rfl (sk rfl) (tl rfl) ?_
          refine RT.pickT .none rfl rfl (tl rfl) ?_
          refine RT.mv .none rfl (tl rfl) ?_
          replace h := bind_some h
          obtain ⟨c68_75, hg75, h⟩ := h
          replace hg75 := br_t hg75
          obtain rfl := Option.some.inj hg75
          refine RT.skV rfl rfl (sk rfl) (tl rfl) ?_
          refine RT.skV rfl rfl (sk rfl) (tl rfl) ?_
          refine RT.skV rfl rfl (sk rfl) (tl rfl) ?_
          refine RT.skV rfl rfl (sk rfl) (tl rfl) ?_
          refine RT.skV rfl rfl (sk rfl) (tl rfl) ?_
          refine RT.skV rfl rfl (sk rfl) (tl rfl) ?_
          refine RT.skV rfl rfl (sk rfl) (tl rfl) ?_
          refine RT.skV rfl rfl (sk rfl) (tl rfl) ?_
          refine RT.skV rfl rfl (sk rfl) (tl rfl) ?_
          refine RT.pickT .none rfl rfl (tl rfl) ?_
          refine RT.mv .none rfl (tl rfl) ?_
          replace h := bind_some h
          obtain ⟨c81_76, hg76, h⟩ := h
          replace hg76 := br_t hg76
          obtain rfl := Option.some.inj hg76
          refine RT.skV rfl rfl (sk rfl) (tl rfl) ?_
          refine RT.skV rfl rfl (sk rfl) (tl rfl) ?_
          refine RT.skV rfl rfl (sk rfl) (tl rfl) ?_
          refine RT.skV rfl rfl (sk rfl) (tl rfl) ?_
          refine RT.skV rfl rfl (sk rfl) (tl rfl) ?_
          refine RT.skV rfl rfl (sk rfl) (tl rfl) ?_
          refine RT.skV rfl rfl (sk rfl) (tl rfl) ?_
          refine RT.skV rfl rfl (sk rfl) (tl rfl) ?_
          refine RT.skV rfl rfl (sk rfl) (tl rfl) ?_
          refine RT.skV rfl rfl (sk rfl) (tl rfl) ?_
          refine RT.skV rfl rfl (sk rfl) (tl rfl) ?_
          refine RT.pickT .none rfl rfl (tl rfl) ?_
          refine RT.done ⟨by kernel_rfl, ?_⟩
          refine AThen.n ?_
          refine ⟨true, h, ?_⟩
          try dsimp only
          exact weakL id rfl rfl rfl rfl rfl ⟨.ptr, .ptr, .ptr, .sv (SV.imp_refl _), .ptr, .ptr, .sv (SV.imp_refl _), trivial⟩ ⟨⟨_, rfl, ⟨.sv (SV.imp_refl _), .sv (SV.imp_refl _), trivial⟩⟩, ⟨_, rfl, ⟨.sv (SV.imp_refl _), .sv (SV.imp_refl _), trivial⟩⟩, ⟨_, rfl, ⟨.sv (SV.imp_refl _), .sv (SV.imp_refl _), trivial⟩⟩, ⟨_, rfl, ⟨.sv (SV.imp_refl _), .sv (SV.imp_refl _), trivial⟩⟩, ⟨_, rfl, ⟨.sv (SV.imp_refl _), .sv (SV.imp_refl _), trivial⟩⟩, trivial⟩ trivial (fun _ _ => rfl)
      · replace hg70 := br_t hg70
        obtain rfl := Option.some.inj hg70
        refine RT.skV rfl rfl (sk rfl) (tl rfl) ?_
        refine RT.skV rfl rfl (sk rfl) (tl rfl) ?_
        refine RT.skV rfl rfl (sk rfl) (tl rfl) ?_
        refine RT.skV rfl rfl (sk rfl) (tl rfl) ?_
        refine RT.skV rfl rfl (sk rfl) (tl rfl) ?_
        refine RT.skV rfl rfl (sk rfl) (tl rfl) ?_
        refine RT.skV rfl rfl (sk rfl) (tl rfl) ?_
        refine RT.pickT .none rfl rfl (tl rfl) ?_
        refine RT.mv .none rfl (tl rfl) ?_
        replace h := bind_some h
        obtain ⟨c57_77, hg77, h⟩ := h
        replace hg77 := br_t hg77
        obtain rfl := Option.some.inj hg77
        refine RT.skV rfl rfl (sk rfl) (tl rfl) ?_
        refine RT.skV rfl rfl (sk rfl) (tl rfl) ?_
        refine RT.skV rfl rfl (sk rfl) (tl rfl) ?_
        refine RT.skV rfl rfl (sk rfl) (tl rfl) ?_
        refine RT.skV rfl rfl (sk rfl) (tl rfl) ?_
        refine RT.skV rfl rfl (sk rfl) (tl rfl) ?_
        refine RT.skV rfl rfl (sk rfl) (tl rfl) ?_
        refine RT.skV rfl rfl (sk rfl) (tl rfl) ?_
        refine RT.skV rfl rfl (sk rfl) (tl rfl) ?_
        refine RT.pickT .none rfl rfl (tl rfl) ?_
        refine RT.mv .none rfl (tl rfl) ?_
        replace h := bind_some h
        obtain ⟨c68_78, hg78, h⟩ := h
        replace hg78 := br_t hg78
        obtain rfl := Option.some.inj hg78
        refine RT.skV rfl rfl (sk rfl) (tl rfl) ?_
        refine RT.skV rfl rfl (sk rfl) (tl rfl) ?_
        refine RT.skV rfl rfl (sk rfl) (tl rfl) ?_
        refine RT.skV rfl rfl (sk rfl) (tl rfl) ?_
        refine RT.skV rfl rfl (sk rfl) (tl rfl) ?_
        refine RT.skV rfl rfl (sk rfl) (tl rfl) ?_
        refine RT.skV rfl rfl (sk rfl) (tl rfl) ?_
        refine RT.skV rfl rfl (sk rfl) (tl rfl) ?_
        refine RT.skV rfl rfl (sk rfl) (tl rfl) ?_
        refine RT.pickT .none rfl rfl (tl rfl) ?_
        refine RT.mv .none rfl (tl rfl) ?_
        replace h := bind_some h
        obtain ⟨c81_79, hg79, h⟩ := h
        replace hg79 := br_t hg79
        obtain rfl := Option.some.inj hg79
        refine RT.skV rfl rfl (sk rfl) (tl rfl) ?_
        refine RT.skV rfl rfl (sk rfl) (tl rfl) ?_
        refine RT.skV rfl rfl (sk rfl) (tl rfl) ?_
        refine RT.skV rfl rfl (sk rfl) (tl rfl) ?_
        refine RT.skV rfl rfl (sk rfl) (tl rfl) ?_
        refine RT.skV rfl rfl (sk rfl) (tl rfl) ?_
        refine RT.skV rfl rfl (sk rfl) (tl rfl) ?_
        refine RT.skV rfl rfl (sk rfl) (tl rfl) ?_
        refine RT.skV rfl rfl (sk rfl) (tl rfl) ?_
        refine RT.skV rfl rfl (sk rfl) (tl rfl) ?_
        refine RT.skV rfl rfl (sk rfl) (tl rfl) ?_
        refine RT.pickT .none rfl rfl (tl rfl) ?_
        refine RT.done ⟨by kernel_rfl, ?_⟩
        refine AThen.n ?_
        refine ⟨true, h, ?_⟩
        try dsimp only
        exact weakL id rfl rfl rfl rfl rfl ⟨.ptr, .ptr, .ptr, .sv (SV.imp_refl _), .ptr, .ptr, .sv (SV.imp_refl _), trivial⟩ ⟨⟨_, rfl, ⟨.sv (SV.imp_refl _), .sv (SV.imp_refl _), trivial⟩⟩, ⟨_, rfl, ⟨.sv (SV.imp_refl _), .sv (SV.imp_refl _), trivial⟩⟩, ⟨_, rfl, ⟨.sv (SV.imp_refl _), .sv (SV.imp_refl _), trivial⟩⟩, ⟨_, rfl, ⟨.sv (SV.imp_refl _), .sv (SV.imp_refl _), trivial⟩⟩, ⟨_, rfl, ⟨.sv (SV.imp_refl _), .sv (SV.imp_refl _), trivial⟩⟩, trivial⟩ trivial (fun _ _ => rfl)
    · try dsimp only
      refine AThen.n ?_
      cases y81j14
      · replace h := br_f h
        refine ok_condF rfl ?_
        refine ok_skip ?_
        refine AThen.n ?_
        refine ok_seq ?_
        refine ok_region ?_
        refine RT.load .none rfl rfl (.cons rfl (.cons rfl (.nil))) rfl (tl rfl) ?_
        refine RT.load .none rfl rfl (.cons rfl (.cons rfl (.nil))) rfl (tl rfl) ?_
        replace h := bind_some h
        obtain ⟨⟨x84_0, x84_1⟩, h84, h⟩ := h
        refine RT.call .none (whole_Sub_ok h84) rfl ⟨rfl, rfl, trivial⟩ (tl rfl) ?_
        refine RT.allocI .none (cs := [.v (.bool false), slc 1 (List.map eU32 [])]) (by exact ⟨SV.imp_refl _, imp_nil, trivial⟩) rfl (tl rfl) rfl rfl ?_
        refine RT.store .none rfl rfl rfl rfl rfl ?_
        refine RT.done ?_
        refine AThen.n ?_
        refine ok_seq ?_
        refine ok_tailJ h (fun j43 => AS.mkL 136 [(6, .sv (.v (.bool j43)))] [] []) (fun h => ?_) (fun y6j42 h => ?_)
        · refine ok_region_draw mixed ?_
          refine RT.load .none rfl rfl (.cons rfl (.cons rfl (.nil))) rfl (tl rfl) ?_
          replace h := bind_some h
          obtain ⟨x86, h86, h⟩ := h
          refine RT.call .none (whole_Sign_ok h86) rfl ⟨rfl, trivial⟩ (tl rfl) ?_
          refine RT.load .none rfl rfl (.cons rfl (.cons rfl (.nil))) rfl (tl rfl) ?_
          refine RT.load .none rfl rfl (.cons rfl (.cons rfl (.nil))) rfl (tl rfl) ?_
          replace h := bind_some h
          obtain ⟨x89, h89, h⟩ := h
          refine RT.call .none (whole_Cmp_ok h89) rfl ⟨rfl, rfl, trivial⟩ (tl rfl) ?_
          replace h := let_some h
          obtain ⟨x90, h90, h⟩ := h
          refine RT.eql .none _ rfl rfl (tl rfl) (eqI (p := x86) (q := x89) h90) ?_
          refine RT.mv .none rfl (tl rfl) ?_
          replace h := bind_some h
          obtain ⟨c100_44, hg44, h⟩ := h
          cases x90
          · replace hg44 := br_f hg44
            obtain rfl := Option.some.inj hg44
            refine RT.skV rfl rfl (sk rfl) (tl rfl) ?_
            refine RT.skV rfl rfl (sk rfl) (tl rfl) ?_
            refine RT.skV rfl rfl (sk rfl) (tl rfl) ?_
            refine RT.skV rfl rfl (sk rfl) (tl rfl) ?_
            refine RT.skV rfl rfl (sk rfl) (tl rfl) ?_
            refine RT.skV rfl rfl (sk rfl) (tl rfl) ?_
            refine RT.skV rfl rfl (sk rfl) (tl rfl) ?_
            refine RT.skV rfl rfl (sk rfl) (tl rfl) ?_
            refine RT.pickF .none rfl rfl (tl rfl) ?_
            refine RT.mv .none rfl (tl rfl) ?_
            replace h := bind_some h
            obtain ⟨c111_60, hg60, h⟩ := h
            replace hg60 := br_f hg60
            obtain rfl := Option.some.inj hg60
            refine RT.skV rfl rfl (sk rfl) (tl rfl) ?_
            refine RT.skV rfl rfl (sk rfl) (tl rfl) ?_
            refine RT.skV rfl rfl (sk rfl) (tl rfl) ?_
            refine RT.skV rfl rfl (sk rfl) (tl rfl) ?_
            refine RT.skV rfl rfl (sk rfl) (tl rfl) ?_
            refine RT.skV rfl rfl (sk rfl) (tl rfl) ?_
            refine RT.skV rfl rfl (sk rfl) (tl rfl) ?_
            refine RT.skV rfl rfl (sk rfl) (tl rfl) ?_
            refine RT.skV rfl rfl (sk rfl) (tl rfl) ?_
            refine RT.pickF .none rfl rfl (tl rfl) ?_
            refine RT.mv .none rfl (tl rfl) ?_
            replace h := bind_some h
            obtain ⟨c124_61, hg61, h⟩ := h
            replace hg61 := br_f hg61
            obtain rfl := Option.some.inj hg61
            refine RT.skV rfl rfl (sk rfl) (tl rfl) ?_
            refine RT.skV rfl rfl (sk rfl) (tl rfl) ?_
            refine RT.skV rfl rfl (sk rfl) (tl rfl) ?_
            refine RT.skV rfl rfl (sk rfl) (tl rfl) ?_
            refine RT.skV rfl rfl (sk rfl) (tl rfl) ?_
            refine RT.skV rfl rfl (sk rfl) (tl rfl) ?_
            refine RT.skV rfl rfl (sk rfl) (tl rfl) ?_
            refine RT.skV rfl rfl (sk rfl) (tl rfl) ?_
            refine RT.skV rfl rfl (sk rfl) (tl rfl) ?_
            refine RT.skV rfl rfl (sk rfl) (tl rfl) ?_
            refine RT.skV rfl rfl (sk rfl) (tl rfl) ?_
            refine RT.pickF .none rfl rfl (tl rfl) ?_
            refine RT.mv .none rfl (tl rfl) ?_
            replace h := bind_some h
            obtain ⟨c128_62, hg62, h⟩ := h
            replace hg62 := br_f hg62
            obtain rfl := Option.some.inj hg62
            refine RT.skV rfl rfl (sk rfl) (tl rfl) ?_
            refine RT.skV rfl rfl (sk rfl) (tl rfl) ?_
            refine RT.pickF .none rfl rfl (tl rfl) ?_
            refine RT.mv .none rfl (tl rfl) ?_
            replace h := bind_some h
            obtain ⟨c132_63, hg63, h⟩ := h
            replace hg63 := br_f hg63
            obtain rfl := Option.some.inj hg63
            refine RT.skV rfl rfl (sk rfl) (tl rfl) ?_
            refine RT.skV rfl rfl (sk rfl) (tl rfl) ?_
            refine RT.pickF .none rfl rfl (tl rfl) ?_
            refine RT.mv .none rfl (tl rfl) ?_
            replace h := bind_some h
            obtain ⟨c135_64, hg64, h⟩ := h
            replace hg64 := br_f hg64
            obtain rfl := Option.some.inj hg64
            refine RT.skV rfl rfl (sk rfl) (tl rfl) ?_
            refine RT.pickF .none rfl rfl (tl rfl) ?_
            refine RT.asg .none rfl (tl rfl) ?_
            refine RT.done ⟨by kernel_rfl, ?_⟩
            refine AThen.n ?_
            refine ⟨false, h, ?_⟩
            try dsimp only
            exact weakL id rfl rfl rfl rfl rfl ⟨.sv (SV.imp_refl _), trivial⟩ trivial trivial (fun _ _ => rfl)
          · replace hg44 := br_t hg44
            refine RT.load (.some rfl rfl) rfl rfl (.cons rfl (.cons rfl (.nil))) rfl (tl rfl) ?_
            refine RT.load (.some rfl rfl) rfl rfl (.cons rfl (.cons rfl (.nil))) rfl (tl rfl) ?_
            replace hg44 := bind_some hg44
            obtain ⟨x94, h94, hg44⟩ := hg44
            refine RT.call (.some rfl rfl) (whole_Cmp_ok h94) rfl ⟨rfl, rfl, trivial⟩ (tl rfl) ?_
            refine RT.load (.some rfl rfl) rfl rfl (.cons rfl (.cons rfl (.nil))) rfl (tl rfl) ?_
            refine RT.load (.some rfl rfl) rfl rfl (.cons rfl (.cons rfl (.nil))) rfl (tl rfl) ?_
            replace hg44 := bind_some hg44
            obtain ⟨x97, h97, hg44⟩ := hg44
            refine RT.call (.some rfl rfl) (whole_Cmp_ok h97) rfl ⟨rfl, rfl, trivial⟩ (tl rfl) ?_
            replace hg44 := let_some hg44
            obtain ⟨x98, h98, hg44⟩ := hg44
            refine RT.neg (.some rfl rfl) _ rfl (tl rfl) h98 ?_
            replace hg44 := let_some hg44
            obtain ⟨x99, h99, hg44⟩ := hg44
            refine RT.eql (.some rfl rfl) _ rfl rfl (tl rfl) (eqI (p := x94) (q := x98) h99) ?_
            obtain rfl := Option.some.inj hg44
            refine RT.pickT .none rfl rfl (tl rfl) ?_
            refine RT.mv .none rfl (tl rfl) ?_
            replace h := bind_some h
            obtain ⟨c111_45, hg45, h⟩ := h
            cases x99
            · replace hg45 := br_f hg45
              obtain rfl := Option.some.inj hg45
              refine RT.skV rfl rfl (sk rfl) (tl rfl) ?_
              refine RT.skV rfl rfl (sk rfl) (tl rfl) ?_
              refine RT.skV rfl rfl (sk rfl) (tl rfl) ?_
              refine RT.skV rfl rfl (sk rfl) (tl rfl) ?_
              refine RT.skV rfl rfl (sk rfl) (tl rfl) ?_
              refine RT.skV rfl rfl (sk rfl) (tl rfl) ?_
              refine RT.skV rfl rfl (sk rfl) (tl rfl) ?_
              refine RT.skV rfl rfl (sk rfl) (tl rfl) ?_
              refine RT.skV rfl rfl (sk rfl) (tl rfl) ?_
              refine RT.pickF .none rfl rfl (tl rfl) ?_
              refine RT.mv .none rfl (tl rfl) ?_
              replace h := bind_some h
              obtain ⟨c124_56, hg56, h⟩ := h
              replace hg56 := br_f hg56
              obtain rfl := Option.some.inj hg56
              refine RT.skV rfl rfl (sk rfl) (tl rfl) ?_
              refine RT.skV rfl rfl (sk rfl) (tl rfl) ?_
              refine RT.skV rfl rfl (sk rfl) (tl rfl) ?_
              refine RT.skV rfl rfl (sk rfl) (tl rfl) ?_
              refine RT.skV rfl rfl (sk rfl) (tl rfl) ?_
              refine RT.skV rfl rfl (sk rfl) (tl rfl) ?_
              refine RT.skV rfl rfl (sk rfl) (tl rfl) ?_
              refine RT.skV rfl rfl (sk rfl) (tl rfl) ?_
              refine RT.skV rfl rfl (sk rfl) (tl rfl) ?_
              refine RT.skV rfl rfl (sk rfl) (tl rfl) ?_
              refine RT.skV rfl rfl (sk rfl) (tl rfl) ?_
              refine RT.pickF .none rfl rfl (tl rfl) ?_
              refine RT.mv .none rfl (tl rfl) ?_
              replace h := bind_some h
              obtain ⟨c128_57, hg57, h⟩ := h
              replace hg57 := br_f hg57
              obtain rfl := Option.some.inj hg57
              refine RT.skV rfl rfl (sk rfl) (tl rfl) ?_
              refine RT.skV rfl rfl (sk rfl) (tl rfl) ?_
              refine RT.pickF .none rfl rfl (tl rfl) ?_
              refine RT.mv .none rfl (tl rfl) ?_
              replace h := bind_some h
              obtain ⟨c132_58, hg58, h⟩ := h
              replace hg58 := br_f hg58
              obtain rfl := Option.some.inj hg58
              refine RT.skV rfl rfl (sk rfl) (tl rfl) ?_
              refine RT.skV rfl rfl (sk rfl) (tl rfl) ?_
              refine RT.pickF .none rfl rfl (tl rfl) ?_
              refine RT.mv .none rfl (tl rfl) ?_
              replace h := bind_some h
              obtain ⟨c135_59, hg59, h⟩ := h
              replace hg59 := br_f hg59
              obtain rfl := Option.some.inj hg59
              refine RT.skV rfl rfl (sk rfl) (tl rfl) ?_
              refine RT.pickF .none rfl rfl (tl rfl) ?_
              refine RT.asg .none rfl (tl rfl) ?_
              refine RT.done ⟨by kernel_rfl, ?_⟩
              refine AThen.n ?_
              refine ⟨false, h, ?_⟩
              try dsimp only
              exact weakL id rfl rfl rfl rfl rfl ⟨.sv (SV.imp_refl _), trivial⟩ trivial trivial (fun _ _ => rfl)
            · replace hg45 := br_t hg45
              refine RT.load (.some rfl rfl) rfl rfl (.cons rfl (.cons rfl (.nil))) rfl (tl rfl) ?_
              refine RT.load (.some rfl rfl) rfl rfl (.cons rfl (.cons rfl (.nil))) rfl (tl rfl) ?_
              replace hg45 := bind_some hg45
              obtain ⟨⟨x104_0, x104_1⟩, h104, hg45⟩ := hg45
              refine RT.call (.some rfl rfl) (whole_Add_ok h104) rfl ⟨rfl, rfl, trivial⟩ (tl rfl) ?_
              refine RT.load (.some rfl rfl) rfl rfl (.cons rfl (.cons rfl (.nil))) rfl (tl rfl) ?_
              replace hg45 := bind_some hg45
              obtain ⟨x106, h106, hg45⟩ := hg45
              refine RT.call (.some rfl rfl) (whole_Cmp_ok h106) rfl ⟨rfl, rfl, trivial⟩ (tl rfl) ?_
              refine RT.load (.some rfl rfl) rfl rfl (.cons rfl (.cons rfl (.nil))) rfl (tl rfl) ?_
              refine RT.load (.some rfl rfl) rfl rfl (.cons rfl (.cons rfl (.nil))) rfl (tl rfl) ?_
              replace hg45 := bind_some hg45
              obtain ⟨x109, h109, hg45⟩ := hg45
              refine RT.call (.some rfl rfl) (whole_Cmp_ok h109) rfl ⟨rfl, rfl, trivial⟩ (tl rfl) ?_
              replace hg45 := let_some hg45
              obtain ⟨x110, h110, hg45⟩ := hg45
              refine RT.eql (.some rfl rfl) _ rfl rfl (tl rfl) (eqI (p := x106) (q := x109) h110) ?_
              obtain rfl := Option.some.inj hg45
              refine RT.pickT .none rfl rfl (tl rfl) ?_
              refine RT.mv .none rfl (tl rfl) ?_
              replace h := bind_some h
              obtain ⟨c124_46, hg46, h⟩ := h
              cases x110
              · replace hg46 := br_f hg46
                obtain rfl := Option.some.inj hg46
                refine RT.skV rfl rfl (sk rfl) (tl rfl) ?_
                refine RT.skV rfl rfl (sk rfl) (tl rfl) ?_
                refine RT.skV rfl rfl (sk rfl) (tl rfl) ?_
                refine RT.skV rfl rfl (sk rfl) (tl rfl) ?_
                refine RT.skV rfl rfl (sk rfl) (tl rfl) ?_
                refine RT.skV rfl rfl (sk rfl) (tl rfl) ?_
                refine RT.skV rfl rfl (sk rfl) (tl rfl) ?_
                refine RT.skV rfl rfl (sk rfl) (tl rfl) ?_
                refine RT.skV rfl rfl (sk rfl) (tl rfl) ?_
                refine RT.skV rfl rfl (sk rfl) (tl rfl) ?_
                refine RT.skV rfl rfl (sk rfl) (tl rfl) ?_
                refine RT.pickF .none rfl rfl (tl rfl) ?_
                refine RT.mv .none rfl (tl rfl) ?_
                replace h := bind_some h
                obtain ⟨c128_53, hg53, h⟩ := h
                replace hg53 := br_f hg53
                obtain rfl := Option.some.inj hg53
                refine RT.skV rfl rfl (sk rfl) (tl rfl) ?_
                refine RT.skV rfl rfl (sk rfl) (tl rfl) ?_
                refine RT.pickF .none rfl rfl (tl rfl) ?_
                refine RT.mv .none rfl (tl rfl) ?_
                replace h := bind_some h
                obtain ⟨c132_54, hg54, h⟩ := h
                replace hg54 := br_f hg54
                obtain rfl := Option.some.inj hg54
                refine RT.skV rfl rfl (sk rfl) (tl rfl) ?_
                refine RT.skV rfl rfl (sk rfl) (tl rfl) ?_
                refine RT.pickF .none rfl rfl (tl rfl) ?_
                refine RT.mv .none rfl (tl rfl) ?_
                replace h := bind_some h
                obtain ⟨c135_55, hg55, h⟩ := h
                replace hg55 := br_f hg55
                obtain rfl := Option.some.inj hg55
                refine RT.skV rfl rfl (sk rfl) (tl rfl) ?_
                refine RT.pickF .none rfl rfl (tl rfl) ?_
                refine RT.asg .none rfl (tl rfl) ?_
                refine RT.done ⟨by kernel_rfl, ?_⟩
                refine AThen.n ?_
                refine ⟨false, h, ?_⟩
                try dsimp only
                exact weakL id rfl rfl rfl rfl rfl ⟨.sv (SV.imp_refl _), trivial⟩ trivial trivial (fun _ _ => rfl)
              · replace hg46 := br_t hg46
                refine RT.mv (.some rfl rfl) rfl (tl rfl) ?_
                refine RT.load (.some rfl rfl) rfl rfl (.cons rfl (.cons rfl (.nil))) rfl (tl rfl) ?_
                refine RT.load (.some rfl rfl) rfl rfl (.cons rfl (.cons rfl (.nil))) rfl (tl rfl) ?_
                replace hg46 := bind_some hg46
                obtain ⟨⟨x116_0, x116_1⟩, h116, hg46⟩ := hg46
                refine RT.call (.some rfl rfl) (whole_Add_ok h116) rfl ⟨rfl, rfl, trivial⟩ (tl rfl) ?_
                refine RT.load (.some rfl rfl) rfl rfl (.cons rfl (.cons rfl (.nil))) rfl (tl rfl) ?_
                replace hg46 := bind_some hg46
                obtain ⟨⟨x118_0, x118_1⟩, h118, hg46⟩ := hg46
                refine RT.call (.some rfl rfl) (whole_Abs_ok h118) rfl ⟨rfl, trivial⟩ (tl rfl) ?_
                replace hg46 := bind_some hg46
                obtain ⟨x119, h119, hg46⟩ := hg46
                refine RT.call (.some rfl rfl) (ref01_Same_ok h119) rfl ⟨rfl, rfl, trivial⟩ (tl rfl) ?_
                refine RT.load (.some rfl rfl) rfl rfl (.cons rfl (.cons rfl (.nil))) rfl (tl rfl) ?_
                replace hg46 := bind_some hg46
                obtain ⟨x121, h121, hg46⟩ := hg46
                refine RT.call (.some rfl rfl) (whole_Sign_ok h121) rfl ⟨rfl, trivial⟩ (tl rfl) ?_
                replace hg46 := let_some hg46
                obtain ⟨x122, h122, hg46⟩ := hg46
                refine RT.geq (.some rfl rfl) _ rfl rfl (tl rfl) h122 ?_
                replace hg46 := let_some hg46
                obtain ⟨x123, h123, hg46⟩ := hg46
                refine RT.beql (.some rfl rfl) _ rfl rfl (tl rfl) h123 ?_
                obtain rfl := Option.some.inj hg46
                refine RT.pickT .none rfl rfl (tl rfl) ?_
                refine RT.mv .none rfl (tl rfl) ?_
                replace h := bind_some h
                obtain ⟨c128_47, hg47, h⟩ := h
                cases x123
                · replace hg47 := br_f hg47
                  obtain rfl := Option.some.inj hg47
                  refine RT.skV rfl rfl (sk rfl) (tl rfl) ?_
                  refine RT.skV rfl rfl (sk rfl) (tl rfl) ?_
                  refine RT.pickF .none rfl rfl (tl rfl) ?_
                  refine RT.mv .none rfl (tl rfl) ?_
                  replace h := bind_some h
                  obtain ⟨c132_51, hg51, h⟩ := h
                  replace hg51 := br_f hg51
                  obtain rfl := Option.some.inj hg51
                  refine RT.skV rfl rfl (sk rfl) (tl rfl) ?_
                  refine RT.skV rfl rfl (sk rfl) (tl rfl) ?_
                  refine RT.pickF .none rfl rfl (tl rfl) ?_
                  refine RT.mv .none rfl (tl rfl) ?_
                  replace h := bind_some h
                  obtain ⟨c135_52, hg52, h⟩ := h
                  replace hg52 := br_f hg52
                  obtain rfl := Option.some.inj hg52
                  refine RT.skV rfl rfl (sk rfl) (tl rfl) ?_
                  refine RT.pickF .none rfl rfl (tl rfl) ?_
                  refine RT.asg .none rfl (tl rfl) ?_
                  refine RT.done ⟨by kernel_rfl, ?_⟩
                  refine AThen.n ?_
                  refine ⟨false, h, ?_⟩
                  try dsimp only
                  exact weakL id rfl rfl rfl rfl rfl ⟨.sv (SV.imp_refl _), trivial⟩ trivial trivial (fun _ _ => rfl)
                · replace hg47 := br_t hg47
                  refine RT.load (.some rfl rfl) rfl rfl (.cons rfl (.cons rfl (.nil))) rfl (tl rfl) ?_
                  replace hg47 := bind_some hg47
                  obtain ⟨x127, h127, hg47⟩ := hg47
                  refine RT.call (.some rfl rfl) (whole_IsCanonical_ok h127) rfl ⟨rfl, trivial⟩ (tl rfl) ?_
                  obtain rfl := Option.some.inj hg47
                  refine RT.pickT .none rfl rfl (tl rfl) ?_
                  refine RT.mv .none rfl (tl rfl) ?_
                  replace h := bind_some h
                  obtain ⟨c132_48, hg48, h⟩ := h
                  cases x127
                  · replace hg48 := br_f hg48
                    obtain rfl := Option.some.inj hg48
                    refine RT.skV rfl rfl (sk rfl) (tl rfl) ?_
                    refine RT.skV rfl rfl (sk rfl) (tl rfl) ?_
                    refine RT.pickF .none rfl rfl (tl rfl) ?_
                    refine RT.mv .none rfl (tl rfl) ?_
                    replace h := bind_some h
                    obtain ⟨c135_50, hg50, h⟩ := h
                    replace hg50 := br_f hg50
                    obtain rfl := Option.some.inj hg50
                    refine RT.skV rfl rfl (sk rfl) (tl rfl) ?_
                    refine RT.pickF .none rfl rfl (tl rfl) ?_
                    refine RT.asg .none rfl (tl rfl) ?_
                    refine RT.done ⟨by kernel_rfl, ?_⟩
                    refine AThen.n ?_
                    refine ⟨false, h, ?_⟩
                    try dsimp only
                    exact weakL id rfl rfl rfl rfl rfl ⟨.sv (SV.imp_refl _), trivial⟩ trivial trivial (fun _ _ => rfl)
                  · replace hg48 := br_t hg48
                    refine RT.load (.some rfl rfl) rfl rfl (.cons rfl (.cons rfl (.nil))) rfl (tl rfl) ?_
                    replace hg48 := bind_some hg48
                    obtain ⟨x131, h131, hg48⟩ := hg48
                    refine RT.call (.some rfl rfl) (whole_IsCanonical_ok h131) rfl ⟨rfl, trivial⟩ (tl rfl) ?_
                    obtain rfl := Option.some.inj hg48
                    refine RT.pickT .none rfl rfl (tl rfl) ?_
                    refine RT.mv .none rfl (tl rfl) ?_
                    replace h := bind_some h
                    obtain ⟨c135_49, hg49, h⟩ := h
                    cases x131
                    · replace hg49 := br_f hg49
                      obtain rfl := Option.some.inj hg49
                      refine RT.skV rfl rfl (sk rfl) (tl rfl) ?_
                      refine RT.pickF .none rfl rfl (tl rfl) ?_
                      refine RT.asg .none rfl (tl rfl) ?_
                      refine RT.done ⟨by kernel_rfl, ?_⟩
                      refine AThen.n ?_
                      refine ⟨false, h, ?_⟩
                      try dsimp only
                      exact weakL id rfl rfl rfl rfl rfl ⟨.sv (SV.imp_refl _), trivial⟩ trivial trivial (fun _ _ => rfl)
                    · replace hg49 := br_t hg49
                      replace hg49 := bind_some hg49
                      obtain ⟨x134, h134, hg49⟩ := hg49
                      refine RT.call (.some rfl rfl) (law01_alive_ok h134) rfl trivial (tl rfl) ?_
                      obtain rfl := Option.some.inj hg49
                      refine RT.pickT .none rfl rfl (tl rfl) ?_
                      refine RT.asg .none rfl (tl rfl) ?_
                      refine RT.done ⟨by kernel_rfl, ?_⟩
                      refine AThen.n ?_
                      refine ⟨x134, h, ?_⟩
                      try dsimp only
                      exact weakL id rfl rfl rfl rfl rfl ⟨.sv (SV.imp_refl _), trivial⟩ trivial trivial (fun _ _ => rfl)
        · try dsimp only
          refine AThen.n ?_
          refine ok_ret ?_
          obtain rfl := Option.some.inj h
          exact ⟨.inr rfl, res_imp (.tmp rfl (.nil)) (SV.imp_refl _)⟩
      · replace h := br_t h
        refine ok_condT rfl ?_
        refine ok_seq ?_
        refine ok_region ?_
        refine RT.asg .none rfl (tl rfl) ?_
        refine RT.done ?_
        refine AThen.n ?_
        refine ok_ret ?_
        refine AThen.r ?_
        obtain rfl := Option.some.inj h
        exact ⟨.inr rfl, res_imp (.tmp rfl (.nil)) (SV.imp_refl _)⟩
  · replace h := br_t h
    refine ok_condT rfl ?_
    refine ok_seq ?_
    refine ok_region ?_
    replace h := bind_some h
    obtain ⟨x18, h18, h⟩ := h
    refine RT.call .none (law01_alive_ok h18) rfl trivial (tl rfl) ?_
    refine RT.asg .none rfl (tl rfl) ?_
    refine RT.done ?_
    refine AThen.n ?_
    refine ok_ret ?_
    refine AThen.r ?_
    obtain rfl := Option.some.inj h
    exact ⟨.inr rfl, res_imp (.tmp rfl (.nil)) (SV.imp_refl _)⟩
end Go.Proofs.Ytgkafblpckcekaa
