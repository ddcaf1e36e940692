/- The proofs that the code computes the plain functions. Made by program. -/
import Derived.Test.YtgkafblpckcekaaL1
import Derived.Test.YtgkafblpckcekaaML1
namespace Go.Proofs.Ytgkafblpckcekaa
open Go.Fw Go.RowKit
theorem law01_WholeEuclid_ok {x0 : Zr} {x1 : Zr} {x2 : Zr} {r : Bool} (h : law01_WholeEuclid_m x0 x1 x2 = some r) : Pure Try.prog 6 [.agg (eZ x0), .agg (eZ x1), .agg (eZ x2)] (.v (.bool r)) := by
  obtain ⟨x0_0, x0_1⟩ := x0
  obtain ⟨x1_0, x1_1⟩ := x1
  obtain ⟨x2_0, x2_1⟩ := x2
  refine pure_of_ok Try.func6 rfl (Nat.le_of_ble_eq_true rfl) (fun wld M vs hvs => ?_)
  unfold law01_WholeEuclid_m at h
  refine ok_seq ?_
  refine ok_region ?_
  refine RT.box .none rfl (tl rfl) rfl rfl ?_
  refine RT.box .none rfl (tl rfl) rfl rfl ?_
  refine RT.box .none rfl (tl rfl) rfl rfl ?_
  refine RT.asg .none rfl (tl rfl) ?_
  refine RT.done ?_
  refine AThen.n ?_
  refine ok_seq ?_
  refine ok_seq ?_
  refine ok_region ?_
  refine RT.load .none rfl rfl (.cons rfl (.cons rfl (.nil))) rfl (tl rfl) ?_
  refine RT.load .none rfl rfl (.cons rfl (.cons rfl (.nil))) rfl (tl rfl) ?_
  refine RT.load .none rfl rfl (.cons rfl (.cons rfl (.nil))) rfl (tl rfl) ?_
  refine RT.buildSl (l := [⟨x0_0, x0_1⟩, ⟨x1_0, x1_1⟩, ⟨x2_0, x2_1⟩]) (e := eZ) .none (.agg rfl (.agg rfl (.agg rfl (.nil)))) (tl rfl) rfl rfl rfl rfl rfl rfl ?_
  replace h := bind_some h
  obtain ⟨x15, h15, h⟩ := h
  refine RT.call .none (law01_Long_ok h15) rfl ⟨rfl, trivial⟩ (tl rfl) ?_
  refine RT.done ?_
  refine AThen.n ?_
  cases x15
  · replace h := br_f h
    refine ok_condF rfl ?_
    refine ok_skip ?_
    refine AThen.n ?_
    refine ok_seq ?_
    refine ok_region ?_
    refine RT.load .none rfl rfl (.cons rfl (.cons rfl (.nil))) rfl (tl rfl) ?_
    refine RT.load .none rfl rfl (.cons rfl (.cons rfl (.nil))) rfl (tl rfl) ?_
    replace h := bind_some h
    obtain ⟨⟨⟨x20a_0, x20a_1⟩, ⟨x20b_0, x20b_1⟩, x20c⟩, h20, h⟩ := h
    refine RT.call .none (whole_DivMod_ok h20) rfl ⟨rfl, rfl, trivial⟩ (tl rfl) ?_
    refine RT.mv .none rfl (tl rfl) ?_
    refine RT.extract .none rfl rfl (tl rfl) ?_
    refine RT.extract .none rfl rfl (tl rfl) ?_
    refine RT.extract .none rfl rfl (tl rfl) ?_
    refine RT.allocI .none (cs := [.v (.bool false), slc 1 (List.map eU32 [])]) (by exact ⟨SV.imp_refl _, imp_nil, trivial⟩) rfl (tl rfl) rfl rfl ?_
    refine RT.allocI .none (cs := [.v (.bool false), slc 1 (List.map eU32 [])]) (by exact ⟨SV.imp_refl _, imp_nil, trivial⟩) rfl (tl rfl) rfl rfl ?_
    refine RT.store .none rfl rfl rfl rfl rfl ?_
    refine RT.store .none rfl rfl rfl rfl rfl ?_
    refine RT.asg .none rfl (tl rfl) ?_
    refine RT.done ?_
    refine AThen.n ?_
    refine ok_seq ?_
    refine ok_seq ?_
    refine ok_tailJ h (fun j8 => AS.mkL 128 [(3, .ptr 3 0), (4, .ptr 4 0), (5, .ptr 5 0), (7, .ptr 7 0), (8, .ptr 8 0), (9, .sv (.v (.int .i64 x20c))), (47, .sv (.v (.bool j8)))] [(8, ⟨24, [.sv (.v (.bool x20b_0)), .sv (slc 1 (List.map eU32 x20b_1))]⟩), (7, ⟨24, [.sv (.v (.bool x20a_0)), .sv (slc 1 (List.map eU32 x20a_1))]⟩), (5, ⟨24, [.sv (.v (.bool x2_0)), .sv (slc 1 (List.map eU32 x2_1))]⟩), (4, ⟨24, [.sv (.v (.bool x1_0)), .sv (slc 1 (List.map eU32 x1_1))]⟩), (3, ⟨24, [.sv (.v (.bool x0_0)), .sv (slc 1 (List.map eU32 x0_1))]⟩)] []) (fun h => ?_) (fun y47j7 h => ?_)
    · refine ok_region ?_
      refine RT.mv .none rfl (tl rfl) ?_
      replace h := let_some h
      obtain ⟨x25, h25, h⟩ := h
      refine RT.eql .none _ rfl rfl (tl rfl) (eqI (p := x20c) (q := 0) h25) ?_
      refine RT.load .none rfl rfl (.cons rfl (.cons rfl (.nil))) rfl (tl rfl) ?_
      replace h := bind_some h
      obtain ⟨x27, h27, h⟩ := h
      refine RT.call .none (whole_Sign_ok h27) rfl ⟨rfl, trivial⟩ (tl rfl) ?_
      replace h := let_some h
      obtain ⟨x28, h28, h⟩ := h
      refine RT.neq .none _ rfl rfl (tl rfl) (neI (p := x27) (q := 0) h28) ?_
      replace h := let_some h
      obtain ⟨x29, h29, h⟩ := h
      refine RT.bneq .none _ rfl rfl (tl rfl) h29 ?_
      refine RT.mv .none rfl (tl rfl) ?_
      replace h := bind_some h
      obtain ⟨c47_61, hg61, h⟩ := h
      cases x29
      · replace hg61 := br_f hg61
        refine RT.mv (.some rfl rfl) rfl (tl rfl) ?_
        replace hg61 := let_some hg61
        obtain ⟨x32, h32, hg61⟩ := hg61
        refine RT.neq (.some rfl rfl) _ rfl rfl (tl rfl) (neI (p := x20c) (q := 0) h32) ?_
        refine RT.mv (.some rfl rfl) rfl (tl rfl) ?_
        replace hg61 := bind_some hg61
        obtain ⟨c46_62, hg62, hg61⟩ := hg61
        cases x32
        · replace hg62 := br_f hg62
          obtain rfl := Option.some.inj hg62
          refine RT.skV rfl rfl (sk rfl) (tl rfl) ?_
          refine RT.skV rfl rfl (sk rfl) (tl rfl) ?_
          refine RT.skV rfl rfl (sk rfl) (tl rfl) ?_
          refine RT.skipU rfl rfl (tl rfl) ?_
          refine RT.skipU rfl rfl (tl rfl) ?_
          refine RT.skipU rfl rfl (tl rfl) ?_
          refine RT.skV rfl rfl (sk rfl) (tl rfl) ?_
          refine RT.skV rfl rfl (sk rfl) (tl rfl) ?_
          refine RT.skipU rfl rfl (tl rfl) ?_
          refine RT.skipU rfl rfl (tl rfl) ?_
          refine RT.skipU rfl rfl (tl rfl) ?_
          refine RT.skV rfl rfl (sk rfl) (tl rfl) ?_
          refine RT.pickF (.some rfl rfl) rfl rfl (tl rfl) ?_
          obtain rfl := Option.some.inj hg61
          refine RT.pickF .none rfl rfl (tl rfl) ?_
          refine RT.done ?_
          refine AThen.n ?_
          refine ⟨false, h, ?_⟩
          try dsimp only
          exact weakL id rfl rfl rfl rfl rfl ⟨.ptr, .ptr, .ptr, .ptr, .ptr, .sv (SV.imp_refl _), .sv (SV.imp_refl _), trivial⟩ ⟨⟨_, rfl, ⟨.sv (SV.imp_refl _), .sv (SV.imp_refl _), trivial⟩⟩, ⟨_, rfl, ⟨.sv (SV.imp_refl _), .sv (SV.imp_refl _), trivial⟩⟩, ⟨_, rfl, ⟨.sv (SV.imp_refl _), .sv (SV.imp_refl _), trivial⟩⟩, ⟨_, rfl, ⟨.sv (SV.imp_refl _), .sv (SV.imp_refl _), trivial⟩⟩, ⟨_, rfl, ⟨.sv (SV.imp_refl _), .sv (SV.imp_refl _), trivial⟩⟩, trivial⟩ trivial (fun _ _ => rfl)
        · replace hg62 := br_t hg62
          refine RT.mv (.some rfl rfl) rfl (tl rfl) ?_
          replace hg62 := let_some hg62
          obtain ⟨x35, h35, hg62⟩ := hg62
          refine RT.neq (.some rfl rfl) _ rfl rfl (tl rfl) (neI (p := x20c) (q := 7) h35) ?_
          refine RT.mv (.some rfl rfl) rfl (tl rfl) ?_
          replace hg62 := bind_some hg62
          obtain ⟨c40_63, hg63, hg62⟩ := hg62
          cases x35
          · replace hg63 := br_f hg63
            refine RT.load (.some rfl rfl) rfl rfl (.cons rfl (.cons rfl (.nil))) rfl (tl rfl) ?_
            replace hg63 := bind_some hg63
            obtain ⟨x38, h38, hg63⟩ := hg63
            refine RT.call (.some rfl rfl) (whole_Sign_ok h38) rfl ⟨rfl, trivial⟩ (tl rfl) ?_
            replace hg63 := let_some hg63
            obtain ⟨x39, h39, hg63⟩ := hg63
            refine RT.neq (.some rfl rfl) _ rfl rfl (tl rfl) (neI (p := x38) (q := 0) h39) ?_
            obtain rfl := Option.some.inj hg63
            refine RT.pickF (.some rfl rfl) rfl rfl (tl rfl) ?_
            refine RT.mv (.some rfl rfl) rfl (tl rfl) ?_
            replace hg62 := bind_some hg62
            obtain ⟨c45_64, hg64, hg62⟩ := hg62
            cases x39
            · replace hg64 := br_f hg64
              refine RT.load (.some rfl rfl) rfl rfl (.cons rfl (.cons rfl (.nil))) rfl (tl rfl) ?_
              replace hg64 := bind_some hg64
              obtain ⟨x43, h43, hg64⟩ := hg64
              refine RT.call (.some rfl rfl) (whole_Sign_ok h43) rfl ⟨rfl, trivial⟩ (tl rfl) ?_
              replace hg64 := let_some hg64
              obtain ⟨x44, h44, hg64⟩ := hg64
              refine RT.neq (.some rfl rfl) _ rfl rfl (tl rfl) (neI (p := x43) (q := 0) h44) ?_
              obtain rfl := Option.some.inj hg64
              refine RT.pickF (.some rfl rfl) rfl rfl (tl rfl) ?_
              obtain rfl := Option.some.inj hg62
              refine RT.pickT (.some rfl rfl) rfl rfl (tl rfl) ?_
              obtain rfl := Option.some.inj hg61
              refine RT.pickF .none rfl rfl (tl rfl) ?_
              refine RT.done ?_
              refine AThen.n ?_
              refine ⟨x44, h, ?_⟩
              try dsimp only
              exact weakL id rfl rfl rfl rfl rfl ⟨.ptr, .ptr, .ptr, .ptr, .ptr, .sv (SV.imp_refl _), .sv (SV.imp_refl _), trivial⟩ ⟨⟨_, rfl, ⟨.sv (SV.imp_refl _), .sv (SV.imp_refl _), trivial⟩⟩, ⟨_, rfl, ⟨.sv (SV.imp_refl _), .sv (SV.imp_refl _), trivial⟩⟩, ⟨_, rfl, ⟨.sv (SV.imp_refl _), .sv (SV.imp_refl _), trivial⟩⟩, ⟨_, rfl, ⟨.sv (SV.imp_refl _), .sv (SV.imp_refl _), trivial⟩⟩, ⟨_, rfl, ⟨.sv (SV.imp_refl _), .sv (SV.imp_refl _), trivial⟩⟩, trivial⟩ trivial (fun _ _ => rfl)
            · replace hg64 := br_t hg64
              obtain rfl := Option.some.inj hg64
              refine RT.skV rfl rfl (sk rfl) (tl rfl) ?_
              refine RT.skV rfl rfl (sk rfl) (tl rfl) ?_
              refine RT.skV rfl rfl (sk rfl) (tl rfl) ?_
              refine RT.pickT (.some rfl rfl) rfl rfl (tl rfl) ?_
              obtain rfl := Option.some.inj hg62
              refine RT.pickT (.some rfl rfl) rfl rfl (tl rfl) ?_
              obtain rfl := Option.some.inj hg61
              refine RT.pickF .none rfl rfl (tl rfl) ?_
              refine RT.done ?_
              refine AThen.n ?_
              refine ⟨true, h, ?_⟩
              try dsimp only
              exact weakL id rfl rfl rfl rfl rfl ⟨.ptr, .ptr, .ptr, .ptr, .ptr, .sv (SV.imp_refl _), .sv (SV.imp_refl _), trivial⟩ ⟨⟨_, rfl, ⟨.sv (SV.imp_refl _), .sv (SV.imp_refl _), trivial⟩⟩, ⟨_, rfl, ⟨.sv (SV.imp_refl _), .sv (SV.imp_refl _), trivial⟩⟩, ⟨_, rfl, ⟨.sv (SV.imp_refl _), .sv (SV.imp_refl _), trivial⟩⟩, ⟨_, rfl, ⟨.sv (SV.imp_refl _), .sv (SV.imp_refl _), trivial⟩⟩, ⟨_, rfl, ⟨.sv (SV.imp_refl _), .sv (SV.imp_refl _), trivial⟩⟩, trivial⟩ trivial (fun _ _ => rfl)
          · replace hg63 := br_t hg63
            obtain rfl := Option.some.inj hg63
            refine RT.skV rfl rfl (sk rfl) (tl rfl) ?_
            refine RT.skV rfl rfl (sk rfl) (tl rfl) ?_
            refine RT.skV rfl rfl (sk rfl) (tl rfl) ?_
            refine RT.pickT (.some rfl rfl) rfl rfl (tl rfl) ?_
            refine RT.mv (.some rfl rfl) rfl (tl rfl) ?_
            replace hg62 := bind_some hg62
            obtain ⟨c45_65, hg65, hg62⟩ := hg62
            replace hg65 := br_t hg65
            obtain rfl := Option.some.inj hg65
            refine RT.skV rfl rfl (sk rfl) (tl rfl) ?_
            refine RT.skV rfl rfl (sk rfl) (tl rfl) ?_
            refine RT.skV rfl rfl (sk rfl) (tl rfl) ?_
            refine RT.pickT (.some rfl rfl) rfl rfl (tl rfl) ?_
            obtain rfl := Option.some.inj hg62
            refine RT.pickT (.some rfl rfl) rfl rfl (tl rfl) ?_
            obtain rfl := Option.some.inj hg61
            refine RT.pickF .none rfl rfl (tl rfl) ?_
            refine RT.done ?_
            refine AThen.n ?_
            refine ⟨true, h, ?_⟩
            try dsimp only
            exact weakL id rfl rfl rfl rfl rfl ⟨.ptr, .ptr, .ptr, .ptr, .ptr, .sv (SV.imp_refl _), .sv (SV.imp_refl _), trivial⟩ ⟨⟨_, rfl, ⟨.sv (SV.imp_refl _), .sv (SV.imp_refl _), trivial⟩⟩, ⟨_, rfl, ⟨.sv (SV.imp_refl _), .sv (SV.imp_refl _), trivial⟩⟩, ⟨_, rfl, ⟨.sv (SV.imp_refl _), .sv (SV.imp_refl _), trivial⟩⟩, ⟨_, rfl, ⟨.sv (SV.imp_refl _), .sv (SV.imp_refl _), trivial⟩⟩, ⟨_, rfl, ⟨.sv (SV.imp_refl _), .sv (SV.imp_refl _), trivial⟩⟩, trivial⟩ trivial (fun _ _ => rfl)
      · replace hg61 := br_t hg61
        obtain rfl := Option.some.inj hg61
        refine RT.skV rfl rfl (sk rfl) (tl rfl) ?_
        refine RT.skV rfl rfl (sk rfl) (tl rfl) ?_
        refine RT.skV rfl rfl (sk rfl) (tl rfl) ?_
        refine RT.skipU rfl rfl (tl rfl) ?_
        refine RT.skipU rfl rfl (tl rfl) ?_
        refine RT.skipU rfl rfl (tl rfl) ?_
        refine RT.skipU rfl rfl (tl rfl) ?_
        refine RT.skipU rfl rfl (tl rfl) ?_
        refine RT.skipU rfl rfl (tl rfl) ?_
        refine RT.skipU rfl rfl (tl rfl) ?_
        refine RT.skipU rfl rfl (tl rfl) ?_
        refine RT.skipU rfl rfl (tl rfl) ?_
        refine RT.skipU rfl rfl (tl rfl) ?_
        refine RT.skipU rfl rfl (tl rfl) ?_
        refine RT.skipU rfl rfl (tl rfl) ?_
        refine RT.skV rfl rfl (sk rfl) (tl rfl) ?_
        refine RT.pickT .none rfl rfl (tl rfl) ?_
        refine RT.done ?_
        refine AThen.n ?_
        refine ⟨true, h, ?_⟩
        try dsimp only
        exact weakL id rfl rfl rfl rfl rfl ⟨.ptr, .ptr, .ptr, .ptr, .ptr, .sv (SV.imp_refl _), .sv (SV.imp_refl _), trivial⟩ ⟨⟨_, rfl, ⟨.sv (SV.imp_refl _), .sv (SV.imp_refl _), trivial⟩⟩, ⟨_, rfl, ⟨.sv (SV.imp_refl _), .sv (SV.imp_refl _), trivial⟩⟩, ⟨_, rfl, ⟨.sv (SV.imp_refl _), .sv (SV.imp_refl _), trivial⟩⟩, ⟨_, rfl, ⟨.sv (SV.imp_refl _), .sv (SV.imp_refl _), trivial⟩⟩, ⟨_, rfl, ⟨.sv (SV.imp_refl _), .sv (SV.imp_refl _), trivial⟩⟩, trivial⟩ trivial (fun _ _ => rfl)
    · try dsimp only
      refine AThen.n ?_
      cases y47j7
      · replace h := br_f h
        refine ok_condF rfl ?_
        refine ok_skip ?_
        refine AThen.n ?_
        refine ok_seq ?_
        refine ok_seq ?_
        refine ok_tailJ h (fun j15 => AS.mkL 128 [(3, .ptr 3 0), (4, .ptr 4 0), (5, .ptr 5 0), (71, .sv (.v (.bool j15)))] [(5, ⟨24, [.sv (.v (.bool x2_0)), .sv (slc 1 (List.map eU32 x2_1))]⟩), (4, ⟨24, [.sv (.v (.bool x1_0)), .sv (slc 1 (List.map eU32 x1_1))]⟩), (3, ⟨24, [.sv (.v (.bool x0_0)), .sv (slc 1 (List.map eU32 x0_1))]⟩)] []) (fun h => ?_) (fun y71j14 h => ?_)
        · refine ok_region_draw mixed ?_
          refine RT.mv .none rfl (tl rfl) ?_
          replace h := let_some h
          obtain ⟨x49, h49, h⟩ := h
          refine RT.eql .none _ rfl rfl (tl rfl) (eqI (p := x20c) (q := 0) h49) ?_
          refine RT.mv .none rfl (tl rfl) ?_
          replace h := bind_some h
          obtain ⟨c71_56, hg56, h⟩ := h
          cases x49
          · replace hg56 := br_f hg56
            obtain rfl := Option.some.inj hg56
            refine RT.skV rfl rfl (sk rfl) (tl rfl) ?_
            refine RT.skV rfl rfl (sk rfl) (tl rfl) ?_
            refine RT.skV rfl rfl (sk rfl) (tl rfl) ?_
            refine RT.skV rfl rfl (sk rfl) (tl rfl) ?_
            refine RT.skV rfl rfl (sk rfl) (tl rfl) ?_
            refine RT.skV rfl rfl (sk rfl) (tl rfl) ?_
            refine RT.skV rfl rfl (sk rfl) (tl rfl) ?_
            refine RT.skV rfl rfl (sk rfl) (tl rfl) ?_
            refine RT.skV rfl rfl (sk rfl) (tl rfl) ?_
            refine RT.skipU rfl rfl (tl rfl) ?_
            refine RT.skipU rfl rfl (tl rfl) ?_
            refine RT.skipU rfl rfl (tl rfl) ?_
            refine RT.skV rfl rfl (sk rfl) (tl rfl) ?_
            refine RT.skV rfl rfl (sk rfl) (tl rfl) ?_
            refine RT.skipU rfl rfl (tl rfl) ?_
            refine RT.skipU rfl rfl (tl rfl) ?_
            refine RT.skipU rfl rfl (tl rfl) ?_
            refine RT.skipU rfl rfl (tl rfl) ?_
            refine RT.skipU rfl rfl (tl rfl) ?_
            refine RT.skV rfl rfl (sk rfl) (tl rfl) ?_
            refine RT.pickF .none rfl rfl (tl rfl) ?_
            refine RT.done ⟨by kernel_rfl, ?_⟩
            refine AThen.n ?_
            refine ⟨false, h, ?_⟩
            try dsimp only
            exact weakL id rfl rfl rfl rfl rfl ⟨.ptr, .ptr, .ptr, .sv (SV.imp_refl _), trivial⟩ ⟨⟨_, rfl, ⟨.sv (SV.imp_refl _), .sv (SV.imp_refl _), trivial⟩⟩, ⟨_, rfl, ⟨.sv (SV.imp_refl _), .sv (SV.imp_refl _), trivial⟩⟩, ⟨_, rfl, ⟨.sv (SV.imp_refl _), .sv (SV.imp_refl _), trivial⟩⟩, trivial⟩ trivial (fun _ _ => rfl)
          · replace hg56 := br_t hg56
            refine RT.load (.some rfl rfl) rfl rfl (.cons rfl (.cons rfl (.nil))) rfl (tl rfl) ?_
            refine RT.load (.some rfl rfl) rfl rfl (.cons rfl (.cons rfl (.nil))) rfl (tl rfl) ?_
            replace hg56 := bind_some hg56
            obtain ⟨⟨x53_0, x53_1⟩, h53, hg56⟩ := hg56
            refine RT.call (.some rfl rfl) (whole_Mul_ok h53) rfl ⟨rfl, rfl, trivial⟩ (tl rfl) ?_
            refine RT.load (.some rfl rfl) rfl rfl (.cons rfl (.cons rfl (.nil))) rfl (tl rfl) ?_
            replace hg56 := bind_some hg56
            obtain ⟨⟨x55_0, x55_1⟩, h55, hg56⟩ := hg56
            refine RT.call (.some rfl rfl) (whole_Add_ok h55) rfl ⟨rfl, rfl, trivial⟩ (tl rfl) ?_
            refine RT.load (.some rfl rfl) rfl rfl (.cons rfl (.cons rfl (.nil))) rfl (tl rfl) ?_
            replace hg56 := bind_some hg56
            obtain ⟨x57, h57, hg56⟩ := hg56
            refine RT.call (.some rfl rfl) (whole_Cmp_ok h57) rfl ⟨rfl, rfl, trivial⟩ (tl rfl) ?_
            replace hg56 := let_some hg56
            obtain ⟨x58, h58, hg56⟩ := hg56
            refine RT.neq (.some rfl rfl) _ rfl rfl (tl rfl) (neI (p := x57) (q := 0) h58) ?_
            refine RT.mv (.some rfl rfl) rfl (tl rfl) ?_
            replace hg56 := bind_some hg56
            obtain ⟨c63_57, hg57, hg56⟩ := hg56
            cases x58
            · replace hg57 := br_f hg57
              refine RT.load (.some rfl rfl) rfl rfl (.cons rfl (.cons rfl (.nil))) rfl (tl rfl) ?_
              replace hg57 := bind_some hg57
              obtain ⟨x61, h61, hg57⟩ := hg57
              refine RT.call (.some rfl rfl) (whole_Sign_ok h61) rfl ⟨rfl, trivial⟩ (tl rfl) ?_
              replace hg57 := let_some hg57
              obtain ⟨x62, h62, hg57⟩ := hg57
              refine RT.lss (.some rfl rfl) _ rfl rfl (tl rfl) h62 ?_
              obtain rfl := Option.some.inj hg57
              refine RT.pickF (.some rfl rfl) rfl rfl (tl rfl) ?_
              refine RT.mv (.some rfl rfl) rfl (tl rfl) ?_
              replace hg56 := bind_some hg56
              obtain ⟨c70_58, hg58, hg56⟩ := hg56
              cases x62
              · replace hg58 := br_f hg58
                refine RT.load (.some rfl rfl) rfl rfl (.cons rfl (.cons rfl (.nil))) rfl (tl rfl) ?_
                refine RT.load (.some rfl rfl) rfl rfl (.cons rfl (.cons rfl (.nil))) rfl (tl rfl) ?_
                replace hg58 := bind_some hg58
                obtain ⟨⟨x67_0, x67_1⟩, h67, hg58⟩ := hg58
                refine RT.call (.some rfl rfl) (whole_Abs_ok h67) rfl ⟨rfl, trivial⟩ (tl rfl) ?_
                replace hg58 := bind_some hg58
                obtain ⟨x68, h68, hg58⟩ := hg58
                refine RT.call (.some rfl rfl) (whole_Cmp_ok h68) rfl ⟨rfl, rfl, trivial⟩ (tl rfl) ?_
                replace hg58 := let_some hg58
                obtain ⟨x69, h69, hg58⟩ := hg58
                refine RT.geq (.some rfl rfl) _ rfl rfl (tl rfl) h69 ?_
                obtain rfl := Option.some.inj hg58
                refine RT.pickF (.some rfl rfl) rfl rfl (tl rfl) ?_
                obtain rfl := Option.some.inj hg56
                refine RT.pickT .none rfl rfl (tl rfl) ?_
                refine RT.done ⟨by kernel_rfl, ?_⟩
                refine AThen.n ?_
                refine ⟨x69, h, ?_⟩
                try dsimp only
                exact weakL id rfl rfl rfl rfl rfl ⟨.ptr, .ptr, .ptr, .sv (SV.imp_refl _), trivial⟩ ⟨⟨_, rfl, ⟨.sv (SV.imp_refl _), .sv (SV.imp_refl _), trivial⟩⟩, ⟨_, rfl, ⟨.sv (SV.imp_refl _), .sv (SV.imp_refl _), trivial⟩⟩, ⟨_, rfl, ⟨.sv (SV.imp_refl _), .sv (SV.imp_refl _), trivial⟩⟩, trivial⟩ trivial (fun _ _ => rfl)
              · replace hg58 := br_t hg58
                obtain rfl := Option.some.inj hg58
                refine RT.skV rfl rfl (sk rfl) (tl rfl) ?_
                refine RT.skV rfl rfl (sk rfl) (tl rfl) ?_
                refine RT.skV rfl rfl (sk rfl) (tl rfl) ?_
                refine RT.skV rfl rfl (sk rfl) (tl rfl) ?_
                refine RT.skV rfl rfl (sk rfl) (tl rfl) ?_
                refine RT.pickT (.some rfl rfl) rfl rfl (tl rfl) ?_
                obtain rfl := Option.some.inj hg56
                refine RT.pickT .none rfl rfl (tl rfl) ?_
                refine RT.done ⟨by kernel_rfl, ?_⟩
                refine AThen.n ?_
                refine ⟨true, h, ?_⟩
                try dsimp only
                exact weakL id rfl rfl rfl rfl rfl ⟨.ptr, .ptr, .ptr, .sv (SV.imp_refl _), trivial⟩ ⟨⟨_, rfl, ⟨.sv (SV.imp_refl _), .sv (SV.imp_refl _), trivial⟩⟩, ⟨_, rfl, ⟨.sv (SV.imp_refl _), .sv (SV.imp_refl _), trivial⟩⟩, ⟨_, rfl, ⟨.sv (SV.imp_refl _), .sv (SV.imp_refl _), trivial⟩⟩, trivial⟩ trivial (fun _ _ => rfl)
            · replace hg57 := br_t hg57
              obtain rfl := Option.some.inj hg57
              refine RT.skV rfl rfl (sk rfl) (tl rfl) ?_
              refine RT.skV rfl rfl (sk rfl) (tl rfl) ?_
              refine RT.skV rfl rfl (sk rfl) (tl rfl) ?_
              refine RT.pickT (.some rfl rfl) rfl rfl (tl rfl) ?_
              refine RT.mv (.some rfl rfl) rfl (tl rfl) ?_
              replace hg56 := bind_some hg56
              obtain ⟨c70_59, hg59, hg56⟩ := hg56
              replace hg59 := br_t hg59
              obtain rfl := Option.some.inj hg59
              refine RT.skV rfl rfl (sk rfl) (tl rfl) ?_
              refine RT.skV rfl rfl (sk rfl) (tl rfl) ?_
              refine RT.skV rfl rfl (sk rfl) (tl rfl) ?_
              refine RT.skV rfl rfl (sk rfl) (tl rfl) ?_
              refine RT.skV rfl rfl (sk rfl) (tl rfl) ?_
              refine RT.pickT (.some rfl rfl) rfl rfl (tl rfl) ?_
              obtain rfl := Option.some.inj hg56
              refine RT.pickT .none rfl rfl (tl rfl) ?_
              refine RT.done ⟨by kernel_rfl, ?_⟩
              refine AThen.n ?_
              refine ⟨true, h, ?_⟩
              try dsimp only
              exact weakL id rfl rfl rfl rfl rfl ⟨.ptr, .ptr, .ptr, .sv (SV.imp_refl _), trivial⟩ ⟨⟨_, rfl, ⟨.sv (SV.imp_refl _), .sv (SV.imp_refl _), trivial⟩⟩, ⟨_, rfl, ⟨.sv (SV.imp_refl _), .sv (SV.imp_refl _), trivial⟩⟩, ⟨_, rfl, ⟨.sv (SV.imp_refl _), .sv (SV.imp_refl _), trivial⟩⟩, trivial⟩ trivial (fun _ _ => rfl)
        · try dsimp only
          refine AThen.n ?_
          cases y71j14
          · replace h := br_f h
            refine ok_condF rfl ?_
            refine ok_skip ?_
            refine AThen.n ?_
            refine ok_seq ?_
            refine ok_region ?_
            refine RT.load .none rfl rfl (.cons rfl (.cons rfl (.nil))) rfl (tl rfl) ?_
            refine RT.load .none rfl rfl (.cons rfl (.cons rfl (.nil))) rfl (tl rfl) ?_
            replace h := bind_some h
            obtain ⟨⟨x74_0, x74_1⟩, h74, h⟩ := h
            refine RT.call .none (whole_GCD_ok h74) rfl ⟨rfl, rfl, trivial⟩ (tl rfl) ?_
            refine RT.allocI .none (cs := [.v (.bool false), slc 1 (List.map eU32 [])]) (by exact ⟨SV.imp_refl _, imp_nil, trivial⟩) rfl (tl rfl) rfl rfl ?_
            refine RT.store .none rfl rfl rfl rfl rfl ?_
            refine RT.done ?_
            refine AThen.n ?_
            refine ok_seq ?_
            refine ok_seq ?_
            refine ok_tailJ h (fun j31 => AS.mkL 128 [(3, .ptr 3 0), (4, .ptr 4 0), (5, .ptr 5 0), (10, .ptr 10 0), (105, .sv (.v (.bool j31)))] [(10, ⟨24, [.sv (.v (.bool x74_0)), .sv (slc 1 (List.map eU32 x74_1))]⟩), (5, ⟨24, [.sv (.v (.bool x2_0)), .sv (slc 1 (List.map eU32 x2_1))]⟩), (4, ⟨24, [.sv (.v (.bool x1_0)), .sv (slc 1 (List.map eU32 x1_1))]⟩), (3, ⟨24, [.sv (.v (.bool x0_0)), .sv (slc 1 (List.map eU32 x0_1))]⟩)] []) (fun h => ?_) (fun y105j30 h => ?_)
            · refine ok_region ?_
              refine RT.load .none rfl rfl (.cons rfl (.cons rfl (.nil))) rfl (tl rfl) ?_
              replace h := bind_some h
              obtain ⟨x76, h76, h⟩ := h
              refine RT.call .none (whole_Sign_ok h76) rfl ⟨rfl, trivial⟩ (tl rfl) ?_
              replace h := let_some h
              obtain ⟨x77, h77, h⟩ := h
              refine RT.lss .none _ rfl rfl (tl rfl) h77 ?_
              refine RT.mv .none rfl (tl rfl) ?_
              replace h := bind_some h
              obtain ⟨c83_42, hg42, h⟩ := h
              cases x77
              · replace hg42 := br_f hg42
                refine RT.load (.some rfl rfl) rfl rfl (.cons rfl (.cons rfl (.nil))) rfl (tl rfl) ?_
                refine RT.load (.some rfl rfl) rfl rfl (.cons rfl (.cons rfl (.nil))) rfl (tl rfl) ?_
                replace hg42 := bind_some hg42
                obtain ⟨x81, h81, hg42⟩ := hg42
                refine RT.call (.some rfl rfl) (law01_divides_ok h81) rfl ⟨rfl, rfl, trivial⟩ (tl rfl) ?_
                replace hg42 := let_some hg42
                obtain ⟨x82, h82, hg42⟩ := hg42
                refine RT.not (.some rfl rfl) rfl (tl rfl) _ h82 ?_
                obtain rfl := Option.some.inj hg42
                refine RT.pickF .none rfl rfl (tl rfl) ?_
                refine RT.mv .none rfl (tl rfl) ?_
                replace h := bind_some h
                obtain ⟨c89_43, hg43, h⟩ := h
                cases x82
                · replace hg43 := br_f hg43
                  refine RT.load (.some rfl rfl) rfl rfl (.cons rfl (.cons rfl (.nil))) rfl (tl rfl) ?_
                  refine RT.load (.some rfl rfl) rfl rfl (.cons rfl (.cons rfl (.nil))) rfl (tl rfl) ?_
                  replace hg43 := bind_some hg43
                  obtain ⟨x87, h87, hg43⟩ := hg43
                  refine RT.call (.some rfl rfl) (law01_divides_ok h87) rfl ⟨rfl, rfl, trivial⟩ (tl rfl) ?_
                  replace hg43 := let_some hg43
                  obtain ⟨x88, h88, hg43⟩ := hg43
                  refine RT.not (.some rfl rfl) rfl (tl rfl) _ h88 ?_
                  obtain rfl := Option.some.inj hg43
                  refine RT.pickF .none rfl rfl (tl rfl) ?_
                  refine RT.mv .none rfl (tl rfl) ?_
                  replace h := bind_some h
                  obtain ⟨c105_44, hg44, h⟩ := h
                  cases x88
                  · replace hg44 := br_f hg44
                    refine RT.load (.some rfl rfl) rfl rfl (.cons rfl (.cons rfl (.nil))) rfl (tl rfl) ?_
                    refine RT.load (.some rfl rfl) rfl rfl (.cons rfl (.cons rfl (.nil))) rfl (tl rfl) ?_
                    replace hg44 := bind_some hg44
                    obtain ⟨x93, h93, hg44⟩ := hg44
                    refine RT.call (.some rfl rfl) (law01_divides_ok h93) rfl ⟨rfl, rfl, trivial⟩ (tl rfl) ?_
                    refine RT.mv (.some rfl rfl) rfl (tl rfl) ?_
                    replace hg44 := bind_some hg44
                    obtain ⟨c98_45, hg45, hg44⟩ := hg44
                    cases x93
                    · replace hg45 := br_f hg45
                      obtain rfl := Option.some.inj hg45
                      refine RT.skV rfl rfl (sk rfl) (tl rfl) ?_
                      refine RT.skV rfl rfl (sk rfl) (tl rfl) ?_
                      refine RT.skV rfl rfl (sk rfl) (tl rfl) ?_
                      refine RT.pickF (.some rfl rfl) rfl rfl (tl rfl) ?_
                      refine RT.mv (.some rfl rfl) rfl (tl rfl) ?_
                      replace hg44 := bind_some hg44
                      obtain ⟨c104_47, hg47, hg44⟩ := hg44
                      replace hg47 := br_f hg47
                      obtain rfl := Option.some.inj hg47
                      refine RT.skV rfl rfl (sk rfl) (tl rfl) ?_
                      refine RT.skV rfl rfl (sk rfl) (tl rfl) ?_
                      refine RT.skV rfl rfl (sk rfl) (tl rfl) ?_
                      refine RT.skV rfl rfl (sk rfl) (tl rfl) ?_
                      refine RT.pickF (.some rfl rfl) rfl rfl (tl rfl) ?_
                      obtain rfl := Option.some.inj hg44
                      refine RT.pickF .none rfl rfl (tl rfl) ?_
                      refine RT.done ?_
                      refine AThen.n ?_
                      refine ⟨false, h, ?_⟩
                      try dsimp only
                      exact weakL id rfl rfl rfl rfl rfl ⟨.ptr, .ptr, .ptr, .ptr, .sv (SV.imp_refl _), trivial⟩ ⟨⟨_, rfl, ⟨.sv (SV.imp_refl _), .sv (SV.imp_refl _), trivial⟩⟩, ⟨_, rfl, ⟨.sv (SV.imp_refl _), .sv (SV.imp_refl _), trivial⟩⟩, ⟨_, rfl, ⟨.sv (SV.imp_refl _), .sv (SV.imp_refl _), trivial⟩⟩, ⟨_, rfl, ⟨.sv (SV.imp_refl _), .sv (SV.imp_refl _), trivial⟩⟩, trivial⟩ trivial (fun _ _ => rfl)
                    · replace hg45 := br_t hg45
                      refine RT.load (.some rfl rfl) rfl rfl (.cons rfl (.cons rfl (.nil))) rfl (tl rfl) ?_
                      refine RT.load (.some rfl rfl) rfl rfl (.cons rfl (.cons rfl (.nil))) rfl (tl rfl) ?_
                      replace hg45 := bind_some hg45
                      obtain ⟨x97, h97, hg45⟩ := hg45
                      refine RT.call (.some rfl rfl) (law01_divides_ok h97) rfl ⟨rfl, rfl, trivial⟩ (tl rfl) ?_
                      obtain rfl := Option.some.inj hg45
                      refine RT.pickT (.some rfl rfl) rfl rfl (tl rfl) ?_
                      refine RT.mv (.some rfl rfl) rfl (tl rfl) ?_
                      replace hg44 := bind_some hg44
                      obtain ⟨c104_46, hg46, hg44⟩ := hg44
                      cases x97
                      · replace hg46 := br_f hg46
                        obtain rfl := Option.some.inj hg46
                        refine RT.skV rfl rfl (sk rfl) (tl rfl) ?_
                        refine RT.skV rfl rfl (sk rfl) (tl rfl) ?_
                        refine RT.skV rfl rfl (sk rfl) (tl rfl) ?_
                        refine RT.skV rfl rfl (sk rfl) (tl rfl) ?_
                        refine RT.pickF (.some rfl rfl) rfl rfl (tl rfl) ?_
                        obtain rfl := Option.some.inj hg44
                        refine RT.pickF .none rfl rfl (tl rfl) ?_
                        refine RT.done ?_
                        refine AThen.n ?_
                        refine ⟨false, h, ?_⟩
                        try dsimp only
                        exact weakL id rfl rfl rfl rfl rfl ⟨.ptr, .ptr, .ptr, .ptr, .sv (SV.imp_refl _), trivial⟩ ⟨⟨_, rfl, ⟨.sv (SV.imp_refl _), .sv (SV.imp_refl _), trivial⟩⟩, ⟨_, rfl, ⟨.sv (SV.imp_refl _), .sv (SV.imp_refl _), trivial⟩⟩, ⟨_, rfl, ⟨.sv (SV.imp_refl _), .sv (SV.imp_refl _), trivial⟩⟩, ⟨_, rfl, ⟨.sv (SV.imp_refl _), .sv (SV.imp_refl _), trivial⟩⟩, trivial⟩ trivial (fun _ _ => rfl)
                      · replace hg46 := br_t hg46
                        refine RT.load (.some rfl rfl) rfl rfl (.cons rfl (.cons rfl (.nil))) rfl (tl rfl) ?_
                        refine RT.load (.some rfl rfl) rfl rfl (.cons rfl (.cons rfl (.nil))) rfl (tl rfl) ?_
                        replace hg46 := bind_some hg46
                        obtain ⟨x102, h102, hg46⟩ := hg46
                        refine RT.call (.some rfl rfl) (law01_divides_ok h102) rfl ⟨rfl, rfl, trivial⟩ (tl rfl) ?_
                        replace hg46 := let_some hg46
                        obtain ⟨x103, h103, hg46⟩ := hg46
                        refine RT.not (.some rfl rfl) rfl (tl rfl) _ h103 ?_
                        obtain rfl := Option.some.inj hg46
                        refine RT.pickT (.some rfl rfl) rfl rfl (tl rfl) ?_
                        obtain rfl := Option.some.inj hg44
                        refine RT.pickF .none rfl rfl (tl rfl) ?_
                        refine RT.done ?_
                        refine AThen.n ?_
                        refine ⟨x103, h, ?_⟩
                        try dsimp only
                        exact weakL id rfl rfl rfl rfl rfl ⟨.ptr, .ptr, .ptr, .ptr, .sv (SV.imp_refl _), trivial⟩ ⟨⟨_, rfl, ⟨.sv (SV.imp_refl _), .sv (SV.imp_refl _), trivial⟩⟩, ⟨_, rfl, ⟨.sv (SV.imp_refl _), .sv (SV.imp_refl _), trivial⟩⟩, ⟨_, rfl, ⟨.sv (SV.imp_refl _), .sv (SV.imp_refl _), trivial⟩⟩, ⟨_, rfl, ⟨.sv (SV.imp_refl _), .sv (SV.imp_refl _), trivial⟩⟩, trivial⟩ trivial (fun _ _ => rfl)
                  · replace hg44 := br_t hg44
                    obtain rfl := Option.some.inj hg44
                    refine RT.skV rfl rfl (sk rfl) (tl rfl) ?_
                    refine RT.skV rfl rfl (sk rfl) (tl rfl) ?_
                    refine RT.skV rfl rfl (sk rfl) (tl rfl) ?_
                    refine RT.skV rfl rfl (sk rfl) (tl rfl) ?_
                    refine RT.skipU rfl rfl (tl rfl) ?_
                    refine RT.skipU rfl rfl (tl rfl) ?_
                    refine RT.skipU rfl rfl (tl rfl) ?_
                    refine RT.skV rfl rfl (sk rfl) (tl rfl) ?_
                    refine RT.skV rfl rfl (sk rfl) (tl rfl) ?_
                    refine RT.skipU rfl rfl (tl rfl) ?_
                    refine RT.skipU rfl rfl (tl rfl) ?_
                    refine RT.skipU rfl rfl (tl rfl) ?_
                    refine RT.skipU rfl rfl (tl rfl) ?_
                    refine RT.skV rfl rfl (sk rfl) (tl rfl) ?_
                    refine RT.pickT .none rfl rfl (tl rfl) ?_
                    refine RT.done ?_
                    refine AThen.n ?_
                    refine ⟨true, h, ?_⟩
                    try dsimp only
                    exact weakL id rfl rfl rfl rfl rfl ⟨.ptr, .ptr, .ptr, .ptr, .sv (SV.imp_refl _), trivial⟩ ⟨⟨_, rfl, ⟨.sv (SV.imp_refl _), .sv (SV.imp_refl _), trivial⟩⟩, ⟨_, rfl, ⟨.sv (SV.imp_refl _), .sv (SV.imp_refl _), trivial⟩⟩, ⟨_, rfl, ⟨.sv (SV.imp_refl _), .sv (SV.imp_refl _), trivial⟩⟩, ⟨_, rfl, ⟨.sv (SV.imp_refl _), .sv (SV.imp_refl _), trivial⟩⟩, trivial⟩ trivial (fun _ _ => rfl)
                · replace hg43 := br_t hg43
                  obtain rfl := Option.some.inj hg43
                  refine RT.skV rfl rfl (sk rfl) (tl rfl) ?_
                  refine RT.skV rfl rfl (sk rfl) (tl rfl) ?_
                  refine RT.skV rfl rfl (sk rfl) (tl rfl) ?_
                  refine RT.skV rfl rfl (sk rfl) (tl rfl) ?_
                  refine RT.pickT .none rfl rfl (tl rfl) ?_
                  refine RT.mv .none rfl (tl rfl) ?_
                  replace h := bind_some h
                  obtain ⟨c105_49, hg49, h⟩ := h
                  replace hg49 := br_t hg49
                  obtain rfl := Option.some.inj hg49
                  refine RT.skV rfl rfl (sk rfl) (tl rfl) ?_
                  refine RT.skV rfl rfl (sk rfl) (tl rfl) ?_
                  refine RT.skV rfl rfl (sk rfl) (tl rfl) ?_
                  refine RT.skV rfl rfl (sk rfl) (tl rfl) ?_
                  refine RT.skipU rfl rfl (tl rfl) ?_
                  refine RT.skipU rfl rfl (tl rfl) ?_
                  refine RT.skipU rfl rfl (tl rfl) ?_
                  refine RT.skV rfl rfl (sk rfl) (tl rfl) ?_
                  refine RT.skV rfl rfl (sk rfl) (tl rfl) ?_
                  refine RT.skipU rfl rfl (tl rfl) ?_
                  refine RT.skipU rfl rfl (tl rfl) ?_
                  refine RT.skipU rfl rfl (tl rfl) ?_
                  refine RT.skipU rfl rfl (tl rfl) ?_
                  refine RT.skV rfl rfl (sk rfl) (tl rfl) ?_
                  refine RT.pickT .none rfl rfl (tl rfl) ?_
                  refine RT.done ?_
                  refine AThen.n ?_
                  refine ⟨true, h, ?_⟩
                  try dsimp only
                  exact weakL id rfl rfl rfl rfl rfl ⟨.ptr, .ptr, .ptr, .ptr, .sv (SV.imp_refl _), trivial⟩ ⟨⟨_, rfl, ⟨.sv (SV.imp_refl _), .sv (SV.imp_refl _), trivial⟩⟩, ⟨_, rfl, ⟨.sv (SV.imp_refl _), .sv (SV.imp_refl _), trivial⟩⟩, ⟨_, rfl, ⟨.sv (SV.imp_refl _), .sv (SV.imp_refl _), trivial⟩⟩, ⟨_, rfl, ⟨.sv (SV.imp_refl _), .sv (SV.imp_refl _), trivial⟩⟩, trivial⟩ trivial (fun _ _ => rfl)
              · replace hg42 := br_t hg42
                obtain rfl := Option.some.inj hg42
                refine RT.skV rfl rfl (sk rfl) (tl rfl) ?_
                refine RT.skV rfl rfl (sk rfl) (tl rfl) ?_
                refine RT.skV rfl rfl (sk rfl) (tl rfl) ?_
                refine RT.skV rfl rfl (sk rfl) (tl rfl) ?_
                refine RT.pickT .none rfl rfl (tl rfl) ?_
                refine RT.mv .none rfl (tl rfl) ?_
                replace h := bind_some h
                obtain ⟨c89_50, hg50, h⟩ := h
                replace hg50 := br_t hg50
                obtain rfl := Option.some.inj hg50
                refine RT.skV rfl rfl (sk rfl) (tl rfl) ?_
                refine RT.skV rfl rfl (sk rfl) (tl rfl) ?_
                refine RT.skV rfl rfl (sk rfl) (tl rfl) ?_
                refine RT.skV rfl rfl (sk rfl) (tl rfl) ?_
                refine RT.pickT .none rfl rfl (tl rfl) ?_
                refine RT.mv .none rfl (tl rfl) ?_
                replace h := bind_some h
                obtain ⟨c105_51, hg51, h⟩ := h
                replace hg51 := br_t hg51
                obtain rfl := Option.some.inj hg51
                refine RT.skV rfl rfl (sk rfl) (tl rfl) ?_
                refine RT.skV rfl rfl (sk rfl) (tl rfl) ?_
                refine RT.skV rfl rfl (sk rfl) (tl rfl) ?_
                refine RT.skV rfl rfl (sk rfl) (tl rfl) ?_
                refine RT.skipU rfl rfl (tl rfl) ?_
                refine RT.skipU rfl rfl (tl rfl) ?_
                refine RT.skipU rfl rfl (tl rfl) ?_
                refine RT.skV rfl rfl (sk rfl) (tl rfl) ?_
                refine RT.skV rfl rfl (sk rfl) (tl rfl) ?_
                refine RT.skipU rfl rfl (tl rfl) ?_
                refine RT.skipU rfl rfl (tl rfl) ?_
                refine RT.skipU rfl rfl (tl rfl) ?_
                refine RT.skipU rfl rfl (tl rfl) ?_
                refine RT.skV rfl rfl (sk rfl) (tl rfl) ?_
                refine RT.pickT .none rfl rfl (tl rfl) ?_
                refine RT.done ?_
                refine AThen.n ?_
                refine ⟨true, h, ?_⟩
                try dsimp only
                exact weakL id rfl rfl rfl rfl rfl ⟨.ptr, .ptr, .ptr, .ptr, .sv (SV.imp_refl _), trivial⟩ ⟨⟨_, rfl, ⟨.sv (SV.imp_refl _), .sv (SV.imp_refl _), trivial⟩⟩, ⟨_, rfl, ⟨.sv (SV.imp_refl _), .sv (SV.imp_refl _), trivial⟩⟩, ⟨_, rfl, ⟨.sv (SV.imp_refl _), .sv (SV.imp_refl _), trivial⟩⟩, ⟨_, rfl, ⟨.sv (SV.imp_refl _), .sv (SV.imp_refl _), trivial⟩⟩, trivial⟩ trivial (fun _ _ => rfl)
            · try dsimp only
              refine AThen.n ?_
              cases y105j30
              · replace h := br_f h
                refine ok_condF rfl ?_
                refine ok_skip ?_
                refine AThen.n ?_
                refine ok_seq ?_
                refine ok_tailJ h (fun j37 => AS.mkL 128 [(6, .sv (.v (.bool j37)))] [] []) (fun h => ?_) (fun y6j36 h => ?_)
                · refine ok_region_draw mixed ?_
                  refine RT.load .none rfl rfl (.cons rfl (.cons rfl (.nil))) rfl (tl rfl) ?_
                  refine RT.load .none rfl rfl (.cons rfl (.cons rfl (.nil))) rfl (tl rfl) ?_
                  replace h := bind_some h
                  obtain ⟨⟨x108_0, x108_1⟩, h108, h⟩ := h
                  refine RT.call .none (whole_Mul_ok h108) rfl ⟨rfl, rfl, trivial⟩ (tl rfl) ?_
                  refine RT.load .none rfl rfl (.cons rfl (.cons rfl (.nil))) rfl (tl rfl) ?_
                  refine RT.load .none rfl rfl (.cons rfl (.cons rfl (.nil))) rfl (tl rfl) ?_
                  replace h := bind_some h
                  obtain ⟨⟨x111_0, x111_1⟩, h111, h⟩ := h
                  refine RT.call .none (whole_Mul_ok h111) rfl ⟨rfl, rfl, trivial⟩ (tl rfl) ?_
                  replace h := bind_some h
                  obtain ⟨⟨x112_0, x112_1⟩, h112, h⟩ := h
                  refine RT.call .none (whole_GCD_ok h112) rfl ⟨rfl, rfl, trivial⟩ (tl rfl) ?_
                  refine RT.load .none rfl rfl (.cons rfl (.cons rfl (.nil))) rfl (tl rfl) ?_
                  refine RT.load .none rfl rfl (.cons rfl (.cons rfl (.nil))) rfl (tl rfl) ?_
                  replace h := bind_some h
                  obtain ⟨⟨x115_0, x115_1⟩, h115, h⟩ := h
                  refine RT.call .none (whole_Abs_ok h115) rfl ⟨rfl, trivial⟩ (tl rfl) ?_
                  replace h := bind_some h
                  obtain ⟨⟨x116_0, x116_1⟩, h116, h⟩ := h
                  refine RT.call .none (whole_Mul_ok h116) rfl ⟨rfl, rfl, trivial⟩ (tl rfl) ?_
                  replace h := bind_some h
                  obtain ⟨x117, h117, h⟩ := h
                  refine RT.call .none (ref01_Same_ok h117) rfl ⟨rfl, rfl, trivial⟩ (tl rfl) ?_
                  refine RT.mv .none rfl (tl rfl) ?_
                  replace h := bind_some h
                  obtain ⟨c124_38, hg38, h⟩ := h
                  cases x117
                  · replace hg38 := br_f hg38
                    obtain rfl := Option.some.inj hg38
                    refine RT.skV rfl rfl (sk rfl) (tl rfl) ?_
                    refine RT.skV rfl rfl (sk rfl) (tl rfl) ?_
                    refine RT.skV rfl rfl (sk rfl) (tl rfl) ?_
                    refine RT.skV rfl rfl (sk rfl) (tl rfl) ?_
                    refine RT.skV rfl rfl (sk rfl) (tl rfl) ?_
                    refine RT.pickF .none rfl rfl (tl rfl) ?_
                    refine RT.mv .none rfl (tl rfl) ?_
                    replace h := bind_some h
                    obtain ⟨c127_40, hg40, h⟩ := h
                    replace hg40 := br_f hg40
                    obtain rfl := Option.some.inj hg40
                    refine RT.skV rfl rfl (sk rfl) (tl rfl) ?_
                    refine RT.pickF .none rfl rfl (tl rfl) ?_
                    refine RT.asg .none rfl (tl rfl) ?_
                    refine RT.done ⟨by kernel_rfl, ?_⟩
                    refine AThen.n ?_
                    refine ⟨false, h, ?_⟩
                    try dsimp only
                    exact weakL id rfl rfl rfl rfl rfl ⟨.sv (SV.imp_refl _), trivial⟩ trivial trivial (fun _ _ => rfl)
                  · replace hg38 := br_t hg38
                    refine RT.load (.some rfl rfl) rfl rfl (.cons rfl (.cons rfl (.nil))) rfl (tl rfl) ?_
                    refine RT.load (.some rfl rfl) rfl rfl (.cons rfl (.cons rfl (.nil))) rfl (tl rfl) ?_
                    replace hg38 := bind_some hg38
                    obtain ⟨⟨x121_0, x121_1⟩, h121, hg38⟩ := hg38
                    refine RT.call (.some rfl rfl) (whole_GCD_ok h121) rfl ⟨rfl, rfl, trivial⟩ (tl rfl) ?_
                    refine RT.load (.some rfl rfl) rfl rfl (.cons rfl (.cons rfl (.nil))) rfl (tl rfl) ?_
                    replace hg38 := bind_some hg38
                    obtain ⟨x123, h123, hg38⟩ := hg38
                    refine RT.call (.some rfl rfl) (ref01_Same_ok h123) rfl ⟨rfl, rfl, trivial⟩ (tl rfl) ?_
                    obtain rfl := Option.some.inj hg38
                    refine RT.pickT .none rfl rfl (tl rfl) ?_
                    refine RT.mv .none rfl (tl rfl) ?_
                    replace h := bind_some h
                    obtain ⟨c127_39, hg39, h⟩ := h
                    cases x123
                    · replace hg39 := br_f hg39
                      obtain rfl := Option.some.inj hg39
                      refine RT.skV rfl rfl (sk rfl) (tl rfl) ?_
                      refine RT.pickF .none rfl rfl (tl rfl) ?_
                      refine RT.asg .none rfl (tl rfl) ?_
                      refine RT.done ⟨by kernel_rfl, ?_⟩
                      refine AThen.n ?_
                      refine ⟨false, h, ?_⟩
                      try dsimp only
                      exact weakL id rfl rfl rfl rfl rfl ⟨.sv (SV.imp_refl _), trivial⟩ trivial trivial (fun _ _ => rfl)
                    · replace hg39 := br_t hg39
                      replace hg39 := bind_some hg39
                      obtain ⟨x126, h126, hg39⟩ := hg39
                      refine RT.call (.some rfl rfl) (law01_alive_ok h126) rfl trivial (tl rfl) ?_
                      obtain rfl := Option.some.inj hg39
                      refine RT.pickT .none rfl rfl (tl rfl) ?_
                      refine RT.asg .none rfl (tl rfl) ?_
                      refine RT.done ⟨by kernel_rfl, ?_⟩
                      refine AThen.n ?_
                      refine ⟨x126, h, ?_⟩
                      try dsimp only
                      exact weakL id rfl rfl rfl rfl rfl ⟨.sv (SV.imp_refl _), trivial⟩ trivial trivial (fun _ _ => rfl)
                · try dsimp only
                  refine AThen.n ?_
                  refine ok_ret ?_
                  obtain rfl := Option.some.inj h
                  exact ⟨.inr rfl, res_imp (.tmp rfl (.nil)) (SV.imp_refl _)⟩
              · replace h := br_t h
                refine ok_condT rfl ?_
                refine ok_seq ?_
                refine ok_region ?_
                refine RT.asg .none rfl (tl rfl) ?_
                refine RT.done ?_
                refine AThen.n ?_
                refine ok_ret ?_
                refine AThen.r ?_
                obtain rfl := Option.some.inj h
                exact ⟨.inr rfl, res_imp (.tmp rfl (.nil)) (SV.imp_refl _)⟩
          · replace h := br_t h
            refine ok_condT rfl ?_
            refine ok_seq ?_
            refine ok_region ?_
            refine RT.asg .none rfl (tl rfl) ?_
            refine RT.done ?_
            refine AThen.n ?_
            refine ok_ret ?_
            refine AThen.r ?_
            obtain rfl := Option.some.inj h
            exact ⟨.inr rfl, res_imp (.tmp rfl (.nil)) (SV.imp_refl _)⟩
      · replace h := br_t h
        refine ok_condT rfl ?_
        refine ok_seq ?_
        refine ok_region ?_
        refine RT.asg .none rfl (tl rfl) ?_
        refine RT.done ?_
        refine AThen.n ?_
        refine ok_ret ?_
        refine AThen.r ?_
        obtain rfl := Option.some.inj h
        exact ⟨.inr rfl, res_imp (.tmp rfl (.nil)) (SV.imp_refl _)⟩
  · replace h := br_t h
    refine ok_condT rfl ?_
    refine ok_seq ?_
    refine ok_region ?_
    replace h := bind_some h
    obtain ⟨x16, h16, h⟩ := h
    refine RT.call .none (law01_alive_ok h16) rfl trivial (tl rfl) ?_
    refine RT.asg .none rfl (tl rfl) ?_
    refine RT.done ?_
    refine AThen.n ?_
    refine ok_ret ?_
    refine AThen.r ?_
    obtain rfl := Option.some.inj h
    exact ⟨.inr rfl, res_imp (.tmp rfl (.nil)) (SV.imp_refl _)⟩
end Go.Proofs.Ytgkafblpckcekaa
