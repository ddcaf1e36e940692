/- A part of the proof: the framework, the plain functions, the followed functions, the plain laws. -/
import Derived.Test.YthgkgjogdgdcgaaGreatPNI4
set_option linter.unusedVariables false
set_option linter.unusedSimpArgs false
namespace Go.Proofs.YthgkgjogdgdcgaaGreat
open Go.Fw Go.Fw.Z Go.RowKit
theorem frac_reduce_fr {x0 : Zr} {x1 : Zr} (N : Nat) {r : Qr} (h : frac_reduce_m x0 x1 = some r) : PureN Tryz.prog 66 N [.agg (eZ x0), .agg (eZ x1)] (.agg ((fQ N) r)) := by
 obtain ⟨x0_0, x0_1⟩ := x0
 obtain ⟨x1_0, x1_1⟩ := x1
 refine pureN_of_ok Tryz.func66 rfl (Nat.le_of_ble_eq_true rfl) (fun wld M vs hN hvs => ?_)
 unfold frac_reduce_m at h
 refine sr <| bx rfl <| bx rfl <| al (cs := [.v (.bool false), nw N (slc 1 (List.map eU32 [])), .v (.bool false), nw N (slc 1 (List.map eU32 []))]) (by exact ⟨SV.imp_refl _, imp_nilF, SV.imp_refl _, imp_nilF, trivial⟩) rfl <| dn <| qq <| sr <| ld rfl rfl (.cons rfl (.cons rfl (.nil))) <| bE h fun x9 h9 h => cl (whole_Sign_ok h9) ⟨rfl, trivial⟩ <| lE h fun x10 h10 h => ls _ rfl rfl h10 <| dn ?_
 refine ok_tailJ h (fun j2 => AS.mkL 46 [(2, .ptr 2 0), (3, .ptr 3 0), (4, .ptr 4 0)] [(4, ⟨42, [.sv (.v (.bool false)), .sv (nw N (slc 1 (List.map eU32 []))), .sv (.v (.bool false)), .sv (nw N (slc 1 (List.map eU32 [])))]⟩), (3, ⟨40, [.sv (.v (.bool j2.1)), .sv (slc 1 (List.map eU32 j2.2.1))]⟩), (2, ⟨40, [.sv (.v (.bool j2.2.2.1)), .sv (slc 1 (List.map eU32 j2.2.2.2))]⟩)] []) (fun h => ?_) (fun j2 h => ?_)
 cases x10
 exact fs <| ⟨(x1_0, x1_1, x0_0, x0_1), (F h), wR []⟩
 refine cT <| ok_region_draw mixed <| ld rfl rfl (.cons rfl (.cons rfl (.nil))) ?_
 obtain ⟨⟨x12_0, x12_1⟩, h12, h⟩ := bS (V h)
 refine RT.callPN .none (whole_Neg_fr N h12) hN rfl ⟨rfl, trivial⟩ T <| ld rfl rfl (.cons rfl (.cons rfl (.nil))) ?_
 obtain ⟨⟨x14_0, x14_1⟩, h14, h⟩ := bS h
 refine RT.callPN .none (whole_Neg_fr N h14) hN rfl ⟨rfl, trivial⟩ T <| so rfl rfl rfl <| so rfl rfl rfl ?_
 refine RT.done ⟨by kernel_rfl, ?_⟩
 exact AThen.n <| ⟨(x14_0, x14_1, x12_0, x12_1), h, weakL id rfl rfl rfl rfl rfl ⟨.ptr, .ptr, .ptr, trivial⟩ ⟨⟨_, rfl, ⟨.sv (SV.imp_refl _), .sv (SV.imp_refl _), .sv (SV.imp_refl _), .sv (SV.imp_refl _), trivial⟩⟩, ⟨_, rfl, ⟨.sv (SV.imp_refl _), .sv nw_imp, trivial⟩⟩, ⟨_, rfl, ⟨.sv (SV.imp_refl _), .sv nw_imp, trivial⟩⟩, trivial⟩ trivial (fun _ _ => rfl)⟩
 obtain ⟨b3_0j1, b3_1j1, b2_0j1, b2_1j1⟩ := j2
 try dsimp only
 refine AThen.n <| sr <| ld rfl rfl (.cons rfl (.cons rfl (.nil))) <| ld rfl rfl (.cons rfl (.cons rfl (.nil))) ?_
 obtain ⟨⟨x17_0, x17_1⟩, h17, h⟩ := bS h
 refine RT.callPN .none (whole_GCD_fr N h17) hN rfl ⟨rfl, rfl, trivial⟩ T <| al (cs := [.v (.bool false), nw N (slc 1 (List.map eU32 []))]) (by exact ⟨SV.imp_refl _, imp_nilF, trivial⟩) rfl <| so rfl rfl rfl <| dn <| sr <| ld rfl rfl (.cons rfl (.cons rfl (.nil))) <| ld rfl rfl (.cons rfl (.cons rfl (.nil))) ?_
 obtain ⟨⟨⟨x21a_0, x21a_1⟩, ⟨x21b_0, x21b_1⟩, x21c⟩, h21, h⟩ := bS h
 refine RT.callPN .none ((whole_DivMod_fr N h21).w (args' := [_, _]) ⟨(SV.imp_refl _), (SV.imp_agg (show SVIs [.v (.bool x17_0), nw N (slc 1 (List.map eU32 x17_1))] _ from ⟨(SV.imp_refl _), nw_imp, trivial⟩)), trivial⟩) hN rfl ⟨rfl, rfl, trivial⟩ T <| mv rfl <| ex rfl rfl <| ex rfl rfl <| ex rfl rfl <| so rfl rfl rfl <| dn <| sr <| ld rfl rfl (.cons rfl (.cons rfl (.nil))) <| ld rfl rfl (.cons rfl (.cons rfl (.nil))) ?_
 obtain ⟨⟨⟨x28a_0, x28a_1⟩, ⟨x28b_0, x28b_1⟩, x28c⟩, h28, h⟩ := bS h
 refine RT.callPN .none ((whole_DivMod_fr N h28).w (args' := [_, _]) ⟨(SV.imp_refl _), (SV.imp_agg (show SVIs [.v (.bool x17_0), nw N (slc 1 (List.map eU32 x17_1))] _ from ⟨(SV.imp_refl _), nw_imp, trivial⟩)), trivial⟩) hN rfl ⟨rfl, rfl, trivial⟩ T <| mv rfl <| ex rfl rfl <| ex rfl rfl <| ex rfl rfl <| so rfl rfl rfl <| dn <| qq <| sr <| ld rfl rfl (.cons rfl (.cons rfl (.nil))) ?_
 obtain ⟨⟨x34a, x34b⟩, h34, h⟩ := bS h
 refine cl ((whole_Int64_ok h34).w (args' := [_]) ⟨(SV.imp_agg (show SVIs [.v (.bool x28a_0), nw N (slc 1 (List.map eU32 x28a_1))] _ from ⟨(SV.imp_refl _), nw_imp, trivial⟩)), trivial⟩) ⟨rfl, trivial⟩ <| mv rfl <| ex rfl rfl <| ex rfl rfl <| ag rfl <| ag rfl <| dn <| qq ?_
 refine ok_tailJ h (fun j5 => AS.mkL 46 [(2, .ptr 2 0), (3, .ptr 3 0), (4, .ptr 4 0), (41, .sv (.v (.bool j5)))] [(4, ⟨42, [.sv (.v (.bool false)), .sv (nw N (slc 1 (List.map eU32 []))), .sv (.v (.bool false)), .sv (nw N (slc 1 (List.map eU32 [])))]⟩), (3, ⟨40, [.sv (.v (.bool x28a_0)), .sv (nw N (slc 1 (List.map eU32 x28a_1)))]⟩), (2, ⟨40, [.sv (.v (.bool x21a_0)), .sv (nw N (slc 1 (List.map eU32 x21a_1)))]⟩)] []) (fun h => ?_) (fun y41j4 h => ?_)
 refine ok_region <| mv rfl <| mv rfl <| bE h fun c41_8 hg8 h => ?_
 cases x34b
 obtain rfl := O (F hg8)
 exact ww <| ww <| pF rfl <| dn <| ⟨false, h, wR []⟩
 refine gm rfl <| lE (V hg8) fun x40 h40 hg8 => ge_ _ rfl rfl (eqI (p := x34a) (q := 1) h40) ?_
 obtain rfl := O hg8
 exact pT rfl <| dn <| ⟨x40, h, wR []⟩
 try dsimp only
 refine AThen.n ?_
 refine ok_tailJ h (fun j7 => AS.mkL 46 [(2, .ptr 2 0), (3, .ptr 3 0), (4, .ptr 4 0)] [(4, ⟨42, [.sv (.v (.bool false)), .sv (nw N (slc 1 (List.map eU32 []))), .sv (.v (.bool false)), .sv (nw N (slc 1 (List.map eU32 [])))]⟩), (3, ⟨40, [.sv (.v (.bool j7.1)), .sv (nw N (slc 1 (List.map eU32 j7.2)))]⟩), (2, ⟨40, [.sv (.v (.bool x21a_0)), .sv (nw N (slc 1 (List.map eU32 x21a_1)))]⟩)] []) (fun h => ?_) (fun j7 h => ?_)
 cases y41j4
 exact fs <| ⟨(x28a_0, x28a_1), (F h), wR []⟩
 exact cT <| ok_region <| bI (cs := [_, _]) (cs' := [.v (.bool false), nw N (slc 1 (List.map eU32 []))]) (.nil) ⟨SV.imp_refl _, imp_nilF, trivial⟩ <| so rfl rfl rfl <| dn <| ⟨(false, []), (V h), wR []⟩
 obtain ⟨b3_0j6, b3_1j6⟩ := j7
 try dsimp only
 refine AThen.n <| sr <| ld rfl rfl (.cons rfl (.cons rfl (.nil))) <| ld rfl rfl (.cons rfl (.cons rfl (.nil))) <| bI (cs := [_, _, _, _]) (cs' := [.v (.bool x21a_0), nw N (slc 1 (List.map eU32 x21a_1)), .v (.bool b3_0j6), nw N (slc 1 (List.map eU32 b3_1j6))]) (.agg rfl (.agg rfl (.nil))) ⟨SV.imp_refl _, SV.imp_refl _, SV.imp_refl _, SV.imp_refl _, trivial⟩ <| so rfl rfl rfl <| dn <| ok_ret ?_
 obtain rfl := O h
 exact RZ (.agg rfl rfl (.cons rfl (.cons rfl (.cons rfl (.cons rfl (.nil))))) rfl (.nil))
theorem frac_ratio_fr {x0 : Int} {x1 : Int} (N : Nat) {r : Qr} (h : frac_ratio_m x0 x1 = some r) : PureN Tryz.prog 55 N [.v (.int .i64 x0), .v (.int .i64 x1)] (.agg ((fQ N) r)) := by
 refine pureN_of_ok Tryz.func55 rfl (Nat.le_of_ble_eq_true rfl) (fun wld M vs hN hvs => ?_)
 unfold frac_ratio_m at h
 refine sr <| al (cs := [.v (.bool false), nw N (slc 1 (List.map eU32 [])), .v (.bool false), nw N (slc 1 (List.map eU32 []))]) (by exact ⟨SV.imp_refl _, imp_nilF, SV.imp_refl _, imp_nilF, trivial⟩) rfl <| dn <| sr <| mv rfl <| mv rfl <| ag rfl <| ag rfl <| dn <| qq <| bE h fun e6 hl6 ho6 => ?_
 refine ok_tailP (fun (y5e5 : Int) => AS.mkL 36 [(0, .sv (.v (.int .i64 x0))), (1, .sv (.v (.int .i64 x1))), (4, .ptr 4 0), (5, .sv (.v (.int .i64 y5e5)))] [(4, ⟨42, [.sv (.v (.bool false)), .sv (nw N (slc 1 (List.map eU32 []))), .sv (.v (.bool false)), .sv (nw N (slc 1 (List.map eU32 [])))]⟩)] []) (fun y5e5 => y5e5 = e6) ?_ (fun y5e5 hx6 => ?_)
 refine ok_block ?_
 refine ok_loopM hl6 (fun s6 => AS.mkL 36 [(0, .sv (.v (.int .i64 x0))), (1, .sv (.v (.int .i64 x1))), (4, .ptr 4 0), (5, .sv (.v (.int .i64 s6.1))), (6, .sv (.v (.int .i64 s6.2)))] [(4, ⟨42, [.sv (.v (.bool false)), .sv (nw N (slc 1 (List.map eU32 []))), .sv (.v (.bool false)), .sv (nw N (slc 1 (List.map eU32 [])))]⟩)] []) (wR []) (fun s6 y6 G6 h hG6 hE6 => ?_)
 obtain ⟨y5l3, y6l3⟩ := s6
 try dsimp only
 refine qq <| sr <| mv rfl <| lE h fun x10 h10 h => ne _ rfl rfl (neI (p := y6l3) (q := 0) h10) <| dn ?_
 cases x10
 refine cF <| ok_exit <| AThen.x <| AThen.x <| AInB.x <| AThen.n ?_
 obtain rfl := O (F h)
 exact ⟨y5l3, hE6 _ rfl, wR []⟩
 refine cT <| ok_skip <| AThen.n <| ok_block <| ok_region_draw mixed <| mv rfl <| mv rfl <| mv rfl <| bE (V h) fun x14 h14 h => RT.rem .none _ rfl rfl T (nzRI h14) (remI h14) <| ag rfl <| ag rfl ?_
 refine RT.done ⟨by kernel_rfl, ?_⟩
 refine AInB.n ?_
 obtain rfl := O h
 exact AThen.n ⟨(y6l3, x14), hG6 _ rfl, wR []⟩
 subst hx6
 try dsimp only
 refine AThen.n <| qq <| sr <| mv rfl <| lE ho6 fun x16 h16 ho6 => ls _ rfl rfl h16 <| dn ?_
 refine ok_tailJ ho6 (fun j8 => AS.mkL 36 [(0, .sv (.v (.int .i64 x0))), (1, .sv (.v (.int .i64 x1))), (4, .ptr 4 0), (5, .sv (.v (.int .i64 j8)))] [(4, ⟨42, [.sv (.v (.bool false)), .sv (nw N (slc 1 (List.map eU32 []))), .sv (.v (.bool false)), .sv (nw N (slc 1 (List.map eU32 [])))]⟩)] []) (fun ho6 => ?_) (fun y5j7 ho6 => ?_)
 cases x16
 exact fs <| ⟨y5e5, (F ho6), wR []⟩
 exact cT <| ok_region <| mv rfl <| lE (V ho6) fun x18 h18 ho6 => RT.neg .none _ rfl T h18 <| ag rfl <| dn <| ⟨x18, ho6, wR []⟩
 try dsimp only
 refine AThen.n <| qq <| sr <| mv rfl <| mv rfl <| lE ho6 fun x21 h21 ho6 => eq _ rfl rfl (eqI (p := y5j7) (q := x1) h21) <| dn ?_
 cases x21
 refine fs <| qq <| ok_region_draw mixed <| mv rfl <| mv rfl <| bE (F ho6) fun x29 h29 ho6 => RT.quo .none _ rfl rfl T (nzI h29) (quoI h29) ?_
 obtain ⟨⟨x30_0, x30_1⟩, h30, ho6⟩ := bS ho6
 refine RT.callPN .none (whole_FromInt64_fr N h30) hN rfl ⟨rfl, trivial⟩ T <| mv rfl <| mv rfl <| bE ho6 fun x33 h33 ho6 => RT.quo .none _ rfl rfl T (nzI h33) (quoI h33) ?_
 obtain ⟨⟨x34_0, x34_1⟩, h34, ho6⟩ := bS ho6
 refine RT.callPN .none (whole_FromInt64_fr N h34) hN rfl ⟨rfl, trivial⟩ T <| bI (cs := [_, _, _, _]) (cs' := [.v (.bool x30_0), nw N (slc 1 (List.map eU32 x30_1)), .v (.bool x34_0), nw N (slc 1 (List.map eU32 x34_1))]) (.agg rfl (.agg rfl (.nil))) ⟨SV.imp_refl _, SV.imp_refl _, SV.imp_refl _, SV.imp_refl _, trivial⟩ <| so rfl rfl rfl ?_
 refine RT.done ⟨by kernel_rfl, ?_⟩
 refine AThen.n <| ok_ret ?_
 obtain rfl := O ho6
 exact RZ (.agg rfl rfl (.cons rfl (.cons rfl (.cons rfl (.cons rfl (.nil))))) rfl (.nil))
 refine cT <| sr <| mv rfl <| mv rfl <| bE (V ho6) fun x24 h24 ho6 => RT.quo .none _ rfl rfl T (nzI h24) (quoI h24) ?_
 obtain ⟨⟨x25_0, x25_1⟩, h25, ho6⟩ := bS ho6
 refine RT.callPN .none (whole_FromInt64_fr N h25) hN rfl ⟨rfl, trivial⟩ T <| bI (cs := [_, _, _, _]) (cs' := [.v (.bool x25_0), nw N (slc 1 (List.map eU32 x25_1)), .v (.bool false), nw N (slc 1 (List.map eU32 []))]) (.agg rfl (.nil)) ⟨SV.imp_refl _, SV.imp_refl _, SV.imp_refl _, imp_nilF, trivial⟩ <| so rfl rfl rfl <| dn <| ok_ret <| AThen.r ?_
 obtain rfl := O ho6
 exact RZ (.agg rfl rfl (.cons rfl (.cons rfl (.cons rfl (.cons rfl (.nil))))) rfl (.nil))
theorem frac_operations_1_fr {x0 : Zr} {x1 : Zr} {x2 : Zr} {x3 : Zr} (N : Nat) {r : Zr × Zr} (h : frac_operations_1_m x0 x1 x2 x3 = some r) : PureN Tryz.prog 102 N [.agg (eZ x0), .agg (eZ x1), .agg (eZ x2), .agg (eZ x3)] (.tup [.agg ((fZ N) r.1), .agg ((fZ N) r.2)]) := by
 obtain ⟨x0_0, x0_1⟩ := x0
 obtain ⟨x1_0, x1_1⟩ := x1
 obtain ⟨x2_0, x2_1⟩ := x2
 obtain ⟨x3_0, x3_1⟩ := x3
 refine pureN_of_ok Tryz.func102 rfl (Nat.le_of_ble_eq_true rfl) (fun wld M vs hN hvs => ?_)
 unfold frac_operations_1_m at h
 refine sr <| bx rfl <| bx rfl <| bx rfl <| bx rfl <| al (cs := [.v (.bool false), nw N (slc 1 (List.map eU32 []))]) (by exact ⟨SV.imp_refl _, imp_nilF, trivial⟩) rfl <| al (cs := [.v (.bool false), nw N (slc 1 (List.map eU32 []))]) (by exact ⟨SV.imp_refl _, imp_nilF, trivial⟩) rfl <| dn <| qq <| ok_region_draw mixed <| ld rfl rfl (.cons rfl (.cons rfl (.nil))) <| ld rfl rfl (.cons rfl (.cons rfl (.nil))) ?_
 obtain ⟨⟨x12_0, x12_1⟩, h12, h⟩ := bS h
 refine RT.callPN .none (whole_Mul_fr N h12) hN rfl ⟨rfl, rfl, trivial⟩ T <| ld rfl rfl (.cons rfl (.cons rfl (.nil))) <| ld rfl rfl (.cons rfl (.cons rfl (.nil))) ?_
 obtain ⟨⟨x15_0, x15_1⟩, h15, h⟩ := bS h
 refine RT.callPN .none (whole_Mul_fr N h15) hN rfl ⟨rfl, rfl, trivial⟩ T ?_
 obtain ⟨⟨x16_0, x16_1⟩, h16, h⟩ := bS h
 refine RT.callPN .none ((whole_Add_fr N h16).w (args' := [_, _]) ⟨(SV.imp_agg (show SVIs [.v (.bool x12_0), nw N (slc 1 (List.map eU32 x12_1))] _ from ⟨(SV.imp_refl _), nw_imp, trivial⟩)), (SV.imp_agg (show SVIs [.v (.bool x15_0), nw N (slc 1 (List.map eU32 x15_1))] _ from ⟨(SV.imp_refl _), nw_imp, trivial⟩)), trivial⟩) hN rfl ⟨rfl, rfl, trivial⟩ T <| ld rfl rfl (.cons rfl (.cons rfl (.nil))) <| ld rfl rfl (.cons rfl (.cons rfl (.nil))) ?_
 obtain ⟨⟨x19_0, x19_1⟩, h19, h⟩ := bS h
 refine RT.callPN .none (whole_Mul_fr N h19) hN rfl ⟨rfl, rfl, trivial⟩ T <| so rfl rfl rfl <| so rfl rfl rfl ?_
 refine RT.done ⟨by kernel_rfl, ?_⟩
 refine AThen.n <| ok_ret ?_
 obtain rfl := O h
 exact RZ (.agg rfl rfl (.cons rfl (.cons rfl (.nil))) rfl (.agg rfl rfl (.cons rfl (.cons rfl (.nil))) rfl (.nil)))
theorem frac_operations_2_fr {x0 : Zr} {x1 : Zr} {x2 : Zr} {x3 : Zr} (N : Nat) {r : Zr × Zr} (h : frac_operations_2_m x0 x1 x2 x3 = some r) : PureN Tryz.prog 104 N [.agg (eZ x0), .agg (eZ x1), .agg (eZ x2), .agg (eZ x3)] (.tup [.agg ((fZ N) r.1), .agg ((fZ N) r.2)]) := by
 obtain ⟨x0_0, x0_1⟩ := x0
 obtain ⟨x1_0, x1_1⟩ := x1
 obtain ⟨x2_0, x2_1⟩ := x2
 obtain ⟨x3_0, x3_1⟩ := x3
 refine pureN_of_ok Tryz.func104 rfl (Nat.le_of_ble_eq_true rfl) (fun wld M vs hN hvs => ?_)
 unfold frac_operations_2_m at h
 refine sr <| bx rfl <| bx rfl <| bx rfl <| bx rfl <| al (cs := [.v (.bool false), nw N (slc 1 (List.map eU32 []))]) (by exact ⟨SV.imp_refl _, imp_nilF, trivial⟩) rfl <| al (cs := [.v (.bool false), nw N (slc 1 (List.map eU32 []))]) (by exact ⟨SV.imp_refl _, imp_nilF, trivial⟩) rfl <| dn <| qq <| ok_region_draw mixed <| ld rfl rfl (.cons rfl (.cons rfl (.nil))) <| ld rfl rfl (.cons rfl (.cons rfl (.nil))) ?_
 obtain ⟨⟨x12_0, x12_1⟩, h12, h⟩ := bS h
 refine RT.callPN .none (whole_Mul_fr N h12) hN rfl ⟨rfl, rfl, trivial⟩ T <| ld rfl rfl (.cons rfl (.cons rfl (.nil))) <| ld rfl rfl (.cons rfl (.cons rfl (.nil))) ?_
 obtain ⟨⟨x15_0, x15_1⟩, h15, h⟩ := bS h
 refine RT.callPN .none (whole_Mul_fr N h15) hN rfl ⟨rfl, rfl, trivial⟩ T ?_
 obtain ⟨⟨x16_0, x16_1⟩, h16, h⟩ := bS h
 refine RT.callPN .none ((whole_Sub_fr N h16).w (args' := [_, _]) ⟨(SV.imp_agg (show SVIs [.v (.bool x12_0), nw N (slc 1 (List.map eU32 x12_1))] _ from ⟨(SV.imp_refl _), nw_imp, trivial⟩)), (SV.imp_agg (show SVIs [.v (.bool x15_0), nw N (slc 1 (List.map eU32 x15_1))] _ from ⟨(SV.imp_refl _), nw_imp, trivial⟩)), trivial⟩) hN rfl ⟨rfl, rfl, trivial⟩ T <| ld rfl rfl (.cons rfl (.cons rfl (.nil))) <| ld rfl rfl (.cons rfl (.cons rfl (.nil))) ?_
 obtain ⟨⟨x19_0, x19_1⟩, h19, h⟩ := bS h
 refine RT.callPN .none (whole_Mul_fr N h19) hN rfl ⟨rfl, rfl, trivial⟩ T <| so rfl rfl rfl <| so rfl rfl rfl ?_
 refine RT.done ⟨by kernel_rfl, ?_⟩
 refine AThen.n <| ok_ret ?_
 obtain rfl := O h
 exact RZ (.agg rfl rfl (.cons rfl (.cons rfl (.nil))) rfl (.agg rfl rfl (.cons rfl (.cons rfl (.nil))) rfl (.nil)))
theorem frac_calcAdd_fr {x1 : Qr} {x2 : Qr} (N : Nat) {r : Qr} (h : frac_calcAdd_m x1 x2 = some r) : PureN Tryz.prog 56 N [.v (.int .u8 ((43 : Nat) : Int)), .agg (eQ x1), .agg (eQ x2)] (.agg ((fQ N) r)) := by
 obtain ⟨⟨x1_0, x1_1⟩, ⟨x1_2, x1_3⟩⟩ := x1
 obtain ⟨⟨x2_0, x2_1⟩, ⟨x2_2, x2_3⟩⟩ := x2
 refine pureN_of_ok Tryz.func56 rfl (Nat.le_of_ble_eq_true rfl) (fun wld M vs hN hvs => ?_)
 unfold frac_calcAdd_m at h
 refine sr <| bx rfl <| bx rfl <| al (cs := [.v (.bool false), nw N (slc 1 (List.map eU32 [])), .v (.bool false), nw N (slc 1 (List.map eU32 []))]) (by exact ⟨SV.imp_refl _, imp_nilF, SV.imp_refl _, imp_nilF, trivial⟩) rfl <| dn <| sr <| ld rfl rfl (.cons rfl (.cons rfl (.cons rfl (.cons rfl (.nil))))) ?_
 obtain ⟨⟨⟨x13a_0, x13a_1⟩, ⟨x13b_0, x13b_1⟩⟩, h13, h⟩ := bS h
 refine cl (frac_parts_ok h13) ⟨rfl, trivial⟩ <| mv rfl <| ex rfl rfl <| ex rfl rfl <| al (cs := [.v (.bool false), nw N (slc 1 (List.map eU32 []))]) (by exact ⟨SV.imp_refl _, imp_nilF, trivial⟩) rfl <| al (cs := [.v (.bool false), nw N (slc 1 (List.map eU32 []))]) (by exact ⟨SV.imp_refl _, imp_nilF, trivial⟩) rfl <| so rfl rfl rfl <| so rfl rfl rfl <| dn <| sr <| ld rfl rfl (.cons rfl (.cons rfl (.cons rfl (.cons rfl (.nil))))) ?_
 obtain ⟨⟨⟨x18a_0, x18a_1⟩, ⟨x18b_0, x18b_1⟩⟩, h18, h⟩ := bS h
 refine cl (frac_parts_ok h18) ⟨rfl, trivial⟩ <| mv rfl <| ex rfl rfl <| ex rfl rfl <| al (cs := [.v (.bool false), nw N (slc 1 (List.map eU32 []))]) (by exact ⟨SV.imp_refl _, imp_nilF, trivial⟩) rfl <| al (cs := [.v (.bool false), nw N (slc 1 (List.map eU32 []))]) (by exact ⟨SV.imp_refl _, imp_nilF, trivial⟩) rfl <| so rfl rfl rfl <| so rfl rfl rfl <| dn <| qq <| ok_region_draw mixed <| cl frac_operations_ok trivial <| mv rfl ?_
 refine RT.look .none [.func (.func 102) #[] #[]] rfl rfl rfl T <| fl rfl rfl <| ld rfl rfl (.cons rfl (.cons rfl (.nil))) <| ld rfl rfl (.cons rfl (.cons rfl (.nil))) <| ld rfl rfl (.cons rfl (.cons rfl (.nil))) <| ld rfl rfl (.cons rfl (.cons rfl (.nil))) ?_
 obtain ⟨⟨⟨x29a_0, x29a_1⟩, ⟨x29b_0, x29b_1⟩⟩, h29, h⟩ := bS h
 refine RT.callPN .none (frac_operations_1_fr N h29) hN rfl ⟨rfl, rfl, rfl, rfl, trivial⟩ T <| ex rfl rfl <| ex rfl rfl ?_
 obtain ⟨⟨⟨x32_0, x32_1⟩, ⟨x32_2, x32_3⟩⟩, h32, h⟩ := bS h
 refine RT.callPN .none ((frac_reduce_fr N h32).w (args' := [_, _]) ⟨(SV.imp_agg (show SVIs [.v (.bool x29a_0), nw N (slc 1 (List.map eU32 x29a_1))] _ from ⟨(SV.imp_refl _), nw_imp, trivial⟩)), (SV.imp_agg (show SVIs [.v (.bool x29b_0), nw N (slc 1 (List.map eU32 x29b_1))] _ from ⟨(SV.imp_refl _), nw_imp, trivial⟩)), trivial⟩) hN rfl ⟨rfl, rfl, trivial⟩ T <| so rfl rfl rfl ?_
 refine RT.done ⟨by kernel_rfl, ?_⟩
 refine AThen.n <| ok_ret ?_
 obtain rfl := O h
 exact RZ (.agg rfl rfl (.cons rfl (.cons rfl (.cons rfl (.cons rfl (.nil))))) rfl (.nil))
theorem frac_calcSub_fr {x1 : Qr} {x2 : Qr} (N : Nat) {r : Qr} (h : frac_calcSub_m x1 x2 = some r) : PureN Tryz.prog 56 N [.v (.int .u8 ((45 : Nat) : Int)), .agg (eQ x1), .agg (eQ x2)] (.agg ((fQ N) r)) := by
 obtain ⟨⟨x1_0, x1_1⟩, ⟨x1_2, x1_3⟩⟩ := x1
 obtain ⟨⟨x2_0, x2_1⟩, ⟨x2_2, x2_3⟩⟩ := x2
 refine pureN_of_ok Tryz.func56 rfl (Nat.le_of_ble_eq_true rfl) (fun wld M vs hN hvs => ?_)
 unfold frac_calcSub_m at h
 refine sr <| bx rfl <| bx rfl <| al (cs := [.v (.bool false), nw N (slc 1 (List.map eU32 [])), .v (.bool false), nw N (slc 1 (List.map eU32 []))]) (by exact ⟨SV.imp_refl _, imp_nilF, SV.imp_refl _, imp_nilF, trivial⟩) rfl <| dn <| sr <| ld rfl rfl (.cons rfl (.cons rfl (.cons rfl (.cons rfl (.nil))))) ?_
 obtain ⟨⟨⟨x13a_0, x13a_1⟩, ⟨x13b_0, x13b_1⟩⟩, h13, h⟩ := bS h
 refine cl (frac_parts_ok h13) ⟨rfl, trivial⟩ <| mv rfl <| ex rfl rfl <| ex rfl rfl <| al (cs := [.v (.bool false), nw N (slc 1 (List.map eU32 []))]) (by exact ⟨SV.imp_refl _, imp_nilF, trivial⟩) rfl <| al (cs := [.v (.bool false), nw N (slc 1 (List.map eU32 []))]) (by exact ⟨SV.imp_refl _, imp_nilF, trivial⟩) rfl <| so rfl rfl rfl <| so rfl rfl rfl <| dn <| sr <| ld rfl rfl (.cons rfl (.cons rfl (.cons rfl (.cons rfl (.nil))))) ?_
 obtain ⟨⟨⟨x18a_0, x18a_1⟩, ⟨x18b_0, x18b_1⟩⟩, h18, h⟩ := bS h
 refine cl (frac_parts_ok h18) ⟨rfl, trivial⟩ <| mv rfl <| ex rfl rfl <| ex rfl rfl <| al (cs := [.v (.bool false), nw N (slc 1 (List.map eU32 []))]) (by exact ⟨SV.imp_refl _, imp_nilF, trivial⟩) rfl <| al (cs := [.v (.bool false), nw N (slc 1 (List.map eU32 []))]) (by exact ⟨SV.imp_refl _, imp_nilF, trivial⟩) rfl <| so rfl rfl rfl <| so rfl rfl rfl <| dn <| qq <| ok_region_draw mixed <| cl frac_operations_ok trivial <| mv rfl ?_
 refine RT.look .none [.func (.func 104) #[] #[]] rfl rfl rfl T <| fl rfl rfl <| ld rfl rfl (.cons rfl (.cons rfl (.nil))) <| ld rfl rfl (.cons rfl (.cons rfl (.nil))) <| ld rfl rfl (.cons rfl (.cons rfl (.nil))) <| ld rfl rfl (.cons rfl (.cons rfl (.nil))) ?_
 obtain ⟨⟨⟨x29a_0, x29a_1⟩, ⟨x29b_0, x29b_1⟩⟩, h29, h⟩ := bS h
 refine RT.callPN .none (frac_operations_2_fr N h29) hN rfl ⟨rfl, rfl, rfl, rfl, trivial⟩ T <| ex rfl rfl <| ex rfl rfl ?_
 obtain ⟨⟨⟨x32_0, x32_1⟩, ⟨x32_2, x32_3⟩⟩, h32, h⟩ := bS h
 refine RT.callPN .none ((frac_reduce_fr N h32).w (args' := [_, _]) ⟨(SV.imp_agg (show SVIs [.v (.bool x29a_0), nw N (slc 1 (List.map eU32 x29a_1))] _ from ⟨(SV.imp_refl _), nw_imp, trivial⟩)), (SV.imp_agg (show SVIs [.v (.bool x29b_0), nw N (slc 1 (List.map eU32 x29b_1))] _ from ⟨(SV.imp_refl _), nw_imp, trivial⟩)), trivial⟩) hN rfl ⟨rfl, rfl, trivial⟩ T <| so rfl rfl rfl ?_
 refine RT.done ⟨by kernel_rfl, ?_⟩
 refine AThen.n <| ok_ret ?_
 obtain rfl := O h
 exact RZ (.agg rfl rfl (.cons rfl (.cons rfl (.cons rfl (.cons rfl (.nil))))) rfl (.nil))
theorem frac_Add_fr {x0 : Qr} {x1 : Qr} (N : Nat) {r : Qr} (h : frac_Add_m x0 x1 = some r) : PureN Tryz.prog 25 N [.agg (eQ x0), .agg (eQ x1)] (.agg ((fQ N) r)) := by
 obtain ⟨⟨x0_0, x0_1⟩, ⟨x0_2, x0_3⟩⟩ := x0
 obtain ⟨⟨x1_0, x1_1⟩, ⟨x1_2, x1_3⟩⟩ := x1
 refine pureN_of_ok Tryz.func25 rfl (Nat.le_of_ble_eq_true rfl) (fun wld M vs hN hvs => ?_)
 unfold frac_Add_m at h
 refine sr <| bx rfl <| bx rfl <| al (cs := [.v (.bool false), nw N (slc 1 (List.map eU32 [])), .v (.bool false), nw N (slc 1 (List.map eU32 []))]) (by exact ⟨SV.imp_refl _, imp_nilF, SV.imp_refl _, imp_nilF, trivial⟩) rfl <| dn <| sr <| ld rfl rfl (.cons rfl (.cons rfl (.cons rfl (.cons rfl (.nil))))) ?_
 obtain ⟨⟨x13a, x13b, x13c⟩, h13, h⟩ := bS h
 refine cl (frac_short_ok h13) ⟨rfl, trivial⟩ <| mv rfl <| ex rfl rfl <| ex rfl rfl <| ex rfl rfl <| ag rfl <| ag rfl <| ag rfl <| dn <| sr <| ld rfl rfl (.cons rfl (.cons rfl (.cons rfl (.cons rfl (.nil))))) ?_
 obtain ⟨⟨x19a, x19b, x19c⟩, h19, h⟩ := bS h
 refine cl (frac_short_ok h19) ⟨rfl, trivial⟩ <| mv rfl <| ex rfl rfl <| ex rfl rfl <| ex rfl rfl <| ag rfl <| ag rfl <| ag rfl <| dn <| qq <| qq ?_
 refine ok_tailJ h (fun j3 => AS.mkL 41 [(2, .ptr 2 0), (3, .ptr 3 0), (4, .ptr 4 0), (5, .sv (.v (.int .i64 x13a))), (6, .sv (.v (.int .i64 x13b))), (8, .sv (.v (.int .i64 x19a))), (9, .sv (.v (.int .i64 x19b))), (26, .sv (.v (.bool j3)))] [(4, ⟨42, [.sv (.v (.bool false)), .sv (nw N (slc 1 (List.map eU32 []))), .sv (.v (.bool false)), .sv (nw N (slc 1 (List.map eU32 [])))]⟩), (3, ⟨42, [.sv (.v (.bool x1_0)), .sv (slc 1 (List.map eU32 x1_1)), .sv (.v (.bool x1_2)), .sv (slc 1 (List.map eU32 x1_3))]⟩), (2, ⟨42, [.sv (.v (.bool x0_0)), .sv (slc 1 (List.map eU32 x0_1)), .sv (.v (.bool x0_2)), .sv (slc 1 (List.map eU32 x0_3))]⟩)] []) (fun h => ?_) (fun y26j2 h => ?_)
 refine ok_region <| mv rfl <| mv rfl <| bE h fun c26_4 hg4 h => ?_
 cases x13c
 obtain rfl := O (F hg4)
 exact ww <| pF rfl <| dn <| ⟨false, h, wR []⟩
 refine gm rfl ?_
 obtain rfl := O (V hg4)
 exact pT rfl <| dn <| ⟨x19c, h, wR []⟩
 try dsimp only
 refine AThen.n ?_
 cases y26j2
 refine fs <| sr <| ld rfl rfl (.cons rfl (.cons rfl (.cons rfl (.cons rfl (.nil))))) <| ld rfl rfl (.cons rfl (.cons rfl (.cons rfl (.cons rfl (.nil))))) ?_
 obtain ⟨⟨⟨x40_0, x40_1⟩, ⟨x40_2, x40_3⟩⟩, h40, h⟩ := bS (F h)
 refine RT.callPN .none (frac_calcAdd_fr N h40) hN rfl ⟨rfl, rfl, rfl, trivial⟩ T <| so rfl rfl rfl <| dn <| ok_ret ?_
 obtain rfl := O h
 exact RZ (.agg rfl rfl (.cons rfl (.cons rfl (.cons rfl (.cons rfl (.nil))))) rfl (.nil))
 refine cT <| sr <| mv rfl <| mv rfl <| lE (V h) fun x29 h29 h => RT.mul .none _ rfl rfl T h29 <| mv rfl <| mv rfl <| lE h fun x32 h32 h => RT.mul .none _ rfl rfl T h32 <| lE h fun x33 h33 h => ad _ rfl rfl h33 <| mv rfl <| mv rfl <| lE h fun x36 h36 h => RT.mul .none _ rfl rfl T h36 ?_
 obtain ⟨⟨⟨x37_0, x37_1⟩, ⟨x37_2, x37_3⟩⟩, h37, h⟩ := bS h
 refine RT.callPN .none (frac_ratio_fr N h37) hN rfl ⟨rfl, rfl, trivial⟩ T <| so rfl rfl rfl <| dn <| ok_ret <| AThen.r ?_
 obtain rfl := O h
 exact RZ (.agg rfl rfl (.cons rfl (.cons rfl (.cons rfl (.cons rfl (.nil))))) rfl (.nil))
theorem frac_Sub_fr {x0 : Qr} {x1 : Qr} (N : Nat) {r : Qr} (h : frac_Sub_m x0 x1 = some r) : PureN Tryz.prog 26 N [.agg (eQ x0), .agg (eQ x1)] (.agg ((fQ N) r)) := by
 obtain ⟨⟨x0_0, x0_1⟩, ⟨x0_2, x0_3⟩⟩ := x0
 obtain ⟨⟨x1_0, x1_1⟩, ⟨x1_2, x1_3⟩⟩ := x1
 refine pureN_of_ok Tryz.func26 rfl (Nat.le_of_ble_eq_true rfl) (fun wld M vs hN hvs => ?_)
 unfold frac_Sub_m at h
 refine sr <| bx rfl <| bx rfl <| al (cs := [.v (.bool false), nw N (slc 1 (List.map eU32 [])), .v (.bool false), nw N (slc 1 (List.map eU32 []))]) (by exact ⟨SV.imp_refl _, imp_nilF, SV.imp_refl _, imp_nilF, trivial⟩) rfl <| dn <| sr <| ld rfl rfl (.cons rfl (.cons rfl (.cons rfl (.cons rfl (.nil))))) ?_
 obtain ⟨⟨x13a, x13b, x13c⟩, h13, h⟩ := bS h
 refine cl (frac_short_ok h13) ⟨rfl, trivial⟩ <| mv rfl <| ex rfl rfl <| ex rfl rfl <| ex rfl rfl <| ag rfl <| ag rfl <| ag rfl <| dn <| sr <| ld rfl rfl (.cons rfl (.cons rfl (.cons rfl (.cons rfl (.nil))))) ?_
 obtain ⟨⟨x19a, x19b, x19c⟩, h19, h⟩ := bS h
 refine cl (frac_short_ok h19) ⟨rfl, trivial⟩ <| mv rfl <| ex rfl rfl <| ex rfl rfl <| ex rfl rfl <| ag rfl <| ag rfl <| ag rfl <| dn <| qq <| qq ?_
 refine ok_tailJ h (fun j3 => AS.mkL 41 [(2, .ptr 2 0), (3, .ptr 3 0), (4, .ptr 4 0), (5, .sv (.v (.int .i64 x13a))), (6, .sv (.v (.int .i64 x13b))), (8, .sv (.v (.int .i64 x19a))), (9, .sv (.v (.int .i64 x19b))), (26, .sv (.v (.bool j3)))] [(4, ⟨42, [.sv (.v (.bool false)), .sv (nw N (slc 1 (List.map eU32 []))), .sv (.v (.bool false)), .sv (nw N (slc 1 (List.map eU32 [])))]⟩), (3, ⟨42, [.sv (.v (.bool x1_0)), .sv (slc 1 (List.map eU32 x1_1)), .sv (.v (.bool x1_2)), .sv (slc 1 (List.map eU32 x1_3))]⟩), (2, ⟨42, [.sv (.v (.bool x0_0)), .sv (slc 1 (List.map eU32 x0_1)), .sv (.v (.bool x0_2)), .sv (slc 1 (List.map eU32 x0_3))]⟩)] []) (fun h => ?_) (fun y26j2 h => ?_)
 refine ok_region <| mv rfl <| mv rfl <| bE h fun c26_4 hg4 h => ?_
 cases x13c
 obtain rfl := O (F hg4)
 exact ww <| pF rfl <| dn <| ⟨false, h, wR []⟩
 refine gm rfl ?_
 obtain rfl := O (V hg4)
 exact pT rfl <| dn <| ⟨x19c, h, wR []⟩
 try dsimp only
 refine AThen.n ?_
 cases y26j2
 refine fs <| sr <| ld rfl rfl (.cons rfl (.cons rfl (.cons rfl (.cons rfl (.nil))))) <| ld rfl rfl (.cons rfl (.cons rfl (.cons rfl (.cons rfl (.nil))))) ?_
 obtain ⟨⟨⟨x40_0, x40_1⟩, ⟨x40_2, x40_3⟩⟩, h40, h⟩ := bS (F h)
 refine RT.callPN .none (frac_calcSub_fr N h40) hN rfl ⟨rfl, rfl, rfl, trivial⟩ T <| so rfl rfl rfl <| dn <| ok_ret ?_
 obtain rfl := O h
 exact RZ (.agg rfl rfl (.cons rfl (.cons rfl (.cons rfl (.cons rfl (.nil))))) rfl (.nil))
 refine cT <| sr <| mv rfl <| mv rfl <| lE (V h) fun x29 h29 h => RT.mul .none _ rfl rfl T h29 <| mv rfl <| mv rfl <| lE h fun x32 h32 h => RT.mul .none _ rfl rfl T h32 <| lE h fun x33 h33 h => sb _ rfl rfl h33 <| mv rfl <| mv rfl <| lE h fun x36 h36 h => RT.mul .none _ rfl rfl T h36 ?_
 obtain ⟨⟨⟨x37_0, x37_1⟩, ⟨x37_2, x37_3⟩⟩, h37, h⟩ := bS h
 refine RT.callPN .none (frac_ratio_fr N h37) hN rfl ⟨rfl, rfl, trivial⟩ T <| so rfl rfl rfl <| dn <| ok_ret <| AThen.r ?_
 obtain rfl := O h
 exact RZ (.agg rfl rfl (.cons rfl (.cons rfl (.cons rfl (.cons rfl (.nil))))) rfl (.nil))
end Go.Proofs.YthgkgjogdgdcgaaGreat
namespace Go.Proofs.YthgkgjogdgdcgaaGreat
open Go.Fw Go.Fw.Z Go.RowKit
theorem node_sumT_fr {x0 : Int} {k1_0 : List Int} {k1_1 : Int} {k1_2 : List Qr} (N : Nat) {r : Qr} (h : node_sumT_m x0 k1_0 k1_1 k1_2 = some r) : PureN Tryz.prog 46 N [.v (.int .i64 x0), cloS 69 [ref [slc 1 (List.map eI64 k1_0)], ref [.v (.int .i64 k1_1)], ref [slc 4 (List.map eQ k1_2)]]] (.agg ((fQ N) r)) := by
 refine pureN_of_ok Tryz.func46 rfl (Nat.le_of_ble_eq_true rfl) (fun wld M vs hN hvs => ?_)
 unfold node_sumT_m at h
 refine sr <| al (cs := [.v (.bool false), nw N (slc 1 (List.map eU32 [])), .v (.bool false), nw N (slc 1 (List.map eU32 []))]) (by exact ⟨SV.imp_refl _, imp_nilF, SV.imp_refl _, imp_nilF, trivial⟩) rfl <| dn <| sr <| bI (cs := [_, _, _, _]) (cs' := [.v (.bool false), nw N (slc 1 (List.map eU32 [])), .v (.bool false), nw N (slc 1 (List.map eU32 []))]) (.nil) ⟨SV.imp_refl _, imp_nilF, SV.imp_refl _, imp_nilF, trivial⟩ <| al (cs := [.v (.bool false), nw N (slc 1 (List.map eU32 [])), .v (.bool false), nw N (slc 1 (List.map eU32 []))]) (by exact ⟨SV.imp_refl _, imp_nilF, SV.imp_refl _, imp_nilF, trivial⟩) rfl ?_
 refine so rfl rfl rfl <| dn <| qq <| sr <| mv rfl <| mv rfl <| dn <| bE h fun e6 hl6 ho6 => ?_
 refine ok_tailP (fun (xe6 : Bool × (List Nat) × Bool × (List Nat)) => AS.mkL 19 [(4, .ptr 4 0), (5, .ptr 5 0)] [(5, ⟨42, [.sv (.v (.bool xe6.1)), .sv (nw N (slc 1 (List.map eU32 xe6.2.1))), .sv (.v (.bool xe6.2.2.1)), .sv (nw N (slc 1 (List.map eU32 xe6.2.2.2)))]⟩), (4, ⟨42, [.sv (.v (.bool false)), .sv (nw N (slc 1 (List.map eU32 []))), .sv (.v (.bool false)), .sv (nw N (slc 1 (List.map eU32 [])))]⟩)] []) (fun xe6 => xe6 = e6) ?_ (fun xe6 hx6 => ?_)
 refine ok_block ?_
 refine ok_loopM hl6 (fun s6 => AS.mkL 19 [(1, .sv (cloS 69 [ref [slc 1 (List.map eI64 k1_0)], ref [.v (.int .i64 k1_1)], ref [slc 4 (List.map eQ k1_2)]])), (4, .ptr 4 0), (5, .ptr 5 0), (8, .sv (.v (.int .i64 x0))), (9, .sv (.v (.int .i64 s6.1)))] [(5, ⟨42, [.sv (.v (.bool s6.2.1)), .sv (nw N (slc 1 (List.map eU32 s6.2.2.1))), .sv (.v (.bool s6.2.2.2.1)), .sv (nw N (slc 1 (List.map eU32 s6.2.2.2.2)))]⟩), (4, ⟨42, [.sv (.v (.bool false)), .sv (nw N (slc 1 (List.map eU32 []))), .sv (.v (.bool false)), .sv (nw N (slc 1 (List.map eU32 [])))]⟩)] []) (wR []) (fun s6 y6 G6 h hG6 hE6 => ?_)
 obtain ⟨y9l3, b5_0l3, b5_1l3, b5_2l3, b5_3l3⟩ := s6
 try dsimp only
 refine sr <| lE h fun x10 h10 h => ls _ rfl rfl h10 <| dn <| qq ?_
 cases x10
 refine cF <| ok_exit <| AThen.x <| AThen.x <| AInB.x <| AThen.n ?_
 obtain rfl := O (F h)
 exact ⟨(b5_0l3, b5_1l3, b5_2l3, b5_3l3), hE6 _ rfl, wR []⟩
 refine cT <| ok_skip <| AThen.n <| qq <| ok_block <| sr <| mv rfl <| ag rfl <| dn <| ok_region_draw mixed <| ld rfl rfl (.cons rfl (.cons rfl (.cons rfl (.cons rfl (.nil))))) <| mv rfl <| mv rfl ?_
 obtain ⟨⟨⟨x15_0, x15_1⟩, ⟨x15_2, x15_3⟩⟩, h15, h⟩ := bS (V h)
 refine RT.callS (args := [_]) (caps := [_, _, _]) .none (node_total_1_ok h15) rfl ⟨rfl, trivial⟩ T ?_
 obtain ⟨⟨⟨x16_0, x16_1⟩, ⟨x16_2, x16_3⟩⟩, h16, h⟩ := bS h
 refine RT.callPN .none ((frac_Add_fr N h16).w (args' := [_, _]) ⟨(SV.imp_agg (show SVIs [.v (.bool b5_0l3), nw N (slc 1 (List.map eU32 b5_1l3)), .v (.bool b5_2l3), nw N (slc 1 (List.map eU32 b5_3l3))] _ from ⟨(SV.imp_refl _), nw_imp, (SV.imp_refl _), nw_imp, trivial⟩)), (SV.imp_refl _), trivial⟩) hN rfl ⟨rfl, rfl, trivial⟩ T <| so rfl rfl rfl ?_
 refine RT.done ⟨by kernel_rfl, ?_⟩
 refine AInB.n <| AThen.n <| ok_region <| lE h fun x17 h17 h => ad _ rfl rfl h17 <| mv rfl <| RT.done ?_
 obtain rfl := O h
 exact AThen.n ⟨(x17, x16_0, x16_1, x16_2, x16_3), hG6 _ rfl, wR []⟩
 subst hx6
 obtain ⟨b5_0e5, b5_1e5, b5_2e5, b5_3e5⟩ := xe6
 try dsimp only
 refine AThen.n <| sr <| ld rfl rfl (.cons rfl (.cons rfl (.cons rfl (.cons rfl (.nil))))) <| so rfl rfl rfl <| dn <| ok_ret ?_
 obtain rfl := O ho6
 exact RZ (.agg rfl rfl (.cons rfl (.cons rfl (.cons rfl (.cons rfl (.nil))))) rfl (.nil))
theorem node_total_fr {x0 : List Int} {x1 : Int} {x2 : List Qr} (N : Nat) {r : Qr} (h : node_total_m x0 x1 x2 = some r) : PureN Tryz.prog 51 N [slc 1 (List.map eI64 x0), .v (.int .i64 x1), slc 4 (List.map eQ x2)] (.agg ((fQ N) r)) := by
 refine pureN_of_ok Tryz.func51 rfl (Nat.le_of_ble_eq_true rfl) (fun wld M vs hN hvs => ?_)
 unfold node_total_m at h
 refine sr <| RT.boxV .none (s := .sv _) rfl T rfl rfl <| RT.boxV .none (s := .sv _) rfl T rfl rfl <| RT.boxV .none (s := .sv _) rfl T rfl rfl <| al (cs := [.v (.bool false), nw N (slc 1 (List.map eU32 [])), .v (.bool false), nw N (slc 1 (List.map eU32 []))]) (by exact ⟨SV.imp_refl _, imp_nilF, SV.imp_refl _, imp_nilF, trivial⟩) rfl <| dn <| ok_weak (weak_frzB (i := 3) rfl [slc 1 (List.map eI64 x0)] (.cons rfl (.nil)) .any 0 [(3, .sv (ref [slc 1 (List.map eI64 x0)]))] (fun _ _ _ => trivial) (Ones.h (l := [slc 1 (List.map eI64 x0)])) ⟨@FT.ptr _ _ _ _ _ 3 0 rfl, trivial⟩) ?_
 refine ok_weak (weak_frzB (i := 4) rfl [.v (.int .i64 x1)] (.cons rfl (.nil)) .any 0 [(4, .sv (ref [.v (.int .i64 x1)]))] (fun _ _ _ => trivial) (Ones.h (l := [.v (.int .i64 x1)])) ⟨@FT.ptr _ _ _ _ _ 4 0 rfl, trivial⟩) <| ok_weak (weak_frzB (i := 5) rfl [slc 4 (List.map eQ x2)] (.cons rfl (.nil)) .any 0 [(5, .sv (ref [slc 4 (List.map eQ x2)]))] (fun _ _ _ => trivial) (Ones.h (l := [slc 4 (List.map eQ x2)])) ⟨@FT.ptr _ _ _ _ _ 5 0 rfl, trivial⟩) <| sr <| lr rfl rfl <| lE h fun x8 h8 h => ln rfl h8 <| lr rfl rfl <| lE h fun x10 h10 h => ln rfl h10 ?_
 refine lE h fun x11 h11 h => RT.min .none _ rfl rfl T (minI (p := x8) (q := x10) h11) <| RT.makeFuncS (caps := [_, _, _]) .none ⟨rfl, rfl, rfl, trivial⟩ T ?_
 obtain ⟨⟨⟨x13_0, x13_1⟩, ⟨x13_2, x13_3⟩⟩, h13, h⟩ := bS h
 refine RT.callPN .none (node_sumT_fr N h13) hN rfl ⟨rfl, rfl, trivial⟩ T <| so rfl rfl rfl <| dn <| ok_ret ?_
 obtain rfl := O h
 exact RZ (.agg rfl rfl (.cons rfl (.cons rfl (.cons rfl (.cons rfl (.nil))))) rfl (.nil))
theorem node_In_fr {x0 : Int} {x1 : List Int} {x2 : List Int} {x3 : List Qr} {x4 : List Qr} (N : Nat) {r : List Qr} (h : node_In_m x0 x1 x2 x3 x4 = some r) : PureN Tryz.prog 19 N [.v (.int .i64 x0), slc 1 (List.map eI64 x1), slc 1 (List.map eI64 x2), slc 4 (List.map eQ x3), slc 4 (List.map eQ x4)] (nw N (slc 4 (List.map (fQ N) r))) := by
 refine pureN_of_ok Tryz.func19 rfl (Nat.le_of_ble_eq_true rfl) (fun wld M vs hN hvs => ?_)
 unfold node_In_m at h
 refine sr <| aI rfl (imp_nilF (N := N) (n := 4) (e := (fQ N))) <| dn <| qq <| sr <| mv rfl <| lE h fun x14 h14 h => ls _ rfl rfl h14 <| dn ?_
 cases x14
 refine fs <| sr <| mv rfl <| lE (F h) fun x16 h16 h => RT.min .none _ rfl rfl T (minI (p := x0) (q := 6) h16) <| bE h fun x17 h17 h => RT.mkRow (n := 4) (e := (fQ N)) .none rfl rfl T rfl T (by rfl) (by decide) (by exact ⟨SV.imp_refl _, imp_nilF, SV.imp_refl _, imp_nilF, trivial⟩) h17 <| an (s := .row _) rfl <| dn <| qq <| sr <| mo (s := .row _) rfl <| lE h fun x19 h19 h => lL rfl rfl h19 <| mv rfl <| dn <| bE h fun e8 hl8 ho8 => ?_
 refine ok_tailP (fun (r17e7 : (List Qr)) => AS.mkL 37 [(11, .row 17)] [] [(17, TR 42 4 (fQ N) r17e7)]) (fun r17e7 => r17e7 = e8) ?_ (fun r17e7 hx8 => ?_)
 refine ok_block ?_
 refine ok_loopM hl8 (fun s8 => AS.mkL 37 [(1, .sv (slc 1 (List.map eI64 x1))), (2, .sv (slc 1 (List.map eI64 x2))), (3, .sv (slc 4 (List.map eQ x3))), (4, .sv (slc 4 (List.map eQ x4))), (11, .row 17), (19, .sv (.v (.int .i64 x19))), (20, .sv (.v (.int .i64 s8.1)))] [] [(17, TR 42 4 (fQ N) s8.2)]) (wR []) (fun s8 y8 G8 h hG8 hE8 => ?_)
 obtain ⟨y20l4, r17l4⟩ := s8
 try dsimp only
 refine sr <| lE h fun x21 h21 h => ls _ rfl rfl h21 <| dn <| qq ?_
 cases x21
 refine cF <| ok_exit <| AThen.x <| AThen.x <| AInB.x <| AThen.n ?_
 obtain rfl := O (F h)
 exact ⟨r17l4, hE8 _ rfl, wR []⟩
 refine cT <| ok_skip <| AThen.n <| qq <| ok_block <| sr <| mv rfl <| ag rfl <| dn <| ok_region <| mo (s := .row _) rfl <| mv rfl <| mv rfl <| mv rfl <| mv rfl ?_
 obtain ⟨⟨⟨x28_0, x28_1⟩, ⟨x28_2, x28_3⟩⟩, h28, h⟩ := bS (V h)
 refine RT.callPN .none (node_total_fr N h28) hN rfl ⟨rfl, rfl, rfl, trivial⟩ T <| mv rfl <| mv rfl <| mv rfl ?_
 obtain ⟨⟨⟨x32_0, x32_1⟩, ⟨x32_2, x32_3⟩⟩, h32, h⟩ := bS h
 refine RT.callPN .none (node_total_fr N h32) hN rfl ⟨rfl, rfl, rfl, trivial⟩ T ?_
 obtain ⟨⟨⟨x33_0, x33_1⟩, ⟨x33_2, x33_3⟩⟩, h33, h⟩ := bS h
 refine RT.callPN .none ((frac_Sub_fr N h33).w (args' := [_, _]) ⟨(SV.imp_agg (show SVIs [.v (.bool x28_0), nw N (slc 1 (List.map eU32 x28_1)), .v (.bool x28_2), nw N (slc 1 (List.map eU32 x28_3))] _ from ⟨(SV.imp_refl _), nw_imp, (SV.imp_refl _), nw_imp, trivial⟩)), (SV.imp_agg (show SVIs [.v (.bool x32_0), nw N (slc 1 (List.map eU32 x32_1)), .v (.bool x32_2), nw N (slc 1 (List.map eU32 x32_3))] _ from ⟨(SV.imp_refl _), nw_imp, (SV.imp_refl _), nw_imp, trivial⟩)), trivial⟩) hN rfl ⟨rfl, rfl, trivial⟩ T <| bE h fun x34 h34 h => iR rfl rfl rfl h34 <| bE h fun l10 hl10_ h => sA ⟨⟨x33_0, x33_1⟩, ⟨x33_2, x33_3⟩⟩ rfl rfl rfl hl10_ ?_
 refine RT.done <| AInB.n <| AThen.n <| ok_region <| lE h fun x35 h35 h => ad _ rfl rfl h35 <| mv rfl <| RT.done ?_
 obtain rfl := O h
 exact AThen.n ⟨(x35, l10), hG8 _ rfl, wR []⟩
 subst hx8
 try dsimp only
 refine AThen.n <| sr <| mo (s := .row _) rfl <| an (s := .row _) rfl <| dn <| ok_frzF (i := 17) (E1 := 42) (n := 4) (e := (fQ N)) (l := r17e7) hN (fun _ h => h) rfl <| ok_ret ?_
 obtain rfl := O ho8
 exact R1 rfl
 refine cT <| sr <| aI rfl (imp_nilF (N := N) (n := 4) (e := (fQ N))) <| dn <| ok_ret <| AThen.r ?_
 obtain rfl := O (V h)
 exact R1 rfl
end Go.Proofs.YthgkgjogdgdcgaaGreat
namespace Go.Fw
open Go.RowKit
def Mem.to (M : Mem) (N : Nat) : Mem := fun b o => if b < N then M b o else none
theorem Mem.to_le (M : Mem) (N : Nat) : (M.to N).le M := fun b o v h => by
  unfold Mem.to at h
  split at h
  · exact h
  · cases h
theorem Mem.to_mono {M M' : Mem} (h : M.le M') (N : Nat) : (M.to N).le (M'.to N) := fun b o v e => by
  unfold Mem.to at *
  split at e
  · rename_i hn; rw [if_pos hn]; exact h b o v e
  · cases e
def od (N : Nat) (s : SV) : SV := ⟨fun M v => s.h (M.to N) v, fun hM h => s.mono (Mem.to_mono hM N) h⟩
theorem od_imp {N : Nat} {s : SV} : SV.imp (od N s) s := fun M _ h => s.mono (Mem.to_le M N) h
def AV.od (N : Nat) : AV → AV
  | .sv s => .sv (Fw.od N s)
  | x => x
theorem AV.od_mb {N : Nat} {x : AV} {j : Nat} : (x.od N).mb j ↔ x.mb j := by cases x <;> exact Iff.rfl
theorem AV.od_mr {N : Nat} {x : AV} {j : Nat} : (x.od N).mr j ↔ x.mr j := by cases x <;> exact Iff.rfl
def AS.od (N : Nat) (S : AS) : AS := { S with t := fun s => (S.t s).od N, b := fun j => (S.b j).map fun B => ⟨B.T, B.cells.map (AV.od N)⟩ }
theorem AV.od_holds {E : Env} {N : Nat} (h : E.M.le (E.M.to N)) {x : AV} {v : Value} (hx : x.holds E v) : (x.od N).holds E v := by
  cases x with
  | sv s => exact s.mono h hx
  | _ => exact hx
theorem AllV.od {E : Env} {N : Nat} (h : E.M.le (E.M.to N)) : ∀ {l : List AV} {vs : List Value}, AllV E l vs → AllV E (l.map (AV.od N)) vs
  | [], [], _ => trivial
  | _ :: _, _ :: _, hv => ⟨AV.od_holds h hv.1, AllV.od h hv.2⟩
  | [], _ :: _, hv => hv.elim
  | _ :: _, [], hv => hv.elim
section
variable {P : Program} {C : Ctx} {S : AS} {Q : Exit → AS → Prop}
theorem HoldsAt.odd {E : Env} {a : Act} {w : World} (h : HoldsAt C S E a w) {N : Nat} (hN : w.heap.size ≤ N) : HoldsAt C (S.od N) E a w := by
  have hle : E.M.le (E.M.to N) := fun b o v e => by
    have := inW_lt h.inW e
    unfold Mem.to; rw [if_pos (by omega)]; exact e
  have bOf : ∀ i B, (S.od N).b i = some B → ∃ B0, S.b i = some B0 ∧ B = ⟨B0.T, B0.cells.map (AV.od N)⟩ := fun i B hB => by
    have hB : (S.b i).map (fun B => (⟨B.T, B.cells.map (AV.od N)⟩ : Box)) = some B := hB
    cases e : S.b i with
    | none => rw [e] at hB; cases hB
    | some B0 => rw [e] at hB; cases hB; exact ⟨B0, rfl, rfl⟩
  have bTo : ∀ i B0, S.b i = some B0 → ∃ B, (S.od N).b i = some B := fun i B0 e => ⟨_, by show (S.b i).map _ = _; rw [e]; rfl⟩
  exact { h with
    wf := by
      refine ⟨fun s j hj => ?_, fun s j hj => h.wf.tr s j (AV.od_mr.1 hj), fun i B hB x hx j hj => ?_, fun i B hB x hx j hj => ?_⟩
      · obtain ⟨B, hB⟩ := h.wf.tb s j (AV.od_mb.1 hj); exact bTo j B hB
      · obtain ⟨B0, h0, rfl⟩ := bOf i B hB
        obtain ⟨y, hy, rfl⟩ := List.mem_map.1 hx
        obtain ⟨B1, h1⟩ := h.wf.bb i B0 h0 y hy j (AV.od_mb.1 hj)
        exact bTo j B1 h1
      · obtain ⟨B0, h0, rfl⟩ := bOf i B hB
        obtain ⟨y, hy, rfl⟩ := List.mem_map.1 hx
        exact h.wf.br i B0 h0 y hy j (AV.od_mr.1 hj)
    tm := fun s => AV.od_holds hle (h.tm s)
    bx := fun i B hB => by
      obtain ⟨B0, h0, rfl⟩ := bOf i B hB
      obtain ⟨h1, h2, h3, vs, h4, h5⟩ := h.bx i B0 h0
      exact ⟨h1, h2, h3, vs, h4, h5.od hle⟩
    inj := fun i j B B' hi hj e => by
      obtain ⟨B0, h0, _⟩ := bOf i B hi
      obtain ⟨B1, h1, _⟩ := bOf j B' hj
      exact h.inj i j B0 B1 h0 h1 e
    rx := fun i R hR => by
      obtain ⟨p1, p2⟩ := h.rx i R hR
      refine ⟨p1, fun g hg => ?_⟩
      obtain ⟨q1, q2, q3, q4⟩ := p2 g hg
      refine ⟨q1, q2, q3, fun j B hB => ?_⟩
      obtain ⟨B0, h0, _⟩ := bOf j B hB
      exact q4 j B0 h0 }
theorem pureS_of_ok {f : FuncId} {fn : Func} {code : Code} {args : List SV} {r : SV} (hf : P.funcs[f]? = some fn) (hb : fn.body = some code) (hn : args.length ≤ fn.ntmps)
    (h : ∀ (w : World) (M : Mem) (vs : List Value), M.inW w → SV.All M args vs → Ok P (ctx0 w M) code (AS.init fn.ntmps args) (fun e S => (e = .normal ∨ e = .ret) ∧ Res P S fn.results.toList r)) : Pure P f args r := by
  intro M w vs hM hvs
  refine (callsIn_wide (n := 0)).1 (callsIn_of_wp_marks (F := Fence.wide) hf hb trivial ?_)
  refine wpIn_mono (h w M vs hM hvs _ w ⟨_, init_holds hM hvs hn⟩) ?_
  rintro e a' w' ⟨S', ⟨he, ss, hss, himp⟩, E, hh⟩
  have key : LeavesInM Fence.wide 0 P fn a'.tmps (fun e w' => ∃ v M', e = .returned v ∧ M.le M' ∧ (∀ b o x, M' b o = some x → M b o = some x ∨ w.heap.size ≤ b) ∧ M'.inW w' ∧ r.h M' v ∧ Below w.heap.size w w') a'.defers .returning w' := by
    obtain ⟨ds, h1, h2, h3⟩ := hh.marks
    rw [h1]
    refine leaves_marks ds w' h2 (fun r hr => (h3 r hr).2.2) (fun w2 g1 g2 g3 g4 g5 => ?_)
    have hh2 := hh.unmarked h3 g1 g2 g3 g4 g5
    obtain ⟨v, hv, hs⟩ := res_run hh2 hss
    refine ⟨v, hv, v, E.M, rfl, hh2.m0, fun b o x e => ?_, hh2.inW, himp _ _ hs, hh2.os, hh2.tape, hh2.output, hh2.grown, fun k hk => hh2.frame k hk (fun h => h)⟩
    rcases hh2.mnew b o x e with h | h | h
    · exact .inl h
    · exact .inr h
    · exact h.elim
  rcases he with rfl | rfl
  · exact key
  · exact key
def Mem.ct (M : Mem) (N1 N2 : Nat) : Mem := fun b o => if N1 ≤ b ∧ b < N2 then none else M b o
theorem Mem.ct_le (M : Mem) (N1 N2 : Nat) : (M.ct N1 N2).le M := fun b o v h => by
  unfold Mem.ct at h
  split at h
  · cases h
  · exact h
def KpS (N1 N2 : Nat) (s s' : SV) : Prop := ∀ M v, s.h M v → s'.h (M.ct N1 N2) v
theorem kp_v {N1 N2 : Nat} {s : SV} {x : Value} (h : SV.imp s (.v x)) : KpS N1 N2 s (.v x) := fun M v hv => h M v hv
theorem kp_od {N1 N2 : Nat} {s s' : SV} (h : SV.imp s (od N1 s')) : KpS N1 N2 s (od N1 s') := fun M v hv => by
  refine s'.mono (fun b o x e => ?_) (h M v hv)
  unfold Mem.to Mem.ct at *
  split at e
  · rename_i hb; rw [if_pos hb, if_neg (by omega)]; exact e
  · cases e
inductive AVK (N1 N2 : Nat) : AV → AV → Prop
  | sv {s s' : SV} (h : KpS N1 N2 s s') : AVK N1 N2 (.sv s) (.sv s')
  | ptr {i o : Nat} : AVK N1 N2 (.ptr i o) (.ptr i o)
theorem AVK.holds {N1 N2 : Nat} {x y : AV} {E : Env} {v : Value} (h : AVK N1 N2 x y) (hx : x.holds E v) : y.holds { E with M := E.M.ct N1 N2 } v := by
  cases h with
  | sv h => exact h _ _ hx
  | ptr => exact hx
def AVKs (N1 N2 : Nat) : List AV → List AV → Prop
  | [], [] => True
  | x :: l, y :: l' => AVK N1 N2 x y ∧ AVKs N1 N2 l l'
  | _, _ => False
theorem AVKs.holds {N1 N2 : Nat} {E : Env} : ∀ {l l' : List AV} {vs : List Value}, AVKs N1 N2 l l' → AllV E l vs → AllV { E with M := E.M.ct N1 N2 } l' vs
  | [], [], [], _, _ => trivial
  | _ :: _, _ :: _, _ :: _, h, hv => ⟨h.1.holds hv.1, AVKs.holds h.2 hv.2⟩
  | [], [], _ :: _, _, hv => hv.elim
  | _ :: _, _ :: _, [], _, hv => hv.elim
  | [], _ :: _, _, h, _ => h.elim
  | _ :: _, [], _, h, _ => h.elim
def TsK (N1 N2 : Nat) (S : AS) : List (Nat × AV) → Prop
  | [] => True
  | (k, x) :: l => AVK N1 N2 (S.t k) x ∧ TsK N1 N2 S l
def BsK (N1 N2 : Nat) (S : AS) : List (Nat × Box) → Prop
  | [] => True
  | (k, x) :: l => (∃ cs, S.b k = some ⟨x.T, cs⟩ ∧ AVKs N1 N2 cs x.cells) ∧ BsK N1 N2 S l
theorem TsK.mem {N1 N2 : Nat} {S : AS} : ∀ {l : List (Nat × AV)}, TsK N1 N2 S l → ∀ p ∈ l, AVK N1 N2 (S.t p.1) p.2
  | _ :: _, h, p, hp => by
    rcases List.mem_cons.1 hp with rfl | hp
    · exact h.1
    · exact TsK.mem h.2 p hp
theorem BsK.mem {N1 N2 : Nat} {S : AS} : ∀ {l : List (Nat × Box)}, BsK N1 N2 S l → ∀ p ∈ l, ∃ cs, S.b p.1 = some ⟨p.2.T, cs⟩ ∧ AVKs N1 N2 cs p.2.cells
  | _ :: _, h, p, hp => by
    rcases List.mem_cons.1 hp with rfl | hp
    · exact h.1
    · exact BsK.mem h.2 p hp
theorem HoldsAt.cutM {E : Env} {a : Act} {w w' : World} (h : HoldsAt C S E a w) {N1 N2 : Nat} (hC : ∀ b o v, C.M0 b o = some v → b < C.w0.heap.size) (hJ : ∀ g go O M w, C.J g go O M w) (hpin : ∀ i, C.pinr i = none) (hN : C.w0.heap.size ≤ N1)
    {n : Nat} {ts : List (Nat × AV)} {bs : List (Nat × Box)} {g : Nat} {go : Bool} (hn : S.n = n) (hwf : ((ts.all fun p => p.2.liveIn bs []) && (bs.all fun p => p.2.cells.all fun x => x.liveIn bs [])) = true) (ht : TsK N1 N2 S ts) (hb : BsK N1 N2 S bs)
    (hos : w'.os = w.os) (htape : w'.tape = w.tape) (hout : w'.output = w.output) (hsize : w.heap.size ≤ w'.heap.size) (hsame : ∀ k, k < w.heap.size → (k < N1 ∨ N2 ≤ k ∨ ∀ o, E.M k o = none) → w'.heap[k]? = w.heap[k]?) :
    HoldsAt C (AS.mkL n ts bs [] g go) { E with M := E.M.ct N1 N2 } a w' where
  wf := mkL_wf hwf
  marks := by
    obtain ⟨ds, d1, d2, d3⟩ := h.marks
    refine ⟨ds, d1, d2, fun r hr => ?_⟩
    obtain ⟨p1, p2, p3⟩ := d3 r hr
    refine ⟨p1, p2, ?_⟩
    rw [hsame r (Array.getElem?_eq_some_iff.1 p3).1 (.inr (.inr fun o => ?_))]
    · exact p3
    · cases e : E.M r o with
      | none => rfl
      | some v => exact ((h.inW _ _ _ e).no (by simp [World.cell?, p3]) (fun es ck q => by rw [p3] at q; cases q) (fun c T q => by rw [p3] at q; cases q)).elim
  size := by rw [h.size, hn]; rfl
  os := hos.trans h.os
  tape := htape.trans h.tape
  output := hout.trans h.output
  grown := Nat.le_trans h.grown hsize
  frame := fun k hk ho => by rw [hsame k (Nat.lt_of_lt_of_le hk h.grown) (.inl (by omega))]; exact h.frame k hk ho
  m0 := fun b o v e => by
    have := hC b o v e
    show Mem.ct E.M N1 N2 b o = some v
    unfold Mem.ct
    rw [if_neg (by omega)]; exact h.m0 b o v e
  mnew := fun b o v e => h.mnew b o v (Mem.ct_le _ _ _ _ _ _ e)
  inW := fun b o v e => by
    have e0 := Mem.ct_le _ _ _ _ _ _ e
    refine (h.inW b o v e0).same (hsame b (inW_lt h.inW e0) ?_)
    have e : Mem.ct E.M N1 N2 b o = some v := e
    unfold Mem.ct at e
    split at e
    · cases e
    · omega
  tm := fun s => by
    rcases lkT_mem (ts := ts) (s := s) with e | ⟨p, hp, rfl, e⟩
    · show (lkT ts s).holds _ _; rw [e]; exact trivial
    · show (lkT ts p.1).holds _ _; rw [e]; exact (ht.mem p hp).holds (h.tm p.1)
  bx := fun i B hB => by
    obtain ⟨cs, h1, h2⟩ := hb.mem (i, B) (lkB_mem hB)
    obtain ⟨h3, h4, h5, vs, h6, h7⟩ := h.bx i _ h1
    refine ⟨h3, fun o => ?_, h5, vs, ?_, h2.holds h7⟩
    · show Mem.ct E.M N1 N2 _ o = none
      unfold Mem.ct; split
      · rfl
      · exact h4 o
    · show w'.heap[E.β i]? = _
      rw [hsame _ (Array.getElem?_eq_some_iff.1 h6).1 (.inr (.inr h4))]; exact h6
  inj := fun i j B B' hi hj e => by
    obtain ⟨cs, h1, _⟩ := hb.mem (i, B) (lkB_mem hi)
    obtain ⟨cs', h2, _⟩ := hb.mem (j, B') (lkB_mem hj)
    exact h.inj i j _ _ h1 h2 e
  rx := fun i R hR => by cases hR
  rinj := fun i j R R' hi => by cases hi
  pin := h.pin
  pinr := fun i v e => by rw [hpin i] at e; cases e
  olt := fun b hb => by
    obtain ⟨p1, p2, p3⟩ := h.olt b hb
    refine ⟨Nat.lt_of_lt_of_le p1 hsize, fun o => ?_, p3⟩
    show Mem.ct E.M N1 N2 _ o = none
    unfold Mem.ct; split
    · rfl
    · exact p2 o
  jj := hJ _ _ _ _ _
def Own (M : Mem) (N1 N2 k : Nat) : Prop := ∃ o, ((M.to N2).fr N1) k o = some (.agg #[])
theorem own_at {M : Mem} {N1 N2 k : Nat} (h : Own M N1 N2 k) : N1 ≤ k ∧ k < N2 ∧ ∃ o, M k o = some (.agg #[]) := by
  obtain ⟨o, e⟩ := h
  unfold Mem.fr Mem.to at e
  split at e
  · split at e
    · exact ⟨by assumption, by assumption, o, e⟩
    · cases e
  · cases e
end
section
variable {P : Program} {C : Ctx} {ops : Array Oper} {S : AS} {K : List Ac → AS → Prop} {rest : List Oper} {acc : List Ac}
variable {gd : Option (Nat × Bool)} {rg : List Nat} {d : Nat} {ty : TypeId} {pos : String} {aft : Array Edge} {x y z : Operand} {T U E0 : TypeId}
theorem RT.callFr (hg : Gd ops S gd rg) {f : FuncId} [Ent P f] {g : Operand} {xs : Array Operand} {at_ : Array TypeId} {args : Nat → List SV} {r : Nat → SV} (hp : ∀ N, PureN P f N (args N) (r N)) (hf : S.ev g = .sv (.v (.func (.func f) #[] #[]))) (hargs : ∀ N, AllSv S xs.toList (args N)) (hd : d < S.n)
    (next : ∀ N, C.w0.heap.size ≤ N → RunT P C ops true K rest [] ((S.od N).set d (.sv (r N)))) : RunT P C ops true K (⟨some d, .call ⟨.value g, xs, at_⟩, ty, pos, aft, gd⟩ :: rest) acc S := by
  refine .inr ⟨rfl, fun S' => ∃ N, C.w0.heap.size ≤ N ∧ S' = (S.od N).set d (.sv (r N)), ?_, fun S' ⟨N, h1, h2⟩ => by subst h2; exact next N h1⟩
  rintro i a w L Q ho ⟨E, h⟩ hL
  refine wpOp_of (C := C) ho (hg.wanted h (fun s _ => rfl) rfl) ?_
  have hgf : a.eval g = .func (.func f) #[] #[] := by
    have h1 := h.ev g; rw [hf] at h1; exact h1
  have hall := AllSv.vals h (hargs w.heap.size) (fun s _ => rfl)
  have hr : (execOp a.eval ⟨some d, .call ⟨.value g, xs, at_⟩, ty, pos, aft, gd⟩).run P w = .ok (.enter f ⟨xs.toList.map a.eval⟩) w := by
    have e2 : xs.map a.eval = ⟨xs.toList.map a.eval⟩ := by apply Array.ext'; simp
    have e1 := Ent.run (P := P) (f := f) (xs.map a.eval) w
    rw [← e2]
    simp [execOp, resolve, hgf, Deferred.ofValue, invoke, e1]
  refine wpIn_of (C := C) (by intro c h; cases h) hr ?_
  refine ⟨fun h => by simp at h, fr_calls ((hp w.heap.size E.M w _ (Nat.le_refl _) h.inW hall).mono ?_)⟩
  rintro e w' ⟨v, M', rfl, hM, hnew, hin, hv, hb⟩
  exact hL _ _ _ ⟨w.heap.size, h.grown, rfl⟩ ⟨_, ((h.odd (Nat.le_refl _)).grow hM hnew hin hb).put (x := .sv (r w.heap.size)) hv hd nomb⟩
end
end Go.Fw
namespace Go.Fw
open Go.RowKit
structure SpD where
  W : World
  Mx : Mem
  b0 : Nat
  o0 : Nat
  n : Nat
  sz : Nat
  hin : Mx.inW W
  hb : 0 < n → ∃ o, Mx b0 o = some (.agg #[])
  cell : ∀ i k, i < n → k < sz → ∃ y, Mx b0 (o0 + i * sz + k) = some y ∧ y.oneCell' = true
def Ow (D : SpD) (b : Nat) : Prop := ∃ o, D.Mx b o = some (.agg #[])
def SpInv (D : SpD) (g : Nat) (w : World) : Prop :=
  (∀ i k y, g ≤ i → i < D.n → k < D.sz → D.Mx D.b0 (D.o0 + i * D.sz + k) = some y → w.cell? ⟨D.b0, D.o0 + i * D.sz + k, none⟩ = some y) ∧
  ∀ b, Ow D b → ∃ us vs T, D.W.heap[b]? = some (.cells ⟨us⟩ T (0, 0)) ∧ w.heap[b]? = some (.cells ⟨vs⟩ T (0, 0)) ∧ vs.length = us.length
theorem SpInv.same {D : SpD} {g : Nat} {w w' : World} (h : SpInv D g w) (hs : ∀ b, Ow D b → w'.heap[b]? = w.heap[b]?) : SpInv D g w' := by
  refine ⟨fun i k y h1 h2 h3 h4 => ?_, fun b hb => ?_⟩
  · rw [World.cell?_of_block (w := w) (a := ⟨D.b0, D.o0 + i * D.sz + k, none⟩) (hs _ (D.hb (by omega)))]
    exact h.1 i k y h1 h2 h3 h4
  · obtain ⟨us, vs, T, q1, q2, q3⟩ := h.2 b hb
    exact ⟨us, vs, T, q1, by rw [hs b hb]; exact q2, q3⟩
section
variable {P : Program} {D : SpD} {M0 : Mem} {S : AS}
theorem spl_len : ∀ (xs : List Value) (l : List Value) (k : Nat), (spl l k xs).length = l.length
  | [], _, _ => rfl
  | x :: xs, l, k => by rw [spl, spl_len xs]; simp
theorem spl_get : ∀ (xs : List Value) (l : List Value) (k j : Nat), (j < k ∨ k + xs.length ≤ j) → (spl l k xs)[j]? = l[j]?
  | [], _, _, _, _ => rfl
  | x :: xs, l, k, j, h => by
    rw [List.length_cons] at h
    rw [spl, spl_get xs _ _ _ (by omega), List.getElem?_set, if_neg (by omega)]
theorem SpInv.put {g g' : Nat} {w : World} (h : SpInv D g w) (hg : g ≤ g') {b o : Nat} {us vs : List Value} {T : TypeId} (hw : w.heap[b]? = some (.cells ⟨vs⟩ T (0, 0)))
    (hne : ∀ i k, g' ≤ i → i < D.n → k < D.sz → b = D.b0 → D.o0 + i * D.sz + k < o ∨ o + us.length ≤ D.o0 + i * D.sz + k) : SpInv D g' (putBlk w b (spl vs o us) T) := by
  refine ⟨fun i k y h1 h2 h3 h4 => ?_, fun b' hb => ?_⟩
  · have e := h.1 i k y (Nat.le_trans hg h1) h2 h3 h4
    by_cases hb : D.b0 = b
    · subst hb
      have q := hne i k h1 h2 h3 rfl
      simp only [World.cell?, hw] at e
      simp only [World.cell?, putBlk_at hw]
      simp only [Option.isSome_none, Bool.false_eq_true, if_false, List.getElem?_toArray] at e ⊢
      rw [spl_get us vs o _ q]; exact e
    · rw [World.cell?_of_block (w := w) (a := ⟨D.b0, D.o0 + i * D.sz + k, none⟩) (putBlk_other hb)]; exact e
  · obtain ⟨us0, vs0, T0, q1, q2, q3⟩ := h.2 b' hb
    by_cases e : b' = b
    · subst e
      rw [hw] at q2; cases q2
      exact ⟨us0, spl vs o us, T, q1, putBlk_at hw, by rw [spl_len]; exact q3⟩
    · exact ⟨us0, vs0, T0, q1, by rw [putBlk_other e]; exact q2, q3⟩
end
section
variable {P : Program} {C : Ctx} {ops : Array Oper} {S : AS} {nd : Bool} {K : List Ac → AS → Prop} {rest : List Oper} {acc : List Ac}
variable {gd : Option (Nat × Bool)} {rg : List Nat} {d : Nat} {ty : TypeId} {pos : String} {aft : Array Edge} {x y z : Operand} {T U E0 : TypeId} {D : SpD} {M0 : Mem}
instance {a : Option Addr} {n c : Nat} : Len (.v (.slice a n c)) n := ⟨fun _ v h => ⟨a, c, h⟩⟩
theorem RT.lenC (hg : Gd ops S gd rg) {m : Nat} [tS : TySl P T E0 m] {a : Option Addr} {n c : Nat} (hx : S.ev x = .sv (.v (.slice a n c))) (hd : d < S.n)
    (next : RunT P C ops nd K rest (⟨rg ++ okeys x, [], [], ⟨some (d, .sv (.v (.int .i64 n))), [], []⟩⟩ :: acc) (S.set d (.sv (.v (.int .i64 n))))) : RunT P C ops nd K (⟨some d, .call ⟨.builtin .len, #[x], #[T]⟩, ty, pos, aft, gd⟩ :: rest) acc S :=
  RT.len hg hx hd next
theorem RT.ixC (hg : Gd ops S gd rg) {sz : Nat} [tS : TySl P T E0 sz] {b o n c : Nat} {kk : IntKind} {i : Nat} (hx : S.ev x = .sv (.v (.slice (some ⟨b, o, none⟩) n c))) (hy : S.ev y = .sv (.v (.int kk (i : Int)))) (hd : d < S.n) (hi : i < n)
    (next : RunT P C ops nd K rest (⟨rg ++ (okeys x ++ okeys y), [], [], ⟨some (d, .sv (.v (.pointer (some ⟨b, o + i * sz, none⟩)))), [], []⟩⟩ :: acc) (S.set d (.sv (.v (.pointer (some ⟨b, o + i * sz, none⟩)))))) : RunT P C ops nd K (⟨some d, .indexAddr T x y, ty, pos, aft, gd⟩ :: rest) acc S :=
  RT.value hg (okeys x ++ okeys y) [] [] _ hd (by intro c h; cases h) (fun S' ht _ _ E a w h => by
    have h1 : a.eval x = .slice (some ⟨b, o, none⟩) n c := by have h1 := h.ev x; rw [ev_congr (fun _ h => List.mem_append_left _ h) ht, hx] at h1; exact h1
    have h2 : a.eval y = .int kk (i : Int) := by have h2 := h.ev y; rw [ev_congr (fun _ h => List.mem_append_right _ h) ht, hy] at h2; exact h2
    refine ⟨.pointer (some ⟨b, o + i * sz, none⟩), ?_, rfl, nomb⟩
    have hsz := tS.size w
    have hb : (0 : Int) ≤ (i : Int) ∧ (i : Int) < (n : Int) := ⟨by omega, by omega⟩
    simp [execOp, h2, h1, Instr.indexAt, asIntOf, underlying, tS.u, hsz, addr_add, hb]
    exact fun q => absurd q (by omega)) next
theorem RT.faC (hg : Gd ops S gd rg) {f off : Nat} [hf : Fld P T f off U] [sU : Sized P U] {b o : Nat} (hx : S.ev x = .sv (.v (.pointer (some ⟨b, o, none⟩)))) (hd : d < S.n)
    (next : RunT P C ops nd K rest (⟨rg ++ okeys x, [], [], ⟨some (d, .sv (.v (.pointer (some ⟨b, o + off, none⟩)))), [], []⟩⟩ :: acc) (S.set d (.sv (.v (.pointer (some ⟨b, o + off, none⟩)))))) : RunT P C ops nd K (⟨some d, .fieldAddr T x f, ty, pos, aft, gd⟩ :: rest) acc S :=
  RT.value hg (okeys x) [] [] _ hd (by intro c h; cases h) (fun S' ht _ _ E a w h => by
    have h1 : a.eval x = .pointer (some ⟨b, o, none⟩) := by have h1 := h.ev x; rw [ev_congr (fun _ h => h) ht, hx] at h1; exact h1
    have := run_fieldAt (P := P) (T := T) (f := f) (off := off) (U := U) sU.h b o w
    exact ⟨.pointer (some ⟨b, o + off, none⟩), by simp [execOp, h1, this], rfl, nomb⟩) next
end
section
variable {P : Program}
structure SpV (D : SpD) {α : Type} (e : α → List SV) (l : List α) (v : Value) : Prop where
  n : D.n = l.length
  v : ∃ a c, v = .slice a l.length c ∧ (l ≠ [] → a = some ⟨D.b0, D.o0, none⟩) ∧ l.length ≤ 9223372036854775807
  row : ∀ (i : Nat) (x : α), l[i]? = some x → (e x).length = D.sz ∧ ∀ (k : Nat) (s : SV), (e x)[k]? = some s → ∃ y, D.Mx D.b0 (D.o0 + i * D.sz + k) = some y ∧ y.oneCell' = true ∧ s.h D.Mx y
theorem words_at {N : Nat} {ws : List Nat} {M : Mem} {y : Value} (h : (nw N (slc 1 (ws.map eU32))).h M y) : ∃ a c, y = .slice a ws.length c ∧ ws.length ≤ 9223372036854775807 ∧ (ws ≠ [] → ∃ b o, a = some ⟨b, o, none⟩ ∧ (∃ o, M b o = some (.agg #[])) ∧ ∀ j, j < ws.length → ∃ x, M b (o + j) = some (.int .u32 x)) := by
  obtain ⟨h1, h2⟩ := h
  rcases h1 with ⟨a, e, e2⟩ | ⟨b, o, c, e, _, e3, e2⟩
  · have : ws = [] := List.map_eq_nil_iff.1 e2
    subst this
    exact ⟨a, 0, e, by simp, fun h => (h rfl).elim⟩
  · rw [List.length_map] at e e3
    refine ⟨_, c, e, e3, fun _ => ⟨b, o, rfl, ?_, fun j hj => ?_⟩⟩
    · obtain ⟨o', q⟩ := h2 b (by rw [e]; rfl)
      exact ⟨o', Mem.fr_le _ _ _ _ _ q⟩
    · obtain ⟨_, q⟩ := e2 j (eU32 ws[j]) (by rw [List.getElem?_map, List.getElem?_eq_getElem hj]; rfl)
      obtain ⟨y, q1, _, q2⟩ := q 0 _ rfl
      have q2 : y = .int .u32 ((ws[j] : Nat) : Int) := q2
      subst q2
      have q1 := Mem.fr_le _ _ _ _ _ q1
      rw [show o + j * 1 + 0 = o + j by omega] at q1
      exact ⟨_, q1⟩
theorem agg_cells {M : Mem} : ∀ {us : List Value} {v : Value}, (SV.agg (us.map SV.v)).h M v → v.cells = ⟨us⟩ := by
  rintro us v ⟨vs, rfl, h⟩
  have : vs = us := by
    induction us generalizing vs with
    | nil => cases vs with | nil => rfl | cons _ _ => exact h.elim
    | cons u us ih =>
      cases vs with
      | nil => exact h.elim
      | cons x xs =>
        have h1 : x = u := h.1
        rw [h1, ih xs h.2]
  subst this; rfl
end
end Go.Fw
namespace Go.Fw
open Go.RowKit
def zv : Value → Value
  | .slice _ _ _ => .slice none 0 0
  | .bool _ => .bool false
  | .int k _ => .int k 0
  | v => v
structure SvD where
  W : World
  Mx : Mem
  ps : List (Nat × Nat)
  sz : Nat
  hin : Mx.inW W
  hb : ∀ p ∈ ps, ∃ o, Mx p.1 o = some (.agg #[])
  cell : ∀ p ∈ ps, ∀ k, k < sz → ∃ y, Mx p.1 (p.2 + k) = some y ∧ y.oneCell' = true
def OwV (D : SvD) (b : Nat) : Prop := ∃ o, D.Mx b o = some (.agg #[])
def SvD.at (D : SvD) (p : Nat × Nat) (b o : Nat) : Bool := Nat.beq p.1 b && Nat.ble p.2 o && Nat.blt o (p.2 + D.sz)
def SvD.cov (D : SvD) (g b o : Nat) : Bool := (D.ps.take g).any fun p => D.at p b o
def SvD.now (D : SvD) (g b o : Nat) (y : Value) : Value := bif D.cov g b o then zv y else y
theorem SvD.at_iff {D : SvD} {p : Nat × Nat} {b o : Nat} : D.at p b o = true ↔ p.1 = b ∧ p.2 ≤ o ∧ o < p.2 + D.sz := by
  unfold SvD.at
  rw [Bool.and_eq_true, Bool.and_eq_true, Nat.ble_eq, Nat.blt_eq]
  exact ⟨fun h => ⟨Nat.eq_of_beq_eq_true h.1.1, h.1.2, h.2⟩, fun h => ⟨⟨by rw [h.1]; exact Nat.beq_refl b, h.2.1⟩, h.2.2⟩⟩
theorem SvD.cov_succ {D : SvD} {g b o : Nat} {p : Nat × Nat} (h : D.ps[g]? = some p) : D.cov (g + 1) b o = (D.cov g b o || D.at p b o) := by
  unfold SvD.cov
  rw [List.take_add_one, h]
  simp
def SvInv (D : SvD) (g : Nat) (w : World) : Prop :=
  (∀ p ∈ D.ps, ∀ k y, k < D.sz → D.Mx p.1 (p.2 + k) = some y → w.cell? ⟨p.1, p.2 + k, none⟩ = some (D.now g p.1 (p.2 + k) y)) ∧
  ∀ b, OwV D b → ∃ us vs T, D.W.heap[b]? = some (.cells ⟨us⟩ T (0, 0)) ∧ w.heap[b]? = some (.cells ⟨vs⟩ T (0, 0)) ∧ vs.length = us.length
theorem SvInv.same {D : SvD} {g : Nat} {w w' : World} (h : SvInv D g w) (hs : ∀ b, OwV D b → w'.heap[b]? = w.heap[b]?) : SvInv D g w' := by
  refine ⟨fun p h1 k y h2 h3 => ?_, fun b hb => ?_⟩
  · rw [World.cell?_of_block (w := w) (a := ⟨p.1, p.2 + k, none⟩) (hs _ (D.hb p h1))]
    exact h.1 p h1 k y h2 h3
  · obtain ⟨us, vs, T, q1, q2, q3⟩ := h.2 b hb
    exact ⟨us, vs, T, q1, by rw [hs b hb]; exact q2, q3⟩
theorem svInv0 (D : SvD) : SvInv D 0 D.W := by
  refine ⟨fun p h1 k y h2 h3 => ?_, fun b ⟨o, hb⟩ => ?_⟩
  · obtain ⟨y', e, ho⟩ := D.cell p h1 k h2
    rw [h3] at e; cases e
    exact (D.hin _ _ _ h3).cell ho
  · obtain ⟨c, T, e⟩ := (show ∃ c T, D.W.heap[b]? = some (.cells c T (0, 0)) from D.hin _ _ _ hb)
    exact ⟨c.toList, c.toList, T, by simpa using e, by simpa using e, rfl⟩
def ctxSv (D : SvD) (M : Mem) : Ctx := { w0 := D.W, M0 := M, own := OwV D, bor := fun _ => False, pin := fun _ => none, pinr := fun _ => none, ro := none, J := fun g _ O _ w => (∀ b, OwV D b → O b) ∧ SvInv D g w, hbo := fun _ h => h.elim, hpr := fun _ _ h => (by cases h), jf := fun _ _ _ _ _ _ _ j _ _ _ hs _ _ _ _ => ⟨j.1, j.2.same fun b hb => hs b (.inr (j.1 b hb))⟩ }
section
variable {P : Program} {D : SvD} {M0 : Mem} {S : AS}
theorem HoldsAt.pokeV {E : Env} {a : Act} {w : World} (h : HoldsAt (ctxSv D M0) S E a w) {b : Nat} {vs vs' : List Value} {T : TypeId} (hO : OwV D b) (hw : w.heap[b]? = some (.cells ⟨vs⟩ T (0, 0))) {g' : Nat} (hI : SvInv D g' (putBlk w b vs' T)) : HoldsAt (ctxSv D M0) { S with g := g' } E a (putBlk w b vs' T) := by
  have hOb : E.O b := h.jj.1 b hO
  obtain ⟨hlt, hno, _⟩ := h.olt b hOb
  exact {
    wf := ⟨h.wf.tb, h.wf.tr, h.wf.bb, h.wf.br⟩
    marks := by
      obtain ⟨ds, d1, d2, d3⟩ := h.marks
      refine ⟨ds, d1, d2, fun r hr => ?_⟩
      obtain ⟨p1, p2, p3⟩ := d3 r hr
      exact ⟨p1, p2, by rw [putBlk_other (fun e => p2 (by rw [e]; exact hOb))]; exact p3⟩
    size := h.size
    os := h.os
    tape := h.tape
    output := h.output
    grown := by rw [putBlk_size]; exact h.grown
    frame := fun k hk ho => by rw [putBlk_other (fun e => ho (by rw [e]; exact hO))]; exact h.frame k hk ho
    m0 := h.m0
    mnew := h.mnew
    inW := inW_of_same h.inW fun k ⟨o, v, e⟩ => putBlk_other (fun q => by rw [q, hno o] at e; cases e)
    tm := h.tm
    bx := fun i B hB => by
      obtain ⟨p1, p2, p3, us, p4, p5⟩ := h.bx i B hB
      exact ⟨p1, p2, p3, us, by rw [putBlk_other (fun e => p3 (by rw [e]; exact hOb))]; exact p4, p5⟩
    inj := h.inj
    rx := fun i R hR => by
      obtain ⟨⟨us, p1, p2⟩, p3⟩ := h.rx i R hR
      exact ⟨⟨us, ownsRow_same p1 fun g hg => putBlk_other (fun e => (p3 g hg).2.2.1 (by rw [e]; exact hOb)), p2⟩, p3⟩
    rinj := h.rinj
    pin := h.pin
    pinr := h.pinr
    olt := fun k hk => by rw [putBlk_size]; exact h.olt k hk
    jj := ⟨h.jj.1, hI⟩ }
theorem spl_in : ∀ (xs : List Value) (l : List Value) (k j : Nat), k ≤ j → j < k + xs.length → k + xs.length ≤ l.length → (spl l k xs)[j]? = xs[j - k]?
  | [], _, _, _, h1, h2, _ => absurd h2 (by simp; omega)
  | x :: xs, l, k, j, h1, h2, h3 => by
    rw [List.length_cons] at h2 h3
    rw [spl]
    by_cases e : j = k
    · subst e
      rw [spl_get xs _ _ _ (.inl (by omega)), List.getElem?_set, if_pos rfl, if_pos (by omega)]; simp
    · rw [spl_in xs _ _ _ (by omega) (by omega) (by rw [List.length_set]; omega)]
      obtain ⟨t, rfl⟩ := Nat.exists_eq_add_of_lt (show k < j by omega)
      rw [show k + t + 1 - k = t + 1 by omega, show k + t + 1 - (k + 1) = t by omega]; rfl
theorem SvInv.put {g g' : Nat} {w : World} (h : SvInv D g w) {b o : Nat} {us vs : List Value} {T : TypeId} (hw : w.heap[b]? = some (.cells ⟨vs⟩ T (0, 0))) (hlen : o + us.length ≤ vs.length)
    (hne : ∀ p ∈ D.ps, ∀ k y, k < D.sz → D.Mx p.1 (p.2 + k) = some y → ((b = p.1 → p.2 + k < o ∨ o + us.length ≤ p.2 + k) ∧ D.now g' p.1 (p.2 + k) y = D.now g p.1 (p.2 + k) y) ∨ (b = p.1 ∧ o ≤ p.2 + k ∧ p.2 + k < o + us.length ∧ us[p.2 + k - o]? = some (D.now g' p.1 (p.2 + k) y))) : SvInv D g' (putBlk w b (spl vs o us) T) := by
  refine ⟨fun p h1 k y h2 h3 => ?_, fun b' hb => ?_⟩
  · have e := h.1 p h1 k y h2 h3
    rcases hne p h1 k y h2 h3 with ⟨n1, n2⟩ | ⟨n1, n2, n3, n4⟩
    · rw [n2]
      by_cases hb : p.1 = b
      · obtain ⟨p1, p2⟩ := p
        have hb : p1 = b := hb
        subst hb
        have q := n1 rfl
        simp only [World.cell?, hw] at e
        simp only [World.cell?, putBlk_at hw]
        simp only [Option.isSome_none, Bool.false_eq_true, if_false, List.getElem?_toArray] at e ⊢
        rw [spl_get us vs o _ q]; exact e
      · rw [World.cell?_of_block (w := w) (a := ⟨p.1, p.2 + k, none⟩) (putBlk_other hb)]; exact e
    · obtain ⟨p1, p2⟩ := p
      have n1 : b = p1 := n1
      subst n1
      simp only [World.cell?, putBlk_at hw]
      simp only [Option.isSome_none, Bool.false_eq_true, if_false, List.getElem?_toArray]
      rw [spl_in us vs o _ n2 n3 hlen]; exact n4
  · obtain ⟨us0, vs0, T0, q1, q2, q3⟩ := h.2 b' hb
    by_cases e : b' = b
    · subst e
      rw [hw] at q2; cases q2
      exact ⟨us0, spl vs o us, T, q1, putBlk_at hw, by rw [spl_len]; exact q3⟩
    · exact ⟨us0, vs0, T0, q1, by rw [putBlk_other e]; exact q2, q3⟩
end
section
variable {P : Program} {C : Ctx} {ops : Array Oper} {S : AS} {nd : Bool} {K : List Ac → AS → Prop} {rest : List Oper} {acc : List Ac}
variable {gd : Option (Nat × Bool)} {rg : List Nat} {d : Nat} {ty : TypeId} {pos : String} {aft : Array Edge} {x y z : Operand} {T U E0 : TypeId} {D : SvD} {M0 : Mem}
theorem RT.svLd (hg : Gd ops S gd rg) [tV : TyV P T] {p : Nat × Nat} {k q : Nat} {y0 v : Value} (hx : S.ev x = .sv (.v (.pointer (some ⟨p.1, q, none⟩)))) (hd : d < S.n) (hq : q = p.2 + k) (hp : p ∈ D.ps) (hk : k < D.sz) (hm : D.Mx p.1 (p.2 + k) = some y0) (hv : D.now S.g p.1 (p.2 + k) y0 = v)
    (next : RunT P (ctxSv D M0) ops true K rest [] (S.set d (.sv (.v v)))) : RunT P (ctxSv D M0) ops true K (⟨some d, .load T x, ty, pos, aft, gd⟩ :: rest) acc S := by
  refine .inr ⟨rfl, fun S' => S' = S.set d (.sv (.v v)), ?_, fun S' h => by subst h; exact next⟩
  rintro i' a w L Q ho ⟨E, h⟩ hL
  refine wpOp_of (C := ctxSv D M0) ho (hg.wanted h (fun s _ => rfl) rfl) ?_
  have h1 : a.eval x = .pointer (some ⟨p.1, q, none⟩) := by have h1 := h.ev x; rw [hx] at h1; exact h1
  have hcc : w.cell? ⟨p.1, q, none⟩ = some v := by rw [hq, ← hv]; exact h.jj.2.1 p hp k y0 hk hm
  refine wpIn_of (C := ctxSv D M0) (by intro c h; cases h) (r := .ok (.value v) w) ?_ (hL _ _ _ rfl ⟨E, h.put (x := .sv (.v v)) rfl hd nomb⟩)
  simp [execOp, h1, Instr.loadAt, Instr.sureAddr, loadVar, tV.isAgg, hcc]
theorem RT.svSt (hg : Gd ops S gd rg) {b o : Nat} (us : List Value) (g' : Nat) (hx : S.ev x = .sv (.v (.pointer (some ⟨b, o, none⟩)))) (hy : ∀ E a w, HoldsAt (ctxSv D M0) S E a w → (a.eval y).cells = ⟨us⟩) (hone : ∀ u ∈ us, u.oneCell' = true) (h0 : 0 < us.length) (hs : ∀ w : World, (sizeOf T).run P w = .ok us.length w) (hO : OwV D b)
    (hsz : ∀ j, j < us.length → ∃ v, D.W.cell? ⟨b, o + j, none⟩ = some v)
    (hne : ∀ p ∈ D.ps, ∀ k y, k < D.sz → D.Mx p.1 (p.2 + k) = some y → ((b = p.1 → p.2 + k < o ∨ o + us.length ≤ p.2 + k) ∧ D.now g' p.1 (p.2 + k) y = D.now S.g p.1 (p.2 + k) y) ∨ (b = p.1 ∧ o ≤ p.2 + k ∧ p.2 + k < o + us.length ∧ us[p.2 + k - o]? = some (D.now g' p.1 (p.2 + k) y)))
    (next : RunT P (ctxSv D M0) ops true K rest [] { S with g := g' }) : RunT P (ctxSv D M0) ops true K (⟨none, .store T x y, ty, pos, aft, gd⟩ :: rest) acc S := by
  refine .inr ⟨rfl, fun S' => S' = { S with g := g' }, ?_, fun S' h => by subst h; exact next⟩
  rintro i' a w L Q ho ⟨E, h⟩ hL
  refine wpOp_of (C := ctxSv D M0) ho (hg.wanted h (fun s _ => rfl) rfl) ?_
  have h1 : a.eval x = .pointer (some ⟨b, o, none⟩) := by have h1 := h.ev x; rw [hx] at h1; exact h1
  have hu := hy E a w h
  obtain ⟨us0, vs, T', q1, q2, q3⟩ := h.jj.2.2 b hO
  have hlen : o + us.length ≤ vs.length := by
    obtain ⟨v, e⟩ := hsz (us.length - 1) (by omega)
    simp only [World.cell?, q1] at e
    simp only [Option.isSome_none, Bool.false_eq_true, if_false, List.getElem?_toArray] at e
    have := (List.getElem?_eq_some_iff.1 e).1
    omega
  have hr : (execOp a.eval ⟨none, .store T x y, ty, pos, aft, gd⟩).run P w = .ok .skip (putBlk w b (spl vs o us) T') := by
    have hst := run_storeCells_box (P := P) us 0 o w vs hone q2 (by omega)
    simp only [execOp, h1, Instr.storeAt, Instr.sureAddr, storeVar, hu]
    simp only [Sem.run_bind, Sem.run_pure, Result.andThen_ok, hs]
    simp only [List.size_toArray, ne_eq, not_true_eq_false, if_false]
    simp only [Nat.add_zero] at hst
    simp only [Result.andThen_ok, hst]
  exact wpIn_of (C := ctxSv D M0) (by intro c h; cases h) hr (hL _ _ _ rfl ⟨E, h.pokeV hO q2 (h.jj.2.put q2 hlen hne)⟩)
end
section
variable {P : Program}
def off {α : Type} : List (List α) → Nat → Nat
  | [], _ => 0
  | _ :: _, 0 => 0
  | l :: ls, i + 1 => l.length + off ls i
theorem off_zero {α : Type} (ls : List (List α)) : off ls 0 = 0 := by cases ls <;> rfl
theorem off_succ {α : Type} : ∀ {ls : List (List α)} {i : Nat} {l : List α}, ls[i]? = some l → off ls (i + 1) = off ls i + l.length
  | [], _, _, h => by simp at h
  | l0 :: ls, 0, l, h => by simp at h; subst h; show _ + off ls 0 = 0 + _; rw [off_zero]; omega
  | l0 :: ls, i + 1, l, h => by
    show l0.length + off ls (i + 1) = l0.length + off ls i + l.length
    rw [off_succ (ls := ls) (by simpa using h)]; omega
structure SvV (D : SvD) {α : Type} (e : α → List SV) (ls : List (List α)) (rows : List (List SV)) : Prop where
  n : rows.length = ls.length
  mx : ls.length ≤ 9223372036854775807
  v : ∀ (i : Nat) (l : List α), ls[i]? = some l → ∃ a c, rows[i]? = some [.v (.slice a l.length c)] ∧ l.length ≤ 9223372036854775807 ∧ ∀ k, k < l.length → ∃ b o, a = some ⟨b, o, none⟩ ∧ D.ps[off ls i + k]? = some (b, o + k * D.sz)
  all : ∀ p ∈ D.ps, ∃ x : α, (e x).length = D.sz ∧ ∀ (k : Nat) (s : SV), (e x)[k]? = some s → ∃ y, D.Mx p.1 (p.2 + k) = some y ∧ y.oneCell' = true ∧ s.h D.Mx y
def spv (N1 N2 : Nat) (xs : List SV) : SV := ⟨fun M v => ∃ vs : List Value, (slc 1 (vs.map fun u => [SV.v u])).h (M.ct N1 N2) v ∧ SV.All (M.to N2) (xs.map (nw N1)) vs, fun {M M' v} hM ⟨vs, h1, h2⟩ => ⟨vs, (slc 1 _).mono (fun b o y e => by
  unfold Mem.ct at *
  split at e
  · cases e
  · rename_i hb; rw [if_neg hb]; exact hM _ _ _ e) h1, SV.All.mono (Mem.to_mono hM N2) h2⟩⟩
def SpoilV (P : Program) (f : FuncId) (X : Nat → List SV) : Prop :=
  ∀ (M : Mem) (w : World) (v : Value) (N1 N2 : Nat), M.inW w → (spv N1 N2 (X N1)).h M v →
    Calls P f ⟨[v]⟩ w fun e w' => ∃ u, e = .returned u ∧ w'.os = w.os ∧ w'.tape = w.tape ∧ w'.output = w.output ∧ w.heap.size ≤ w'.heap.size ∧ ∀ k, k < w.heap.size → ¬ Own M N1 N2 k → w'.heap[k]? = w.heap[k]?
def posOf (sz n : Nat) : Value → List (Nat × Nat)
  | .slice (some ⟨b, o, _⟩) _ _ => (List.range n).map fun k => (b, o + k * sz)
  | _ => []
theorem pos_spec {M : Mem} {N sz : Nat} {α : Type} {e : α → List SV} {l : List α} {v : Value} (hv : (nw N (slc sz (l.map e))).h M v) : ∃ a c, v = .slice a l.length c ∧ l.length ≤ 9223372036854775807 ∧ (posOf sz l.length v).length = l.length ∧ (∀ k, k < l.length → ∃ b o, a = some ⟨b, o, none⟩ ∧ (posOf sz l.length v)[k]? = some (b, o + k * sz)) ∧
    ∀ p ∈ posOf sz l.length v, (∃ o, (M.fr N) p.1 o = some (.agg #[])) ∧ ∃ x : α, (e x).length = sz ∧ ∀ (k : Nat) (s : SV), (e x)[k]? = some s → ∃ y, (M.fr N) p.1 (p.2 + k) = some y ∧ y.oneCell' = true ∧ s.h (M.fr N) y := by
  obtain ⟨hs, hmk⟩ := hv
  rcases hs with ⟨a, h1, h2⟩ | ⟨b, o, c, h1, h2, h3, h4⟩
  · have hl : l = [] := List.map_eq_nil_iff.1 h2
    subst hl h1
    refine ⟨a, 0, rfl, by simp, ?_, fun k h => by simp at h, ?_⟩
    · cases a with
      | none => rfl
      | some a => rfl
    · cases a with
      | none => intro p hp; cases hp
      | some a => intro p hp; cases hp
  · rw [List.length_map] at h1 h2 h3
    subst h1
    refine ⟨_, c, rfl, h3, by simp [posOf], fun k hk => ⟨b, o, rfl, by simp [posOf, hk]⟩, fun p hp => ?_⟩
    simp only [posOf, List.mem_map, List.mem_range] at hp
    obtain ⟨k, hk, rfl⟩ := hp
    refine ⟨hmk b rfl, l[k], ?_⟩
    exact h4 k (e l[k]) (by rw [List.getElem?_map, List.getElem?_eq_getElem hk]; rfl)
def psOf (sz : Nat) {α : Type} : List (List α) → List Value → List (Nat × Nat)
  | l :: ls, v :: vs => posOf sz l.length v ++ psOf sz ls vs
  | _, _ => []
theorem ps_spec {M : Mem} {N sz : Nat} {α : Type} {e : α → List SV} : ∀ {ls : List (List α)} {vs : List Value}, SV.All M (ls.map fun l => nw N (slc sz (l.map e))) vs →
    vs.length = ls.length ∧ (∀ (i : Nat) (l : List α), ls[i]? = some l → ∃ a c, vs[i]? = some (.slice a l.length c) ∧ l.length ≤ 9223372036854775807 ∧ ∀ k, k < l.length → ∃ b o, a = some ⟨b, o, none⟩ ∧ (psOf sz ls vs)[off ls i + k]? = some (b, o + k * sz)) ∧
    ∀ p ∈ psOf sz ls vs, (∃ o, (M.fr N) p.1 o = some (.agg #[])) ∧ ∃ x : α, (e x).length = sz ∧ ∀ (k : Nat) (s : SV), (e x)[k]? = some s → ∃ y, (M.fr N) p.1 (p.2 + k) = some y ∧ y.oneCell' = true ∧ s.h (M.fr N) y
  | [], [], _ => ⟨rfl, fun i l h => by simp at h, fun p hp => by cases hp⟩
  | l0 :: ls, v :: vs, h => by
    obtain ⟨a, c, q1, q2, q3, q4, q5⟩ := pos_spec h.1
    obtain ⟨r1, r2, r3⟩ := ps_spec (ls := ls) (vs := vs) h.2
    refine ⟨by simp [r1], fun i l hi => ?_, fun p hp => ?_⟩
    · cases i with
      | zero =>
        simp at hi; subst hi
        refine ⟨a, c, by rw [q1]; rfl, q2, fun k hk => ?_⟩
        obtain ⟨b, o, t1, t2⟩ := q4 k hk
        refine ⟨b, o, t1, ?_⟩
        rw [off_zero, Nat.zero_add]
        show (posOf sz l0.length v ++ psOf sz ls vs)[k]? = _
        rw [List.getElem?_append_left (by rw [q3]; exact hk)]; exact t2
      | succ i =>
        obtain ⟨a', c', t1, t2, t3⟩ := r2 i l (by simpa using hi)
        refine ⟨a', c', by simpa using t1, t2, fun k hk => ?_⟩
        obtain ⟨b, o, u1, u2⟩ := t3 k hk
        refine ⟨b, o, u1, ?_⟩
        show (posOf sz l0.length v ++ psOf sz ls vs)[l0.length + off ls i + k]? = _
        rw [List.getElem?_append_right (by rw [q3]; omega), q3, show l0.length + off ls i + k - l0.length = off ls i + k by omega]; exact u2
    · rcases List.mem_append.1 (show p ∈ posOf sz l0.length v ++ psOf sz ls vs from hp) with hp | hp
      · exact q5 p hp
      · exact r3 p hp
  | [], _ :: _, h => h.elim
  | _ :: _, [], h => h.elim
theorem spoilV_of_ok {f : FuncId} {fn : Func} {code : Code} {sz : Nat} {α : Type} {e : Nat → α → List SV} {ls : List (List α)} (hf : P.funcs[f]? = some fn) (hb : fn.body = some code) (hn : 1 ≤ fn.ntmps) (hres : fn.results.toList = []) (hel : ∀ N x, (e N x).length = sz)
    (h : ∀ (N : Nat) (D : SvD) (M0 : Mem) (rows : List (List SV)), D.sz = sz → SvV D (e N) ls rows → Ok P (ctxSv D M0) code (AS.init fn.ntmps [slc 1 rows]) (fun ex S => ex = .normal ∨ ex = .ret)) : SpoilV P f (fun N => ls.map fun l => slc sz (l.map (e N))) := by
  intro M w v N1 N2 hM hv
  obtain ⟨vs, hv0, hall⟩ := hv
  have hinx : ((M.to N2).fr N1).inW w := fun b o x q => hM b o x (Mem.to_le _ _ _ _ _ (Mem.fr_le _ _ _ _ _ q))
  obtain ⟨s1, s2, s3⟩ := ps_spec (M := M.to N2) (N := N1) (sz := sz) (e := e N1) (ls := ls) (vs := vs) (by rw [List.map_map] at hall; exact hall)
  obtain ⟨D, hDW, hDM, hDsz, hV⟩ : ∃ D : SvD, D.W = w ∧ D.Mx = (M.to N2).fr N1 ∧ D.sz = sz ∧ SvV D (e N1) ls (vs.map fun u => [SV.v u]) := by
    refine ⟨⟨w, (M.to N2).fr N1, psOf sz ls vs, sz, hinx, fun p hp => (s3 p hp).1, fun p hp k hk => ?_⟩, rfl, rfl, rfl, ⟨by rw [List.length_map]; exact s1, ?_, fun i l hi => ?_, fun p hp => (s3 p hp).2⟩⟩
    · obtain ⟨_, x, q1, q2⟩ := s3 p hp
      obtain ⟨y, q3, q4, _⟩ := q2 k _ (List.getElem?_eq_getElem (by omega))
      exact ⟨y, q3, q4⟩
    · rw [← s1]
      rcases hv0 with ⟨a, _, h2⟩ | ⟨b, o, c, _, _, h3, _⟩
      · have := List.map_eq_nil_iff.1 h2; subst this; simp
      · rw [List.length_map] at h3; exact h3
    · obtain ⟨a, c, q1, q2, q3⟩ := s2 i l hi
      exact ⟨a, c, by rw [List.getElem?_map, q1]; rfl, q2, q3⟩
  subst hDW
  have hOw : ∀ k, OwV D k ↔ Own M N1 N2 k := fun k => by unfold OwV Own; rw [hDM]
  have hMc : (M.ct N1 N2).inW D.W := fun b o x q => hM b o x (Mem.ct_le _ _ _ _ _ _ q)
  have hno : ∀ b, OwV D b → ∀ o, (M.ct N1 N2) b o = none := fun b hb o => by
    obtain ⟨q1, q2, _⟩ := own_at ((hOw b).1 hb)
    unfold Mem.ct; rw [if_pos ⟨q1, q2⟩]
  have hv1 : SV.All (M.ct N1 N2) [slc 1 (vs.map fun u => [SV.v u])] [v] := ⟨hv0, trivial⟩
  have hi0 := init_holds hMc hv1 hn
  have hini : HoldsAt (ctxSv D (M.ct N1 N2)) (AS.init fn.ntmps [slc 1 (vs.map fun u => [SV.v u])]) ⟨fun _ => 0, fun _ => .nilIface, OwV D, M.ct N1 N2⟩ { tmps := ⟨[v]⟩ ++ Array.replicate (fn.ntmps - (⟨[v]⟩ : Array Value).size) undef, defers := [] } D.W :=
    { wf := hi0.wf
      marks := ⟨[], rfl, List.nodup_nil, by simp⟩
      size := hi0.size
      os := rfl
      tape := rfl
      output := rfl
      grown := Nat.le_refl _
      frame := fun _ _ _ => rfl
      m0 := Mem.le_refl _
      mnew := fun _ _ _ q => .inl q
      inW := hMc
      tm := fun s => AV.holds_congr (E := ⟨fun _ => 0, fun _ => .nilIface, fun _ => False, M.ct N1 N2⟩) (E' := ⟨fun _ => 0, fun _ => .nilIface, OwV D, M.ct N1 N2⟩) (Mem.le_refl _) (fun _ _ => rfl) (fun _ _ => rfl) (hi0.tm s)
      bx := fun i B q => by cases q
      inj := fun i j B B' q => by cases q
      rx := fun i R q => by cases q
      rinj := fun i j R R' q => by cases q
      pin := fun i b q => by cases q
      pinr := fun i v q => by cases q
      olt := fun b hb => by
        obtain ⟨o, q⟩ := hb
        have hlt := (D.hin _ _ _ q).lt
        exact ⟨hlt, hno b ⟨o, q⟩, .inl ⟨o, q⟩⟩
      jj := ⟨fun _ hb => hb, svInv0 D⟩ }
  refine (callsIn_wide (n := 0)).1 (callsIn_of_wp_marks (F := Fence.wide) hf hb trivial ?_)
  refine wpIn_mono (h N1 D (M.ct N1 N2) _ hDsz hV _ D.W ⟨_, hini⟩) ?_
  rintro ex a' w' ⟨S', he, E, hh⟩
  have key : LeavesInM Fence.wide 0 P fn a'.tmps (fun e w' => ∃ u, e = .returned u ∧ w'.os = D.W.os ∧ w'.tape = D.W.tape ∧ w'.output = D.W.output ∧ D.W.heap.size ≤ w'.heap.size ∧ ∀ k, k < D.W.heap.size → ¬ Own M N1 N2 k → w'.heap[k]? = D.W.heap[k]?) a'.defers .returning w' := by
    obtain ⟨ds, h1, h2, h3⟩ := hh.marks
    rw [h1]
    refine leaves_marks ds w' h2 (fun r hr => (h3 r hr).2.2) (fun w2 g1 g2 g3 g4 g5 => ?_)
    have hh2 := hh.unmarked h3 g1 g2 g3 g4 g5
    obtain ⟨u, hu, -⟩ := res_run (ss := []) hh2 (by rw [hres]; trivial)
    exact ⟨u, hu, u, rfl, hh2.os, hh2.tape, hh2.output, hh2.grown, fun k hk ho => hh2.frame k hk (fun q => ho ((hOw k).1 q))⟩
  rcases he with rfl | rfl
  · exact key
  · exact key
theorem words_now {D : SvD} {g b o N : Nat} {ws : List Nat} {y : Value} (h : (nw N (slc 1 (ws.map eU32))).h D.Mx y) : ∃ n a c, D.now g b o y = .slice a n c ∧ n ≤ 9223372036854775807 ∧ (0 < n → ∃ b1 o1, a = some ⟨b1, o1, none⟩ ∧ OwV D b1 ∧ ∀ j, j < n → ∃ x, D.Mx b1 (o1 + j) = some (.int .u32 x)) := by
  obtain ⟨a, c, rfl, h1, h2⟩ := words_at h
  unfold SvD.now
  cases D.cov g b o with
  | true => exact ⟨0, none, 0, rfl, by omega, fun h => absurd h (by omega)⟩
  | false => exact ⟨ws.length, a, c, rfl, h1, fun h0 => h2 (by intro e; rw [e] at h0; simp at h0)⟩
theorem put_zeroG {D : SvD} {g b q : Nat} {us : List Value} {α : Type} {e : α → List SV} {x : α} (hps : D.ps[g]? = some (b, q)) (hq : (e x).length = D.sz) (hc : ∀ (k : Nat) (s : SV), (e x)[k]? = some s → ∃ y, D.Mx b (q + k) = some y ∧ y.oneCell' = true ∧ s.h D.Mx y) (hul : us.length = D.sz)
    (hz : ∀ (j : Nat) (s : SV) (y : Value), (e x)[j]? = some s → s.h D.Mx y → us[j]? = some (zv y)) {p2 : Nat × Nat} {k2 : Nat} {y2 : Value} (h3 : D.Mx p2.1 (p2.2 + k2) = some y2) :
    ((b = p2.1 → p2.2 + k2 < q ∨ q + us.length ≤ p2.2 + k2) ∧ D.now (g + 1) p2.1 (p2.2 + k2) y2 = D.now g p2.1 (p2.2 + k2) y2) ∨ (b = p2.1 ∧ q ≤ p2.2 + k2 ∧ p2.2 + k2 < q + us.length ∧ us[p2.2 + k2 - q]? = some (D.now (g + 1) p2.1 (p2.2 + k2) y2)) := by
  unfold SvD.now
  rw [SvD.cov_succ hps, hul]
  cases hat : D.at (b, q) p2.1 (p2.2 + k2) with
  | true =>
    obtain ⟨h4, h5, h6⟩ := SvD.at_iff.1 hat
    have h4 : b = p2.1 := h4
    have h5 : q ≤ p2.2 + k2 := h5
    have h6 : p2.2 + k2 < q + D.sz := h6
    refine .inr ⟨h4, h5, h6, ?_⟩
    rw [Bool.or_true]
    obtain ⟨y, r1, _, r2⟩ := hc (p2.2 + k2 - q) _ (List.getElem?_eq_getElem (by omega))
    rw [show q + (p2.2 + k2 - q) = p2.2 + k2 by omega, h4, h3] at r1
    cases r1
    exact hz _ _ _ (List.getElem?_eq_getElem (by omega)) r2
  | false =>
    refine .inl ⟨fun h4 => ?_, by rw [Bool.or_false]⟩
    by_cases h5 : p2.2 + k2 < q
    · exact .inl h5
    · refine .inr (Nat.le_of_not_lt fun h6 => ?_)
      have := SvD.at_iff.2 (show (b, q).1 = p2.1 ∧ (b, q).2 ≤ p2.2 + k2 ∧ p2.2 + k2 < (b, q).2 + D.sz from ⟨h4, by show q ≤ _; omega, h6⟩)
      rw [hat] at this; cases this
theorem zeroQ {N : Nat} {x : Qr} {M : Mem} : ∀ (j : Nat) (s : SV) (y : Value), (fQ N x)[j]? = some s → s.h M y → [Value.bool false, .slice none 0 0, .bool false, .slice none 0 0][j]? = some (zv y)
  | 0, s, y, h, hy => by cases h; have hy : y = _ := hy; subst hy; rfl
  | 1, s, y, h, hy => by cases h; obtain ⟨a, c, rfl, _⟩ := words_at hy; rfl
  | 2, s, y, h, hy => by cases h; have hy : y = _ := hy; subst hy; rfl
  | 3, s, y, h, hy => by cases h; obtain ⟨a, c, rfl, _⟩ := words_at hy; rfl
  | j + 4, s, y, h, hy => by simp at h
theorem put_zero {D : SvD} {g b o k N : Nat} {x : Qr} (hsz : D.sz = 4) (hps : D.ps[g]? = some (b, o + k * D.sz)) (hq : (fQ N x).length = D.sz) (hc : ∀ (k' : Nat) (s : SV), (fQ N x)[k']? = some s → ∃ y, D.Mx b (o + k * D.sz + k') = some y ∧ y.oneCell' = true ∧ s.h D.Mx y) {p2 : Nat × Nat} {k2 : Nat} {y2 : Value} (h3 : D.Mx p2.1 (p2.2 + k2) = some y2) :
    ((b = p2.1 → p2.2 + k2 < o + k * 4 ∨ o + k * 4 + [Value.bool false, .slice none 0 0, .bool false, .slice none 0 0].length ≤ p2.2 + k2) ∧ D.now (g + 1) p2.1 (p2.2 + k2) y2 = D.now g p2.1 (p2.2 + k2) y2) ∨ (b = p2.1 ∧ o + k * 4 ≤ p2.2 + k2 ∧ p2.2 + k2 < o + k * 4 + [Value.bool false, .slice none 0 0, .bool false, .slice none 0 0].length ∧ [Value.bool false, .slice none 0 0, .bool false, .slice none 0 0][p2.2 + k2 - (o + k * 4)]? = some (D.now (g + 1) p2.1 (p2.2 + k2) y2)) := by
  rw [hsz] at hps hc
  exact put_zeroG hps hq hc (by rw [hsz]; rfl) (fun j s y => zeroQ j s y) h3
theorem nw_le {N N' : Nat} (h : N' ≤ N) {s : SV} : SV.imp (nw N s) (nw N' s) := fun M v hv => by
  have hm : (M.fr N).le (M.fr N') := fun b o x e => by
    unfold Mem.fr at *
    split at e
    · rw [if_pos (by omega)]; exact e
    · cases e
  exact ⟨s.mono hm hv.1, fun g e => by obtain ⟨o, q⟩ := hv.2 g e; exact ⟨o, hm _ _ _ q⟩⟩
theorem imp_tr {s t u : SV} (h : SV.imp s t) (k : SV.imp t u) : SV.imp s u := fun M v hv => k M v (h M v hv)
theorem nwQ_le {N N' : Nat} (h : N' ≤ N) {l : List Qr} : SV.imp (nw N (slc 4 (l.map (fQ N)))) (nw N' (slc 4 (l.map (fQ N')))) :=
  imp_tr (nw_le h) (nw_mono (slc_imp (e' := fQ N) (e := fQ N') (fun _ => ⟨SV.imp_refl _, nw_le h, SV.imp_refl _, nw_le h, trivial⟩) l))
instance {N : Nat} {s : SV} [h : One s] : One (od N s) := ⟨fun M v hv => h.h _ v hv⟩
end
section
variable {P : Program} {C : Ctx} {ops : Array Oper} {S : AS} {nd : Bool} {K : List Ac → AS → Prop} {rest : List Oper} {acc : List Ac}
variable {gd : Option (Nat × Bool)} {rg : List Nat} {d : Nat} {ty : TypeId} {pos : String} {aft : Array Edge} {x y z : Operand} {T U E0 : TypeId}
theorem RT.buildSp (hg : Gd ops S gd rg) {by_ : Nat} {zv : Value} [tS : TySl P T E0 1] [tE : TyEl P E0 1 by_ zv] {len : Nat} {parts : Array (Nat × Operand)} {qs : List (Nat × List SV)} (hp : Parts S parts.toList qs) (hd : d < S.n)
    (hc : consec 0 qs = true) (hl : qs.length = len) (hsz : (qs.all fun q => Nat.beq q.2.length 1) = true) (hlen : Nat.ble (len * 1) 16777216 = true) (hz1 : (zv.cells.toList.all fun v => v.oneCell') = true) {N1 : Nat} {xs : List SV} (hxs : SVIs (qs.map (·.2)).flatten (xs.map (nw N1))) (hxl : xs.length = len)
    (next : ∀ N, C.w0.heap.size ≤ N → RunT P C ops true K rest [] ((S.od N).set d (.sv (spv N1 N xs)))) : RunT P C ops true K (⟨some d, .buildSlice T len parts, ty, pos, aft, gd⟩ :: rest) acc S := by
  refine .inr ⟨rfl, fun S' => ∃ N, C.w0.heap.size ≤ N ∧ S' = (S.od N).set d (.sv (spv N1 N xs)), ?_, fun S' ⟨N, h1, h2⟩ => by subst h2; exact next N h1⟩
  rintro i a w L Q ho ⟨E, h⟩ hL
  refine wpOp_of (C := C) ho (hg.wanted h (fun s _ => rfl) rfl) ?_
  have hlen' : len * 1 ≤ 16777216 := Nat.le_of_ble_eq_true hlen
  obtain ⟨vs, hr, hall, hone⟩ := run_buildSlice (P := P) (T := T) (E0 := E0) (n := 1) (by_ := by_) (zv := zv) (d := d) (ty := ty) (pos := pos) (aft := aft) (gd := gd) h hp (fun s _ => rfl) hc hl hsz hlen' (List.all_eq_true.1 hz1)
  have hall2 := hxs.holds hall
  have hvl : vs.length = len := by rw [← hall2.length, List.length_map, hxl]
  refine wpIn_of (C := C) (by intro c h; cases h) hr (hL _ _ _ ⟨w.heap.size, h.grown, rfl⟩ ⟨_, ((h.odd (Nat.le_refl _)).newImm vs E0 hone).put (d := d) (x := .sv (spv N1 w.heap.size xs)) (v := .slice (some ⟨w.heap.size, 0, none⟩) len len) ⟨vs, ?_, ?_⟩ hd nomb⟩)
  · refine .inr ⟨w.heap.size, 0, len, by rw [List.length_map, hvl], by rw [List.length_map, hvl]; exact Nat.le_refl _, by rw [List.length_map, hvl]; omega, fun k row hk => ?_⟩
    rw [List.getElem?_map] at hk
    cases e : vs[k]? with
    | none => rw [e] at hk; cases hk
    | some u =>
      rw [e] at hk
      obtain rfl : [SV.v u] = row := by simpa using hk
      refine ⟨rfl, fun j s hs => ?_⟩
      cases j with
      | zero =>
        obtain rfl : SV.v u = s := by simpa using hs
        refine ⟨u, ?_, hone u (List.mem_of_getElem? e), rfl⟩
        show (if N1 ≤ w.heap.size ∧ w.heap.size < w.heap.size then none else if w.heap.size = w.heap.size then vs[0 + k * 1 + 0]? else _) = _
        rw [if_neg (by omega), if_pos rfl, show 0 + k * 1 + 0 = k by omega]; exact e
      | succ j => simp at hs
  · refine SV.All.mono (fun b o v e => ?_) hall2
    have := inW_lt h.inW e
    show (if b < w.heap.size then (if b = w.heap.size then vs[o]? else E.M b o) else none) = _
    rw [if_pos this, if_neg (by omega)]; exact e
theorem RT.callSpV (hg : Gd ops S gd rg) {f : FuncId} [Ent P f] {g : Operand} {at_ : Array TypeId} {X : Nat → List SV} (hp : SpoilV P f X) (hf : S.ev g = .sv (.v (.func (.func f) #[] #[]))) {N1 N2 : Nat} (hx : S.ev x = .sv (spv N1 N2 (X N1)))
    (hC : ∀ b o v, C.M0 b o = some v → b < C.w0.heap.size) (hJ : ∀ g go O M w, C.J g go O M w) (hpin : ∀ i, C.pinr i = none) (hN : C.w0.heap.size ≤ N1)
    {n : Nat} {ts : List (Nat × AV)} {bs : List (Nat × Box)} {g' : Nat} {go : Bool} (hn : S.n = n) (hwf : ((ts.all fun p => p.2.liveIn bs []) && (bs.all fun p => p.2.cells.all fun x => x.liveIn bs [])) = true) (ht : TsK N1 N2 S ts) (hb : BsK N1 N2 S bs) (hd : (ts.all fun p => !(Nat.beq d p.1)) = true) (hdn : d < n)
    (next : RunT P C ops true K rest [] (AS.mkL n ts bs [] g' go)) : RunT P C ops true K (⟨some d, .call ⟨.value g, #[x], at_⟩, ty, pos, aft, gd⟩ :: rest) acc S := by
  refine .inr ⟨rfl, fun S' => S' = AS.mkL n ts bs [] g' go, ?_, fun S' h2 => by subst h2; exact next⟩
  rintro i a w L Q ho ⟨E, h⟩ hL
  refine wpOp_of (C := C) ho (hg.wanted h (fun s _ => rfl) rfl) ?_
  have hgf : a.eval g = .func (.func f) #[] #[] := by
    have h1 := h.ev g; rw [hf] at h1; exact h1
  have hxv : (spv N1 N2 (X N1)).h E.M (a.eval x) := by
    have h1 := h.ev x; rw [hx] at h1; exact h1
  have hr : (execOp a.eval ⟨some d, .call ⟨.value g, #[x], at_⟩, ty, pos, aft, gd⟩).run P w = .ok (.enter f ⟨[a.eval x]⟩) w := by
    have e1 := Ent.run (P := P) (f := f) (#[a.eval x]) w
    simp [execOp, resolve, hgf, Deferred.ofValue, invoke, e1]
  refine wpIn_of (C := C) (by intro c h; cases h) hr ?_
  refine ⟨fun h => by simp at h, fr_calls ((hp E.M w _ N1 N2 h.inW hxv).mono ?_)⟩
  rintro e w' ⟨u, rfl, hos, htape, hout, hsize, hsame⟩
  have hh := h.cutM (w' := w') hC hJ hpin hN (n := n) (g := g') (go := go) hn hwf ht hb hos htape hout hsize (fun k hk hcase => hsame k hk (fun ho => by
    obtain ⟨q1, q2, o, q3⟩ := own_at ho
    rcases hcase with q | q | q
    · omega
    · omega
    · rw [q o] at q3; cases q3))
  have hlk : (AS.mkL n ts bs [] g' go).set d (.sv .any) = AS.mkL n ts bs [] g' go := by
    refine AS.ext' rfl (fun t => ?_) (fun _ => rfl) (fun _ => rfl) rfl rfl
    by_cases e : t = d
    · subst e
      rw [AS.set_same]
      show _ = lkT ts t
      rcases lkT_mem (ts := ts) (s := t) with q | ⟨p, hp, q1, q2⟩
      · rw [q]
      · have := List.all_eq_true.1 hd p hp
        rw [q1] at this
        simp at this
    · exact AS.set_other _ _ _ _ e
  refine hL _ _ _ rfl ?_
  rw [← hlk]
  exact ⟨_, hh.put (x := .sv .any) trivial hdn nomb⟩
end
end Go.Fw
namespace Go.Fw
open Go.RowKit
section
variable {P : Program} {C : Ctx} {ops : Array Oper} {S : AS} {nd : Bool} {K : List Ac → AS → Prop} {rest : List Oper} {acc : List Ac}
variable {gd : Option (Nat × Bool)} {rg : List Nat} {d : Nat} {ty : TypeId} {pos : String} {aft : Array Edge} {x y z : Operand} {T U E0 : TypeId}
variable {α : Type} {e : α → List SV} {n : Nat} {l l' : List α}
theorem RT.faRp (hg : Gd ops S gd rg) {f off : Nat} [hf : Fld P T f off U] [sU : Sized P U] {i k : Nat} (hx : S.ev x = .rptr i k) (hd : d < S.n)
    (next : RunT P C ops nd K rest (⟨rg ++ okeys x, [], [], ⟨some (d, .rptr i (k + off)), [], []⟩⟩ :: acc) (S.set d (.rptr i (k + off)))) : RunT P C ops nd K (⟨some d, .fieldAddr T x f, ty, pos, aft, gd⟩ :: rest) acc S :=
  RT.value hg (okeys x) [] [] (.rptr i (k + off)) hd (by intro c h; cases h) (fun S' ht _ _ E a w h => by
    have hl := (ev_live h.wf (show S'.ev x = .rptr i k by rw [ev_congr (fun _ h => h) ht, hx])).2 i rfl
    have h1 := h.ev x
    rw [ev_congr (fun _ h => h) ht, hx] at h1
    obtain ⟨g, hg', e⟩ := h1
    have := run_fieldAt (P := P) (T := T) (f := f) (off := off) (U := U) sU.h g k w
    exact ⟨.pointer (some ⟨g, k + off, none⟩), by simp [execOp, e, this], ⟨g, hg', rfl⟩, fun _ e => e.elim, fun j' e => by cases e; exact hl⟩) next
theorem flat_at [el : EL e n] {j k : Nat} {a : α} (ha : l[j]? = some a) (hk : k < n) : (l.flatMap e)[j * n + k]? = (e a)[k]? := by
  have h := flat_get (e := e) (n := n) ha
  rw [← h, List.getElem?_take, if_pos hk, List.getElem?_drop]
theorem RT.ldRF (hg : Gd ops S gd rg) [tV : TyV P T] [el : EL e n] {i j q k : Nat} {E1 : TypeId} {a : α} {s : SV} (hx : S.ev x = .rptr i q) (hR : S.r i = .live (TR E1 n e l)) (hq : q = j * n + k) (hk : Nat.ble (k + 1) n = true) (ha : l[j]? = some a) (hs : (e a)[k]? = some s) (hd : d < S.n)
    (next : RunT P C ops nd K rest (⟨rg ++ okeys x, [], [i], ⟨some (d, .sv s), [], []⟩⟩ :: acc) (S.set d (.sv s))) : RunT P C ops nd K (⟨some d, .load T x, ty, pos, aft, gd⟩ :: rest) acc S :=
  RT.ldR hg hx hR (s := s) (by show (l.flatMap e)[q]? = _; rw [hq, flat_at ha (Nat.le_of_ble_eq_true hk)]; exact hs) hd next
theorem flat_set1 [el : EL e n] {j k : Nat} {a a' : α} {s : SV} (ha : l[j]? = some a) (hk : k < n) (hs : e a' = (e a).set k s) : (l.flatMap e).set (j * n + k) s = (l.set j a').flatMap e := by
  have hj : j < l.length := (List.getElem?_eq_some_iff.1 ha).1
  have hl : ∀ (l : List α), (l.flatMap e).length = l.length * n := by
    intro l
    induction l with
    | nil => simp
    | cons x l ih => rw [List.flatMap_cons, List.length_append, ih, el.len, List.length_cons, Nat.succ_mul]; omega
  clear hj
  induction l generalizing j with
  | nil => simp at ha
  | cons x l ih =>
    cases j with
    | zero =>
      have : x = a := by simpa using ha
      subst this
      rw [List.flatMap_cons, Nat.zero_mul, Nat.zero_add, List.set_append_left _ _ (by rw [el.len]; exact hk), ← hs, List.set_cons_zero, List.flatMap_cons]
    | succ j =>
      rw [List.flatMap_cons, List.set_append_right _ _ (by rw [el.len, Nat.succ_mul]; omega), List.set_cons_succ, List.flatMap_cons, el.len, show (j + 1) * n + k - n = j * n + k by rw [Nat.succ_mul]; omega, ih (by simpa using ha)]
theorem RT.stRF (hg : Gd ops S gd rg) [tV : TyV P T] [el : EL e n] {i j q k : Nat} {E1 : TypeId} {a : α} {s : SV} [o1 : One s] (a' : α) (hx : S.ev x = .rptr i q) (hR : S.r i = .live (TR E1 n e l)) (hy : S.ev y = .sv s) (hq : q = j * n + k) (hk : Nat.ble (k + 1) n = true) (ha : l[j]? = some a) (hs : e a' = (e a).set k s) (h : stM l j a' = some l')
    (next : RunT P C ops nd K rest (⟨rg ++ (okeys x ++ okeys y), [], [i], ⟨none, [], [(i, .live (TR E1 n e l'))]⟩⟩ :: acc) (AS.setRs [(i, .live (TR E1 n e l'))] S)) : RunT P C ops nd K (⟨none, .store T x y, ty, pos, aft, gd⟩ :: rest) acc S := by
  obtain ⟨h1, rfl⟩ := stM_some h
  have hk' := Nat.le_of_ble_eq_true hk
  refine RT.stR hg hx hR hy (by show q + 1 ≤ l.length * n; rw [hq]; have := Nat.mul_le_mul_right n h1; rw [Nat.succ_mul] at this; omega) ((l.set j a').flatMap e) (by show (l.flatMap e).set q s = _; rw [hq]; exact flat_set1 ha hk' hs) ?_
  have : (TR E1 n e (l.set j a')) = ⟨E1, n, l.length, (l.set j a').flatMap e⟩ := by show Row.mk _ _ _ _ = _; rw [List.length_set]
  rw [← this]; exact next
end
end Go.Fw
namespace Go.Proofs.YthgkgjogdgdcgaaGreat
open Go.Fw Go.Fw.Z Go.RowKit
theorem law33_spoil_sp (ls : List (List Qr)) : SpoilV Tryz.prog 17 (fun N => ls.map fun l => slc 4 (l.map (fQ N))) := by
  refine spoilV_of_ok (e := fQ) Tryz.func17 rfl (Nat.le_of_ble_eq_true rfl) rfl (fun _ _ => rfl) (fun N D M0 rows hsz hV => ?_)
  obtain ⟨hn, hmx, hrow, hall⟩ := hV
  have hstruct : ∀ p ∈ D.ps, ∀ k x, k < D.sz → D.Mx p.1 (p.2 + k) = some (.int .u32 x) → False := by
    intro p hp k x hk e
    obtain ⟨q0, -, q⟩ := hall p hp
    have hk4 : k = 0 ∨ k = 1 ∨ k = 2 ∨ k = 3 := by omega
    rcases hk4 with rfl | rfl | rfl | rfl
    · obtain ⟨y, q1, _, q2⟩ := q 0 _ rfl
      have q2 : y = _ := q2
      rw [e] at q1; cases q1; cases q2
    · obtain ⟨y, q1, _, q2⟩ := q 1 _ rfl
      obtain ⟨_, _, q2, _⟩ := words_at q2
      rw [e] at q1; cases q1; cases q2
    · obtain ⟨y, q1, _, q2⟩ := q 2 _ rfl
      have q2 : y = _ := q2
      rw [e] at q1; cases q1; cases q2
    · obtain ⟨y, q1, _, q2⟩ := q 3 _ rfl
      obtain ⟨_, _, q2, _⟩ := words_at q2
      rw [e] at q1; cases q1; cases q2
  have hlen : ((rows.length : Nat) : Int) = (ls.length : Int) := by rw [hn]
  refine ok_seq <| ok_region <| RT.asg .none rfl (tl rfl) <| RT.done <| AThen.n <| ok_block ?_
  refine ok_loop (ι := { i : Nat // i ≤ ls.length }) (fun i => AS.mkL 78 [(0, .sv (slc 1 rows)), (2, .sv (.v (.int .i64 (i.1 : Int))))] [] [] (off ls i.1)) (fun i => ls.length - i.1) ⟨0, Nat.zero_le _⟩ (wR [] rfl rfl rfl rfl (off_zero ls).symm) ?_
  rintro ⟨i, hi⟩
  dsimp only
  by_cases hil : i < ls.length
  · obtain ⟨a, c, hri, hmax, hpos⟩ := hrow i _ (List.getElem?_eq_getElem hil)
    have hnext := off_succ (List.getElem?_eq_getElem hil)
    generalize ls[i] = l at hri hmax hpos hnext
    refine ok_seq <| ok_seq <| ok_region <| RT.mv .none rfl (tl rfl) <| RT.mv .none rfl (tl rfl) <| RT.len .none rfl (tl rfl) <| RT.lss .none true rfl rfl (tl rfl) (decide_eq_true (by omega)) <| RT.done <| AThen.n <| ok_condT rfl <| ok_skip <| AThen.n ?_
    refine ok_seq <| ok_block <| ok_seq <| ok_region <| RT.asg .none rfl (tl rfl) <| RT.done <| AThen.n <| ok_block ?_
    refine ok_loop (ι := { k : Nat // k ≤ l.length }) (fun k => AS.mkL 78 [(0, .sv (slc 1 rows)), (2, .sv (.v (.int .i64 (i : Int)))), (3, .sv (.v (.int .i64 (k.1 : Int))))] [] [] (off ls i + k.1)) (fun k => l.length - k.1) ⟨0, Nat.zero_le _⟩ (wR []) ?_
    rintro ⟨k, hk⟩
    dsimp only
    by_cases hkl : k < l.length
    · obtain ⟨b, o, rfl, hps⟩ := hpos k hkl
      have hpm := List.mem_of_getElem? hps
      obtain ⟨x, hq, hc⟩ := hall _ hpm
      obtain ⟨y1, m1, _, z1⟩ := hc 1 _ rfl
      obtain ⟨n1, a1, c1, e1, l1, w1⟩ := words_now (g := off ls i + k) (b := b) (o := o + k * D.sz + 1) z1
      obtain ⟨y3, m3, _, z3⟩ := hc 3 _ rfl
      obtain ⟨n3, a3, c3, e3, l3, w3⟩ := words_now (g := off ls i + k) (b := b) (o := o + k * D.sz + 3) z3
      refine ok_seq <| ok_seq <| ok_region <| RT.mv .none rfl (tl rfl) <| RT.mv .none rfl (tl rfl) <| RT.mv .none rfl (tl rfl) <| RT.ixA .none _ (Int.natCast_nonneg i) (by exact hri) rfl rfl (tl rfl) <| RT.loadRV .none rfl rfl (tl rfl) <| RT.lenC .none rfl (tl rfl) <| RT.lss .none true rfl rfl (tl rfl) (decide_eq_true (by omega)) <| RT.done <| AThen.n <| ok_condT rfl <| ok_skip <| AThen.n ?_
      refine ok_seq <| ok_block <| ok_seq <| ok_seq <| ok_region <| RT.asg .none rfl (tl rfl) <| RT.done <| AThen.n <| ok_block ?_
      refine ok_loop (ι := { m : Nat // m ≤ n1 }) (fun m => AS.mkL 78 [(0, .sv (slc 1 rows)), (2, .sv (.v (.int .i64 (i : Int)))), (3, .sv (.v (.int .i64 (k : Int)))), (4, .sv (.v (.int .i64 (m.1 : Int))))] [] [] (off ls i + k)) (fun m => n1 - m.1) ⟨0, Nat.zero_le _⟩ (wR []) ?_
      rintro ⟨m, hm⟩
      dsimp only
      by_cases hml : m < n1
      · obtain ⟨b1, o1, rfl, hm1, hw1⟩ := w1 (by omega)
        obtain ⟨x1, hx1⟩ := hw1 m hml
        refine ok_seq <| ok_seq <| ok_region <| RT.mv .none rfl (tl rfl) <| RT.mv .none rfl (tl rfl) <| RT.mv .none rfl (tl rfl) <| RT.ixA .none _ (Int.natCast_nonneg i) (by exact hri) rfl rfl (tl rfl) <| RT.loadRV .none rfl rfl (tl rfl) <| RT.mv .none rfl (tl rfl) <| RT.ixC .none rfl rfl (tl rfl) hkl <| RT.faC .none rfl (tl rfl) <| RT.faC .none rfl (tl rfl) <| RT.svLd (p := (b, o + k * D.sz)) (k := 1) .none (by rw [hsz]; rfl) (tl rfl) (by rw [hsz]) hpm (by omega) m1 e1 <| RT.lenC .none rfl (tl rfl) <| RT.lss .none true rfl rfl (tl rfl) (decide_eq_true (by omega)) <| RT.done <| AThen.n <| ok_condT rfl <| ok_skip <| AThen.n ?_
        refine ok_seq <| ok_block <| ok_region <| RT.mv .none rfl (tl rfl) <| RT.mv .none rfl (tl rfl) <| RT.ixA .none _ (Int.natCast_nonneg i) (by exact hri) rfl rfl (tl rfl) <| RT.loadRV .none rfl rfl (tl rfl) <| RT.mv .none rfl (tl rfl) <| RT.ixC .none rfl rfl (tl rfl) hkl <| RT.faC .none rfl (tl rfl) <| RT.faC .none rfl (tl rfl) <| RT.svLd (p := (b, o + k * D.sz)) (k := 1) .none (by rw [hsz]; rfl) (tl rfl) (by rw [hsz]) hpm (by omega) m1 e1 <| RT.mv .none rfl (tl rfl) <| RT.ixC .none rfl rfl (tl rfl) hml <| RT.svSt .none [.int .u32 77] (off ls i + k) rfl (fun _ _ _ _ => rfl) (by simp [Value.oneCell']) (by simp) (fun w => TyV.size w) hm1 (fun j hj => ?_) (fun p2 h1 k2 y2 h2 h3 => .inl ⟨fun h4 => ?_, rfl⟩) <| RT.done <| AInB.n <| AThen.n ?_
        · obtain rfl : j = 0 := by simpa using hj
          exact ⟨_, by have q := (D.hin _ _ _ hx1).cell rfl; simpa using q⟩
        · by_cases hq : p2.2 + k2 = o1 + m
          · exact (hstruct p2 h1 k2 x1 h2 (by rw [hq, ← h4]; exact hx1)).elim
          · simp only [List.length_cons, List.length_nil]; omega
        · exact ok_region <| RT.mv .none rfl (tl rfl) <| RT.add .none _ rfl rfl (tl rfl) (nw_i64 (by omega)) <| RT.asg .none rfl (tl rfl) <| RT.done <| AThen.n ⟨⟨m + 1, hml⟩, by dsimp only; omega, wR []⟩
      · refine ok_seq <| ok_seq <| ok_region <| RT.mv .none rfl (tl rfl) <| RT.mv .none rfl (tl rfl) <| RT.mv .none rfl (tl rfl) <| RT.ixA .none _ (Int.natCast_nonneg i) (by exact hri) rfl rfl (tl rfl) <| RT.loadRV .none rfl rfl (tl rfl) <| RT.mv .none rfl (tl rfl) <| RT.ixC .none rfl rfl (tl rfl) hkl <| RT.faC .none rfl (tl rfl) <| RT.faC .none rfl (tl rfl) <| RT.svLd (p := (b, o + k * D.sz)) (k := 1) .none (by rw [hsz]; rfl) (tl rfl) (by rw [hsz]) hpm (by omega) m1 e1 <| RT.lenC .none rfl (tl rfl) <| RT.lss .none false rfl rfl (tl rfl) (decide_eq_false (by omega)) <| RT.done <| AThen.n <| ok_condF rfl <| ok_exit <| AThen.x <| AThen.x <| AInB.x <| AThen.n ?_
        refine ok_seq <| ok_seq <| ok_region <| RT.asg .none rfl (tl rfl) <| RT.done <| AThen.n <| ok_block ?_
        refine ok_loop (ι := { m : Nat // m ≤ n3 }) (fun m => AS.mkL 78 [(0, .sv (slc 1 rows)), (2, .sv (.v (.int .i64 (i : Int)))), (3, .sv (.v (.int .i64 (k : Int)))), (5, .sv (.v (.int .i64 (m.1 : Int))))] [] [] (off ls i + k)) (fun m => n3 - m.1) ⟨0, Nat.zero_le _⟩ (wR []) ?_
        rintro ⟨m, hm⟩
        dsimp only
        by_cases hml : m < n3
        · obtain ⟨b1, o1, rfl, hm1, hw1⟩ := w3 (by omega)
          obtain ⟨x1, hx1⟩ := hw1 m hml
          refine ok_seq <| ok_seq <| ok_region <| RT.mv .none rfl (tl rfl) <| RT.mv .none rfl (tl rfl) <| RT.mv .none rfl (tl rfl) <| RT.ixA .none _ (Int.natCast_nonneg i) (by exact hri) rfl rfl (tl rfl) <| RT.loadRV .none rfl rfl (tl rfl) <| RT.mv .none rfl (tl rfl) <| RT.ixC .none rfl rfl (tl rfl) hkl <| RT.faC .none rfl (tl rfl) <| RT.faC .none rfl (tl rfl) <| RT.svLd (p := (b, o + k * D.sz)) (k := 3) .none (by rw [hsz]; rfl) (tl rfl) (by rw [hsz]) hpm (by omega) m3 e3 <| RT.lenC .none rfl (tl rfl) <| RT.lss .none true rfl rfl (tl rfl) (decide_eq_true (by omega)) <| RT.done <| AThen.n <| ok_condT rfl <| ok_skip <| AThen.n ?_
          refine ok_seq <| ok_block <| ok_region <| RT.mv .none rfl (tl rfl) <| RT.mv .none rfl (tl rfl) <| RT.ixA .none _ (Int.natCast_nonneg i) (by exact hri) rfl rfl (tl rfl) <| RT.loadRV .none rfl rfl (tl rfl) <| RT.mv .none rfl (tl rfl) <| RT.ixC .none rfl rfl (tl rfl) hkl <| RT.faC .none rfl (tl rfl) <| RT.faC .none rfl (tl rfl) <| RT.svLd (p := (b, o + k * D.sz)) (k := 3) .none (by rw [hsz]; rfl) (tl rfl) (by rw [hsz]) hpm (by omega) m3 e3 <| RT.mv .none rfl (tl rfl) <| RT.ixC .none rfl rfl (tl rfl) hml <| RT.svSt .none [.int .u32 77] (off ls i + k) rfl (fun _ _ _ _ => rfl) (by simp [Value.oneCell']) (by simp) (fun w => TyV.size w) hm1 (fun j hj => ?_) (fun p2 h1 k2 y2 h2 h3 => .inl ⟨fun h4 => ?_, rfl⟩) <| RT.done <| AInB.n <| AThen.n ?_
          · obtain rfl : j = 0 := by simpa using hj
            exact ⟨_, by have q := (D.hin _ _ _ hx1).cell rfl; simpa using q⟩
          · by_cases hq : p2.2 + k2 = o1 + m
            · exact (hstruct p2 h1 k2 x1 h2 (by rw [hq, ← h4]; exact hx1)).elim
            · simp only [List.length_cons, List.length_nil]; omega
          · exact ok_region <| RT.mv .none rfl (tl rfl) <| RT.add .none _ rfl rfl (tl rfl) (nw_i64 (by omega)) <| RT.asg .none rfl (tl rfl) <| RT.done <| AThen.n ⟨⟨m + 1, hml⟩, by dsimp only; omega, wR []⟩
        · refine ok_seq <| ok_seq <| ok_region <| RT.mv .none rfl (tl rfl) <| RT.mv .none rfl (tl rfl) <| RT.mv .none rfl (tl rfl) <| RT.ixA .none _ (Int.natCast_nonneg i) (by exact hri) rfl rfl (tl rfl) <| RT.loadRV .none rfl rfl (tl rfl) <| RT.mv .none rfl (tl rfl) <| RT.ixC .none rfl rfl (tl rfl) hkl <| RT.faC .none rfl (tl rfl) <| RT.faC .none rfl (tl rfl) <| RT.svLd (p := (b, o + k * D.sz)) (k := 3) .none (by rw [hsz]; rfl) (tl rfl) (by rw [hsz]) hpm (by omega) m3 e3 <| RT.lenC .none rfl (tl rfl) <| RT.lss .none false rfl rfl (tl rfl) (decide_eq_false (by omega)) <| RT.done <| AThen.n <| ok_condF rfl <| ok_exit <| AThen.x <| AThen.x <| AInB.x <| AThen.n ?_
          refine ok_region <| RT.mv .none rfl (tl rfl) <| RT.mv .none rfl (tl rfl) <| RT.ixA .none _ (Int.natCast_nonneg i) (by exact hri) rfl rfl (tl rfl) <| RT.loadRV .none rfl rfl (tl rfl) <| RT.mv .none rfl (tl rfl) <| RT.build .none .nil rfl (tl rfl) <| RT.ixC .none rfl rfl (tl rfl) hkl <| RT.svSt .none [.bool false, .slice none 0 0, .bool false, .slice none 0 0] (off ls i + k + 1) rfl (fun E a w h => agg_cells (us := [.bool false, .slice none 0 0, .bool false, .slice none 0 0]) (h.ev (.tmp 76))) (by simp [Value.oneCell']) (by simp) (fun w => TyA.size w) (D.hb _ hpm) (fun j hj => ?_) (fun p2 h1 k2 y2 h2 h3 => ?_) <| RT.done <| AInB.n <| AThen.n ?_
          · obtain ⟨y, e, ho⟩ := D.cell _ hpm j (by rw [hsz]; exact hj)
            rw [hsz] at e
            exact ⟨y, (D.hin _ _ _ e).cell ho⟩
          · exact put_zero hsz hps hq hc h3
          · exact ok_region <| RT.mv .none rfl (tl rfl) <| RT.add .none _ rfl rfl (tl rfl) (nw_i64 (by omega)) <| RT.asg .none rfl (tl rfl) <| RT.done <| AThen.n ⟨⟨k + 1, hkl⟩, by dsimp only; omega, wR []⟩
    · refine ok_seq <| ok_seq <| ok_region <| RT.mv .none rfl (tl rfl) <| RT.mv .none rfl (tl rfl) <| RT.mv .none rfl (tl rfl) <| RT.ixA .none _ (Int.natCast_nonneg i) (by exact hri) rfl rfl (tl rfl) <| RT.loadRV .none rfl rfl (tl rfl) <| RT.lenC .none rfl (tl rfl) <| RT.lss .none false rfl rfl (tl rfl) (decide_eq_false (by omega)) <| RT.done <| AThen.n <| ok_condF rfl <| ok_exit <| AThen.x <| AThen.x <| AInB.x <| AInB.n <| AThen.n ?_
      obtain rfl : k = l.length := by omega
      exact ok_region <| RT.mv .none rfl (tl rfl) <| RT.add .none _ rfl rfl (tl rfl) (nw_i64 (by omega)) <| RT.asg .none rfl (tl rfl) <| RT.done <| AThen.n ⟨⟨i + 1, hil⟩, by dsimp only; omega, wR [] rfl rfl rfl rfl hnext.symm⟩
  · exact ok_seq <| ok_seq <| ok_region <| RT.mv .none rfl (tl rfl) <| RT.mv .none rfl (tl rfl) <| RT.len .none rfl (tl rfl) <| RT.lss .none false rfl rfl (tl rfl) (decide_eq_false (by omega)) <| RT.done <| AThen.n <| ok_condF rfl <| ok_exit <| AThen.x <| AThen.x <| AInB.x (.inl rfl)
theorem law33_copied_ok {x0 : List Qr} {r : List Qr} (h : law33_copied_m x0 = some r) : Pure Tryz.prog 13 [slc 4 (List.map eQ x0)] (slc 4 (List.map eQ r)) := by
 refine pure_of_ok Tryz.func13 rfl (Nat.le_of_ble_eq_true rfl) (fun wld M vs hvs => ?_)
 unfold law33_copied_m at h
 refine sr <| aI rfl (imp_nil (n := 4) (e := eQ)) <| dn <| sr <| RT.buildRw (l := ([] : List Qr)) (e := eQ) .none (.nil) T rfl T rfl rfl rfl rfl rfl rfl <| mv rfl <| bE h fun x7 h7 h => aR (k := x0) (e := eQ) rfl rfl rfl h7 <| an (s := .row _) rfl <| dn <| qq <| sr <| ag rfl <| dn <| bE h fun e10 hl10 ho10 => ?_
 refine ok_tailP (fun (r7e9 : (List Qr)) => AS.mkL 41 [(3, .row 7)] [] [(7, TR 42 4 eQ r7e9)]) (fun r7e9 => r7e9 = e10) ?_ (fun r7e9 hx10 => ?_)
 refine ok_block ?_
 refine ok_loopM hl10 (fun s10 => AS.mkL 41 [(3, .row 7), (4, .sv (.v (.int .i64 s10.1)))] [] [(7, TR 42 4 eQ s10.2)]) (wR []) (fun s10 y10 G10 h hG10 hE10 => ?_)
 obtain ⟨y4l5, r7l5⟩ := s10
 try dsimp only
 refine qq <| sr <| mv rfl <| mo (s := .row _) rfl <| lE h fun x10 h10 h => lL rfl rfl h10 <| lE h fun x11 h11 h => ls _ rfl rfl h11 <| dn ?_
 cases x11
 refine cF <| ok_exit <| AThen.x <| AThen.x <| AInB.x <| AThen.n ?_
 obtain rfl := O (F h)
 exact ⟨r7l5, hE10 _ rfl, wR []⟩
 refine cT <| ok_skip <| AThen.n <| qq <| ok_block <| sr <| mo (s := .row _) rfl <| mv rfl <| RT.buildRw (l := ([] : List Nat)) (e := eU32) .none (.nil) T rfl T rfl rfl rfl rfl rfl rfl <| mo (s := .row _) rfl <| mv rfl <| bE (V h) fun x19 h19 h => iR rfl rfl rfl h19 <| RT.faRp .none rfl T <| RT.faRp .none rfl T ?_
 obtain ⟨⟨⟨x22_0, x22_1⟩, ⟨x22_2, x22_3⟩⟩, h22, h⟩ := bS h
 refine RT.ldRF (k := 1) .none rfl rfl rfl rfl h22 rfl T <| bE h fun x23 h23 h => RT.apIR (k := x22_1) (e := eU32) .none rfl rfl rfl T rfl T h23 <| bE h fun x24 h24 h => iR rfl rfl rfl h24 <| RT.faRp .none rfl T <| RT.faRp .none rfl T ?_
 obtain ⟨⟨⟨w12_0, w12_1⟩, ⟨w12_2, w12_3⟩⟩, hw12_, h⟩ := bS h
 refine bE h fun l12 hl12_ h => RT.stRF (k := 1) .none ⟨⟨w12_0, x23⟩, ⟨w12_2, w12_3⟩⟩ rfl rfl rfl rfl rfl hw12_ rfl hl12_ <| dn <| ok_region <| mo (s := .row _) rfl <| mv rfl <| RT.buildRw (l := ([] : List Nat)) (e := eU32) .none (.nil) T rfl T rfl rfl rfl rfl rfl rfl <| mo (s := .row _) rfl <| mv rfl <| bE h fun x32 h32 h => iR rfl rfl rfl h32 <| RT.faRp .none rfl T <| RT.faRp .none rfl T ?_
 obtain ⟨⟨⟨x35_0, x35_1⟩, ⟨x35_2, x35_3⟩⟩, h35, h⟩ := bS h
 refine RT.ldRF (k := 3) .none rfl rfl rfl rfl h35 rfl T <| bE h fun x36 h36 h => RT.apIR (k := x35_3) (e := eU32) .none rfl rfl rfl T rfl T h36 <| bE h fun x37 h37 h => iR rfl rfl rfl h37 <| RT.faRp .none rfl T <| RT.faRp .none rfl T ?_
 obtain ⟨⟨⟨w14_0, w14_1⟩, ⟨w14_2, w14_3⟩⟩, hw14_, h⟩ := bS h
 refine bE h fun l14 hl14_ h => RT.stRF (k := 3) .none ⟨⟨w14_0, w14_1⟩, ⟨w14_2, x36⟩⟩ rfl rfl rfl rfl rfl hw14_ rfl hl14_ <| RT.done <| AInB.n <| AThen.n <| ok_region <| mv rfl <| lE h fun x13 h13 h => ad _ rfl rfl h13 <| ag rfl <| RT.done ?_
 obtain rfl := O h
 exact AThen.n ⟨(x13, l14), hG10 _ rfl, wR []⟩
 subst hx10
 try dsimp only
 refine AThen.n <| sr <| mo (s := .row _) rfl <| an (s := .row _) rfl <| dn <| ok_weak (weak_frzM (i := 7) (E1 := 42) (n := 4) (e := eQ) (l := r7e9) rfl) <| ok_ret ?_
 obtain rfl := O ho10
 exact R1 rfl
set_option maxHeartbeats 4000000 in
theorem law33_NodeInjectionsMatch_ok {x0 : Int} {x1 : List Int} {x2 : List Int} {x3 : List Qr} {x4 : List Qr} {r : Bool} (h : law33_NodeInjectionsMatch_m x0 x1 x2 x3 x4 = some r) : Pure Tryz.prog 4 [.v (.int .i64 x0), slc 1 (List.map eI64 x1), slc 1 (List.map eI64 x2), slc 4 (List.map eQ x3), slc 4 (List.map eQ x4)] (.v (.bool r)) := by
 refine pureS_of_ok Tryz.func4 rfl (Nat.le_of_ble_eq_true rfl) (fun wld M vs hM hvs => ?_)
 unfold law33_NodeInjectionsMatch_m at h
 refine sr <| ag rfl <| dn <| qq <| qq ?_
 refine ok_tailJ h (fun j6 => AS.mkL 61 [(0, .sv (.v (.int .i64 x0))), (1, .sv (slc 1 (List.map eI64 x1))), (2, .sv (slc 1 (List.map eI64 x2))), (3, .sv (slc 4 (List.map eQ x3))), (4, .sv (slc 4 (List.map eQ x4))), (28, .sv (.v (.bool j6)))] [] []) (fun h => ?_) (fun y28j5 h => ?_)
 refine ok_region <| mv rfl <| lE h fun x16 h16 h => ln rfl h16 <| lE h fun x17 h17 h => gt _ rfl rfl h17 <| mv rfl <| bE h fun c22_17 hg17 h => ?_
 cases x17
 refine gm rfl <| lE (F hg17) fun x20 h20 hg17 => gn rfl h20 <| lE hg17 fun x21 h21 hg17 => gg _ rfl rfl h21 ?_
 obtain rfl := O hg17
 refine pF rfl <| mv rfl <| bE h fun c28_18 hg18 h => ?_
 cases x21
 refine gm rfl <| gm rfl <| RT.buildSl (l := [x3, x4]) (e := (eS 4 eQ)) (.some rfl rfl) (.one rfl (.one rfl (.nil))) T rfl rfl rfl rfl rfl rfl <| bE (F hg18) fun x27 h27 hg18 => gc (law33_Long_ok h27) ⟨rfl, trivial⟩ ?_
 obtain rfl := O hg18
 exact pF rfl <| dn <| ⟨x27, h, wR []⟩
 obtain rfl := O (V hg18)
 exact ww <| ww <| ww <| ww <| pT rfl <| dn <| ⟨true, h, wR []⟩
 obtain rfl := O (V hg17)
 refine ww <| ww <| ww <| pT rfl <| mv rfl <| bE h fun c28_19 hg19 h => ?_
 obtain rfl := O (V hg19)
 exact ww <| ww <| ww <| ww <| pT rfl <| dn <| ⟨true, h, wR []⟩
 try dsimp only
 refine AThen.n ?_
 cases y28j5
 refine fs <| sr <| mv rfl <| mv rfl <| mv rfl <| mv rfl <| mv rfl <| bE (F h) fun x35 h35 h => cl (ref33_In_ok h35) ⟨rfl, rfl, rfl, rfl, rfl, trivial⟩ <| ag rfl <| dn <| sr <| mv rfl <| bE h fun x37 h37 h => cl (law33_copied_ok h37) ⟨rfl, trivial⟩ <| ag rfl <| dn <| qq <| sr <| ag rfl <| dn <| bE h fun e12 hl12 ho12 => ?_
 refine ok_tailP (fun (xe12 : Unit) => AS.mkL 61 [(3, .sv (slc 4 (List.map eQ x3))), (12, .sv (slc 4 (List.map eQ x37)))] [] []) (fun xe12 => .inl xe12 = e12) ?_ (fun xe12 hx12 => ?_)
 refine ok_block ?_
 refine ok_loopM hl12 (fun s12 => AS.mkL 61 [(0, .sv (.v (.int .i64 x0))), (1, .sv (slc 1 (List.map eI64 x1))), (2, .sv (slc 1 (List.map eI64 x2))), (3, .sv (slc 4 (List.map eQ x3))), (4, .sv (slc 4 (List.map eQ x4))), (11, .sv (slc 4 (List.map eQ x35))), (12, .sv (slc 4 (List.map eQ x37))), (13, .sv (.v (.int .i64 s12)))] [] []) (wR []) (fun y13l9 y12 G12 h hG12 hE12 => ?_)
 try dsimp only
 refine qq <| sr <| mv rfl <| lE h fun x39 h39 h => ls _ rfl rfl h39 <| dn ?_
 cases x39
 refine cF <| ok_exit <| AThen.x <| AThen.x <| AInB.x <| AThen.n ?_
 obtain rfl := O (F h)
 exact ⟨(), hE12 _ rfl, wR []⟩
 refine cT <| ok_skip <| AThen.n <| qq <| ok_block <| sr <| mv rfl <| mv rfl <| mv rfl <| mv rfl <| mv rfl <| bE (V h) fun x47 h47 h => ?_
 refine RT.callFr .none (fun N => (node_In_fr N h47)) rfl (fun _ => ⟨rfl, rfl, rfl, rfl, rfl, trivial⟩) T (fun N6 hN6 => ?_)
 refine ag rfl <| dn ?_
 refine ok_weak (S' := AS.mkL 61 [(0, .sv (.v (.int .i64 x0))), (1, .sv (od N6 (slc 1 (List.map eI64 x1)))), (2, .sv (od N6 (slc 1 (List.map eI64 x2)))), (3, .sv (od N6 (slc 4 (List.map eQ x3)))), (4, .sv (od N6 (slc 4 (List.map eQ x4)))), (11, .sv (od N6 (slc 4 (List.map eQ x35)))), (12, .sv (od N6 (slc 4 (List.map eQ x37)))), (13, .sv (.v (.int .i64 y13l9))), (14, .sv (nw N6 (slc 4 (List.map (fQ N6) x47)))), (42, .sv (.v (.int .i64 x0))), (43, .sv (od N6 (slc 1 (List.map eI64 x1)))), (44, .sv (od N6 (slc 1 (List.map eI64 x2)))), (45, .sv (od N6 (slc 4 (List.map eQ x3)))), (46, .sv (od N6 (slc 4 (List.map eQ x4)))), (47, .sv (nw N6 (slc 4 (List.map (fQ N6) x47))))] [] []) (weakL id rfl rfl rfl rfl rfl ⟨.sv (fun _ _ q_ => q_), .sv (SV.imp_refl _), .sv (SV.imp_refl _), .sv (SV.imp_refl _), .sv (SV.imp_refl _), .sv (SV.imp_refl _), .sv (SV.imp_refl _), .sv (fun _ _ q_ => q_), .sv (SV.imp_refl _), .sv (fun _ _ q_ => q_), .sv (SV.imp_refl _), .sv (SV.imp_refl _), .sv (SV.imp_refl _), .sv (SV.imp_refl _), .sv (SV.imp_refl _), trivial⟩ trivial trivial (fun _ _ => rfl)) ?_
 refine qq <| sr <| mv rfl <| mv rfl <| bE h fun x50 h50 h => cl ((ref33_IsRow_ok h50).w (args' := [_, _]) ⟨nwQ, (fun _ _ q_ => (od_imp _ _ q_)), trivial⟩) ⟨rfl, rfl, trivial⟩ <| lE h fun x51 h51 h => nt rfl _ h51 <| dn ?_
 cases x51
 refine fs <| ok_region <| mv rfl ?_
 refine RT.buildSp (N1 := N6) (xs := [slc 4 (List.map (fQ N6) x47)]) .none (.one rfl (.nil)) T rfl rfl rfl rfl rfl (show SVIs [nw N6 (slc 4 (List.map (fQ N6) x47))] [nw N6 (slc 4 (List.map (fQ N6) x47))] from ⟨(nwQ_le (Nat.le_refl _)), trivial⟩) rfl (fun N8 hN8 => ?_)
 refine RT.callSpV .none (law33_spoil_sp [x47]) rfl rfl (fun _ _ _ e => inW_lt hM e) (fun _ _ _ _ _ => trivial) (fun _ => rfl) hN6 (n := 61) (ts := [(0, .sv (.v (.int .i64 x0))), (1, .sv (od N6 (slc 1 (List.map eI64 x1)))), (2, .sv (od N6 (slc 1 (List.map eI64 x2)))), (3, .sv (od N6 (slc 4 (List.map eQ x3)))), (4, .sv (od N6 (slc 4 (List.map eQ x4)))), (11, .sv (od N6 (slc 4 (List.map eQ x35)))), (12, .sv (od N6 (slc 4 (List.map eQ x37)))), (13, .sv (.v (.int .i64 y13l9)))]) (bs := []) (g' := 0) (go := true) rfl rfl ⟨.sv (kp_v (fun _ _ q_ => q_)), .sv (kp_od (fun _ _ q_ => (od_imp _ _ q_))), .sv (kp_od (fun _ _ q_ => (od_imp _ _ q_))), .sv (kp_od (fun _ _ q_ => (od_imp _ _ q_))), .sv (kp_od (fun _ _ q_ => (od_imp _ _ q_))), .sv (kp_od (fun _ _ q_ => (od_imp _ _ q_))), .sv (kp_od (fun _ _ q_ => (od_imp _ _ q_))), .sv (kp_v (fun _ _ q_ => q_)), trivial⟩ trivial rfl T ?_
 refine RT.done <| AInB.n <| AThen.n <| ok_region <| mv rfl <| lE (F h) fun x41 h41 h => ad _ rfl rfl h41 <| ag rfl <| RT.done ?_
 obtain rfl := O h
 exact AThen.n ⟨x41, hG12 _ rfl, weakL id rfl rfl rfl rfl rfl ⟨.sv (SV.imp_refl _), .sv (fun _ _ q_ => (od_imp _ _ q_)), .sv (fun _ _ q_ => (od_imp _ _ q_)), .sv (fun _ _ q_ => (od_imp _ _ q_)), .sv (fun _ _ q_ => (od_imp _ _ q_)), .sv (fun _ _ q_ => (od_imp _ _ q_)), .sv (fun _ _ q_ => (od_imp _ _ q_)), .sv (SV.imp_refl _), trivial⟩ trivial trivial (fun _ _ => rfl)⟩
 refine cT <| sr <| ag rfl <| dn <| ok_ret <| AThen.r <| AInB.r <| AThen.r ?_
 obtain rfl := O (V h)
 have he12 := hE12 _ rfl
 subst he12
 refine AThen.r <| AInB.r <| AThen.r <| AThen.r ?_
 obtain rfl := O ho12
 exact R1 rfl
 subst hx12
 try dsimp only
 refine AThen.n <| qq ?_
 refine ok_tailJ ho12 (fun j15 => AS.mkL 61 [(10, .sv (.v (.bool j15)))] [] []) (fun ho12 => ?_) (fun y10j14 ho12 => ?_)
 refine ok_region <| mv rfl <| mv rfl <| bE ho12 fun x57 h57 ho12 => cl (ref33_IsRow_ok h57) ⟨rfl, rfl, trivial⟩ <| mv rfl <| bE ho12 fun c60_16 hg16 ho12 => ?_
 cases x57
 obtain rfl := O (F hg16)
 exact ww <| pF rfl <| ag rfl <| dn <| ⟨false, ho12, wR []⟩
 refine bE (V hg16) fun x59 h59 hg16 => gc (law33_awake_ok h59) trivial ?_
 obtain rfl := O hg16
 exact pT rfl <| ag rfl <| dn <| ⟨x59, ho12, wR []⟩
 try dsimp only
 refine AThen.n <| ok_ret ?_
 obtain rfl := O ho12
 exact R1 rfl
 refine cT <| sr <| bE (V h) fun x29 h29 h => cl (law33_awake_ok h29) trivial <| ag rfl <| dn <| ok_ret <| AThen.r ?_
 obtain rfl := O h
 exact R1 rfl
end Go.Proofs.YthgkgjogdgdcgaaGreat
namespace Go.Fw
theorem w64_nat {n : Nat} (h : n ≤ 9223372036854775807) : IntKind.i64.wrap (n : Int) = n := nw_i64 (by omega)
theorem w64_id {x : Int} (h : -9223372036854775808 ≤ x) (h' : x ≤ 9223372036854775807) : IntKind.i64.wrap x = x := nw_i64 ⟨h, h'⟩
theorem w64_succ {n : Nat} (h : n < 9223372036854775807) : IntKind.i64.wrap ((n : Int) + 1) = ((n + 1 : Nat) : Int) := by rw [nw_i64 (by omega)]; simp
theorem w64_add {n m : Nat} (h : n + m ≤ 9223372036854775807) : IntKind.i64.wrap ((n : Int) + (m : Int)) = ((n + m : Nat) : Int) := by rw [nw_i64 (by omega)]; simp
theorem w64_pred {n : Nat} (h : n ≤ 9223372036854775807) : IntKind.i64.wrap (((n + 1 : Nat) : Int) - 1) = (n : Int) := by rw [nw_i64 (by omega)]; omega
theorem geti_nat {α : Type} {l : List α} {i : Nat} {a : α} (h : l[i]? = some a) : geti l (i : Int) = some a := by simp [geti, h]
theorem geti_zero {α : Type} {l : List α} {a : α} (h : l[0]? = some a) : geti l 0 = some a := by simp [geti, h]
theorem geti_one {α : Type} {l : List α} {a : α} (h : l[1]? = some a) : geti l 1 = some a := by simp [geti, h]
theorem cki_nat {α : Type} {l : List α} {i : Nat} (h : i < l.length) : cki l (i : Int) = some i := by simp [cki, h]
theorem stM_of {α : Type} {l : List α} {i : Nat} {y : α} (h : i < l.length) : stM l i y = some (l.set i y) := by simp [stM, h]
theorem apM_of {α : Type} {b : Nat} {l k : List α} (h : (l.length + k.length) * b ≤ 140737488355328) (h' : l.length + k.length ≤ 140737488355328) : apM b l k = some (l ++ k) := by simp [apM, h, h']
theorem apM1 {α : Type} {b : Nat} {l : List α} {x : α} (hb : b ≤ 100) (h : l.length ≤ 1000000000000) : apM b l [x] = some (l ++ [x]) := by
  apply apM_of
  · have : (l.length + [x].length) * b ≤ 1000000000001 * 100 := Nat.mul_le_mul (by simp; omega) hb
    omega
  · simp; omega
theorem apMl {α : Type} {b : Nat} {l k : List α} (hb : b ≤ 100) (h : l.length + k.length ≤ 1000000000000) : apM b l k = some (l ++ k) := by
  apply apM_of
  · have : (l.length + k.length) * b ≤ 1000000000000 * 100 := Nat.mul_le_mul h hb
    omega
  · omega
theorem mkE_of {α : Type} {b : Nat} {n : Nat} (hb : b ≤ 100) (h : n ≤ 1000000000000) : mkE (α := α) b (n : Int) = some [] := by
  have : b * n ≤ 100 * 1000000000000 := Nat.mul_le_mul hb h
  have h2 : (b : Int) * (n : Int) = ((b * n : Nat) : Int) := by simp
  unfold mkE
  rw [h2, if_pos ⟨by omega, by omega, by omega⟩]
theorem mkM_of {α : Type} {b : Nat} {n : Nat} {z : α} (hb : b ≤ 100) (h : n ≤ 1000000000000) : mkM b (n : Int) z = some (List.replicate n z) := by
  have : b * n ≤ 100 * 1000000000000 := Nat.mul_le_mul hb h
  have h2 : (b : Int) * (n : Int) = ((b * n : Nat) : Int) := by simp
  unfold mkM
  rw [h2, if_pos ⟨by omega, by omega, by omega⟩, Int.toNat_natCast]
theorem subM_nat {α : Type} {l : List α} {i j : Nat} (h : i ≤ j) (h' : j ≤ l.length) : subM l (i : Int) (j : Int) = some (cut l i j) := by
  unfold subM; rw [if_pos ⟨by omega, by omega, by omega⟩]; simp
theorem subM_zero {α : Type} {l : List α} {j : Nat} (h' : j ≤ l.length) : subM l 0 (j : Int) = some (l.take j) := by
  have := subM_nat (l := l) (i := 0) (j := j) (by omega) h'
  simpa [cut] using this
theorem usub_of {M a b : Nat} (h : b ≤ a) (h' : a < M) : usub M a b = a - b := by
  unfold usub; rw [show (a : Int) - (b : Int) = ((a - b : Nat) : Int) by omega, ← Int.natCast_emod, Int.toNat_natCast, Nat.mod_eq_of_lt (by omega)]
theorem usub_lt {M a b : Nat} (h : a < b) (h' : b ≤ M) : usub M a b = M + a - b := by
  unfold usub
  have : ((a : Int) - (b : Int)) % (M : Int) = ((M + a - b : Nat) : Int) := by
    rw [← Int.add_emod_right (a := (a : Int) - b), show (a : Int) - (b : Int) + (M : Int) = ((M + a - b : Nat) : Int) by omega, ← Int.natCast_emod, Nat.mod_eq_of_lt (by omega)]
  rw [this, Int.toNat_natCast]
theorem ckR_nat {o n i : Nat} (h : i < n) : ckR o n (i : Int) = some (o + i) := by simp [ckR, h]
theorem eqLen_of {α : Type} {l l' : List α} (h : l'.length = l.length) : eqLen l l' = some () := by simp [eqLen, h]
theorem uquo_of {M a b : Nat} (h : b ≠ 0) (h' : a < M) : uquo M a b = some (a / b) := by
  unfold uquo; rw [if_neg h, Nat.mod_eq_of_lt (Nat.lt_of_le_of_lt (Nat.div_le_self _ _) h')]
theorem urem_of {a b : Nat} (h : b ≠ 0) : urem a b = some (a % b) := by unfold urem; rw [if_neg h]
theorem bsm {α β : Type} {a : α} {f : α → Option β} : Option.bind (some a) f = f a := by
  have h : ∀ o, o = some a → Option.bind o f = f a := by intro o ho; rw [ho]; rfl
  exact h _ rfl
theorem ctm {α : Type} {x y : α} : (bif true then x else y) = x := by
  have h : ∀ b, b = true → (bif b then x else y) = x := by intro b hb; rw [hb]; rfl
  exact h _ rfl
theorem cfm {α : Type} {x y : α} : (bif false then x else y) = y := by
  have h : ∀ b, b = false → (bif b then x else y) = y := by intro b hb; rw [hb]; rfl
  exact h _ rfl
theorem bind_loop {S E R : Type} {body : S → Option (S ⊕ E)} {s : S} {f : E → Option R} {r : R} (I : S → Prop) (Post : E → Prop) (μ : S → Nat)
    (step : ∀ s, I s → (∃ s', body s = some (.inl s') ∧ I s' ∧ μ s' < μ s) ∨ (∃ e, body s = some (.inr e) ∧ Post e)) (h : I s) (hf : ∀ e, Post e → f e = some r) : (loopM body s).bind f = some r := by
  obtain ⟨e, h1, h2⟩ := loopM_inv I Post μ step h
  rw [h1]; exact hf e h2
theorem bind_loop_ex {S E R : Type} {body : S → Option (S ⊕ E)} {s : S} {f : E → Option R} {Q : R → Prop} (I : S → Prop) (Post : E → Prop) (μ : S → Nat)
    (step : ∀ s, I s → (∃ s', body s = some (.inl s') ∧ I s' ∧ μ s' < μ s) ∨ (∃ e, body s = some (.inr e) ∧ Post e)) (h : I s) (hf : ∀ e, Post e → ∃ r, f e = some r ∧ Q r) : ∃ r, (loopM body s).bind f = some r ∧ Q r := by
  obtain ⟨e, h1, h2⟩ := loopM_inv I Post μ step h
  rw [h1]; exact hf e h2
theorem bind_loop_to {S E R : Type} {body : S → Option (S ⊕ E)} {s : S} {f : E → Option R} {r : R} (st : Nat → S) (n : Nat) (e : E) (h0 : s = st 0) (hs : ∀ k, k < n → body (st k) = some (.inl (st (k + 1)))) (he : body (st n) = some (.inr e)) (hf : f e = some r) : (loopM body s).bind f = some r := by
  rw [h0, loopM_to st n hs he]; exact hf
theorem bind_range {S R : Type} {body : Nat → S → Option S} {s : S} {f : S → Option R} {r : R} (st : Nat → S) {n : Nat} (h0 : s = st 0) (hs : ∀ k, k < n → body k (st k) = some (st (k + 1))) (hf : f (st n) = some r) : (rangeM body n s).bind f = some r := by
  rw [h0, rangeM_to st n hs]; exact hf
theorem bind_eq {α β : Type} {x : Option α} {a : α} {f : α → Option β} {r : Option β} (h : x = some a) (hf : f a = r) : x.bind f = r := by rw [h]; exact hf
theorem bif_t {α : Type} {b : Bool} {x y r : α} (hb : b = true) (h : x = r) : (bif b then x else y) = r := by rw [hb]; exact h
theorem bif_f {α : Type} {b : Bool} {x y r : α} (hb : b = false) (h : y = r) : (bif b then x else y) = r := by rw [hb]; exact h
end Go.Fw
namespace Go.Fw
def val (B : Nat) : List Nat → Nat
  | [] => 0
  | x :: l => x + B * val B l
def dig (B : Nat) : Nat → Nat → List Nat
  | 0, _ => []
  | n + 1, v => v % B :: dig B n (v / B)
def trimW (ws : List Nat) : List Nat := (ws.reverse.dropWhile (· == 0)).reverse
def can (B v : Nat) : List Nat := trimW (dig B v v)
theorem dig_len (B : Nat) : ∀ n v, (dig B n v).length = n
  | 0, _ => rfl
  | n + 1, v => by simp [dig, dig_len B n]
theorem val_dig (B : Nat) : ∀ n v, val B (dig B n v) = v % B ^ n
  | 0, v => by simp [dig, val, Nat.mod_one]
  | n + 1, v => by
    rw [dig, val, val_dig B n, Nat.pow_succ, Nat.mul_comm (B ^ n) B, Nat.mod_mul]
theorem dig_lt {B : Nat} (hB : 0 < B) : ∀ (n v x : Nat), x ∈ dig B n v → x < B
  | n + 1, v, x, h => by
    rcases List.mem_cons.1 h with rfl | h
    · exact Nat.mod_lt _ hB
    · exact dig_lt hB n _ x h
theorem val_lt {B : Nat} : ∀ (l : List Nat), (∀ x ∈ l, x < B) → val B l < B ^ l.length
  | [], _ => by simp [val]
  | x :: l, h => by
    have h1 := val_lt l (fun y hy => h y (List.mem_cons_of_mem _ hy))
    have h2 := h x (by simp)
    rw [val, List.length_cons, Nat.pow_succ]
    calc x + B * val B l < B + B * val B l := by omega
      _ = B * (val B l + 1) := by rw [Nat.mul_add]; omega
      _ ≤ B * B ^ l.length := Nat.mul_le_mul_left _ h1
      _ = B ^ l.length * B := Nat.mul_comm _ _
theorem dig_val {B : Nat} : ∀ (l : List Nat), (∀ x ∈ l, x < B) → dig B l.length (val B l) = l
  | [], _ => rfl
  | x :: l, h => by
    have h2 := h x (by simp)
    have hB : 0 < B := by omega
    rw [List.length_cons, dig, val, Nat.add_mul_mod_self_left, Nat.mod_eq_of_lt h2, Nat.add_mul_div_left _ _ hB, Nat.div_eq_of_lt h2, Nat.zero_add, dig_val l (fun y hy => h y (List.mem_cons_of_mem _ hy))]
theorem dig_get {B : Nat} : ∀ (n v j : Nat), j < n → (dig B n v)[j]? = some (v / B ^ j % B)
  | n + 1, v, 0, _ => by simp [dig]
  | n + 1, v, j + 1, h => by
    rw [dig, List.getElem?_cons_succ, dig_get n _ j (by omega), Nat.div_div_eq_div_mul, Nat.pow_succ, Nat.mul_comm B]
theorem val_app {B : Nat} : ∀ (a b : List Nat), val B (a ++ b) = val B a + B ^ a.length * val B b
  | [], b => by simp [val]
  | x :: a, b => by
    rw [List.cons_append, val, val, val_app a b, List.length_cons, Nat.pow_succ, Nat.mul_add, Nat.add_assoc, Nat.mul_comm (B ^ a.length) B, Nat.mul_assoc]
theorem dig_succ {B : Nat} : ∀ (n v : Nat), dig B (n + 1) v = dig B n v ++ [v / B ^ n % B]
  | 0, v => by simp [dig]
  | n + 1, v => by
    rw [dig, dig_succ n, dig, List.cons_append, Nat.div_div_eq_div_mul, Nat.pow_succ, Nat.mul_comm B]
theorem dig_zero (B : Nat) : ∀ k, dig B k 0 = List.replicate k 0
  | 0 => rfl
  | k + 1 => by rw [dig, Nat.zero_mod, Nat.zero_div, dig_zero B k]; rfl
theorem dig_more {B : Nat} (hB : 0 < B) : ∀ (n k v : Nat), v < B ^ n → dig B (n + k) v = dig B n v ++ List.replicate k 0
  | 0, k, v, h => by
    have : v = 0 := by simpa using h
    subst this; rw [Nat.zero_add, dig_zero]; rfl
  | n + 1, k, v, h => by
    rw [show n + 1 + k = n + k + 1 by omega, dig, dig, List.cons_append, dig_more hB n k (v / B) (by rw [Nat.div_lt_iff_lt_mul hB]; rwa [Nat.pow_succ] at h)]
theorem lt_pow_self' {B : Nat} (hB : 2 ≤ B) : ∀ v, v < B ^ v
  | 0 => by simp
  | v + 1 => by
    have := lt_pow_self' hB v
    rw [Nat.pow_succ]
    have h2 : B ^ v * 2 ≤ B ^ v * B := Nat.mul_le_mul_left _ hB
    omega
theorem trimW_zero (l : List Nat) : trimW (l ++ [0]) = trimW l := by simp [trimW]
theorem trimW_zeros (l : List Nat) : ∀ k, trimW (l ++ List.replicate k 0) = trimW l
  | 0 => by simp
  | k + 1 => by rw [List.replicate_succ', ← List.append_assoc, trimW_zero, trimW_zeros l k]
theorem trimW_last (l : List Nat) {x : Nat} (h : x ≠ 0) : trimW (l ++ [x]) = l ++ [x] := by simp [trimW, h]
theorem trim_cases (xs : List Nat) : xs = [] ∨ (∃ ys, xs = ys ++ [0]) ∨ (∃ ys y, y ≠ 0 ∧ xs = ys ++ [y]) := by
  rcases List.eq_nil_or_concat xs with rfl | ⟨ys, y, rfl⟩
  · exact .inl rfl
  · by_cases hy : y = 0
    · subst hy; exact .inr (.inl ⟨ys, by simp⟩)
    · exact .inr (.inr ⟨ys, y, hy, by simp⟩)
theorem trimW_pre : ∀ (n : Nat) (l : List Nat), l.length = n → ∃ k, l = trimW l ++ List.replicate k 0 := by
  intro n
  induction n with
  | zero => intro l h; obtain rfl := List.length_eq_zero_iff.1 h; exact ⟨0, rfl⟩
  | succ n ih =>
    intro l h
    rcases trim_cases l with rfl | ⟨ys, rfl⟩ | ⟨ys, y, hy, rfl⟩
    · simp at h
    · obtain ⟨k, hk⟩ := ih ys (by simpa using h)
      refine ⟨k + 1, ?_⟩
      rw [trimW_zero, List.replicate_succ', ← List.append_assoc, ← hk]
    · exact ⟨0, by rw [trimW_last _ hy]; simp⟩
theorem trimW_mem {l : List Nat} {x : Nat} (h : x ∈ trimW l) : x ∈ l := by
  obtain ⟨k, hk⟩ := trimW_pre _ l rfl
  rw [hk]; exact List.mem_append_left _ h
theorem trimW_len (l : List Nat) : (trimW l).length ≤ l.length := by
  obtain ⟨k, hk⟩ := trimW_pre _ l rfl
  have := congrArg List.length hk
  rw [List.length_append] at this; omega
theorem val_zeros (B : Nat) : ∀ k, val B (List.replicate k 0) = 0
  | 0 => rfl
  | k + 1 => by rw [List.replicate_succ, val, val_zeros B k]; simp
theorem val_trim (B : Nat) (l : List Nat) : val B (trimW l) = val B l := by
  obtain ⟨k, hk⟩ := trimW_pre _ l rfl
  conv => rhs; rw [hk, val_app, val_zeros]
  simp
theorem trim_dig {B : Nat} (hB : 2 ≤ B) {n v : Nat} (h : v < B ^ n) : trimW (dig B n v) = can B v := by
  have hv := lt_pow_self' hB v
  rcases Nat.le_total n v with hn | hn
  · obtain ⟨k, rfl⟩ := Nat.exists_eq_add_of_le hn
    rw [can, dig_more (by omega) n k _ h, trimW_zeros]
  · obtain ⟨k, rfl⟩ := Nat.exists_eq_add_of_le hn
    rw [can, dig_more (by omega) v k _ hv, trimW_zeros]
theorem trim_can {B : Nat} (hB : 2 ≤ B) {l : List Nat} (h : ∀ x ∈ l, x < B) : trimW l = can B (val B l) := by
  conv => lhs; rw [← dig_val l h]
  exact trim_dig hB (val_lt l h)
theorem val_can {B : Nat} (hB : 2 ≤ B) (v : Nat) : val B (can B v) = v := by
  rw [can, val_trim, val_dig, Nat.mod_eq_of_lt (lt_pow_self' hB v)]
theorem can_lt {B : Nat} (hB : 2 ≤ B) {v x : Nat} (h : x ∈ can B v) : x < B := dig_lt (by omega) v v x (trimW_mem h)
theorem can_zero (B : Nat) : can B 0 = [] := rfl
theorem can_nil {B : Nat} (hB : 2 ≤ B) {v : Nat} (h : can B v = []) : v = 0 := by have := val_can hB v; rw [h] at this; exact this.symm
theorem can_len {B : Nat} (hB : 2 ≤ B) {v n : Nat} (h : v < B ^ n) : (can B v).length ≤ n := by
  rw [← trim_dig hB h]
  have := trimW_len (dig B n v)
  rwa [dig_len] at this
theorem can_can {B : Nat} (hB : 2 ≤ B) (v : Nat) : trimW (can B v) = can B v := by
  rw [trim_can hB (fun x hx => can_lt hB hx), val_can hB]
theorem can_dig {B : Nat} (hB : 2 ≤ B) (v : Nat) : can B v = dig B (can B v).length v := by
  have := dig_val (can B v) (fun x hx => can_lt hB hx)
  rw [val_can hB] at this; exact this.symm
theorem lt_can_len {B : Nat} (hB : 2 ≤ B) (v : Nat) : v < B ^ (can B v).length := by
  have := val_lt (can B v) (fun x hx => can_lt hB hx)
  rwa [val_can hB] at this
theorem can_get {B : Nat} (hB : 2 ≤ B) {v j : Nat} (h : j < (can B v).length) : (can B v)[j]? = some (v / B ^ j % B) := by
  rw [can_dig hB v] at h ⊢
  rw [dig_len] at h
  exact dig_get _ _ _ h
theorem can_beyond {B : Nat} (hB : 2 ≤ B) {v j : Nat} (h : (can B v).length ≤ j) : v / B ^ j = 0 := by
  refine Nat.div_eq_of_lt (Nat.lt_of_lt_of_le (lt_can_len hB v) ?_)
  exact Nat.pow_le_pow_right (by omega) h
theorem can_last {B : Nat} (hB : 2 ≤ B) {v : Nat} (h : v ≠ 0) : ∃ l x, x ≠ 0 ∧ can B v = l ++ [x] := by
  rcases trim_cases (can B v) with e | ⟨ys, e⟩ | ⟨ys, y, hy, e⟩
  · exact absurd (can_nil hB e) h
  · exfalso
    have h1 := can_can hB v
    rw [e, trimW_zero] at h1
    have h2 := trimW_len ys
    rw [h1] at h2; simp at h2; omega
  · exact ⟨ys, y, hy, e⟩
theorem pow_le_of_can {B : Nat} (hB : 2 ≤ B) {v n : Nat} (h : n < (can B v).length) : B ^ n ≤ v := by
  by_cases h0 : v = 0
  · subst h0; simp [can_zero] at h
  obtain ⟨l, x, hx, e⟩ := can_last hB h0
  have h1 := val_can hB v
  rw [e, val_app] at h1
  have hl : n ≤ l.length := by rw [e] at h; simp at h; omega
  have h2 : B ^ n ≤ B ^ l.length := Nat.pow_le_pow_right (by omega) hl
  have h3 : B ^ l.length ≤ B ^ l.length * val B [x] := Nat.le_mul_of_pos_right _ (by simp [val]; omega)
  omega
theorem can_len_iff {B : Nat} (hB : 2 ≤ B) {v n : Nat} : (can B v).length ≤ n ↔ v < B ^ n := by
  refine ⟨fun h => ?_, can_len hB⟩
  exact Nat.lt_of_lt_of_le (lt_can_len hB v) (Nat.pow_le_pow_right (by omega) h)
theorem can_of {B : Nat} (hB : 2 ≤ B) {l : List Nat} {x : Nat} (hx : x ≠ 0) (h : ∀ y ∈ l ++ [x], y < B) : l ++ [x] = can B (val B (l ++ [x])) := by
  rw [← trim_can hB h, trimW_last _ hx]
theorem val_getD {B : Nat} : ∀ (l : List Nat), (∀ x ∈ l, x < B) → ∀ k, l.getD k 0 = val B l / B ^ k % B
  | [], _, k => by simp [val]
  | x :: l, h, 0 => by
    have h2 := h x (by simp)
    simp [val, Nat.add_mul_mod_self_left, Nat.mod_eq_of_lt h2]
  | x :: l, h, k + 1 => by
    have h2 := h x (by simp)
    have hB : 0 < B := by omega
    rw [List.getD_cons_succ, val_getD l (fun y hy => h y (List.mem_cons_of_mem _ hy)) k, val, Nat.pow_succ, Nat.mul_comm (B ^ k) B, ← Nat.div_div_eq_div_mul, Nat.add_mul_div_left _ _ hB, Nat.div_eq_of_lt h2, Nat.zero_add]
theorem mod_pow_step (B V k : Nat) : V % B ^ (k + 1) = V % B ^ k + B ^ k * (V / B ^ k % B) := by
  rw [Nat.pow_succ, Nat.mod_mul]
def cry (B V W k : Nat) : Nat := (V % B ^ k + W % B ^ k) / B ^ k
theorem cry_le {B : Nat} (hB : 0 < B) (V W k : Nat) : cry B V W k ≤ 1 := by
  have hP : 0 < B ^ k := Nat.pow_pos hB
  have h1 := Nat.mod_lt V hP
  have h2 := Nat.mod_lt W hP
  have : cry B V W k < 2 := by rw [cry, Nat.div_lt_iff_lt_mul hP]; omega
  omega
theorem cry_step {B : Nat} (hB : 0 < B) (V W k : Nat) : (V / B ^ k % B + W / B ^ k % B + cry B V W k) / B = cry B V W (k + 1) := by
  have hP : 0 < B ^ k := Nat.pow_pos hB
  rw [cry, cry, mod_pow_step, mod_pow_step, Nat.pow_succ, ← Nat.div_div_eq_div_mul]
  congr 1
  rw [show V % B ^ k + B ^ k * (V / B ^ k % B) + (W % B ^ k + B ^ k * (W / B ^ k % B)) = (V % B ^ k + W % B ^ k) + B ^ k * (V / B ^ k % B + W / B ^ k % B) by rw [Nat.mul_add]; omega, Nat.add_mul_div_left _ _ hP]
  omega
theorem cry_dig {B : Nat} (hB : 0 < B) (V W k : Nat) : (V / B ^ k % B + W / B ^ k % B + cry B V W k) % B = (V + W) / B ^ k % B := by
  have hP : 0 < B ^ k := Nat.pow_pos hB
  have h : (V + W) / B ^ k = V / B ^ k + W / B ^ k + cry B V W k := by
    have e1 := Nat.div_add_mod V (B ^ k)
    have e2 := Nat.div_add_mod W (B ^ k)
    rw [cry]
    conv => lhs; rw [← e1, ← e2]
    rw [show B ^ k * (V / B ^ k) + V % B ^ k + (B ^ k * (W / B ^ k) + W % B ^ k) = (V % B ^ k + W % B ^ k) + B ^ k * (V / B ^ k + W / B ^ k) by rw [Nat.mul_add]; omega, Nat.add_mul_div_left _ _ hP]
    omega
  rw [h]
  simp [Nat.add_mod]
theorem cry_end {B : Nat} {V W k : Nat} (hV : V < B ^ k) (hW : W < B ^ k) : cry B V W k = (V + W) / B ^ k := by
  rw [cry, Nat.mod_eq_of_lt hV, Nat.mod_eq_of_lt hW]
theorem cry_zero (B V W : Nat) : cry B V W 0 = 0 := by simp [cry, Nat.mod_one]
def lnd (B V W k : Nat) : Nat := (V % B ^ k + B ^ k - W % B ^ k) / B ^ k
theorem lnd_zero (B V W : Nat) : lnd B V W 0 = 1 := by simp [lnd, Nat.mod_one]
theorem lnd_le {B : Nat} (hB : 0 < B) (V W k : Nat) : lnd B V W k ≤ 1 := by
  have hP : 0 < B ^ k := Nat.pow_pos hB
  have h1 := Nat.mod_lt V hP
  have : lnd B V W k < 2 := by
    rw [lnd, Nat.div_lt_iff_lt_mul hP]
    generalize W % B ^ k = y at *
    generalize V % B ^ k = x at *
    omega
  omega
theorem lnd_num {B : Nat} (hB : 0 < B) (V W k : Nat) : V % B ^ (k + 1) + B ^ (k + 1) - W % B ^ (k + 1) = (V % B ^ k + B ^ k - W % B ^ k) + B ^ k * (V / B ^ k % B + (B - 1 - W / B ^ k % B)) := by
  have hP : 0 < B ^ k := Nat.pow_pos hB
  have h1 := Nat.mod_lt V hP
  have h2 := Nat.mod_lt W hP
  have h3 := Nat.mod_lt (W / B ^ k) hB
  rw [mod_pow_step, mod_pow_step, Nat.pow_succ]
  generalize B ^ k = p at *
  generalize V / p % B = x at *
  generalize W / p % B = y at *
  obtain ⟨z, rfl⟩ : ∃ z, B = y + 1 + z := ⟨B - y - 1, by omega⟩
  have e1 : y + 1 + z - 1 - y = z := by omega
  rw [e1, Nat.mul_add p x z, Nat.mul_add p (y + 1) z, Nat.mul_add p y 1]
  omega
theorem lnd_step {B : Nat} (hB : 0 < B) (V W k : Nat) : (V / B ^ k % B + (B - 1 - W / B ^ k % B) + lnd B V W k) / B = lnd B V W (k + 1) := by
  have hP : 0 < B ^ k := Nat.pow_pos hB
  rw [lnd, lnd, lnd_num hB, Nat.pow_succ, ← Nat.div_div_eq_div_mul, Nat.add_mul_div_left _ _ hP]
  congr 1
  omega
theorem sub_mod_eq {Q V W : Nat} (hQ : 0 < Q) (h : W ≤ V) : (V % Q + Q - W % Q) % Q = (V - W) % Q := by
  have e1 := Nat.div_add_mod V Q
  have e2 := Nat.div_add_mod W Q
  have h1 := Nat.mod_lt V hQ
  have h2 := Nat.mod_lt W hQ
  have hq : W / Q ≤ V / Q := Nat.div_le_div_right h
  generalize V % Q = r at *
  generalize W % Q = s at *
  generalize V / Q = a at *
  generalize W / Q = b at *
  obtain ⟨c, rfl⟩ := Nat.exists_eq_add_of_le hq
  rw [Nat.mul_add] at e1
  rcases Nat.lt_or_ge r s with hrs | hrs
  · cases c with
    | zero => simp at e1; omega
    | succ c =>
      rw [Nat.mul_add, Nat.mul_one] at e1
      rw [show V - W = Q * c + (r + Q - s) by omega, Nat.mul_add_mod]
  · rw [show V - W = Q * c + (r - s) by omega, Nat.mul_add_mod, show r + Q - s = r - s + Q by omega, Nat.add_mod_right]
theorem lnd_dig {B : Nat} (hB : 0 < B) {V W : Nat} (h : W ≤ V) (k : Nat) : (V / B ^ k % B + (B - 1 - W / B ^ k % B) + lnd B V W k) % B = (V - W) / B ^ k % B := by
  have hP : 0 < B ^ k := Nat.pow_pos hB
  have hQ : 0 < B ^ (k + 1) := Nat.pow_pos hB
  have e := sub_mod_eq hQ h
  have e2 : V / B ^ k % B + (B - 1 - W / B ^ k % B) + lnd B V W k = (V % B ^ (k + 1) + B ^ (k + 1) - W % B ^ (k + 1)) / B ^ k := by
    rw [lnd_num hB, Nat.add_mul_div_left _ _ hP, lnd]; omega
  rw [e2, ← Nat.mod_mul_right_div_self, ← Nat.mod_mul_right_div_self, ← Nat.pow_succ, e]
end Go.Fw
namespace Go.Fw
theorem dig_set {B : Nat} (hB : 0 < B) : ∀ (j N lo p d hi : Nat), lo < B ^ j → p < B → d < B → j < N → (dig B N (lo + B ^ j * (p + B * hi))).set j d = dig B N (lo + B ^ j * (d + B * hi))
  | 0, N + 1, lo, p, d, hi, hlo, hp, hd, _ => by
    have : lo = 0 := by simpa using hlo
    subst this
    simp only [Nat.pow_zero, Nat.zero_add, Nat.one_mul, dig, List.set_cons_zero, Nat.add_mul_mod_self_left, Nat.mod_eq_of_lt hd]
    rw [Nat.add_mul_div_left _ _ hB, Nat.add_mul_div_left _ _ hB, Nat.div_eq_of_lt hp, Nat.div_eq_of_lt hd]
  | j + 1, N + 1, lo, p, d, hi, hlo, hp, hd, hN => by
    have e : ∀ q, (lo + B ^ (j + 1) * (q + B * hi)) % B = lo % B := fun q => by
      rw [Nat.pow_succ, Nat.mul_comm (B ^ j) B, Nat.mul_assoc, Nat.add_mul_mod_self_left]
    have e2 : ∀ q, (lo + B ^ (j + 1) * (q + B * hi)) / B = lo / B + B ^ j * (q + B * hi) := fun q => by
      rw [Nat.pow_succ, Nat.mul_comm (B ^ j) B, Nat.mul_assoc, Nat.add_mul_div_left _ _ hB]
    have hlo' : lo / B < B ^ j := by rw [Nat.div_lt_iff_lt_mul hB]; rwa [Nat.pow_succ] at hlo
    rw [dig, dig, List.set_cons_succ, e, e, e2, e2, dig_set hB j N (lo / B) p d hi hlo' hp hd (by omega)]
theorem dig_put {B : Nat} (hB : 0 < B) {N j u u' d : Nat} (hj : j < N) (hd : d < B) (hlo : u' % B ^ j = u % B ^ j) (hdig : u' / B ^ j % B = d) (hhi : u' / B ^ (j + 1) = u / B ^ (j + 1)) : (dig B N u).set j d = dig B N u' := by
  have hP : 0 < B ^ j := Nat.pow_pos hB
  have f : ∀ u, u = u % B ^ j + B ^ j * (u / B ^ j % B + B * (u / B ^ (j + 1))) := fun u => by
    have e1 := Nat.mod_add_div u (B ^ j)
    have e2 := div_step' B u j
    rw [Nat.add_comm] at e2
    rw [← e2, e1]
  rw [f u, dig_set hB j N _ _ d _ (Nat.mod_lt _ hP) (Nat.mod_lt _ hB) hd hj]
  conv => rhs; rw [f u', hlo, hdig, hhi]
where
  div_step' (B v m : Nat) : v / B ^ m = B * (v / B ^ (m + 1)) + v / B ^ m % B := by
    rw [Nat.pow_succ, ← Nat.div_div_eq_div_mul, Nat.div_add_mod]
def mT (B V W i k : Nat) : Nat := ((V % B ^ i) * W) % B ^ (i + k) + B ^ i * (V / B ^ i % B) * (W % B ^ k)
def mC (B V W i k : Nat) : Nat := mT B V W i k / B ^ (i + k)
def mV (B V W i k : Nat) : Nat := mT B V W i k % B ^ (i + k) + B ^ (i + k) * (((V % B ^ i) * W) / B ^ (i + k))
theorem mT_lt {B : Nat} (hB : 0 < B) (V W i k : Nat) : mT B V W i k < B ^ (i + k) * B := by
  have h1 : ((V % B ^ i) * W) % B ^ (i + k) < B ^ (i + k) := Nat.mod_lt _ (Nat.pow_pos hB)
  have h2 : V / B ^ i % B < B := Nat.mod_lt _ hB
  have h3 : W % B ^ k < B ^ k := Nat.mod_lt _ (Nat.pow_pos hB)
  have h4 : B ^ i * (V / B ^ i % B) * (W % B ^ k) ≤ B ^ i * (B - 1) * B ^ k := Nat.mul_le_mul (Nat.mul_le_mul_left _ (by omega)) (Nat.le_of_lt h3)
  have h5 : B ^ i * (B - 1) * B ^ k = B ^ (i + k) * (B - 1) := by rw [Nat.pow_add, Nat.mul_assoc, Nat.mul_assoc, Nat.mul_comm (B - 1)]
  have h6 : B ^ (i + k) * B = B ^ (i + k) * (B - 1) + B ^ (i + k) := by
    obtain ⟨b, rfl⟩ : ∃ b, B = b + 1 := ⟨B - 1, by omega⟩
    rw [Nat.add_sub_cancel, Nat.mul_add, Nat.mul_one]
  unfold mT
  omega
theorem mC_lt {B : Nat} (hB : 0 < B) (V W i k : Nat) : mC B V W i k < B := by
  rw [mC, Nat.div_lt_iff_lt_mul (Nat.pow_pos hB), Nat.mul_comm]; exact mT_lt hB V W i k
theorem mT_step {B : Nat} (V W i k : Nat) : mT B V W i (k + 1) = mT B V W i k + B ^ (i + k) * (((V % B ^ i) * W) / B ^ (i + k) % B + (V / B ^ i % B) * (W / B ^ k % B)) := by
  have e1 : ((V % B ^ i) * W) % B ^ (i + (k + 1)) = ((V % B ^ i) * W) % B ^ (i + k) + B ^ (i + k) * (((V % B ^ i) * W) / B ^ (i + k) % B) := by rw [← Nat.add_assoc, mod_pow_step]
  have e2 : W % B ^ (k + 1) = W % B ^ k + B ^ k * (W / B ^ k % B) := mod_pow_step B W k
  unfold mT
  rw [e1, e2, Nat.mul_add, Nat.mul_add (B ^ (i + k))]
  have e3 : B ^ i * (V / B ^ i % B) * (B ^ k * (W / B ^ k % B)) = B ^ (i + k) * ((V / B ^ i % B) * (W / B ^ k % B)) := by
    rw [Nat.pow_add, Nat.mul_assoc, Nat.mul_assoc, Nat.mul_left_comm (V / B ^ i % B)]
  omega
theorem mC_step {B : Nat} (hB : 0 < B) (V W i k : Nat) : (((V % B ^ i) * W) / B ^ (i + k) % B + (V / B ^ i % B) * (W / B ^ k % B) + mC B V W i k) / B = mC B V W i (k + 1) := by
  have hP : 0 < B ^ (i + k) := Nat.pow_pos hB
  rw [mC, mC, mT_step, ← Nat.add_assoc, Nat.pow_succ, ← Nat.div_div_eq_div_mul, Nat.add_mul_div_left _ _ hP]
  congr 1; omega
theorem mV_lo {B : Nat} (V W i k : Nat) : mV B V W i k % B ^ (i + k) = mT B V W i k % B ^ (i + k) := by
  rw [mV, Nat.add_mul_mod_self_left, Nat.mod_mod]
theorem mV_hi {B : Nat} (hB : 0 < B) (V W i k : Nat) : mV B V W i k / B ^ (i + k) = ((V % B ^ i) * W) / B ^ (i + k) := by
  have hP : 0 < B ^ (i + k) := Nat.pow_pos hB
  rw [mV, Nat.add_mul_div_left _ _ hP, Nat.div_eq_of_lt (Nat.mod_lt _ hP), Nat.zero_add]
theorem mV_dig {B : Nat} (hB : 0 < B) {V W i k N : Nat} (h : i + k < N) : (dig B N (mV B V W i k))[i + k]? = some (((V % B ^ i) * W) / B ^ (i + k) % B) := by
  rw [dig_get _ _ _ h, mV_hi hB]
theorem mV_step {B : Nat} (hB : 0 < B) {V W i k N : Nat} (h : i + k < N) :
    (dig B N (mV B V W i k)).set (i + k) ((((V % B ^ i) * W) / B ^ (i + k) % B + (V / B ^ i % B) * (W / B ^ k % B) + mC B V W i k) % B) = dig B N (mV B V W i (k + 1)) := by
  have hP : 0 < B ^ (i + k) := Nat.pow_pos hB
  have hPB : B ^ (i + (k + 1)) = B ^ (i + k) * B := by rw [← Nat.add_assoc, Nat.pow_succ]
  have hs : mT B V W i (k + 1) / B ^ (i + k) = ((V % B ^ i) * W) / B ^ (i + k) % B + (V / B ^ i % B) * (W / B ^ k % B) + mC B V W i k := by
    rw [mT_step, Nat.add_mul_div_left _ _ hP, mC]; omega
  have ht : mT B V W i (k + 1) % B ^ (i + k) = mT B V W i k % B ^ (i + k) := by rw [mT_step, Nat.add_mul_mod_self_left]
  refine dig_put hB h (Nat.mod_lt _ hB) ?_ ?_ ?_
  · rw [mV_lo, ← ht, mV, hPB, Nat.mul_assoc, Nat.add_mul_mod_self_left, Nat.mod_mul_right_mod]
  · rw [mV, hPB, Nat.mul_assoc, Nat.add_mul_div_left _ _ hP, Nat.add_mul_mod_self_left, Nat.mod_mul_right_div_self, Nat.mod_mod, hs]
  · rw [show i + k + 1 = i + (k + 1) by omega, mV_hi hB, show i + (k + 1) = i + k + 1 by omega, Nat.pow_succ, ← Nat.div_div_eq_div_mul, ← Nat.div_div_eq_div_mul, mV_hi hB]
theorem mV_zero {B : Nat} (V W i : Nat) : mV B V W i 0 = (V % B ^ i) * W := by
  rw [mV, mT, Nat.pow_zero, Nat.mod_one, Nat.mul_zero, Nat.add_zero, Nat.add_zero, Nat.mod_mod, Nat.mod_add_div]
theorem mC_zero {B : Nat} (hB : 0 < B) (V W i : Nat) : mC B V W i 0 = 0 := by
  rw [mC, mT, Nat.pow_zero, Nat.mod_one, Nat.mul_zero, Nat.add_zero, Nat.add_zero]
  exact Nat.div_eq_of_lt (Nat.mod_lt _ (Nat.pow_pos hB))
theorem mV_end {B : Nat} (hB : 0 < B) {V W i n N : Nat} (hW : W < B ^ n) (h : i + n < N) : (dig B N (mV B V W i n)).set (i + n) ((0 + mC B V W i n) % B) = dig B N ((V % B ^ (i + 1)) * W) := by
  have hP : 0 < B ^ (i + n) := Nat.pow_pos hB
  have hp : (V % B ^ i) * W < B ^ (i + n) := by
    have h1 : V % B ^ i < B ^ i := Nat.mod_lt _ (Nat.pow_pos hB)
    rw [Nat.pow_add]
    by_cases h0 : W = 0
    · subst h0; rw [Nat.mul_zero]; exact Nat.mul_pos (Nat.pow_pos hB) (Nat.pow_pos hB)
    · calc (V % B ^ i) * W < B ^ i * W := Nat.mul_lt_mul_of_pos_right h1 (by omega)
        _ ≤ B ^ i * B ^ n := Nat.mul_le_mul_left _ (Nat.le_of_lt hW)
  have hT : mT B V W i n = (V % B ^ (i + 1)) * W := by
    rw [mT, Nat.mod_eq_of_lt hp, Nat.mod_eq_of_lt hW, mod_pow_step, Nat.add_mul]
  have hlt := mT_lt hB V W i n
  rw [hT] at hlt
  refine dig_put hB h (Nat.mod_lt _ hB) ?_ ?_ ?_
  · rw [mV_lo, hT]
  · rw [Nat.zero_add, mC, hT]
  · rw [Nat.pow_succ B (i + n), Nat.div_eq_of_lt hlt, ← Nat.div_div_eq_div_mul, mV_hi hB, Nat.div_eq_of_lt hp, Nat.zero_div]
def sT (B V f e i : Nat) : Nat := V % B ^ i * f + e
def sC (B V f e i : Nat) : Nat := sT B V f e i / B ^ i
theorem sC_zero (B V f e : Nat) : sC B V f e 0 = e := by simp [sC, sT, Nat.mod_one]
theorem sT_step (B V f e i : Nat) : sT B V f e (i + 1) = sT B V f e i + B ^ i * (V / B ^ i % B * f) := by
  unfold sT
  rw [mod_pow_step, Nat.add_mul, Nat.mul_assoc]; omega
theorem sC_step {B : Nat} (hB : 0 < B) (V f e i : Nat) : (V / B ^ i % B * f + sC B V f e i) / B = sC B V f e (i + 1) := by
  have hP : 0 < B ^ i := Nat.pow_pos hB
  rw [sC, sC, sT_step, Nat.pow_succ, ← Nat.div_div_eq_div_mul, Nat.add_mul_div_left _ _ hP]
  congr 1; omega
theorem sC_dig {B : Nat} (hB : 0 < B) (V f e i : Nat) : (V / B ^ i % B * f + sC B V f e i) % B = (V * f + e) / B ^ i % B := by
  have hP : 0 < B ^ i := Nat.pow_pos hB
  have h1 : V * f + e = sT B V f e (i + 1) + B ^ i * (B * (V / B ^ (i + 1) * f)) := by
    have e1 := Nat.mod_add_div V (B ^ (i + 1))
    unfold sT
    conv => lhs; rw [← e1, Nat.add_mul]
    rw [Nat.pow_succ, Nat.mul_assoc, Nat.mul_assoc]; omega
  rw [h1, Nat.add_mul_div_left _ _ hP, Nat.add_mul_mod_self_left, sT_step, Nat.add_mul_div_left _ _ hP, sC, Nat.add_comm]
theorem sC_lt {B : Nat} (hB : 0 < B) {V f e : Nat} (hf : f < B) (he : e < B) (i : Nat) : sC B V f e i < B := by
  have hP : 0 < B ^ i := Nat.pow_pos hB
  rw [sC, Nat.div_lt_iff_lt_mul hP]
  have h1 : V % B ^ i ≤ B ^ i - 1 := by have := Nat.mod_lt V hP; omega
  have h2 : V % B ^ i * f ≤ (B ^ i - 1) * (B - 1) := Nat.mul_le_mul h1 (by omega)
  obtain ⟨p, hp⟩ : ∃ p, B ^ i = p + 1 := ⟨B ^ i - 1, by omega⟩
  obtain ⟨b, rfl⟩ : ∃ b, B = b + 1 := ⟨B - 1, by omega⟩
  unfold sT
  rw [hp] at h2 ⊢
  rw [Nat.add_sub_cancel, Nat.add_sub_cancel] at h2
  have h3 : (b + 1) * (p + 1) = p * b + b + p + 1 := by rw [Nat.add_mul, Nat.mul_add, Nat.mul_comm b p]; omega
  omega
theorem sC_end {B V f e i : Nat} (h : V < B ^ i) : sC B V f e i = (V * f + e) / B ^ i := by rw [sC, sT, Nat.mod_eq_of_lt h]
def sU (B V f e i : Nat) : Nat := sT B V f e i % B ^ i + B ^ i * (V / B ^ i)
def qU (B V d n : Nat) : Nat := V % B ^ n + B ^ n * (V / B ^ n / d)
theorem qU_zero (B V d : Nat) : qU B V d 0 = V / d := by simp [qU, Nat.mod_one]
theorem qU_top {B V d n : Nat} (h : V < B ^ n) : qU B V d n = V := by simp [qU, Nat.mod_eq_of_lt h, Nat.div_eq_of_lt h]
theorem q_split (B V m : Nat) : V / B ^ m = B * (V / B ^ (m + 1)) + V / B ^ m % B := by rw [Nat.pow_succ, ← Nat.div_div_eq_div_mul, Nat.div_add_mod]
theorem q_num {B d : Nat} (V m : Nat) : V / B ^ m = (V / B ^ (m + 1) % d * B + V / B ^ m % B) + d * (B * (V / B ^ (m + 1) / d)) := by
  have h1 := q_split B V m
  have h2 := Nat.mod_add_div (V / B ^ (m + 1)) d
  generalize V / B ^ (m + 1) = q at *
  generalize V / B ^ m % B = y at *
  rw [h1]
  conv => lhs; rw [← h2]
  rw [Nat.mul_add, Nat.mul_left_comm B d, Nat.mul_comm B (q % d)]; omega
theorem q_div {B d : Nat} (hd : 0 < d) (V m : Nat) : V / B ^ m / d = B * (V / B ^ (m + 1) / d) + (V / B ^ (m + 1) % d * B + V / B ^ m % B) / d := by
  conv => lhs; rw [q_num (B := B) (d := d) V m]
  rw [Nat.add_mul_div_left _ _ hd, Nat.add_comm]
theorem q_mod {B d : Nat} (V m : Nat) : V / B ^ m % d = (V / B ^ (m + 1) % d * B + V / B ^ m % B) % d := by
  conv => lhs; rw [q_num (B := B) (d := d) V m]
  rw [Nat.add_mul_mod_self_left]
theorem q_lt {B d : Nat} (hB : 0 < B) (hd : 0 < d) (V m : Nat) : V / B ^ (m + 1) % d * B + V / B ^ m % B < d * B := by
  have h1 := Nat.mod_lt (V / B ^ (m + 1)) hd
  have h2 := Nat.mod_lt (V / B ^ m) hB
  have h3 : (V / B ^ (m + 1) % d + 1) * B ≤ d * B := Nat.mul_le_mul_right _ h1
  rw [Nat.add_mul] at h3; omega
theorem qU_hi {B : Nat} (hB : 0 < B) (V d n : Nat) : qU B V d n / B ^ n = V / B ^ n / d := by
  have hP : 0 < B ^ n := Nat.pow_pos hB
  rw [qU, Nat.add_mul_div_left _ _ hP, Nat.div_eq_of_lt (Nat.mod_lt _ hP), Nat.zero_add]
theorem qU_lo (B V d n : Nat) : qU B V d n % B ^ n = V % B ^ n := by rw [qU, Nat.add_mul_mod_self_left, Nat.mod_mod]
theorem qU_low1 {B : Nat} (V d m : Nat) : qU B V d (m + 1) % B ^ m = V % B ^ m := by
  rw [qU, Nat.pow_succ, Nat.mul_assoc, Nat.add_mul_mod_self_left, Nat.mod_mul_right_mod]
theorem qU_dig {B : Nat} (hB : 0 < B) {V d m N : Nat} (h : m < N) : (dig B N (qU B V d (m + 1)))[m]? = some (V / B ^ m % B) := by
  have hP : 0 < B ^ m := Nat.pow_pos hB
  rw [dig_get _ _ _ h, qU, Nat.pow_succ, Nat.mul_assoc, Nat.add_mul_div_left _ _ hP, Nat.add_mul_mod_self_left, Nat.mod_mul_right_div_self, Nat.mod_mod]
theorem qU_step {B : Nat} (hB : 0 < B) {V d m N : Nat} (hd : 0 < d) (h : m < N) : (dig B N (qU B V d (m + 1))).set m ((V / B ^ (m + 1) % d * B + V / B ^ m % B) / d) = dig B N (qU B V d m) := by
  have hx : (V / B ^ (m + 1) % d * B + V / B ^ m % B) / d < B := by rw [Nat.div_lt_iff_lt_mul hd, Nat.mul_comm B d]; exact q_lt hB hd V m
  have hq := q_div (B := B) hd V m
  refine dig_put hB h hx ?_ ?_ ?_
  · rw [qU_lo, qU_low1]
  · rw [qU_hi hB, hq, Nat.mul_add_mod, Nat.mod_eq_of_lt hx]
  · rw [qU_hi hB, Nat.pow_succ, ← Nat.div_div_eq_div_mul, qU_hi hB, hq, Nat.mul_add_div hB, Nat.div_eq_of_lt hx, ← Nat.pow_succ]; rfl
end Go.Fw
namespace Go.Fw
theorem can_one {B v : Nat} (hB : 2 ≤ B) (h0 : v ≠ 0) (h : v < B) : can B v = [v] := by
  have := can_of hB (l := []) h0 (by simpa using h)
  simpa [val] using this.symm
theorem can_two {B v : Nat} (hB : 2 ≤ B) (h0 : v / B ≠ 0) (h : v < B * B) : can B v = [v % B, v / B] := by
  have h1 : v / B < B := by rw [Nat.div_lt_iff_lt_mul (by omega)]; exact h
  have h2 : v % B < B := Nat.mod_lt _ (by omega)
  have := can_of hB (l := [v % B]) h0 (by simp; exact ⟨h2, h1⟩)
  simp only [List.cons_append, List.nil_append, val, Nat.mul_zero, Nat.add_zero] at this
  rw [Nat.mod_add_div] at this
  exact this.symm
theorem get_val {B : Nat} {l : List Nat} (h : ∀ x ∈ l, x < B) {i : Nat} (hi : i < l.length) : l[i]? = some (val B l / B ^ i % B) := by
  rw [← val_getD l h i]; simp [List.getD, hi]
def cmpN (v w : Nat) : Int := if v < w then -1 else if v = w then 0 else 1
theorem cmpN_lt {v w : Nat} (h : v < w) : cmpN v w = -1 := by simp [cmpN, h]
theorem cmpN_eq (v : Nat) : cmpN v v = 0 := by simp [cmpN]
theorem cmpN_gt {v w : Nat} (h : w < v) : cmpN v w = 1 := by
  have h1 : ¬ v < w := by omega
  have h2 : ¬ v = w := by omega
  simp [cmpN, h1, h2]
theorem can_lt_len {B v w : Nat} (hB : 2 ≤ B) (h : (can B v).length < (can B w).length) : v < w :=
  Nat.lt_of_lt_of_le (lt_can_len hB v) (pow_le_of_can hB h)
theorem div_step (B v m : Nat) : v / B ^ m = B * (v / B ^ (m + 1)) + v / B ^ m % B := by
  rw [Nat.pow_succ, ← Nat.div_div_eq_div_mul, Nat.div_add_mod]
theorem lt_of_div {B v w m : Nat} (h : v / B ^ m < w / B ^ m) : v < w := by
  rcases Nat.lt_or_ge v w with h1 | h1
  · exact h1
  · have := Nat.div_le_div_right (c := B ^ m) h1; omega
theorem dig_cases {B v w m : Nat} (h : v / B ^ (m + 1) = w / B ^ (m + 1)) : (v / B ^ m % B = w / B ^ m % B ∧ v / B ^ m = w / B ^ m) ∨ (v / B ^ m % B < w / B ^ m % B ∧ v < w) ∨ (w / B ^ m % B < v / B ^ m % B ∧ w < v) := by
  have h1 := div_step B v m
  have h2 := div_step B w m
  rw [← h] at h2
  rcases Nat.lt_trichotomy (v / B ^ m % B) (w / B ^ m % B) with h3 | h3 | h3
  · exact .inr (.inl ⟨h3, lt_of_div (B := B) (m := m) (by omega)⟩)
  · exact .inl ⟨h3, by omega⟩
  · exact .inr (.inr ⟨h3, lt_of_div (B := B) (m := m) (by omega)⟩)
end Go.Fw
namespace Go.Proofs.YthgkgjogdgdcgaaGreat
open Go.Fw
theorem trim_eq (l : List Nat) (hl : l.length ≤ 1000000000000) : whole_trim_m l = some (trimW l) := by
  unfold whole_trim_m
  refine bind_loop (fun y => y.length ≤ 1000000000000 ∧ trimW y = trimW l) (fun e => e = trimW l) (fun y => y.length) ?_ ⟨hl, rfl⟩ (fun e he => by rw [he])
  rintro y ⟨hy, ht⟩
  rcases trim_cases y with rfl | ⟨ys, rfl⟩ | ⟨ys, x, hx, rfl⟩
  · right; exact ⟨[], by simp [letJ], ht⟩
  · left
    have h1 : ((ys ++ [0]).length : Int) = ((ys.length + 1 : Nat) : Int) := by simp
    have h2 : ys.length ≤ 9223372036854775807 := by simp at hy; omega
    refine ⟨ys, ?_, ⟨by simp at hy ⊢; omega, by rw [← ht, trimW_zero]⟩, by simp⟩
    simp only [letJ, Option.bind_some, h1, w64_pred h2]
    rw [geti_nat (a := 0) (by simp), subM_zero (by simp)]
    simp
  · right
    have h1 : ((ys ++ [x]).length : Int) = ((ys.length + 1 : Nat) : Int) := by simp
    have h2 : ys.length ≤ 9223372036854775807 := by simp at hy; omega
    refine ⟨ys ++ [x], ?_, by rw [← ht, trimW_last _ hx]⟩
    simp only [letJ, Option.bind_some, h1, w64_pred h2]
    rw [geti_nat (a := x) (by simp)]
    simp [hx]
def zc (n : Bool) (v : Nat) : Zr := ⟨n && v != 0, can 4294967296 v⟩
theorem zc_zero (n : Bool) : zc n 0 = ⟨false, []⟩ := by simp [zc, can_zero]
theorem zc_pos (n : Bool) {v : Nat} (h : v ≠ 0) : zc n v = ⟨n, can 4294967296 v⟩ := by simp [zc, h]
def W32 (l : List Nat) : Prop := (∀ x ∈ l, x < 4294967296) ∧ l.length ≤ 100000000000
abbrev vl (l : List Nat) : Nat := val 4294967296 l
theorem build_eq (n : Bool) (l : List Nat) (h : W32 l) : whole_build_m n l = some (zc n (vl l)) := by
  unfold whole_build_m
  rw [trim_eq l (by have := h.2; omega), trim_can (by decide) h.1]
  show _ = some (zc n (val 4294967296 l))
  by_cases hz : val 4294967296 l = 0
  · rw [hz, zc_zero]; simp [can_zero]
  · have : can 4294967296 (val 4294967296 l) ≠ [] := fun e => hz (can_nil (by decide) e)
    rw [zc_pos _ hz]; simp [this]
theorem small_eq (n : Bool) (v : Nat) (h : v < 18446744073709551616) : whole_small_m n v = some (zc n v) := by
  unfold whole_small_m
  by_cases hz : v = 0
  · subst hz; simp [zc_zero]
  · rw [zc_pos _ hz]
    by_cases h1 : v / 2 ^ 32 = 0
    · rw [can_one (by decide) hz (by omega)]
      simp only [Option.bind_some, hz, h1, decide_false, decide_true, cond_false, cond_true]
      rw [Nat.mod_eq_of_lt (by omega)]
    · rw [can_two (by decide) (by omega) (by omega)]
      simp only [Option.bind_some, hz, h1, decide_false, cond_false]
      rw [Nat.mod_eq_of_lt (a := v / 2 ^ 32) (by omega)]
theorem or_add {a b s : Nat} (h : a < 2 ^ s) : a ||| b * 2 ^ s = a + b * 2 ^ s := by
  rw [Nat.or_comm, Nat.mul_comm b, ← Nat.two_pow_add_eq_or_of_lt h, Nat.add_comm]
theorem low_eq (l : List Nat) (h : ∀ x ∈ l, x < 4294967296) (hl : l.length ≤ 2) : whole_low_m l = some (vl l) := by
  rcases l with _ | ⟨x, _ | ⟨y, _ | ⟨z, l⟩⟩⟩
  · simp [whole_low_m, vl, val]
  · have hx := h x (by simp)
    simp only [whole_low_m, geti_zero (l := [x]) (a := x) rfl]
    simp [vl, val]; omega
  · have hx := h x (by simp)
    have hy := h y (by simp)
    simp only [whole_low_m, geti_zero (l := [x, y]) (a := x) rfl, geti_one (l := [x, y]) (a := y) rfl, Option.bind_some]
    rw [Nat.mod_eq_of_lt (a := x) (by omega), Nat.mod_eq_of_lt (a := y) (by omega), Nat.mod_eq_of_lt (a := y * 2 ^ 32) (by omega), or_add (by omega), Nat.mod_eq_of_lt (by omega)]
    simp [vl, val]; omega
  · simp at hl
theorem carrier_eq (x c : Nat) (h : x + c < 18446744073709551616) : whole_carrier_1_m x c = some ((x + c) % 4294967296, (x + c) / 4294967296) := by
  simp [whole_carrier_1_m, Nat.mod_eq_of_lt h]
theorem compareWords_eq (v w : Nat) (hv : (can 4294967296 v).length ≤ 100000000000) (hw : (can 4294967296 w).length ≤ 100000000000) : whole_compareWords_m (can 4294967296 v) (can 4294967296 w) = some (cmpN v w) := by
  unfold whole_compareWords_m
  rcases Nat.lt_trichotomy (can 4294967296 v).length (can 4294967296 w).length with hl | hl | hl
  · rw [cmpN_lt (can_lt_len (by decide) hl)]
    simp only [Option.bind_some]
    rw [show decide (((can 4294967296 v).length : Int) ≠ ((can 4294967296 w).length : Int)) = true by simp; omega, show decide (((can 4294967296 v).length : Int) < ((can 4294967296 w).length : Int)) = true by simp; omega]; rfl
  · simp only [Option.bind_some]
    rw [show decide (((can 4294967296 v).length : Int) ≠ ((can 4294967296 w).length : Int)) = false by simp; omega, cond_false]
    refine bind_loop (fun y => ∃ n : Nat, y = (n : Int) - 1 ∧ n ≤ (can 4294967296 v).length ∧ v / 4294967296 ^ n = w / 4294967296 ^ n) (fun e => e = (if v = w then .inl () else .inr (cmpN v w))) (fun y => (y + 1).toNat) ?_ ⟨(can 4294967296 v).length, ?_, Nat.le_refl _, ?_⟩ ?_
    · rintro y ⟨n, rfl, hn, he⟩
      cases n with
      | zero =>
        right
        have : v = w := by simpa using he
        subst this
        exact ⟨_, by simp, rfl⟩
      | succ m =>
        have hgv := can_get (B := 4294967296) (by decide) (v := v) (j := m) (by omega)
        have hgw := can_get (B := 4294967296) (by decide) (v := w) (j := m) (by omega)
        have e0 : ((m + 1 : Nat) : Int) - 1 = (m : Int) := by omega
        rw [e0]
        rcases dig_cases he with ⟨h1, h2⟩ | ⟨h1, h2⟩ | ⟨h1, h2⟩
        · left
          refine ⟨(m : Int) - 1, ?_, ⟨m, rfl, by omega, h2⟩, by omega⟩
          simp only [Option.bind_some, geti_nat hgv, geti_nat hgw, h1]
          rw [w64_id (by omega) (by omega)]
          simp
        · right
          refine ⟨.inr (-1), ?_, by rw [if_neg (by omega), cmpN_lt h2]⟩
          simp only [Option.bind_some, geti_nat hgv, geti_nat hgw]
          simp [h1, Nat.ne_of_lt h1]
        · right
          refine ⟨.inr 1, ?_, by rw [if_neg (by omega), cmpN_gt h2]⟩
          simp only [Option.bind_some, geti_nat hgv, geti_nat hgw]
          simp [Nat.not_lt_of_lt h1, Nat.ne_of_gt h1]
    · rw [w64_id (by omega) (by omega)]
    · rw [can_beyond (by decide) (Nat.le_refl _), can_beyond (by decide) (by omega)]
    · rintro e rfl
      by_cases h : v = w
      · subst h; simp [cmpN_eq]
      · simp [h]
  · rw [cmpN_gt (can_lt_len (by decide) hl)]
    simp only [Option.bind_some]
    rw [show decide (((can 4294967296 v).length : Int) ≠ ((can 4294967296 w).length : Int)) = true by simp; omega, show decide (((can 4294967296 v).length : Int) < ((can 4294967296 w).length : Int)) = false by simp; omega]; rfl
theorem getD_lt {l : List Nat} (h : ∀ x ∈ l, x < 4294967296) (i : Nat) : l.getD i 0 < 4294967296 := by
  rcases Nat.lt_or_ge i l.length with hi | hi
  · exact h _ (List.mem_of_getElem? (get_getD hi))
  · rw [getD_of_le hi]; decide
theorem addWords_eq (a b : List Nat) (ha : W32 a) (hb : W32 b) : whole_addWords_m a b = some (dig 4294967296 (max a.length b.length + 1) (vl a + vl b)) := by
  obtain ⟨hA, hla⟩ := ha
  obtain ⟨hB, hlb⟩ := hb
  have hV : val 4294967296 a < 4294967296 ^ (max a.length b.length) := Nat.lt_of_lt_of_le (val_lt a hA) (Nat.pow_le_pow_right (by decide) (by omega))
  have hW : val 4294967296 b < 4294967296 ^ (max a.length b.length) := Nat.lt_of_lt_of_le (val_lt b hB) (Nat.pow_le_pow_right (by decide) (by omega))
  unfold whole_addWords_m
  simp only [Option.bind_some]
  rw [show max (a.length : Int) (b.length : Int) = ((max a.length b.length : Nat) : Int) by omega, w64_succ (by omega), mkE_of (by decide) (by omega), Option.bind_some]
  refine bind_range (fun k => (cry 4294967296 (vl a) (vl b) k, dig 4294967296 k (vl a + vl b))) (by simp [cry_zero, dig]) (fun k hk => ?_) ?_
  · have hx := getD_lt hA k
    have hy := getD_lt hB k
    have hc := cry_le (B := 4294967296) (by decide) (vl a) (vl b) k
    have hxe := val_getD a hA k
    have hye := val_getD b hB k
    simp only [Option.bind_some]
    rw [Nat.mod_eq_of_lt (a := a.getD k 0) (by omega), Nat.mod_eq_of_lt (a := b.getD k 0) (by omega), Nat.mod_eq_of_lt (a := a.getD k 0 + b.getD k 0) (by omega), carrier_eq _ _ (by omega)]
    simp only [Option.bind_some]
    rw [apM1 (by decide) (by rw [dig_len]; omega), Option.bind_some, hxe, hye, cry_step (by decide), cry_dig (by decide), ← dig_succ]
  · have hc := cry_le (B := 4294967296) (by decide) (vl a) (vl b) (max a.length b.length)
    simp only
    rw [carrier_eq _ _ (by omega)]
    simp only [Option.bind_some]
    rw [apM1 (by decide) (by rw [dig_len]; omega), Option.bind_some, Nat.zero_add, cry_end hV hW, ← dig_succ]
theorem subWords_eq (a b : List Nat) (ha : W32 a) (hb : W32 b) (hl : b.length ≤ a.length) (hle : vl b ≤ vl a) : whole_subWords_m a b = some (dig 4294967296 a.length (vl a - vl b)) := by
  obtain ⟨hA, hla⟩ := ha
  obtain ⟨hB, hlb⟩ := hb
  have hmx : max a.length b.length = a.length := by omega
  unfold whole_subWords_m
  simp only [Option.bind_some]
  rw [mkE_of (by decide) (by omega), Option.bind_some, hmx]
  refine bind_range (fun k => (lnd 4294967296 (vl a) (vl b) k, dig 4294967296 k (vl a - vl b))) (by simp [lnd_zero, dig]) (fun k hk => ?_) rfl
  have hx := getD_lt hA k
  have hy := getD_lt hB k
  have hc := lnd_le (B := 4294967296) (by decide) (vl a) (vl b) k
  have hxe := val_getD a hA k
  have hye := val_getD b hB k
  simp only [Option.bind_some]
  rw [Nat.mod_eq_of_lt (a := a.getD k 0) (by omega), Nat.mod_eq_of_lt (a := b.getD k 0) (by omega), usub_of (by omega) (by omega), Nat.mod_eq_of_lt (a := a.getD k 0 + (4294967295 - b.getD k 0)) (by omega), carrier_eq _ _ (by omega)]
  simp only [Option.bind_some]
  rw [apM1 (by decide) (by rw [dig_len]; omega), Option.bind_some, hxe, hye, lnd_step (B := 4294967296) (by decide), lnd_dig (B := 4294967296) (by decide) hle, ← dig_succ]
theorem mulWords_eq (a b : List Nat) (ha : W32 a) (hb : W32 b) : whole_mulWords_m a b = some (dig 4294967296 (a.length + b.length) (vl a * vl b)) := by
  obtain ⟨hA, hla⟩ := ha
  obtain ⟨hB, hlb⟩ := hb
  unfold whole_mulWords_m
  simp only [Option.bind_some]
  rw [w64_add (by omega), mkM_of (by decide) (by omega), Option.bind_some]
  refine bind_loop_to (fun i => ((i : Int), dig 4294967296 (a.length + b.length) (vl a % 4294967296 ^ i * vl b))) a.length (dig 4294967296 (a.length + b.length) (vl a % 4294967296 ^ a.length * vl b)) (by simp [Nat.mod_one, dig_zero]) (fun i hi => ?_) (by simp) (by rw [Nat.mod_eq_of_lt (val_lt a hA)])
  have hgx := get_val hA hi
  have hx : val 4294967296 a / 4294967296 ^ i % 4294967296 < 4294967296 := Nat.mod_lt _ (by decide)
  simp only [Option.bind_some, show decide ((i : Int) < (a.length : Int)) = true by simp; omega, cond_true]
  rw [geti_nat hgx, Option.bind_some]
  refine bind_loop_to (fun k => ((k : Int), mC 4294967296 (vl a) (vl b) i k, dig 4294967296 (a.length + b.length) (mV 4294967296 (vl a) (vl b) i k))) b.length (mC 4294967296 (vl a) (vl b) i b.length, dig 4294967296 (a.length + b.length) (mV 4294967296 (vl a) (vl b) i b.length)) (by simp [mC_zero, mV_zero]) (fun k hk => ?_) (by simp) ?_
  · have hgy := get_val hB hk
    have hgp := mV_dig (B := 4294967296) (by decide) (V := vl a) (W := vl b) (i := i) (k := k) (N := a.length + b.length) (by omega)
    have hy : val 4294967296 b / 4294967296 ^ k % 4294967296 < 4294967296 := Nat.mod_lt _ (by decide)
    have hp : vl a % 4294967296 ^ i * vl b / 4294967296 ^ (i + k) % 4294967296 < 4294967296 := Nat.mod_lt _ (by decide)
    have hc := mC_lt (B := 4294967296) (by decide) (vl a) (vl b) i k
    have hxy : val 4294967296 a / 4294967296 ^ i % 4294967296 * (val 4294967296 b / 4294967296 ^ k % 4294967296) ≤ 4294967295 * 4294967295 := Nat.mul_le_mul (by omega) (by omega)
    simp only [Option.bind_some, show decide ((k : Int) < (b.length : Int)) = true by simp; omega, cond_true]
    rw [geti_nat hgy, Option.bind_some, w64_add (by omega), cki_nat (by rw [dig_len]; omega), Option.bind_some, hgp, Option.bind_some]
    rw [Nat.mod_eq_of_lt (a := vl a % 4294967296 ^ i * vl b / 4294967296 ^ (i + k) % 4294967296) (by omega), Nat.mod_eq_of_lt (a := val 4294967296 a / 4294967296 ^ i % 4294967296) (b := 18446744073709551616) (by omega), Nat.mod_eq_of_lt (a := val 4294967296 b / 4294967296 ^ k % 4294967296) (b := 18446744073709551616) (by omega), Nat.mod_eq_of_lt (a := val 4294967296 a / 4294967296 ^ i % 4294967296 * (val 4294967296 b / 4294967296 ^ k % 4294967296)) (by omega), Nat.mod_eq_of_lt (a := vl a % 4294967296 ^ i * vl b / 4294967296 ^ (i + k) % 4294967296 + _) (by omega), carrier_eq _ _ (by omega)]
    simp only [Option.bind_some]
    rw [stM_of (by rw [dig_len]; omega), Option.bind_some, mC_step (B := 4294967296) (by decide), mV_step (B := 4294967296) (by decide) (by omega), w64_succ (by omega)]
  · have hc := mC_lt (B := 4294967296) (by decide) (vl a) (vl b) i b.length
    simp only [Option.bind_some]
    rw [w64_add (by omega), carrier_eq _ _ (by omega)]
    simp only [Option.bind_some]
    rw [cki_nat (by rw [dig_len]; omega), Option.bind_some, stM_of (by rw [dig_len]; omega), Option.bind_some, mV_end (B := 4294967296) (by decide) (val_lt b hB) (by omega), w64_succ (by omega)]
end Go.Proofs.YthgkgjogdgdcgaaGreat
namespace Go.Proofs.YthgkgjogdgdcgaaGreat
open Go.Fw
theorem or_add' {a b s : Nat} (h : a < 2 ^ s) : b * 2 ^ s ||| a = b * 2 ^ s + a := by rw [Nat.or_comm, or_add h, Nat.add_comm]
theorem or32' {a b : Nat} (h : a < 4294967296) : b * 4294967296 ||| a = b * 4294967296 + a := or_add' (s := 32) h
theorem shortDiv_eq (a : List Nat) (d : Nat) (ha : W32 a) (hd : 0 < d) (hd2 : d ≤ 4294967296) : whole_shortDiv_m a d = some (vl a % d, dig 4294967296 a.length (vl a / d)) := by
  obtain ⟨hA, hla⟩ := ha
  unfold whole_shortDiv_m
  simp only [Option.bind_some]
  rw [w64_id (by omega) (by omega)]
  refine bind_loop_to (fun i => (vl a / 4294967296 ^ (a.length - i) % d, ((a.length - i : Nat) : Int) - 1, dig 4294967296 a.length (qU 4294967296 (vl a) d (a.length - i)))) a.length (vl a % d, dig 4294967296 a.length (vl a / d)) ?_ (fun i hi => ?_) (by simp [qU_zero]) ?_
  · simp only [Nat.sub_zero]
    rw [qU_top (val_lt a hA), dig_val a hA, Nat.div_eq_of_lt (val_lt a hA), Nat.zero_mod]
  · obtain ⟨m, hm⟩ : ∃ m, a.length - i = m + 1 := ⟨a.length - i - 1, by omega⟩
    have hm' : a.length - (i + 1) = m := by omega
    have hml : m < a.length := by omega
    rw [hm, hm']
    have hy : vl a / 4294967296 ^ m % 4294967296 < 4294967296 := Nat.mod_lt _ (by decide)
    have hr : vl a / 4294967296 ^ (m + 1) % d < d := Nat.mod_lt _ hd
    have hq := q_lt (B := 4294967296) (by decide) hd (vl a) m
    have hqd : (vl a / 4294967296 ^ (m + 1) % d * 4294967296 + vl a / 4294967296 ^ m % 4294967296) / d < 4294967296 := by rw [Nat.div_lt_iff_lt_mul hd, Nat.mul_comm 4294967296 d]; exact hq
    have hg := qU_dig (B := 4294967296) (by decide) (V := vl a) (d := d) (m := m) (N := a.length) hml
    have hlt : vl a / 4294967296 ^ (m + 1) % d * 4294967296 + vl a / 4294967296 ^ m % 4294967296 < 18446744073709551616 := by omega
    have hs1 : vl a / 4294967296 ^ (m + 1) % d * 4294967296 < 18446744073709551616 := Nat.lt_of_le_of_lt (Nat.le_add_right _ _) hlt
    have hs2 : vl a / 4294967296 ^ m % 4294967296 < 18446744073709551616 := Nat.lt_of_le_of_lt (Nat.le_add_left _ _) hlt
    have hi1 : ((m + 1 : Nat) : Int) - 1 = (m : Int) := by omega
    simp only [hi1, show decide ((0 : Int) ≤ (m : Int)) = true by simp, cond_true, Option.bind_some]
    rw [cki_nat (by rw [dig_len]; omega), Option.bind_some, hg]
    simp only [Option.bind_some]
    rw [show (2 : Nat) ^ 32 = 4294967296 from rfl]
    rw [Nat.mod_eq_of_lt (a := vl a / 4294967296 ^ (m + 1) % d * 4294967296) hs1, Nat.mod_eq_of_lt (a := vl a / 4294967296 ^ m % 4294967296) (b := 18446744073709551616) hs2, or32' hy, Nat.mod_eq_of_lt (a := vl a / 4294967296 ^ (m + 1) % d * 4294967296 + vl a / 4294967296 ^ m % 4294967296) hlt, uquo_of (by omega) hlt, urem_of (by omega)]
    simp only [Option.bind_some]
    rw [Nat.mod_eq_of_lt (b := 4294967296) (a := (vl a / 4294967296 ^ (m + 1) % d * 4294967296 + vl a / 4294967296 ^ m % 4294967296) / d) hqd, stM_of (by rw [dig_len]; omega), Option.bind_some, w64_id (by omega) (by omega)]
    rw [qU_step (B := 4294967296) (by decide) hd hml, ← q_mod (B := 4294967296) (d := d) (vl a) m]
  · simp only
    rw [eqLen_of (by rw [dig_len]), Option.bind_some]
theorem shiftLeft_eq (a : List Nat) (s : Nat) (ha : W32 a) (hs : s < 32) : whole_shiftLeft_m a s = some (dig 4294967296 (a.length + 1) (vl a * 2 ^ s)) := by
  obtain ⟨hA, hla⟩ := ha
  have hf : 2 ^ s < 4294967296 := by
    have : 2 ^ s < 2 ^ 32 := Nat.pow_lt_pow_right (by decide) hs
    omega
  unfold whole_shiftLeft_m
  simp only [Option.bind_some]
  rw [w64_succ (by omega), mkE_of (by decide) (by omega), Option.bind_some]
  refine bind_loop_to (fun i => ((i : Int), sC 4294967296 (vl a) (2 ^ s) 0 i, dig 4294967296 i (vl a * 2 ^ s + 0))) a.length (sC 4294967296 (vl a) (2 ^ s) 0 a.length, dig 4294967296 a.length (vl a * 2 ^ s + 0)) (by simp [sC_zero, dig]) (fun i hi => ?_) (by simp) ?_
  · have hx : vl a / 4294967296 ^ i % 4294967296 < 4294967296 := Nat.mod_lt _ (by decide)
    have hc := sC_lt (B := 4294967296) (by decide) (V := vl a) hf (show (0 : Nat) < 4294967296 by decide) i
    have hxf : vl a / 4294967296 ^ i % 4294967296 * 2 ^ s ≤ 4294967295 * 4294967295 := Nat.mul_le_mul (by omega) (by omega)
    have hg : a[i]? = some (vl a / 4294967296 ^ i % 4294967296) := get_val hA hi
    simp only [show decide ((i : Int) < (a.length : Int)) = true by simp; omega, cond_true]
    rw [geti_nat hg]
    simp only [Option.bind_some]
    rw [show min s 64 = s by omega, Nat.mod_eq_of_lt (a := vl a / 4294967296 ^ i % 4294967296) (b := 18446744073709551616) (by omega), Nat.mod_eq_of_lt (b := 18446744073709551616) (by omega), carrier_eq _ _ (by omega)]
    simp only [Option.bind_some]
    rw [apM1 (by decide) (by rw [dig_len]; omega), Option.bind_some, sC_step (B := 4294967296) (by decide), sC_dig (B := 4294967296) (by decide), w64_succ (by omega), ← dig_succ]
  · have hc := sC_lt (B := 4294967296) (by decide) (V := vl a) hf (show (0 : Nat) < 4294967296 by decide) a.length
    simp only
    rw [carrier_eq _ _ (by omega)]
    simp only [Option.bind_some]
    rw [apM1 (by decide) (by rw [dig_len]; omega), Option.bind_some, Nat.zero_add, sC_end (val_lt a hA), ← dig_succ]
    simp
theorem shiftLeftN_eq (a : List Nat) (s : Nat) : whole_shiftLeftN_m a s = whole_shiftLeft_m a s := rfl
def lenTab : Str := [0, 1, 2, 2, 3, 3, 3, 3, 4, 4, 4, 4, 4, 4, 4, 4, 5, 5, 5, 5, 5, 5, 5, 5, 5, 5, 5, 5, 5, 5, 5, 5] ++ List.replicate 32 6 ++ List.replicate 64 7 ++ List.replicate 128 8
theorem tab_ok : ∀ y : Nat, y < 256 → sgeti lenTab (y : Int) = some ((sgeti lenTab (y : Int)).getD 0) ∧ (sgeti lenTab (y : Int)).getD 0 ≤ 8 ∧ y < 2 ^ (sgeti lenTab (y : Int)).getD 0 ∧ (y = 0 ∨ 2 ^ (sgeti lenTab (y : Int)).getD 0 ≤ 2 * y) := by decide +kernel
set_option maxRecDepth 20000 in
theorem len32_eq (x : Nat) (h : x < 4294967296) : ∃ n : Nat, math_bits_Len32_m x = some (n : Int) ∧ n ≤ 32 ∧ x < 2 ^ n ∧ (x = 0 ∨ 2 ^ n ≤ 2 * x) := by
  have key : ∀ (y k : Nat), y < 256 → y = x / 2 ^ k → k ≤ 24 → (x ≠ 0 → y ≠ 0) → ∃ n : Nat, (((sgeti lenTab ((y % 256 : Nat) : Int)).bind fun x16 => (some (IntKind.i64.wrap (x16 : Int))).bind fun x17 => (some (IntKind.i64.wrap ((k : Int) + x17))).bind fun x18 => some x18) = some (n : Int)) ∧ n ≤ 32 ∧ x < 2 ^ n ∧ (x = 0 ∨ 2 ^ n ≤ 2 * x) := by
    intro y k hy hyx hk hnz
    obtain ⟨h1, h2, h3, h4⟩ := tab_ok y hy
    rw [Nat.mod_eq_of_lt hy, h1]
    generalize (sgeti lenTab (y : Int)).getD 0 = t at *
    have hp : 0 < 2 ^ k := Nat.two_pow_pos _
    have e1 : 2 ^ (k + t) = 2 ^ k * 2 ^ t := Nat.pow_add ..
    have e2 := Nat.div_add_mod x (2 ^ k)
    have e3 := Nat.mod_lt x hp
    rw [← hyx] at e2
    refine ⟨k + t, ?_, by omega, ?_, ?_⟩
    · simp only [Option.bind_some]
      rw [w64_nat (by omega), w64_add (by omega)]
    · rw [e1]
      have : 2 ^ k * (y + 1) ≤ 2 ^ k * 2 ^ t := Nat.mul_le_mul_left _ h3
      rw [Nat.mul_add] at this
      omega
    · rcases h4 with h4 | h4
      · left
        cases Nat.eq_zero_or_pos x with
        | inl h => exact h
        | inr h => exact absurd h4 (hnz (by omega))
      · right
        rw [e1]
        have : 2 ^ k * 2 ^ t ≤ 2 ^ k * (2 * y) := Nat.mul_le_mul_left _ h4
        rw [show 2 ^ k * (2 * y) = 2 * (2 ^ k * y) by rw [Nat.mul_left_comm]] at this
        omega
  unfold math_bits_Len32_m
  simp only [letJ, Option.bind_some]
  by_cases c1 : 65536 ≤ x
  · rw [show decide (65536 ≤ x) = true by simpa using c1]
    simp only [cond_true]
    by_cases c2 : 256 ≤ x / 2 ^ 16
    · rw [show decide (256 ≤ x / 2 ^ 16) = true by simpa using c2]
      simp only [cond_true]
      rw [show IntKind.i64.wrap (16 + 8) = ((24 : Nat) : Int) by decide]
      exact key (x / 2 ^ 16 / 2 ^ 8) 24 (by omega) (by omega) (by omega) (by omega)
    · rw [show decide (256 ≤ x / 2 ^ 16) = false by simpa using c2]
      simp only [cond_false]
      exact key (x / 2 ^ 16) 16 (by omega) rfl (by omega) (by omega)
  · rw [show decide (65536 ≤ x) = false by simpa using c1]
    simp only [cond_false]
    by_cases c2 : 256 ≤ x
    · rw [show decide (256 ≤ x) = true by simpa using c2]
      simp only [cond_true]
      rw [show IntKind.i64.wrap (0 + 8) = ((8 : Nat) : Int) by decide]
      exact key (x / 2 ^ 8) 8 (by omega) rfl (by omega) (by omega)
    · rw [show decide (256 ≤ x) = false by simpa using c2]
      simp only [cond_false]
      exact key x 0 (by omega) (by simp) (by omega) (fun h => h)
theorem lz_eq (x : Nat) (h : x < 4294967296) (h0 : x ≠ 0) : ∃ s : Nat, math_bits_LeadingZeros32_m x = some (s : Int) ∧ s < 32 ∧ 2147483648 ≤ x * 2 ^ s ∧ x * 2 ^ s < 4294967296 := by
  obtain ⟨n, h1, h2, h3, h4⟩ := len32_eq x h
  have h4 : 2 ^ n ≤ 2 * x := h4.resolve_left h0
  have hn : n ≠ 0 := by rintro rfl; simp at h3; omega
  refine ⟨32 - n, ?_, by omega, ?_, ?_⟩
  · unfold math_bits_LeadingZeros32_m
    rw [h1]
    simp only [Option.bind_some]
    rw [w64_id (by omega) (by omega)]
    congr 1; omega
  · have : 2 ^ n * 2 ^ (32 - n) ≤ 2 * x * 2 ^ (32 - n) := Nat.mul_le_mul_right _ h4
    rw [← Nat.pow_add, show n + (32 - n) = 32 by omega, Nat.mul_assoc] at this
    omega
  · have : x * 2 ^ (32 - n) < 2 ^ n * 2 ^ (32 - n) := Nat.mul_lt_mul_of_pos_right h3 (Nat.two_pow_pos _)
    rw [← Nat.pow_add, show n + (32 - n) = 32 by omega] at this
    omega
end Go.Proofs.YthgkgjogdgdcgaaGreat
namespace Go.Fw
section knuth
variable {B V U W : Nat}
theorem est_ge {P F T : Nat} (hP : 0 < P) (hF : 0 < F) (hV : F * P ≤ V) (hU : U < (T + 1) * P) : U / V ≤ T / F := by
  have hV0 : 0 < V := Nat.lt_of_lt_of_le (Nat.mul_pos hF hP) hV
  rw [Nat.le_div_iff_mul_le hF]
  rcases Nat.lt_or_ge T (U / V * F) with h | h
  · exfalso
    have h1 : U / V * V ≤ U := Nat.div_mul_le_self U V
    have h2 : U / V * (F * P) ≤ U / V * V := Nat.mul_le_mul_left _ hV
    have h3 : (T + 1) * P ≤ U / V * F * P := Nat.mul_le_mul_right _ h
    rw [Nat.mul_assoc] at h3
    omega
  · exact h
theorem est_dec {P F S T u g r : Nat} (hV : (F * B + S) * P ≤ V) (hU : U < (T * B + u + 1) * P) (hgr : g * F + r = T) (h : r * B + u < g * S) : U < g * V := by
  have h1 : g * ((F * B + S) * P) ≤ g * V := Nat.mul_le_mul_left _ hV
  have h2 : (T * B + u + 1) * P ≤ g * (F * B + S) * P := by
    apply Nat.mul_le_mul_right
    rw [Nat.mul_add, ← Nat.mul_assoc, ← hgr, Nat.add_mul]
    omega
  rw [Nat.mul_assoc] at h2
  omega
theorem est_le {P V2 U2 g : Nat} (hV : V < (V2 + 1) * P) (hU : U2 * P ≤ U) (hq : U / V < B) (hB : B ≤ V2) (hV0 : 0 < V) (h : g * V2 ≤ U2) : g ≤ U / V + 1 := by
  rcases Nat.lt_or_ge (U / V + 1) g with h' | h'
  · exfalso
    have h1 : U < (U / V + 1) * V := by have := Nat.lt_div_mul_add (a := U) hV0; rw [Nat.add_mul, Nat.one_mul]; exact this
    have h2 : (U / V + 1) * V ≤ (U / V + 1) * ((V2 + 1) * P) := Nat.mul_le_mul_left _ (Nat.le_of_lt hV)
    have h3 : g * V2 * P ≤ U2 * P := Nat.mul_le_mul_right _ h
    have h4 : (U / V + 2) * V2 ≤ g * V2 := Nat.mul_le_mul_right _ h'
    have h5 : (U / V + 2) * V2 * P ≤ g * V2 * P := Nat.mul_le_mul_right _ h4
    have h6 : (U / V + 1) * ((V2 + 1) * P) ≤ (U / V + 2) * V2 * P := by
      rw [← Nat.mul_assoc]
      apply Nat.mul_le_mul_right
      rw [Nat.mul_add, Nat.add_mul (U / V) 2 V2, Nat.add_mul (U / V) 1 V2]
      omega
    omega
  · exact h'
end knuth
def mix (B o i X U A : Nat) : Nat := A % B ^ o + B ^ o * (X % B ^ i + B ^ i * (U / B ^ i))
theorem mix_low (B o i X U A : Nat) : mix B o i X U A % B ^ o = A % B ^ o := by rw [mix, Nat.add_mul_mod_self_left, Nat.mod_mod]
section mix
variable {B : Nat} (hB : 0 < B) (o i X U A : Nat)
include hB
theorem mix_high : mix B o i X U A / B ^ o = X % B ^ i + B ^ i * (U / B ^ i) := by
  rw [mix, Nat.add_mul_div_left _ _ (Nat.pow_pos hB), Nat.div_eq_of_lt (Nat.mod_lt _ (Nat.pow_pos hB)), Nat.zero_add]
theorem mix_get : mix B o i X U A / B ^ (o + i) = U / B ^ i := by
  rw [Nat.pow_add, ← Nat.div_div_eq_div_mul, mix_high hB, Nat.add_mul_div_left _ _ (Nat.pow_pos hB), Nat.div_eq_of_lt (Nat.mod_lt _ (Nat.pow_pos hB)), Nat.zero_add]
theorem mix_lo2 : mix B o i X U A % B ^ (o + i) = A % B ^ o + B ^ o * (X % B ^ i) := by
  rw [Nat.pow_add, Nat.mod_mul, mix_low, mix_high hB, Nat.add_mul_mod_self_left, Nat.mod_mod]
theorem mix_put {N : Nat} (h : o + i < N) : (dig B N (mix B o i X U A)).set (o + i) (X / B ^ i % B) = dig B N (mix B o (i + 1) X U A) := by
  apply dig_put hB h (Nat.mod_lt _ hB)
  · rw [mix_lo2 hB, Nat.pow_add, Nat.mod_mul, mix_low, mix_high hB, Nat.pow_succ B i, Nat.mul_assoc, Nat.add_mul_mod_self_left, Nat.mod_mul, Nat.add_mul_mod_self_left, Nat.mod_mod]
  · rw [Nat.pow_add, ← Nat.div_div_eq_div_mul, mix_high hB, Nat.pow_succ B i, Nat.mod_mul, Nat.mul_assoc, Nat.add_assoc, ← Nat.mul_add, Nat.add_mul_div_left _ _ (Nat.pow_pos hB), Nat.div_eq_of_lt (Nat.mod_lt _ (Nat.pow_pos hB)), Nat.zero_add, Nat.add_mul_mod_self_left, Nat.mod_mod]
  · have h1 := mix_get hB o (i + 1) X U A
    have h2 := mix_get hB o i X U A
    rw [show o + i + 1 = o + (i + 1) by omega, h1, show o + (i + 1) = (o + i) + 1 by omega, Nat.pow_succ B (o + i), ← Nat.div_div_eq_div_mul, h2, Nat.pow_succ, ← Nat.div_div_eq_div_mul]
end mix
theorem mix_full {B o m X U A : Nat} (hU : U < B ^ m) : mix B o m X U A = A % B ^ o + B ^ o * (X % B ^ m) := by rw [mix, Nat.div_eq_of_lt hU]; simp
theorem mix_self {B : Nat} (o X A : Nat) : mix B o 0 X (A / B ^ o) A = A := by
  simp only [mix, Nat.pow_zero, Nat.mod_one, Nat.zero_add, Nat.one_mul, Nat.div_one]
  exact Nat.mod_add_div A (B ^ o)
theorem lnd_congr {B U U' T i : Nat} (h : U % B ^ i = U' % B ^ i) : lnd B U T i = lnd B U' T i := by rw [lnd, lnd, h]
theorem lnd_dig' {B : Nat} (hB : 0 < B) {U T m i : Nat} (hi : i < m) (hT : T ≤ U + B ^ m) : (U / B ^ i % B + (B - 1 - T / B ^ i % B) + lnd B U T i) % B = (U + B ^ m - T) / B ^ i % B := by
  have e : B ^ m = B ^ i * (B * B ^ (m - i - 1)) := by rw [← Nat.pow_succ', ← Nat.pow_add]; congr 1; omega
  have h1 : (U + B ^ m) % B ^ i = U % B ^ i := by rw [e, Nat.add_mul_mod_self_left]
  have h2 : (U + B ^ m) / B ^ i % B = U / B ^ i % B := by rw [e, Nat.add_mul_div_left _ _ (Nat.pow_pos hB), Nat.add_mul_mod_self_left]
  rw [← h2, lnd_congr (U' := U + B ^ m) h1.symm, lnd_dig hB hT]
theorem lnd_end {B m U T : Nat} (hB : 0 < B) (hU : U < B ^ m) (hT : T < B ^ m) : lnd B U T m = if U < T then 0 else 1 := by
  rw [lnd, Nat.mod_eq_of_lt hU, Nat.mod_eq_of_lt hT]
  have hp : 0 < B ^ m := Nat.pow_pos hB
  split
  · exact Nat.div_eq_of_lt (by omega)
  · rw [show U + B ^ m - T = (U - T) + B ^ m by omega, Nat.add_div_right _ hp, Nat.div_eq_of_lt (by omega)]
end Go.Fw
namespace Go.Proofs.YthgkgjogdgdcgaaGreat
open Go.Fw
theorem digN_get {N A j : Nat} (h : j < N) : (dig 4294967296 N A)[j]? = some (A / 4294967296 ^ j % 4294967296) := dig_get N A j h
theorem two32 : (2 : Nat) ^ 32 = 4294967296 := rfl
theorem two63 : (2 : Nat) ^ 63 = 9223372036854775808 := rfl
theorem win_div (A o j : Nat) : A / 4294967296 ^ (o + j) = A / 4294967296 ^ o / 4294967296 ^ j := by rw [Nat.pow_add, Nat.div_div_eq_div_mul]
theorem estimate_eq {N A o n : Nat} {v : List Nat} (hv : W32 v) (hn : v.length = n + 2) (hN : N ≤ 100000000001) (ho : o + (n + 2) < N)
    (hU : A / 4294967296 ^ o < 4294967296 * vl v) (hnorm : 2147483648 * 4294967296 ^ (n + 1) ≤ vl v) :
    ∃ r, whole_estimate_m (dig 4294967296 N A) o (n + 3) v = some r ∧ r.2 = dig 4294967296 N A ∧ A / 4294967296 ^ o / vl v ≤ r.1 ∧ r.1 ≤ A / 4294967296 ^ o / vl v + 1 := by
  obtain ⟨hV, hlv⟩ := hv
  obtain ⟨U, hUe⟩ : ∃ U, A / 4294967296 ^ o = U := ⟨_, rfl⟩
  obtain ⟨V, hVe⟩ : ∃ V, vl v = V := ⟨_, rfl⟩
  have hVlt : V < 4294967296 ^ (n + 2) := by rw [← hVe, ← hn]; exact val_lt v hV
  have hP1 : 0 < 4294967296 ^ (n + 1) := Nat.pow_pos (by decide)
  have hP : 0 < 4294967296 ^ n := Nat.pow_pos (by decide)
  have hpw1 : 4294967296 ^ (n + 1) = 4294967296 ^ n * 4294967296 := Nat.pow_succ ..
  have hpw2 : 4294967296 ^ (n + 2) = 4294967296 ^ (n + 1) * 4294967296 := Nat.pow_succ ..
  rw [hUe, hVe] at hU ⊢
  rw [hVe] at hnorm
  have hUlt : U < 4294967296 ^ (n + 1) * 4294967296 * 4294967296 := by
    have : 4294967296 * V < 4294967296 * 4294967296 ^ (n + 2) := Nat.mul_lt_mul_of_pos_left hVlt (by decide)
    rw [hpw2] at this
    omega
  obtain ⟨F, hF⟩ : ∃ F, V / 4294967296 ^ (n + 1) = F := ⟨_, rfl⟩
  obtain ⟨S, hS⟩ : ∃ S, V / 4294967296 ^ n % 4294967296 = S := ⟨_, rfl⟩
  obtain ⟨T, hT⟩ : ∃ T, U / 4294967296 ^ (n + 1) = T := ⟨_, rfl⟩
  obtain ⟨u, hu⟩ : ∃ u, U / 4294967296 ^ n % 4294967296 = u := ⟨_, rfl⟩
  have hFlt : F < 4294967296 := by rw [← hF, Nat.div_lt_iff_lt_mul hP1]; rw [hpw2, Nat.mul_comm] at hVlt; exact hVlt
  have hFge : 2147483648 ≤ F := by rw [← hF, Nat.le_div_iff_mul_le hP1]; exact hnorm
  have hSlt : S < 4294967296 := by rw [← hS]; exact Nat.mod_lt _ (by decide)
  have hult : u < 4294967296 := by rw [← hu]; exact Nat.mod_lt _ (by decide)
  have hTlt : T < 4294967296 * 4294967296 := by rw [← hT, Nat.div_lt_iff_lt_mul hP1]; rw [Nat.mul_comm, ← Nat.mul_assoc]; exact hUlt
  have hV2 : V / 4294967296 ^ n = F * 4294967296 + S := by rw [← hF, ← hS, hpw1, ← Nat.div_div_eq_div_mul, Nat.mul_comm, Nat.div_add_mod]
  have hU2 : U / 4294967296 ^ n = T * 4294967296 + u := by rw [← hT, ← hu, hpw1, ← Nat.div_div_eq_div_mul, Nat.mul_comm, Nat.div_add_mod]
  have hq : U / V < 4294967296 := by rw [Nat.div_lt_iff_lt_mul (by omega)]; exact hU
  have hVle : (F * 4294967296 + S) * 4294967296 ^ n ≤ V := by rw [← hV2]; exact Nat.div_mul_le_self _ _
  have hVgt : V < (F * 4294967296 + S + 1) * 4294967296 ^ n := by rw [← hV2, Nat.add_mul, Nat.one_mul]; exact Nat.lt_div_mul_add hP
  have hUle : (T * 4294967296 + u) * 4294967296 ^ n ≤ U := by rw [← hU2]; exact Nat.div_mul_le_self _ _
  have hUgt : U < (T * 4294967296 + u + 1) * 4294967296 ^ n := by rw [← hU2, Nat.add_mul, Nat.one_mul]; exact Nat.lt_div_mul_add hP
  have hVle1 : F * 4294967296 ^ (n + 1) ≤ V := by rw [← hF]; exact Nat.div_mul_le_self _ _
  have hUgt1 : U < (T + 1) * 4294967296 ^ (n + 1) := by rw [← hT, Nat.add_mul, Nat.one_mul]; exact Nat.lt_div_mul_add hP1
  have hVgt1 : V < (F + 1) * 4294967296 ^ (n + 1) := by rw [← hF, Nat.add_mul, Nat.one_mul]; exact Nat.lt_div_mul_add hP1
  have hTF : T < 4294967296 * (F + 1) := by
    rw [← hT, Nat.div_lt_iff_lt_mul hP1]
    have : 4294967296 * V < 4294967296 * ((F + 1) * 4294967296 ^ (n + 1)) := Nat.mul_lt_mul_of_pos_left hVgt1 (by decide)
    rw [Nat.mul_assoc]
    omega
  have g1 : (dig 4294967296 N A)[o + (n + 2)]? = some (U / 4294967296 ^ (n + 2) % 4294967296) := by rw [digN_get (by omega), win_div, hUe]
  have g2 : (dig 4294967296 N A)[o + (n + 1)]? = some (U / 4294967296 ^ (n + 1) % 4294967296) := by rw [digN_get (by omega), win_div, hUe]
  have g3 : (dig 4294967296 N A)[o + n]? = some u := by rw [digN_get (by omega), win_div, hUe, hu]
  have g4 : v[n + 1]? = some F := by rw [get_val hV (by omega), show val 4294967296 v = V from hVe, hF, Nat.mod_eq_of_lt hFlt]
  have g5 : v[n]? = some S := by rw [get_val hV (by omega), show val 4294967296 v = V from hVe, hS]
  have hun : U / 4294967296 ^ (n + 2) < 4294967296 := by rw [hpw2, ← Nat.div_div_eq_div_mul, hT, Nat.div_lt_iff_lt_mul (by decide)]; exact hTlt
  have htop : U / 4294967296 ^ (n + 2) % 4294967296 * 4294967296 + U / 4294967296 ^ (n + 1) % 4294967296 = T := by
    rw [Nat.mod_eq_of_lt hun, hpw2, ← Nat.div_div_eq_div_mul, hT, Nat.mul_comm, Nat.div_add_mod]
  obtain ⟨t1, ht1⟩ : ∃ t, U / 4294967296 ^ (n + 2) % 4294967296 = t := ⟨_, rfl⟩
  obtain ⟨t2, ht2⟩ : ∃ t, U / 4294967296 ^ (n + 1) % 4294967296 = t := ⟨_, rfl⟩
  have l1 : t1 < 4294967296 := by rw [← ht1]; exact Nat.mod_lt _ (by decide)
  have l2 : t2 < 4294967296 := by rw [← ht2]; exact Nat.mod_lt _ (by decide)
  rw [ht1] at g1 htop
  rw [ht2] at g2 htop
  clear ht1 ht2 hU2 hV2
  have c1 : ((n + 2 : Nat) : Int) - 1 = ((n + 1 : Nat) : Int) := by omega
  have c2 : ((n + 2 : Nat) : Int) - 2 = (n : Int) := by omega
  unfold whole_estimate_m
  simp only [Option.bind_some, hn, c1, c2]
  rw [w64_nat (by omega), w64_nat (by omega), ckR_nat (by omega), ckR_nat (by omega), ckR_nat (by omega)]
  simp only [Option.bind_some]
  rw [g1, g2, geti_nat g4, geti_nat g5]
  simp only [Option.bind_some, two32]
  rw [Nat.mod_eq_of_lt (a := t1) (by omega), Nat.mod_eq_of_lt (a := t2) (by omega), Nat.mod_eq_of_lt (a := t1 * 4294967296) (by omega), or32' l2, htop, Nat.mod_eq_of_lt (a := T) (by omega), Nat.mod_eq_of_lt (a := F) (by omega), Nat.mod_eq_of_lt (a := S) (by omega), uquo_of (by omega) (by omega), urem_of (by omega)]
  simp only [Option.bind_some]
  have hge0 := est_ge (V := V) (U := U) hP1 (show 0 < F by omega) hVle1 hUgt1
  have hle : ∀ g, g * (F * 4294967296 + S) ≤ T * 4294967296 + u → g ≤ U / V + 1 := fun g h => est_le (B := 4294967296) hVgt hUle hq (by omega) (by omega) h
  have hdec : ∀ g r, g * F + r = T → r * 4294967296 + u < g * S → U / V < g := fun g r i1 ht => (Nat.div_lt_iff_lt_mul (by omega)).2 (est_dec hVle hUgt i1 ht)
  have hg0 : T / F ≤ 4294967297 := by
    have : T / F < 4294967298 := by
      rw [Nat.div_lt_iff_lt_mul (by omega)]
      omega
    omega
  generalize U / V = q at *
  clear hVle hVgt hUle hUgt hVle1 hUgt1 hVgt1 hTF hUlt hnorm hVlt hpw1 hpw2 hP hP1 hF hS hT hu hUe hVe hU
  have hdm := Nat.div_add_mod T F
  have hml := Nat.mod_lt T (show 0 < F by omega)
  have hdm' : T / F * F + T % F = T := by rw [Nat.mul_comm]; exact hdm
  clear hdm
  refine bind_loop_ex (fun x => x.1 * F + x.2 = T ∧ q ≤ x.1 ∧ x.2 < 4294967296 ∧ x.1 ≤ 4294967297) (fun e => q ≤ e ∧ e ≤ q + 1) (fun x => x.1) ?_ ⟨hdm', hge0, by show T % F < _; omega, hg0⟩ ?_
  · rintro ⟨g, r⟩ ⟨i1, i2, i3, i4⟩
    simp only at i1 i2 i3 i4
    have down : q < g → (∃ s', (bif decide ((r + F) % 18446744073709551616 / 4294967296 ≠ 0) then some (.inr (usub 18446744073709551616 g 1)) else some (.inl (usub 18446744073709551616 g 1, (r + F) % 18446744073709551616)) : Option ((Nat × Nat) ⊕ Nat)) = some (.inl s') ∧ (s'.1 * F + s'.2 = T ∧ q ≤ s'.1 ∧ s'.2 < 4294967296 ∧ s'.1 ≤ 4294967297) ∧ s'.1 < g) ∨
        (∃ e, (bif decide ((r + F) % 18446744073709551616 / 4294967296 ≠ 0) then some (.inr (usub 18446744073709551616 g 1)) else some (.inl (usub 18446744073709551616 g 1, (r + F) % 18446744073709551616)) : Option ((Nat × Nat) ⊕ Nat)) = some (.inr e) ∧ q ≤ e ∧ e ≤ q + 1) := by
      intro hlt
      have e1 : (g - 1) * F + (r + F) = T := by
        obtain ⟨k, rfl⟩ : ∃ k, g = k + 1 := ⟨g - 1, by omega⟩
        rw [Nat.add_sub_cancel]; rw [Nat.add_mul] at i1; omega
      rw [usub_of (by omega) (by omega), Nat.mod_eq_of_lt (a := r + F) (by omega)]
      by_cases hb : r + F < 4294967296
      · left
        refine ⟨(g - 1, r + F), by simp [Nat.div_eq_of_lt hb], ⟨e1, by simp only; omega, hb, by simp only; omega⟩, by simp only; omega⟩
      · right
        have hne : (r + F) / 4294967296 ≠ 0 := by omega
        refine ⟨g - 1, by simp [hne], by omega, ?_⟩
        refine hle _ ?_
        have m1 : (g - 1) * S ≤ 4294967296 * 4294967295 := Nat.mul_le_mul (by omega) (by omega)
        rw [Nat.mul_add, ← Nat.mul_assoc]
        have m2 : ((g - 1) * F + (r + F)) * 4294967296 = T * 4294967296 := by rw [e1]
        rw [Nat.add_mul] at m2
        omega
    simp only [letJ, bsm]
    by_cases hg : g < 4294967296
    · rw [show decide (g / 4294967296 ≠ 0) = false by simp; omega]
      have hgS : g * S ≤ 4294967295 * 4294967295 := Nat.mul_le_mul (by omega) (by omega)
      simp only [cfm]
      rw [g3]
      simp only [bsm]
      rw [Nat.mod_eq_of_lt (a := g * S) (by omega), Nat.mod_eq_of_lt (a := r * 4294967296) (by omega), Nat.mod_eq_of_lt (a := u) (by omega), or32' hult, Nat.mod_eq_of_lt (a := r * 4294967296 + u) (by omega)]
      by_cases ht : r * 4294967296 + u < g * S
      · rw [show decide (r * 4294967296 + u < g * S) = true by simpa using ht]
        simp only [bsm, ctm]
        exact down (hdec _ _ i1 ht)
      · rw [show decide (r * 4294967296 + u < g * S) = false by simpa using ht]
        right
        refine ⟨g, by simp, i2, ?_⟩
        refine hle _ ?_
        rw [Nat.mul_add, ← Nat.mul_assoc, ← i1, Nat.add_mul]
        omega
    · rw [show decide (g / 4294967296 ≠ 0) = true by simp; omega]
      simp only [bsm, ctm]
      exact down (by omega)
  · rintro e ⟨h2, h3⟩
    exact ⟨(e, dig 4294967296 N A), by rw [eqLen_of rfl, Option.bind_some], rfl, h2, h3⟩
end Go.Proofs.YthgkgjogdgdcgaaGreat
namespace Go.Proofs.YthgkgjogdgdcgaaGreat
open Go.Fw
theorem subtractMultiple_eq {N A o n f : Nat} {v : List Nat} (hv : W32 v) (hn : v.length = n) (hN : N ≤ 100000000001) (ho : o + n < N) (hf : f ≤ 4294967296)
    (hU : A / 4294967296 ^ o < 4294967296 ^ (n + 1)) :
    whole_subtractMultiple_m (dig 4294967296 N A) o (n + 1) v f = some (decide (A / 4294967296 ^ o < vl v * f), dig 4294967296 N (A % 4294967296 ^ o + 4294967296 ^ o * ((A / 4294967296 ^ o + 4294967296 ^ (n + 1) - vl v * f) % 4294967296 ^ (n + 1)))) := by
  obtain ⟨hV, hlv⟩ := hv
  obtain ⟨U, hUe⟩ : ∃ U, A / 4294967296 ^ o = U := ⟨_, rfl⟩
  obtain ⟨V, hVe⟩ : ∃ V, vl v = V := ⟨_, rfl⟩
  have hVlt : V < 4294967296 ^ n := by rw [← hVe, ← hn]; exact val_lt v hV
  have hpn : 4294967296 ^ (n + 1) = 4294967296 ^ n * 4294967296 := Nat.pow_succ ..
  have hT : V * f < 4294967296 ^ (n + 1) := by
    rw [hpn]
    calc V * f ≤ V * 4294967296 := Nat.mul_le_mul_left _ hf
      _ < 4294967296 ^ n * 4294967296 := Nat.mul_lt_mul_of_pos_right hVlt (by decide)
  rw [hUe] at hU ⊢
  rw [hVe]
  obtain ⟨X, hX⟩ : ∃ X, U + 4294967296 ^ (n + 1) - V * f = X := ⟨_, rfl⟩
  rw [hX]
  unfold whole_subtractMultiple_m
  simp only [bsm]
  have hlndle : ∀ i, lnd 4294967296 U (V * f) i ≤ 1 := fun i => lnd_le (by decide) _ _ _
  refine bind_loop_to (fun i => (1 - lnd 4294967296 U (V * f) i, (i : Int), sC 4294967296 V f 0 i, dig 4294967296 N (mix 4294967296 o i X U A))) (n + 1) (1 - lnd 4294967296 U (V * f) (n + 1), dig 4294967296 N (mix 4294967296 o (n + 1) X U A)) ?_ (fun i hi => ?_) ?_ ?_
  · rw [lnd_zero, sC_zero, ← hUe, mix_self]; rfl
  ·
    obtain ⟨t, ht⟩ : ∃ t, V * f / 4294967296 ^ i % 4294967296 = t := ⟨_, rfl⟩
    obtain ⟨c, hc⟩ : ∃ c, sC 4294967296 V f 0 i = c := ⟨_, rfl⟩
    obtain ⟨p, hp⟩ : ∃ p, V / 4294967296 ^ i % 4294967296 * f = p := ⟨_, rfl⟩
    have hclt : c < 4294967296 := by
      rw [← hc, sC, sT, Nat.add_zero, Nat.div_lt_iff_lt_mul (Nat.pow_pos (by decide))]
      calc V % 4294967296 ^ i * f ≤ V % 4294967296 ^ i * 4294967296 := Nat.mul_le_mul_left _ hf
        _ < 4294967296 * 4294967296 ^ i := by rw [Nat.mul_comm]; exact Nat.mul_lt_mul_of_pos_left (Nat.mod_lt _ (Nat.pow_pos (by decide))) (by decide)
    have hple : p ≤ 4294967295 * 4294967296 := by
      rw [← hp]; exact Nat.mul_le_mul (by have := Nat.mod_lt (V / 4294967296 ^ i) (show 0 < 4294967296 by decide); omega) hf
    have hdig : (p + c) % 4294967296 = t := by rw [← hp, ← hc, sC_dig (B := 4294967296) (by decide), Nat.add_zero, ht]
    have hstep : (p + c) / 4294967296 = sC 4294967296 V f 0 (i + 1) := by rw [← hp, ← hc, sC_step (B := 4294967296) (by decide)]
    have htlt : t < 4294967296 := by rw [← ht]; exact Nat.mod_lt _ (by decide)
    obtain ⟨u, hu⟩ : ∃ u, U / 4294967296 ^ i % 4294967296 = u := ⟨_, rfl⟩
    have hult : u < 4294967296 := by rw [← hu]; exact Nat.mod_lt _ (by decide)
    have hg : (dig 4294967296 N (mix 4294967296 o i X U A))[o + i]? = some u := by rw [digN_get (by omega), mix_get (by decide), hu]
    have hl := hlndle i
    obtain ⟨l, hle⟩ : ∃ l, lnd 4294967296 U (V * f) i = l := ⟨_, rfl⟩
    have hxd : (u + (4294967296 - 1 - t) + l) % 4294967296 = X / 4294967296 ^ i % 4294967296 := by rw [← hu, ← ht, ← hle, lnd_dig' (B := 4294967296) (by decide) hi (by omega), hX]
    have hls : (u + (4294967296 - 1 - t) + l) / 4294967296 = lnd 4294967296 U (V * f) (i + 1) := by rw [← hu, ← ht, ← hle, lnd_step (B := 4294967296) (by decide)]
    rw [hle] at hl
    have hput := mix_put (B := 4294967296) (by decide) o i X U A (N := N) (by omega)
    rw [hle, hc, ← hls]
    simp only [show decide ((i : Int) < ((n + 1 : Nat) : Int)) = true by simp; omega, ctm, bsm, letJ]
    rw [ckR_nat (by omega)]
    simp only [bsm, hg]
    have way : ∀ k : Nat → Option ((Nat × Int × Nat × List Nat) ⊕ (Nat × List Nat)), (bif decide ((i : Int) < (v.length : Int)) then (geti v (i : Int)).bind fun x24 => k (x24 % 18446744073709551616 * f % 18446744073709551616) else k 0) = k p := by
      intro k
      by_cases hin : i < v.length
      · rw [show decide ((i : Int) < (v.length : Int)) = true by simp; omega, ctm]
        have hgv : v[i]? = some (V / 4294967296 ^ i % 4294967296) := by rw [← hVe]; exact get_val hV hin
        rw [geti_nat hgv, bsm, Nat.mod_eq_of_lt (a := V / 4294967296 ^ i % 4294967296) (b := 18446744073709551616) (by have := Nat.mod_lt (V / 4294967296 ^ i) (show 0 < 4294967296 by decide); omega), hp, Nat.mod_eq_of_lt (a := p) (by omega)]
      · rw [show decide ((i : Int) < (v.length : Int)) = false by simp; omega, cfm]
        have : V / 4294967296 ^ i = 0 := Nat.div_eq_of_lt (Nat.lt_of_lt_of_le hVlt (Nat.pow_le_pow_right (by decide) (by omega)))
        rw [← hp, this]; simp
    refine (way (fun y => (whole_carrier_1_m y c).bind _)).trans ?_
    rw [carrier_eq _ _ (by omega)]
    simp only [bsm]
    rw [hdig, hstep, Nat.mod_eq_of_lt (a := u) (by omega), Nat.mod_eq_of_lt (a := t) (by omega)]
    rw [stM_of (by rw [dig_len]; omega), bsm, w64_succ (by omega), two63]
    by_cases hbor : u < t + (1 - l)
    · have e1 : usub 18446744073709551616 (usub 18446744073709551616 u t) (1 - l) = 18446744073709551616 + u - t - (1 - l) := by
        by_cases h1 : u < t
        · rw [usub_lt h1 (by omega), usub_of (by omega) (by omega)]
        · rw [usub_of (a := u) (b := t) (by omega) (by omega), usub_lt (by omega) (by omega)]; omega
      rw [e1]
      have e2 : (18446744073709551616 + u - t - (1 - l)) % 4294967296 = X / 4294967296 ^ i % 4294967296 := by rw [← hxd]; omega
      have e3 : (18446744073709551616 + u - t - (1 - l)) / 9223372036854775808 = 1 - (u + (4294967296 - 1 - t) + l) / 4294967296 := by omega
      rw [e2, e3, hput]
    · have e1 : usub 18446744073709551616 (usub 18446744073709551616 u t) (1 - l) = u - t - (1 - l) := by
        rw [usub_of (a := u) (b := t) (by omega) (by omega), usub_of (by omega) (by omega)]
      rw [e1]
      have e2 : (u - t - (1 - l)) % 4294967296 = X / 4294967296 ^ i % 4294967296 := by rw [← hxd]; omega
      have e3 : (u - t - (1 - l)) / 9223372036854775808 = 1 - (u + (4294967296 - 1 - t) + l) / 4294967296 := by omega
      rw [e2, e3, hput]
  · simp
  · simp only [bsm]
    rw [eqLen_of (by rw [dig_len, dig_len]), bsm, mix_full hU, lnd_end (by decide) hU hT]
    congr 2
    by_cases h : U < V * f <;> simp [h]
end Go.Proofs.YthgkgjogdgdcgaaGreat
namespace Go.Proofs.YthgkgjogdgdcgaaGreat
open Go.Fw
theorem ld_lt {B V : Nat} (hB : 0 < B) (hV : 0 < V) (A k : Nat) : A % (V * B ^ (k + 1)) / B ^ k < B * V := by
  rw [Nat.div_lt_iff_lt_mul (Nat.pow_pos hB)]
  have : V * B ^ (k + 1) = B * V * B ^ k := by rw [Nat.pow_succ, Nat.mul_comm (B ^ k), ← Nat.mul_assoc, Nat.mul_comm V]
  rw [← this]
  exact Nat.mod_lt _ (Nat.mul_pos hV (Nat.pow_pos hB))
theorem ld_rem {B V : Nat} (A k : Nat) : A % (V * B ^ (k + 1)) % B ^ k + B ^ k * (A % (V * B ^ (k + 1)) / B ^ k % V) = A % (V * B ^ k) := by
  rw [← Nat.mod_mul, Nat.mul_comm (B ^ k), Nat.mod_mod_of_dvd]
  rw [Nat.pow_succ, ← Nat.mul_assoc]; exact Nat.dvd_mul_right _ _
theorem ld_dig {B V : Nat} (A k : Nat) : A % (V * B ^ (k + 1)) / B ^ k / V = A / V / B ^ k % B := by
  rw [Nat.div_div_eq_div_mul, Nat.mul_comm (B ^ k), Nat.pow_succ, ← Nat.mul_assoc, Nat.mod_mul_right_div_self, Nat.div_div_eq_div_mul]
theorem ld_put {B : Nat} (hB : 0 < B) {N k : Nat} (h : k < N) (Q : Nat) : (dig B N (Q / B ^ (k + 1) * B ^ (k + 1))).set k (Q / B ^ k % B) = dig B N (Q / B ^ k * B ^ k) := by
  have hP : 0 < B ^ k := Nat.pow_pos hB
  refine dig_put hB h (Nat.mod_lt _ hB) ?_ ?_ ?_
  · rw [Nat.mul_mod_left, Nat.pow_succ, Nat.mul_comm (B ^ k), ← Nat.mul_assoc, Nat.mul_mod_left]
  · rw [Nat.mul_div_cancel _ hP]
  · rw [Nat.mul_div_cancel _ (Nat.pow_pos hB), Nat.pow_succ, ← Nat.div_div_eq_div_mul, Nat.mul_div_cancel _ hP, Nat.div_div_eq_div_mul]
theorem ckS_nat {α : Type} {l : List α} {o n : Nat} (h : o < l.length) (h' : o + n ≤ l.length) : ckS l (o : Int) ((o + n : Nat) : Int) = some (o, n) := by
  unfold ckS
  rw [if_pos (by omega)]
  congr 2
  omega
theorem ld_case {U V g M : Nat} (hV : 0 < V) (h1 : U / V ≤ g) (h2 : g ≤ U / V + 1) (hM : U < M) (hVM : V ≤ M) :
    (V * g ≤ U ∧ g = U / V ∧ (U + M - V * g) % M = U % V) ∨ (U < V * g ∧ g = U / V + 1 ∧ U + M - V * g < M ∧ (U + M - V * g + V) % M = U % V) := by
  have hd := Nat.div_add_mod U V
  have hm := Nat.mod_lt U hV
  revert h1 h2 hd hm
  generalize U / V = q
  generalize U % V = r
  intro h1 h2 hd hm
  rcases Nat.lt_or_ge q g with h | h
  · obtain rfl : g = q + 1 := by omega
    have e : V * (q + 1) = V * q + V := Nat.mul_succ ..
    right
    refine ⟨by omega, rfl, by omega, ?_⟩
    rw [show U + M - V * (q + 1) + V = r + M by omega, Nat.add_mod_right, Nat.mod_eq_of_lt (by omega)]
  · obtain rfl : g = q := by omega
    left
    refine ⟨by omega, rfl, ?_⟩
    rw [show U + M - V * g = r + M by omega, Nat.add_mod_right, Nat.mod_eq_of_lt (by omega)]
theorem ld_back {R D e i : Nat} (hD : 0 < D) (he : 4294967296 = D * e) : (R * D / 4294967296 ^ (i + 1) % 4294967296 * 4294967296 + R * D / 4294967296 ^ i % 4294967296) / D % 4294967296 = R / 4294967296 ^ i % 4294967296 := by
  have h1 : R * D / 4294967296 ^ (i + 1) % 4294967296 * 4294967296 + R * D / 4294967296 ^ i % 4294967296 = R * D / 4294967296 ^ i % (4294967296 * 4294967296) := by
    rw [Nat.mod_mul, Nat.div_div_eq_div_mul, show 4294967296 ^ i * 4294967296 = 4294967296 ^ (i + 1) from (Nat.pow_succ ..).symm, Nat.add_comm, Nat.mul_comm 4294967296]
  have h2 : (4294967296 * 4294967296 : Nat) = D * (e * 4294967296) := by
    rw [← Nat.mul_assoc, ← he]
  rw [h1, h2, Nat.mod_mul_right_div_self, Nat.mod_mul_left_mod, Nat.div_div_eq_div_mul, Nat.mul_comm (4294967296 ^ i) D, ← Nat.div_div_eq_div_mul, Nat.mul_div_cancel _ hD]
theorem ld_one {B : Nat} (hB : 0 < B) {N i R : Nat} (h : i < N) : (dig B N (R % B ^ i)).set i (R / B ^ i % B) = dig B N (R % B ^ (i + 1)) := by
  refine dig_put hB h (Nat.mod_lt _ hB) ?_ ?_ ?_
  · rw [Nat.mod_mod, Nat.mod_mod_of_dvd _ (Nat.pow_dvd_pow _ (Nat.le_succ i))]
  · rw [Nat.pow_succ, Nat.mod_mul_right_div_self, Nat.mod_mod]
  · rw [Nat.div_eq_of_lt (Nat.mod_lt _ (Nat.pow_pos hB)), Nat.div_eq_of_lt]
    exact Nat.lt_of_lt_of_le (Nat.mod_lt _ (Nat.pow_pos hB)) (Nat.pow_le_pow_right hB (Nat.le_succ i))
theorem longDiv_eq (a b : List Nat) (ha : W32 a) (hb : W32 b) {n : Nat} (hn : b.length = n + 2) (hl : b.length ≤ a.length) (htop : b[n + 1]? ≠ some 0) :
    whole_longDiv_m a b = some (dig 4294967296 (a.length - b.length + 1) (vl a / vl b), dig 4294967296 b.length (vl a % vl b)) := by
  obtain ⟨hA, hla⟩ := ha
  obtain ⟨hB, hlb⟩ := hb
  have hP : ∀ k, 0 < 4294967296 ^ k := fun k => Nat.pow_pos (by decide)
  obtain ⟨Va, hVa⟩ : ∃ V, vl a = V := ⟨_, rfl⟩
  obtain ⟨Vb, hVb⟩ : ∃ V, vl b = V := ⟨_, rfl⟩
  have hblt : Vb < 4294967296 ^ (n + 2) := by rw [← hVb, ← hn]; exact val_lt b hB
  have halt : Va < 4294967296 ^ a.length := by rw [← hVa]; exact val_lt a hA
  have hpw2 : 4294967296 ^ (n + 2) = 4294967296 ^ (n + 1) * 4294967296 := Nat.pow_succ ..
  obtain ⟨x, hx⟩ : ∃ x, Vb / 4294967296 ^ (n + 1) = x := ⟨_, rfl⟩
  have hxlt : x < 4294967296 := by rw [← hx, Nat.div_lt_iff_lt_mul (hP _)]; rw [hpw2, Nat.mul_comm] at hblt; exact hblt
  have hgx : b[n + 1]? = some x := by rw [get_val hB (by omega), show val 4294967296 b = Vb from hVb, hx, Nat.mod_eq_of_lt hxlt]
  have hx0 : x ≠ 0 := fun e => htop (by rw [hgx, e])
  obtain ⟨s, hs1, hs2, hs3, hs4⟩ := lz_eq x hxlt hx0
  have hp2 : 0 < 2 ^ s := Nat.two_pow_pos s
  have hp2lt : 2 ^ s < 4294967296 := by
    have : 2 ^ s < 2 ^ 32 := Nat.pow_lt_pow_right (by decide) hs2
    rw [two32] at this; exact this
  obtain ⟨D, hD⟩ : ∃ D, 2 ^ s = D := ⟨_, rfl⟩
  rw [hD] at hs3 hs4 hp2 hp2lt
  obtain ⟨V, hV⟩ : ∃ V, Vb * D = V := ⟨_, rfl⟩
  obtain ⟨A, hAe⟩ : ∃ A, Va * D = A := ⟨_, rfl⟩
  have hVlt : V < 4294967296 ^ (n + 2) := by
    have h1 : Vb < (x + 1) * 4294967296 ^ (n + 1) := by rw [← hx, Nat.add_mul, Nat.one_mul]; exact Nat.lt_div_mul_add (hP _)
    have h2 : (x + 1) * D ≤ 4294967296 := by
      obtain ⟨e, he⟩ : ∃ e, 4294967296 = D * e := ⟨2 ^ (32 - s), by rw [← hD, ← Nat.pow_add, show s + (32 - s) = 32 by omega, two32]⟩
      have h3 : x < e := by
        apply Nat.lt_of_mul_lt_mul_left (a := D)
        rw [← he, Nat.mul_comm]; exact hs4
      calc (x + 1) * D ≤ e * D := Nat.mul_le_mul_right _ h3
        _ = 4294967296 := by rw [Nat.mul_comm, ← he]
    rw [← hV, hpw2]
    calc Vb * D < (x + 1) * 4294967296 ^ (n + 1) * D := Nat.mul_lt_mul_of_pos_right h1 hp2
      _ = 4294967296 ^ (n + 1) * ((x + 1) * D) := by rw [Nat.mul_comm (x + 1), Nat.mul_assoc]
      _ ≤ 4294967296 ^ (n + 1) * 4294967296 := Nat.mul_le_mul_left _ h2
  have hVnorm : 2147483648 * 4294967296 ^ (n + 1) ≤ V := by
    have h1 : x * 4294967296 ^ (n + 1) ≤ Vb := by rw [← hx]; exact Nat.div_mul_le_self _ _
    rw [← hV]
    calc 2147483648 * 4294967296 ^ (n + 1) ≤ x * D * 4294967296 ^ (n + 1) := Nat.mul_le_mul_right _ hs3
      _ = x * 4294967296 ^ (n + 1) * D := by rw [Nat.mul_assoc, Nat.mul_comm D, ← Nat.mul_assoc]
      _ ≤ Vb * D := Nat.mul_le_mul_right _ h1
  have hV0 : 0 < V := Nat.lt_of_lt_of_le (Nat.mul_pos (by decide) (hP _)) hVnorm
  have hb0 : 0 < Vb := by
    rcases Nat.eq_zero_or_pos Vb with h | h
    · rw [← hV, h, Nat.zero_mul] at hV0; omega
    · exact h
  have hAV : A / V = Va / Vb := by rw [← hAe, ← hV, Nat.mul_div_mul_right _ _ hp2]
  have hAmV : A % V = Va % Vb * D := by rw [← hAe, ← hV, Nat.mul_mod_mul_right]
  obtain ⟨K, hK⟩ : ∃ K, a.length = K + (n + 2) := ⟨a.length - (n + 2), by omega⟩
  have hA0 : A < V * 4294967296 ^ (K + 1) := by
    have h1 : 4294967296 ^ (n + 1) ≤ Vb := by
      have : 1 * 4294967296 ^ (n + 1) ≤ x * 4294967296 ^ (n + 1) := Nat.mul_le_mul_right _ (by omega)
      have h2 : x * 4294967296 ^ (n + 1) ≤ Vb := by rw [← hx]; exact Nat.div_mul_le_self _ _
      omega
    rw [← hAe, ← hV]
    calc Va * D < 4294967296 ^ a.length * D := Nat.mul_lt_mul_of_pos_right halt hp2
      _ = 4294967296 ^ (n + 1) * 4294967296 ^ (K + 1) * D := by rw [hK, ← Nat.pow_add]; congr 2; omega
      _ ≤ Vb * 4294967296 ^ (K + 1) * D := Nat.mul_le_mul_right _ (Nat.mul_le_mul_right _ h1)
      _ = Vb * D * 4294967296 ^ (K + 1) := by rw [Nat.mul_assoc, Nat.mul_comm _ D, ← Nat.mul_assoc]
  obtain ⟨v, hve⟩ : ∃ v, dig 4294967296 (n + 2) V = v := ⟨_, rfl⟩
  have hvl : v.length = n + 2 := by rw [← hve, dig_len]
  have hvW : W32 v := ⟨fun y hy => by rw [← hve] at hy; exact dig_lt (by decide) _ _ _ hy, by omega⟩
  have hvv : vl v = V := by rw [← hve]; show val _ _ = _; rw [val_dig, Nat.mod_eq_of_lt hVlt]
  have hcutw : List.take b.length (dig 4294967296 (b.length + 1) (Vb * 2 ^ s)) = v := by
    rw [hD, hV, hn, dig_succ, List.take_append_of_le_length (by rw [dig_len]; omega), List.take_of_length_le (by rw [dig_len]; omega), hve]
  unfold whole_longDiv_m
  simp only [bsm]
  rw [show ((b.length : Nat) : Int) - 1 = ((n + 1 : Nat) : Int) by omega, w64_nat (by omega), geti_nat hgx, bsm, hs1, bsm]
  rw [show ((s : Int) % 18446744073709551616).toNat = s by rw [Int.emod_eq_of_lt (by omega) (by omega)]; simp]
  rw [shiftLeftN_eq, shiftLeft_eq a s ⟨hA, hla⟩ hs2, bsm, shiftLeft_eq b s ⟨hB, hlb⟩ hs2, bsm, subM_zero (by rw [dig_len]; omega), bsm]
  obtain ⟨Q, hQ⟩ : ∃ Q, A / V = Q := ⟨_, rfl⟩
  have hQlt : Q < 4294967296 ^ (K + 1) := by rw [← hQ, Nat.div_lt_iff_lt_mul hV0, Nat.mul_comm]; exact hA0
  rw [hVa, hVb, ← hAV, hQ, hcutw, hD, hAe, hn]
  rw [show a.length - (n + 2) + 1 = K + 1 by omega]
  rw [w64_id (x := (a.length : Int) - ((n + 2 : Nat) : Int)) (by omega) (by omega), w64_id (x := (a.length : Int) - ((n + 2 : Nat) : Int) + 1) (by omega) (by omega), show (a.length : Int) - ((n + 2 : Nat) : Int) + 1 = ((K + 1 : Nat) : Int) by omega, mkM_of (by decide) (by omega), bsm, show (a.length : Int) - ((n + 2 : Nat) : Int) = (K : Int) by omega]
  refine bind_loop_to (fun j => ((K : Int) - (j : Int), dig 4294967296 (K + 1) (Q / 4294967296 ^ (K + 1 - j) * 4294967296 ^ (K + 1 - j)), dig 4294967296 (a.length + 1) (A % (V * 4294967296 ^ (K + 1 - j))))) (K + 1) (dig 4294967296 (K + 1) Q, dig 4294967296 (a.length + 1) (A % V)) ?_ (fun j hj => ?_) ?_ ?_
  · rw [show K + 1 - 0 = K + 1 by omega, Nat.mod_eq_of_lt hA0, Nat.div_eq_of_lt hQlt, Nat.zero_mul, dig_zero]; simp
  ·
    obtain ⟨k, hk⟩ : ∃ k, K = k + j := ⟨K - j, by omega⟩
    rw [show K + 1 - j = k + 1 by omega, show K + 1 - (j + 1) = k by omega, show (K : Int) - (j : Int) = (k : Int) by omega, show (K : Int) - ((j + 1 : Nat) : Int) = (k : Int) - 1 by omega]
    have hU := ld_lt (B := 4294967296) (by decide) hV0 A k
    have hrem := ld_rem (B := 4294967296) (V := V) A k
    have hdg := ld_dig (B := 4294967296) (V := V) A k
    obtain ⟨N, hN⟩ : ∃ N, a.length + 1 = N := ⟨_, rfl⟩
    obtain ⟨A1, hA1⟩ : ∃ A1, A % (V * 4294967296 ^ (k + 1)) = A1 := ⟨_, rfl⟩
    rw [hN]
    rw [hA1] at hU hrem hdg ⊢
    rw [hQ] at hdg
    obtain ⟨⟨g, lg⟩, hge, hgl, hg1, hg2⟩ := estimate_eq (N := N) (A := A1) (o := k) (n := n) (v := v) hvW hvl (by omega) (by omega) (by rw [hvv]; exact hU) (by rw [hvv]; exact hVnorm)
    simp only at hgl hg1 hg2
    rw [hvv] at hg1 hg2
    subst hgl
    have hsub := subtractMultiple_eq (N := N) (A := A1) (o := k) (n := n + 2) (v := v) (f := g) hvW hvl (by omega) (by omega) ?_ ?_
    · rw [hvv] at hsub
      obtain ⟨U, hUe⟩ : ∃ U, A1 / 4294967296 ^ k = U := ⟨_, rfl⟩
      rw [hUe] at hU hrem hdg hg1 hg2 hsub
      have hpw3 : 4294967296 ^ (n + 2 + 1) = 4294967296 ^ (n + 2) * 4294967296 := Nat.pow_succ ..
      have hUM : U < 4294967296 ^ (n + 2 + 1) := by
        have : 4294967296 * V < 4294967296 * 4294967296 ^ (n + 2) := Nat.mul_lt_mul_of_pos_left hVlt (by decide)
        rw [hpw3]; omega
      have hcase := ld_case (M := 4294967296 ^ (n + 2 + 1)) hV0 hg1 hg2 hUM (by rw [hpw3]; omega)
      have hql : U / V < 4294967296 := by rw [hdg]; exact Nat.mod_lt _ (by decide)
      rw [show decide ((0 : Int) ≤ (k : Int)) = true by simp, ctm]
      rw [w64_add (by omega), w64_succ (by omega), show k + (n + 2) + 1 = k + (n + 3) by omega, ckS_nat (by rw [dig_len]; omega) (by rw [dig_len]; omega), bsm, hge, bsm, eqLen_of rfl, bsm, ckS_nat (by rw [dig_len]; omega) (by rw [dig_len]; omega), bsm]
      show (Option.bind (whole_subtractMultiple_m _ k (n + 2 + 1) v g) _) = _
      rw [hsub, bsm, eqLen_of (by rw [dig_len, dig_len]), bsm]
      simp only [letJ]
      rcases hcase with ⟨hc1, hc2, hc3⟩ | ⟨hc1, hc2, hc3, hc4⟩
      · rw [show decide (U < V * g) = false by simp; omega, cfm, hc3, hrem, hc2, Nat.mod_eq_of_lt hql, hdg, cki_nat (by rw [dig_len]; omega), bsm, stM_of (by rw [dig_len]; omega), bsm, ld_put (by decide) (by omega), w64_id (by omega) (by omega)]
      · rw [show decide (U < V * g) = true by simp; omega, ctm, usub_of (by omega) (by omega), show g - 1 = U / V by omega, Nat.mod_eq_of_lt hql, hdg]
        rw [Nat.mod_eq_of_lt hc3]
        obtain ⟨Y, hY⟩ : ∃ Y, U + 4294967296 ^ (n + 2 + 1) - V * g = Y := ⟨_, rfl⟩
        rw [hY] at hc3 hc4 ⊢
        obtain ⟨A2, hA2⟩ : ∃ A2, A1 % 4294967296 ^ k + 4294967296 ^ k * Y = A2 := ⟨_, rfl⟩
        rw [hA2]
        have hw2 : A2 / 4294967296 ^ k = Y := by rw [← hA2, Nat.add_mul_div_left _ _ (hP k), Nat.div_eq_of_lt (Nat.mod_lt _ (hP k)), Nat.zero_add]
        have hm2 : A2 % 4294967296 ^ k = A1 % 4294967296 ^ k := by rw [← hA2, Nat.add_mul_mod_self_left, Nat.mod_mod]
        have hcr : ∀ i, cry 4294967296 Y V i ≤ 1 := fun i => cry_le (by decide) _ _ _
        refine bind_loop_to (fun i => ((i : Int), cry 4294967296 Y V i, dig 4294967296 N (mix 4294967296 k i (Y + V) Y A2))) (n + 2) (cry 4294967296 Y V (n + 2), dig 4294967296 N (mix 4294967296 k (n + 2) (Y + V) Y A2)) ?_ (fun i hi => ?_) ?_ ?_
        · rw [cry_zero, ← hw2, mix_self]; rfl
        · have hgv : v[i]? = some (V / 4294967296 ^ i % 4294967296) := by rw [← hvv]; exact get_val hvW.1 (by omega)
          have hgu : (dig 4294967296 N (mix 4294967296 k i (Y + V) Y A2))[k + i]? = some (Y / 4294967296 ^ i % 4294967296) := by rw [digN_get (by omega), mix_get (by decide)]
          have hs1 := cry_step (B := 4294967296) (by decide) Y V i
          have hs2 := cry_dig (B := 4294967296) (by decide) Y V i
          have hput := mix_put (B := 4294967296) (by decide) k i (Y + V) Y A2 (N := N) (by omega)
          have hci := hcr i
          have hv1 := Nat.mod_lt (V / 4294967296 ^ i) (show 0 < 4294967296 by decide)
          have hy1 := Nat.mod_lt (Y / 4294967296 ^ i) (show 0 < 4294967296 by decide)
          simp only [show decide ((i : Int) < (v.length : Int)) = true by simp; omega, ctm]
          rw [geti_nat hgv, bsm, w64_add (by omega), cki_nat (by rw [dig_len]; omega), bsm, hgu, bsm, Nat.mod_eq_of_lt (a := Y / 4294967296 ^ i % 4294967296) (b := 18446744073709551616) (by omega), Nat.mod_eq_of_lt (a := V / 4294967296 ^ i % 4294967296) (b := 18446744073709551616) (by omega), Nat.mod_eq_of_lt (b := 18446744073709551616) (by omega), carrier_eq _ _ (by omega), bsm, bsm, stM_of (by rw [dig_len]; omega), bsm, w64_succ (by omega)]
          rw [hs1, hs2, hput]
        · simp [hvl]
        · have hgu : (dig 4294967296 N (mix 4294967296 k (n + 2) (Y + V) Y A2))[k + (n + 2)]? = some (Y / 4294967296 ^ (n + 2) % 4294967296) := by rw [digN_get (by omega), mix_get (by decide)]
          have hs2 := cry_dig (B := 4294967296) (by decide) Y V (n + 2)
          have hput := mix_put (B := 4294967296) (by decide) k (n + 2) (Y + V) Y A2 (N := N) (by omega)
          have hci := hcr (n + 2)
          have hy1 := Nat.mod_lt (Y / 4294967296 ^ (n + 2)) (show 0 < 4294967296 by decide)
          rw [Nat.div_eq_of_lt hVlt, Nat.zero_mod, Nat.add_zero] at hs2
          simp only []
          rw [cki_nat (by rw [dig_len]; omega), bsm, hgu, bsm, Nat.mod_eq_of_lt (a := Y / 4294967296 ^ (n + 2) % 4294967296) (b := 18446744073709551616) (by omega), carrier_eq _ _ (by omega), bsm, bsm, stM_of (by rw [dig_len]; omega), bsm, hs2, hput, mix_full hc3, hm2, hc4, hrem, cki_nat (by rw [dig_len]; omega), bsm, stM_of (by rw [dig_len]; omega), bsm, ld_put (by decide) (by omega), w64_id (by omega) (by omega)]
    ·
      have hql : A1 / 4294967296 ^ k / V < 4294967296 := by rw [hdg]; exact Nat.mod_lt _ (by decide)
      omega
    · have hpw3 : 4294967296 ^ (n + 2 + 1) = 4294967296 ^ (n + 2) * 4294967296 := Nat.pow_succ ..
      have : 4294967296 * V < 4294967296 * 4294967296 ^ (n + 2) := Nat.mul_lt_mul_of_pos_left hVlt (by decide)
      rw [hpw3]; omega
  · rw [show K + 1 - (K + 1) = 0 by omega, Nat.pow_zero, Nat.mul_one, Nat.mul_one, Nat.div_one, show decide (0 ≤ (K : Int) - ((K + 1 : Nat) : Int)) = false by simp; omega, cfm]
  ·
    obtain ⟨R, hR⟩ : ∃ R, Va % Vb = R := ⟨_, rfl⟩
    rw [hAmV, hR]
    have hRlt : R < 4294967296 ^ (n + 2) := by rw [← hR]; exact Nat.lt_trans (Nat.mod_lt _ hb0) hblt
    rw [mkM_of (by decide) (by omega), bsm]
    refine bind_loop_to (fun i => ((i : Int), dig 4294967296 (n + 2) (R % 4294967296 ^ i))) (n + 2) (dig 4294967296 (n + 2) R) ?_ (fun i hi => ?_) ?_ rfl
    · rw [Nat.pow_zero, Nat.mod_one, dig_zero]; rfl
    · obtain ⟨e, he⟩ : ∃ e, 4294967296 = D * e := ⟨2 ^ (32 - s), by rw [← hD, ← Nat.pow_add, show s + (32 - s) = 32 by omega, two32]⟩
      have hfin := ld_back (R := R) (i := i) hp2 he
      obtain ⟨u, hu⟩ : ∃ u, R * D / 4294967296 ^ i % 4294967296 = u := ⟨_, rfl⟩
      obtain ⟨w, hw⟩ : ∃ w, R * D / 4294967296 ^ (i + 1) % 4294967296 = w := ⟨_, rfl⟩
      have hu1 : u < 4294967296 := by rw [← hu]; exact Nat.mod_lt _ (by decide)
      have hw1 : w < 4294967296 := by rw [← hw]; exact Nat.mod_lt _ (by decide)
      rw [hu, hw] at hfin
      simp only [show decide ((i : Int) < ((n + 2 : Nat) : Int)) = true by simp; omega, ctm]
      rw [cki_nat (by rw [dig_len]; omega), bsm, digN_get (by omega), bsm, hu, w64_succ (by omega), cki_nat (by rw [dig_len]; omega), bsm, digN_get (by omega), bsm, hw, Nat.mod_eq_of_lt (a := u) (by omega), Nat.mod_eq_of_lt (a := w) (by omega), two32, Nat.mod_eq_of_lt (a := w * 4294967296) (by omega), Nat.or_comm, or32' hu1, Nat.mod_eq_of_lt (a := w * 4294967296 + u) (by omega), show min s 64 = s by omega, hD, hfin, cki_nat (by rw [dig_len]; omega), bsm, stM_of (by rw [dig_len]; omega), bsm]
      rw [ld_one (by decide) hi]
    · rw [Nat.mod_eq_of_lt hRlt]; simp
end Go.Proofs.YthgkgjogdgdcgaaGreat
namespace Go.Proofs.YthgkgjogdgdcgaaGreat
open Go.Fw
def sv (n : Bool) (v : Nat) : Int := bif n then -(v : Int) else v
def zi (z : Zr) : Int := sv z.neg (vl z.w)
def zn (i : Int) : Zr := ⟨decide (i < 0), can 4294967296 i.natAbs⟩
def Wl (z : Zr) : Prop := (∀ x ∈ z.w, x < 4294967296) ∧ z.w.length ≤ 10000000000
def Fit (L : Nat) (i : Int) : Prop := i.natAbs < 4294967296 ^ L
theorem sv_abs (n : Bool) (v : Nat) : (sv n v).natAbs = v := by cases n <;> simp [sv]
theorem zi_abs (z : Zr) : (zi z).natAbs = vl z.w := sv_abs _ _
theorem sv_neg (n : Bool) (v : Nat) : decide (sv n v < 0) = (n && v != 0) := by
  cases n
  · have : ¬ ((v : Int) < 0) := by omega
    simp [sv, this]
  · rcases v with _ | v
    · simp [sv]
    · simp [sv]
theorem zc_zn (n : Bool) (v : Nat) : zc n v = zn (sv n v) := by rw [zc, zn, sv_neg, sv_abs]
theorem sv_self (i : Int) : sv (decide (i < 0)) i.natAbs = i := by
  by_cases h : i < 0
  · rw [show decide (i < 0) = true by simp [h]]; simp [sv]; omega
  · rw [show decide (i < 0) = false by simp [h]]; simp [sv]; omega
theorem zi_zn (i : Int) : zi (zn i) = i := by
  show sv (decide (i < 0)) (vl (can 4294967296 i.natAbs)) = i
  rw [show vl (can 4294967296 i.natAbs) = i.natAbs from val_can (by decide) _, sv_self]
theorem sv_not (n : Bool) (v : Nat) : sv (!n) v = -sv n v := by cases n <;> simp [sv]
theorem sv_false (v : Nat) : sv false v = v := rfl
theorem Fit.mono {L M : Nat} {i : Int} (h : Fit L i) (hl : L ≤ M) : Fit M i := Nat.lt_of_lt_of_le h (Nat.pow_le_pow_right (by decide) hl)
theorem Fit.neg {L : Nat} {i : Int} (h : Fit L i) : Fit L (-i) := by unfold Fit at *; rw [Int.natAbs_neg]; exact h
theorem Fit.add {L : Nat} {i j : Int} (h : Fit L i) (h' : Fit L j) : Fit (L + 1) (i + j) := by
  unfold Fit at *
  have := Int.natAbs_add_le i j
  rw [Nat.pow_succ]; omega
theorem Fit.sub {L : Nat} {i j : Int} (h : Fit L i) (h' : Fit L j) : Fit (L + 1) (i - j) := by
  rw [Int.sub_eq_add_neg]; exact h.add h'.neg
theorem Fit.mul {L M : Nat} {i j : Int} (h : Fit L i) (h' : Fit M j) : Fit (L + M) (i * j) := by
  unfold Fit at *
  rw [Int.natAbs_mul, Nat.pow_add]
  exact Nat.mul_lt_mul'' h h'
theorem Fit.i64 {i : Int} (h : -9223372036854775808 ≤ i) (h' : i ≤ 9223372036854775807) : Fit 2 i := by
  unfold Fit; rw [show (4294967296 : Nat) ^ 2 = 18446744073709551616 by decide]; omega
theorem Fit.le {L : Nat} {i j : Int} (h : Fit L i) (h' : j.natAbs ≤ i.natAbs) : Fit L j := Nat.lt_of_le_of_lt h' h
theorem wl_zn {L : Nat} {i : Int} (h : Fit L i) (hL : L ≤ 10000000000) : Wl (zn i) :=
  ⟨fun _ hx => can_lt (by decide) hx, Nat.le_trans ((can_len_iff (by decide)).2 h) hL⟩
theorem Wl.fit {z : Zr} (h : Wl z) : Fit z.w.length (zi z) := by
  unfold Fit; rw [zi_abs]; exact val_lt z.w h.1
theorem Wl.lt {z : Zr} (h : Wl z) : vl z.w < 4294967296 ^ z.w.length := val_lt z.w h.1
theorem Wl.cl {z : Zr} (h : Wl z) : (can 4294967296 (vl z.w)).length ≤ 10000000000 :=
  Nat.le_trans ((can_len_iff (by decide)).2 (Wl.lt h)) h.2
theorem Wl.trim {z : Zr} (h : Wl z) : whole_trim_m z.w = some (can 4294967296 (vl z.w)) := by
  rw [trim_eq _ (by have := h.2; omega), trim_can (by decide) h.1]
theorem can_W32 {v : Nat} (h : (can 4294967296 v).length ≤ 10000000001) : W32 (can 4294967296 v) := ⟨fun _ hx => can_lt (by decide) hx, by omega⟩
theorem vl_can (v : Nat) : vl (can 4294967296 v) = v := val_can (by decide) v
theorem can_len2 {v : Nat} : ((can 4294967296 v).length : Int) ≤ 2 ↔ v < 18446744073709551616 := by
  have := can_len_iff (B := 4294967296) (by decide) (v := v) (n := 2)
  rw [show (4294967296 : Nat) ^ 2 = 18446744073709551616 by decide] at this
  omega
theorem can_len1 {v : Nat} : ((can 4294967296 v).length : Int) ≤ 1 ↔ v < 4294967296 := by
  have := can_len_iff (B := 4294967296) (by decide) (v := v) (n := 1)
  rw [show (4294967296 : Nat) ^ 1 = 4294967296 by decide] at this
  omega
theorem can_len0 {v : Nat} : (can 4294967296 v).length = 0 ↔ v = 0 := by
  constructor
  · intro h; exact can_nil (by decide) (List.length_eq_zero_iff.1 h)
  · intro h; rw [h, can_zero]; rfl
theorem clone_eq (l : List Nat) (h : l.length ≤ 1000000000000) : slices_Clone_m l = some l := by
  unfold slices_Clone_m; rw [apMl (by decide) (by simp; omega)]; simp
end Go.Proofs.YthgkgjogdgdcgaaGreat
namespace Go.Proofs.YthgkgjogdgdcgaaGreat
open Go.Fw
theorem cmpN_neg (a b : Nat) : decide (cmpN a b < 0) = decide (a < b) := by
  rcases Nat.lt_trichotomy a b with h | h | h
  · rw [cmpN_lt h]; simp [h]
  · rw [h, cmpN_eq]; simp
  · rw [cmpN_gt h]; simp; omega
theorem divWords_eq (a b : Nat) (ha : (can 4294967296 a).length ≤ 10000000000) (hb : (can 4294967296 b).length ≤ 10000000000) (h0 : b ≠ 0) :
    ∃ q r, whole_divWords_m (can 4294967296 a) (can 4294967296 b) = some (q, r) ∧ W32 q ∧ vl q = a / b ∧ W32 r ∧ vl r = a % b ∧ q.length ≤ 10000000001 ∧ r.length ≤ 10000000001 := by
  unfold whole_divWords_m
  rw [compareWords_eq a b (by omega) (by omega)]
  simp only [bsm]
  by_cases hlt : a < b
  · rw [cmpN_lt hlt]
    simp only [show decide ((-1 : Int) < 0) = true by decide, ctm]
    rw [clone_eq _ (by omega)]
    refine ⟨_, _, rfl, ⟨by simp, by simp⟩, ?_, can_W32 (by omega), ?_, by simp, by omega⟩
    · rw [Nat.div_eq_of_lt hlt]; rfl
    · rw [vl_can, Nat.mod_eq_of_lt hlt]
  · rw [cmpN_neg, show decide (a < b) = false by simp [hlt]]
    simp only [cfm]
    by_cases h2 : a < 18446744073709551616
    · rw [show decide (((can 4294967296 a).length : Int) ≤ 2) = true by rw [decide_eq_true_eq]; exact can_len2.2 h2]
      have hb2 : b < 18446744073709551616 := by omega
      simp only [ctm]
      have l1 := low_eq (can 4294967296 a) (fun _ hx => can_lt (by decide) hx) (by have := can_len2.2 h2; omega)
      have l2 := low_eq (can 4294967296 b) (fun _ hx => can_lt (by decide) hx) (by have := can_len2.2 hb2; omega)
      rw [vl_can] at l1 l2
      rw [l1, bsm, l2, bsm, uquo_of h0 h2, bsm, small_eq _ _ (Nat.lt_of_le_of_lt (Nat.div_le_self _ _) h2), bsm, urem_of h0, bsm, small_eq _ _ (Nat.lt_of_le_of_lt (Nat.mod_le _ _) h2), bsm]
      have hq : a / b < 18446744073709551616 := Nat.lt_of_le_of_lt (Nat.div_le_self _ _) h2
      have hr : a % b < 18446744073709551616 := Nat.lt_of_le_of_lt (Nat.mod_le _ _) h2
      have c1 := can_len2.2 hq
      have c2 := can_len2.2 hr
      exact ⟨_, _, rfl, can_W32 (by omega), vl_can _, can_W32 (by omega), vl_can _, by show (can _ _).length ≤ _; omega, by show (can _ _).length ≤ _; omega⟩
    · rw [show decide (((can 4294967296 a).length : Int) ≤ 2) = false by rw [decide_eq_false_iff_not]; exact fun h => h2 (can_len2.1 h)]
      simp only [cfm]
      have hlen0 : (can 4294967296 b).length ≠ 0 := fun h => h0 (can_len0.1 h)
      by_cases h1 : b < 4294967296
      · have h1' := can_len1.2 h1
        rw [show decide (((can 4294967296 b).length : Int) = 1) = true by simp; omega, ctm]
        have hg : (can 4294967296 b)[0]? = some b := by rw [can_get (by decide) (by omega)]; simp; exact h1
        rw [clone_eq _ (by omega), bsm, geti_zero hg, bsm, Nat.mod_eq_of_lt (b := 18446744073709551616) (by omega), shortDiv_eq _ _ (can_W32 (by omega)) (by omega) (by omega), bsm, vl_can]
        simp only []
        rw [eqLen_of (by rw [dig_len]), bsm]
        have hm : a % b < b := Nat.mod_lt _ (by omega)
        rw [Nat.mod_eq_of_lt (a := a % b) (by omega)]
        refine ⟨_, _, rfl, ⟨fun x hx => dig_lt (by decide) _ _ _ hx, by rw [dig_len]; omega⟩, ?_, ⟨?_, by simp⟩, ?_, by rw [dig_len]; omega, by simp⟩
        · show val _ _ = _
          rw [val_dig, Nat.mod_eq_of_lt (Nat.lt_of_le_of_lt (Nat.div_le_self _ _) (lt_can_len (by decide) a))]
        · intro x hx; simp at hx; omega
        · simp [vl, val]
      · have h1' : ¬ (((can 4294967296 b).length : Int) ≤ 1) := fun h => h1 (can_len1.1 h)
        rw [show decide (((can 4294967296 b).length : Int) = 1) = false by simp; omega, cfm]
        obtain ⟨n, hn⟩ : ∃ n, (can 4294967296 b).length = n + 2 := ⟨(can 4294967296 b).length - 2, by omega⟩
        have hl : (can 4294967296 b).length ≤ (can 4294967296 a).length := (can_len_iff (by decide)).2 (Nat.lt_of_le_of_lt (by omega) (lt_can_len (by decide) a))
        obtain ⟨l, x, hx, he⟩ := can_last (B := 4294967296) (by decide) h0
        have htop : (can 4294967296 b)[n + 1]? ≠ some 0 := by
          have : l.length = n + 1 := by rw [he] at hn; simp at hn; omega
          rw [he, ← this]; simp; exact hx
        rw [longDiv_eq _ _ (can_W32 (by omega)) (can_W32 (by omega)) hn hl htop, bsm, vl_can, vl_can]
        have hbp : 0 < b := by omega
        have e1 : a < 4294967296 ^ (can 4294967296 a).length := lt_can_len (by decide) a
        have e2 : b < 4294967296 ^ (can 4294967296 b).length := lt_can_len (by decide) b
        have e3 : 4294967296 ^ (n + 1) ≤ b := pow_le_of_can (by decide) (by omega)
        refine ⟨_, _, rfl, ⟨fun x hx => dig_lt (by decide) _ _ _ hx, by rw [dig_len]; omega⟩, ?_, ⟨fun x hx => dig_lt (by decide) _ _ _ hx, by rw [dig_len]; omega⟩, ?_, by rw [dig_len]; omega, by rw [dig_len]; omega⟩
        · show val _ _ = _
          rw [val_dig, Nat.mod_eq_of_lt]
          rw [Nat.div_lt_iff_lt_mul hbp]
          have : 4294967296 ^ ((can 4294967296 a).length - (can 4294967296 b).length + 1) * 4294967296 ^ (n + 1) = 4294967296 ^ (can 4294967296 a).length := by rw [← Nat.pow_add]; congr 1; omega
          calc a < 4294967296 ^ ((can 4294967296 a).length - (can 4294967296 b).length + 1) * 4294967296 ^ (n + 1) := by rw [this]; exact e1
            _ ≤ _ := Nat.mul_le_mul_left _ e3
        · show val _ _ = _
          rw [val_dig, Nat.mod_eq_of_lt (Nat.lt_trans (Nat.mod_lt _ hbp) e2)]
end Go.Proofs.YthgkgjogdgdcgaaGreat
namespace Go.Proofs.YthgkgjogdgdcgaaGreat
open Go.Fw
theorem fromInt_eq {x : Int} (h1 : -9223372036854775808 ≤ x) (h2 : x ≤ 9223372036854775807) : whole_FromInt64_m x = some (zn x) := by
  unfold whole_FromInt64_m
  simp only [bsm, letJ]
  by_cases hx : x < 0
  · have e : (x % 18446744073709551616).toNat = 18446744073709551616 - x.natAbs := by omega
    rw [show decide (x < 0) = true by simp [hx], ctm, e, usub_lt (by omega) (by omega), show 18446744073709551616 + 0 - (18446744073709551616 - x.natAbs) = x.natAbs by omega, small_eq _ _ (by omega), bsm, zc_zn, show sv true x.natAbs = x by simp [sv]; omega]
  · have e : (x % 18446744073709551616).toNat = x.natAbs := by omega
    rw [show decide (x < 0) = false by simp [hx], cfm, e, small_eq _ _ (by omega), bsm, zc_zn, show sv false x.natAbs = x by simp [sv]; omega]
def i64ok (i : Int) : Prop := -9223372036854775808 ≤ i ∧ i ≤ 9223372036854775807
instance (i : Int) : Decidable (i64ok i) := by unfold i64ok; infer_instance
def i64of (i : Int) : Int × Bool := if i64ok i then (i, true) else (0, false)
theorem int64_eq {z : Zr} (h : Wl z) : whole_Int64_m z = some (i64of (zi z)) := by
  obtain ⟨n, w⟩ := z
  unfold whole_Int64_m
  have ht := h.trim
  have hlow : vl w < 18446744073709551616 → whole_low_m (can 4294967296 (vl w)) = some (vl w) := fun h2 => by
    rw [low_eq _ (fun _ hx => can_lt (by decide) hx) (by have := can_len2.2 h2; omega), vl_can]
  show (whole_trim_m w).bind _ = some (i64of (sv n (vl w)))
  rw [show whole_trim_m w = some (can 4294967296 (vl w)) from ht]
  simp only [bsm]
  generalize vl w = v at *
  by_cases h2 : v < 18446744073709551616
  · have := can_len2.2 h2
    rw [show decide ((2 : Int) < ((can 4294967296 v).length : Int)) = false by simp; omega, cfm, hlow h2, bsm]
    cases n
    · rw [cfm, sv_false]
      by_cases h3 : v < 9223372036854775808
      · rw [show decide (9223372036854775808 ≤ v) = false by simp; omega, cfm, w64_nat (by omega), i64of, if_pos (by unfold i64ok; omega)]
      · rw [show decide (9223372036854775808 ≤ v) = true by simp; omega, ctm, i64of, if_neg (by unfold i64ok; omega)]
    · rw [ctm, show sv true v = -(v : Int) from rfl]
      by_cases h3 : 9223372036854775808 < v
      · rw [show decide (9223372036854775808 < v) = true by simp; omega, ctm, i64of, if_neg (by unfold i64ok; omega)]
      · rw [show decide (9223372036854775808 < v) = false by simp; omega, cfm, i64of, if_pos (by unfold i64ok; omega)]
        by_cases h0 : v = 0
        · subst h0; rfl
        · rw [usub_lt (by omega) (by omega)]
          rw [show IntKind.i64.wrap ((18446744073709551616 + 0 - v : Nat) : Int) = -(v : Int) by
            rw [IntKind.wrap]; simp [IntKind.signed, IntKind.bits]; omega]
  · have : ¬ (((can 4294967296 v).length : Int) ≤ 2) := fun h => h2 (can_len2.1 h)
    rw [show decide ((2 : Int) < ((can 4294967296 v).length : Int)) = true by simp; omega, ctm, i64of, if_neg (by unfold i64ok; cases n <;> simp [sv] <;> omega)]
theorem sign_eq {z : Zr} (h : Wl z) : whole_Sign_m z = some (zi z).sign := by
  obtain ⟨n, w⟩ := z
  unfold whole_Sign_m
  show (whole_trim_m w).bind _ = some (sv n (vl w)).sign
  rw [show whole_trim_m w = some (can 4294967296 (vl w)) from h.trim]
  simp only [bsm]
  generalize vl w = v
  by_cases h0 : v = 0
  · subst h0; cases n <;> rfl
  · have : (can 4294967296 v).length ≠ 0 := fun h => h0 (can_len0.1 h)
    rw [show decide (((can 4294967296 v).length : Int) = 0) = false by simp; intro e; rw [e] at this; exact this rfl, cfm]
    cases n
    · rw [cfm, sv_false, Int.sign_eq_one_of_pos (by omega)]
    · rw [ctm, show sv true v = -(v : Int) from rfl, Int.sign_eq_neg_one_of_neg (by omega)]
def cmpI (i j : Int) : Int := if i < j then -1 else if i = j then 0 else 1
theorem cmpI_lt {i j : Int} (h : i < j) : cmpI i j = -1 := by simp [cmpI, h]
theorem cmpI_gt {i j : Int} (h : j < i) : cmpI i j = 1 := by
  have h1 : ¬ i < j := by omega
  have h2 : ¬ i = j := by omega
  simp [cmpI, h1, h2]
theorem cmpI_self (i : Int) : cmpI i i = 0 := by simp [cmpI]
theorem cmpI_nat (v w : Nat) : cmpN v w = cmpI (v : Int) (w : Int) := by
  rcases Nat.lt_trichotomy v w with h | h | h
  · rw [cmpN_lt h, cmpI_lt (by omega)]
  · rw [h, cmpN_eq, cmpI_self]
  · rw [cmpN_gt h, cmpI_gt (by omega)]
theorem cmpI_neg (i j : Int) : cmpI (-i) (-j) = cmpI j i := by
  rcases Int.lt_trichotomy i j with h | h | h
  · rw [cmpI_gt h, cmpI_gt (by omega)]
  · rw [h, cmpI_self, cmpI_self]
  · rw [cmpI_lt h, cmpI_lt (by omega)]
theorem cmp_eq {x y : Zr} (hx : Wl x) (hy : Wl y) : whole_Cmp_m x y = some (cmpI (zi x) (zi y)) := by
  obtain ⟨n, w⟩ := x
  obtain ⟨m, u⟩ := y
  unfold whole_Cmp_m
  show (whole_Sign_m ⟨n, w⟩).bind _ = _
  rw [sign_eq hx, bsm]
  show (whole_Sign_m ⟨m, u⟩).bind _ = _
  rw [sign_eq hy, bsm, show whole_trim_m w = some (can 4294967296 (vl w)) from hx.trim, show whole_trim_m u = some (can 4294967296 (vl u)) from hy.trim]
  simp only [bsm]
  rw [compareWords_eq _ _ (Nat.le_trans hx.cl (by decide)) (Nat.le_trans hy.cl (by decide)), compareWords_eq _ _ (Nat.le_trans hy.cl (by decide)) (Nat.le_trans hx.cl (by decide))]
  simp only [bsm]
  rw [show zi ⟨n, w⟩ = sv n (vl w) from rfl, show zi ⟨m, u⟩ = sv m (vl u) from rfl]
  generalize vl w = a
  generalize vl u = b
  rw [cmpI_nat, cmpI_nat]
  obtain ⟨i, hi⟩ : ∃ i, sv n a = i := ⟨_, rfl⟩
  obtain ⟨j, hj⟩ : ∃ j, sv m b = j := ⟨_, rfl⟩
  have hia : (i < 0 → i = -(a : Int)) ∧ (0 ≤ i → i = a) := by rw [← hi]; cases n <;> simp [sv] <;> omega
  have hjb : (j < 0 → j = -(b : Int)) ∧ (0 ≤ j → j = b) := by rw [← hj]; cases m <;> simp [sv] <;> omega
  rw [hi, hj]
  rcases Int.lt_trichotomy i 0 with h1 | h1 | h1 <;> rcases Int.lt_trichotomy j 0 with h2 | h2 | h2
  · rw [Int.sign_eq_neg_one_of_neg h1, Int.sign_eq_neg_one_of_neg h2, hia.1 h1, hjb.1 h2, cmpI_neg]; rfl
  · rw [Int.sign_eq_neg_one_of_neg h1, show Int.sign j = 0 by rw [h2]; rfl, show cmpI i j = -1 from cmpI_lt (by omega)]; rfl
  · rw [Int.sign_eq_neg_one_of_neg h1, Int.sign_eq_one_of_pos h2, show cmpI i j = -1 from cmpI_lt (by omega)]; rfl
  · rw [show Int.sign i = 0 by rw [h1]; rfl, Int.sign_eq_neg_one_of_neg h2, show cmpI i j = 1 from cmpI_gt (by omega)]; rfl
  · rw [show Int.sign i = 0 by rw [h1]; rfl, show Int.sign j = 0 by rw [h2]; rfl, ← hia.2 (by omega), ← hjb.2 (by omega)]; rfl
  · rw [show Int.sign i = 0 by rw [h1]; rfl, Int.sign_eq_one_of_pos h2, show cmpI i j = -1 from cmpI_lt (by omega)]; rfl
  · rw [Int.sign_eq_one_of_pos h1, Int.sign_eq_neg_one_of_neg h2, show cmpI i j = 1 from cmpI_gt (by omega)]; rfl
  · rw [Int.sign_eq_one_of_pos h1, show Int.sign j = 0 by rw [h2]; rfl, show cmpI i j = 1 from cmpI_gt (by omega)]; rfl
  · rw [Int.sign_eq_one_of_pos h1, Int.sign_eq_one_of_pos h2, ← hia.2 (by omega), ← hjb.2 (by omega)]; rfl
theorem neg_eq {x : Zr} (hx : Wl x) : whole_Neg_m x = some (zn (-zi x)) := by
  obtain ⟨n, w⟩ := x
  unfold whole_Neg_m
  have hc : (can 4294967296 (vl w)).length ≤ 10000000000 := hx.cl
  simp only [bsm]
  rw [show whole_trim_m w = some (can 4294967296 (vl w)) from hx.trim, bsm, clone_eq _ (by omega), bsm, build_eq _ _ (can_W32 (by omega)), bsm, vl_can, zc_zn, sv_not]
  rfl
end Go.Proofs.YthgkgjogdgdcgaaGreat
namespace Go.Proofs.YthgkgjogdgdcgaaGreat
open Go.Fw
theorem signedSum_eq (n m : Bool) (a b : Nat) (ha : (can 4294967296 a).length ≤ 10000000000) (hb : (can 4294967296 b).length ≤ 10000000000) :
    whole_signedSum_m n (can 4294967296 a) m (can 4294967296 b) = some (zn (sv n a + sv m b)) := by
  have la := lt_can_len (B := 4294967296) (by decide) a
  have lb := lt_can_len (B := 4294967296) (by decide) b
  unfold whole_signedSum_m
  simp only [bsm]
  by_cases hnm : n = m
  · subst hnm
    rw [show (n == n) = true by simp, ctm, addWords_eq _ _ (can_W32 (by omega)) (can_W32 (by omega)), bsm, vl_can, vl_can, build_eq _ _ ⟨fun x hx => dig_lt (by decide) _ _ _ hx, by rw [dig_len]; omega⟩, bsm]
    have hv : vl (dig 4294967296 (max (can 4294967296 a).length (can 4294967296 b).length + 1) (a + b)) = a + b := by
      show val _ _ = _
      rw [val_dig, Nat.mod_eq_of_lt]
      have h1 : a < 4294967296 ^ (max (can 4294967296 a).length (can 4294967296 b).length) := Nat.lt_of_lt_of_le la (Nat.pow_le_pow_right (by decide) (by omega))
      have h2 : b < 4294967296 ^ (max (can 4294967296 a).length (can 4294967296 b).length) := Nat.lt_of_lt_of_le lb (Nat.pow_le_pow_right (by decide) (by omega))
      rw [Nat.pow_succ]; omega
    rw [hv, zc_zn, show sv n (a + b) = sv n a + sv n b by cases n <;> simp [sv]; omega]
  · rw [show (n == m) = false by simp [hnm], cfm, compareWords_eq _ _ (by omega) (by omega), bsm, cmpN_neg]
    have hm : m = !n := by cases n <;> cases m <;> simp_all
    subst hm
    have hv : ∀ c d, d ≤ c → (can 4294967296 c).length ≤ 10000000000 → whole_subWords_m (can 4294967296 c) (can 4294967296 d) = some (dig 4294967296 (can 4294967296 c).length (c - d)) ∧ vl (dig 4294967296 (can 4294967296 c).length (c - d)) = c - d := by
      intro c d hdc hcl
      have lc := lt_can_len (B := 4294967296) (by decide) c
      have hdl : (can 4294967296 d).length ≤ (can 4294967296 c).length := (can_len_iff (by decide)).2 (by omega)
      constructor
      · rw [subWords_eq _ _ (can_W32 (by omega)) (can_W32 (by omega)) hdl (by rw [vl_can, vl_can]; exact hdc), vl_can, vl_can]
      · show val _ _ = _
        rw [val_dig, Nat.mod_eq_of_lt (by omega)]
    by_cases hlt : a < b
    · obtain ⟨h1, h2⟩ := hv b a (by omega) hb
      rw [show decide (a < b) = true by simp [hlt], ctm, h1, bsm, build_eq _ _ ⟨fun x hx => dig_lt (by decide) _ _ _ hx, by rw [dig_len]; omega⟩, bsm, h2, zc_zn, show sv (!n) (b - a) = sv n a + sv (!n) b by cases n <;> simp [sv] <;> omega]
    · obtain ⟨h1, h2⟩ := hv a b (by omega) ha
      rw [show decide (a < b) = false by simp [hlt], cfm, h1, bsm, build_eq _ _ ⟨fun x hx => dig_lt (by decide) _ _ _ hx, by rw [dig_len]; omega⟩, bsm, h2, zc_zn, show sv n (a - b) = sv n a + sv (!n) b by cases n <;> simp [sv] <;> omega]
theorem wrap_bv (v : BitVec 64) : IntKind.i64.wrap (v.toNat : Int) = v.toInt := by
  rw [BitVec.toInt_eq_toNat_cond]
  have := v.isLt
  rw [show (2 : Nat) ^ 64 = 18446744073709551616 by decide] at this ⊢
  split
  · rw [w64_nat (by omega)]
  · rw [IntKind.wrap]; simp [IntKind.signed, IntKind.bits]; omega
theorem bv_of (v : BitVec 64) : BitVec.ofInt 64 (IntKind.i64.wrap (v.toNat : Int)) = v := by rw [wrap_bv, BitVec.ofInt_toInt]
theorem msb_of {x : Int} (h : i64ok x) : (BitVec.ofInt 64 x).msb = decide (x < 0) := by
  rw [BitVec.msb_eq_toInt, BitVec.toInt_ofInt]
  unfold i64ok at h
  have : x.bmod (2 ^ 64) = x := by
    rw [Int.bmod_def]
    simp only [show ((2 ^ 64 : Nat) : Int) = 18446744073709551616 by decide]
    split <;> omega
  rw [this]
theorem nonneg_bv (v : BitVec 64) : decide ((0 : Int) ≤ IntKind.i64.wrap (v.toNat : Int)) = !v.msb := by
  rw [wrap_bv, BitVec.msb_eq_toInt]
  by_cases h : v.toInt < 0
  · simp [h]
  · simp [h]; omega
theorem i64_wrap (x : Int) : i64ok (IntKind.i64.wrap x) := by
  unfold i64ok
  rw [IntKind.wrap]; simp [IntKind.signed, IntKind.bits]; split <;> omega
theorem bif_same {α : Type} (b : Bool) (x : α) : (bif b then x else x) = x := by cases b <;> rfl
theorem i64of_ok {i : Int} (h : i64ok i) : i64of i = (i, true) := if_pos h
theorem i64of_no {i : Int} (h : ¬ i64ok i) : i64of i = (0, false) := if_neg h
theorem add_eq {x y : Zr} (hx : Wl x) (hy : Wl y) : whole_Add_m x y = some (zn (zi x + zi y)) := by
  obtain ⟨n, w⟩ := x
  obtain ⟨m, u⟩ := y
  unfold whole_Add_m
  simp only [int64_eq hx, int64_eq hy, bsm, letJ]
  have hK : ((whole_trim_m w).bind fun x41 => (whole_trim_m u).bind fun x46 => (whole_signedSum_m n x41 m x46).bind fun x => some x) = some (zn (zi ⟨n, w⟩ + zi ⟨m, u⟩)) := by
    rw [show whole_trim_m w = some (can 4294967296 (vl w)) from hx.trim, show whole_trim_m u = some (can 4294967296 (vl u)) from hy.trim, bsm, bsm, signedSum_eq _ _ _ _ hx.cl hy.cl, bsm]; rfl
  have hK' : ((whole_trim_m w).bind fun x41 => (whole_trim_m u).bind fun x46 => (whole_signedSum_m n x41 m x46).bind fun x => some ⟨x.neg, x.w⟩) = some (zn (zi ⟨n, w⟩ + zi ⟨m, u⟩)) := hK
  rw [hK']
  generalize zi ⟨n, w⟩ = i
  generalize zi ⟨m, u⟩ = j
  by_cases h1 : i64ok i
  · by_cases h2 : i64ok j
    · rw [i64of_ok h1, i64of_ok h2, ctm, bsm, ctm, bv_of, bv_of, nonneg_bv, BitVec.msb_and, BitVec.msb_xor, BitVec.msb_xor, msb_of h1, msb_of h2, msb_of (i64_wrap _), fromInt_eq (i64_wrap _).1 (i64_wrap _).2, bsm]
      by_cases hr : i64ok (i + j)
      · rw [w64_id hr.1 hr.2]
        exact bif_same _ _
      · have : (!((decide (i < 0) ^^ decide (IntKind.i64.wrap (i + j) < 0)) && (decide (j < 0) ^^ decide (IntKind.i64.wrap (i + j) < 0)))) = false := by
          unfold i64ok at *
          by_cases hs : i < 0
          · have e : IntKind.i64.wrap (i + j) = i + j + 18446744073709551616 := by rw [IntKind.wrap]; simp [IntKind.signed, IntKind.bits]; omega
            rw [e, show decide (i < 0) = true by simp [hs], show decide (j < 0) = true by simp; omega, show decide (i + j + 18446744073709551616 < 0) = false by simp; omega]; rfl
          · have e : IntKind.i64.wrap (i + j) = i + j - 18446744073709551616 := by rw [IntKind.wrap]; simp [IntKind.signed, IntKind.bits]; omega
            rw [e, show decide (i < 0) = false by simp [hs], show decide (j < 0) = false by simp; omega, show decide (i + j - 18446744073709551616 < 0) = true by simp; omega]; rfl
        rw [this, cfm]
    · rw [i64of_ok h1, i64of_no h2, ctm, bsm, cfm]
  · rw [i64of_no h1, cfm, bsm, cfm]
theorem sub_eq {x y : Zr} (hx : Wl x) (hy : Wl y) : whole_Sub_m x y = some (zn (zi x - zi y)) := by
  obtain ⟨n, w⟩ := x
  obtain ⟨m, u⟩ := y
  unfold whole_Sub_m
  simp only [int64_eq hx, int64_eq hy, bsm, letJ]
  have hK' : ((whole_trim_m w).bind fun x41 => (whole_trim_m u).bind fun x46 => (whole_signedSum_m n x41 (!m) x46).bind fun x => some ⟨x.neg, x.w⟩) = some (zn (zi ⟨n, w⟩ - zi ⟨m, u⟩)) := by
    rw [show whole_trim_m w = some (can 4294967296 (vl w)) from hx.trim, show whole_trim_m u = some (can 4294967296 (vl u)) from hy.trim, bsm, bsm, signedSum_eq _ _ _ _ hx.cl hy.cl, bsm, sv_not, ← Int.sub_eq_add_neg]; rfl
  rw [hK']
  generalize zi ⟨n, w⟩ = i
  generalize zi ⟨m, u⟩ = j
  by_cases h1 : i64ok i
  · by_cases h2 : i64ok j
    · rw [i64of_ok h1, i64of_ok h2, ctm, bsm, ctm, bv_of, bv_of, nonneg_bv, BitVec.msb_and, BitVec.msb_xor, BitVec.msb_xor, msb_of h1, msb_of h2, msb_of (i64_wrap _), fromInt_eq (i64_wrap _).1 (i64_wrap _).2, bsm]
      by_cases hr : i64ok (i - j)
      · rw [w64_id hr.1 hr.2]
        exact bif_same _ _
      · have : (!((decide (i < 0) ^^ decide (j < 0)) && (decide (i < 0) ^^ decide (IntKind.i64.wrap (i - j) < 0)))) = false := by
          unfold i64ok at *
          by_cases hs : i < 0
          · have e : IntKind.i64.wrap (i - j) = i - j + 18446744073709551616 := by rw [IntKind.wrap]; simp [IntKind.signed, IntKind.bits]; omega
            rw [e, show decide (i < 0) = true by simp [hs], show decide (j < 0) = false by simp; omega, show decide (i - j + 18446744073709551616 < 0) = false by simp; omega]; rfl
          · have e : IntKind.i64.wrap (i - j) = i - j - 18446744073709551616 := by rw [IntKind.wrap]; simp [IntKind.signed, IntKind.bits]; omega
            rw [e, show decide (i < 0) = false by simp [hs], show decide (j < 0) = true by simp; omega, show decide (i - j - 18446744073709551616 < 0) = true by simp; omega]; rfl
        rw [this, cfm]
    · rw [i64of_ok h1, i64of_no h2, ctm, bsm, cfm]
  · rw [i64of_no h1, cfm, bsm, cfm]
theorem sv_mul (n m : Bool) (a b : Nat) : sv (!(n == m)) (a * b) = sv n a * sv m b := by
  cases n <;> cases m <;> simp [sv, Int.neg_mul, Int.mul_neg]
theorem mul_eq {x y : Zr} (hx : Wl x) (hy : Wl y) : whole_Mul_m x y = some (zn (zi x * zi y)) := by
  obtain ⟨n, w⟩ := x
  obtain ⟨m, u⟩ := y
  unfold whole_Mul_m
  have hcx : (can 4294967296 (vl w)).length ≤ 10000000000 := hx.cl
  have hcy : (can 4294967296 (vl u)).length ≤ 10000000000 := hy.cl
  simp only []
  rw [show whole_trim_m w = some (can 4294967296 (vl w)) from hx.trim, show whole_trim_m u = some (can 4294967296 (vl u)) from hy.trim, bsm, bsm, show zi ⟨n, w⟩ = sv n (vl w) from rfl, show zi ⟨m, u⟩ = sv m (vl u) from rfl]
  simp only [bsm, letJ]
  generalize vl w = a at *
  generalize vl u = b at *
  have la := lt_can_len (B := 4294967296) (by decide) a
  have lb := lt_can_len (B := 4294967296) (by decide) b
  have hK : ((whole_mulWords_m (can 4294967296 a) (can 4294967296 b)).bind fun x39 => (whole_build_m (!(n == m)) x39).bind fun x => some ⟨x.neg, x.w⟩) = some (zn (sv n a * sv m b)) := by
    rw [mulWords_eq _ _ (can_W32 (by omega)) (can_W32 (by omega)), bsm, vl_can, vl_can, build_eq _ _ ⟨fun x hx => dig_lt (by decide) _ _ _ hx, by rw [dig_len]; omega⟩, bsm, zc_zn]
    have hv : vl (dig 4294967296 ((can 4294967296 a).length + (can 4294967296 b).length) (a * b)) = a * b := by
      show val _ _ = _
      rw [val_dig, Nat.mod_eq_of_lt]
      rw [Nat.pow_add]; exact Nat.mul_lt_mul'' la lb
    rw [hv, sv_mul]
  rw [hK]
  by_cases h1 : a < 4294967296
  · by_cases h2 : b < 4294967296
    · have l1 := low_eq (can 4294967296 a) (fun _ hx => can_lt (by decide) hx) (by have := can_len1.2 h1; omega)
      have l2 := low_eq (can 4294967296 b) (fun _ hx => can_lt (by decide) hx) (by have := can_len1.2 h2; omega)
      rw [vl_can] at l1 l2
      have hlt : a * b < 18446744073709551616 := Nat.mul_lt_mul'' h1 h2
      rw [show decide (((can 4294967296 a).length : Int) ≤ 1) = true by rw [decide_eq_true_eq]; exact can_len1.2 h1, ctm, bsm, show decide (((can 4294967296 b).length : Int) ≤ 1) = true by rw [decide_eq_true_eq]; exact can_len1.2 h2, ctm, l1, l2, bsm, bsm, Nat.mod_eq_of_lt hlt, small_eq _ _ hlt, bsm, zc_zn, sv_mul]
    · rw [show decide (((can 4294967296 a).length : Int) ≤ 1) = true by rw [decide_eq_true_eq]; exact can_len1.2 h1, ctm, bsm, show decide (((can 4294967296 b).length : Int) ≤ 1) = false by rw [decide_eq_false_iff_not]; exact fun h => h2 (can_len1.1 h), cfm]
  · rw [show decide (((can 4294967296 a).length : Int) ≤ 1) = false by rw [decide_eq_false_iff_not]; exact fun h => h1 (can_len1.1 h), cfm, bsm, cfm]
end Go.Proofs.YthgkgjogdgdcgaaGreat
namespace Go.Proofs.YthgkgjogdgdcgaaGreat
open Go.Fw
theorem sv_div (n m : Bool) {a b : Nat} (hb : 0 < b) :
    sv n a / sv m b = (if n = true ∧ 0 < a % b then sv (!(n == m)) (a / b + 1) else sv (!(n == m)) (a / b)) ∧
    sv n a % sv m b = (if n = true ∧ 0 < a % b then ((b - a % b : Nat) : Int) else ((a % b : Nat) : Int)) := by
  have hd := Nat.div_add_mod a b
  have hm := Nat.mod_lt a hb
  revert hd hm
  generalize a / b = q
  generalize a % b = r
  intro hd hm
  have hd' : (b : Int) * q + r = a := by exact_mod_cast hd
  have pos : ∀ n, sv n a / (b : Int) = (if n = true ∧ 0 < r then sv n (q + 1) else sv n q) ∧ sv n a % (b : Int) = (if n = true ∧ 0 < r then ((b - r : Nat) : Int) else (r : Int)) := by
    intro n
    apply (Int.ediv_emod_unique (by omega)).2
    cases n
    · simp [sv]; omega
    · by_cases hr : 0 < r
      · simp only [hr, and_self, if_true, sv, cond_true]
        have : (b : Int) * -((q + 1 : Nat) : Int) = -((b : Int) * q) - b := by
          rw [Int.mul_neg, Int.natCast_add, Int.mul_add]; simp; omega
        rw [this]; omega
      · have : r = 0 := by omega
        subst this
        simp [sv, Int.mul_neg]; omega
  cases m
  · have := pos n
    rw [sv_false, show (!(n == false)) = n by cases n <;> rfl]
    exact this
  · have := pos n
    rw [show sv true b = -(b : Int) from rfl, Int.ediv_neg, Int.emod_neg, this.1, this.2, show (!(n == true)) = !n by cases n <;> rfl, sv_not, sv_not]
    refine ⟨?_, rfl⟩
    split <;> rfl
theorem canSub {a b : Nat} (hba : b ≤ a) (hcl : (can 4294967296 a).length ≤ 10000000000) : whole_subWords_m (can 4294967296 a) (can 4294967296 b) = some (dig 4294967296 (can 4294967296 a).length (a - b)) ∧ vl (dig 4294967296 (can 4294967296 a).length (a - b)) = a - b := by
  have lc := lt_can_len (B := 4294967296) (by decide) a
  have hdl : (can 4294967296 b).length ≤ (can 4294967296 a).length := (can_len_iff (by decide)).2 (by omega)
  constructor
  · rw [subWords_eq _ _ (can_W32 (by omega)) (can_W32 (by omega)) hdl (by rw [vl_can, vl_can]; exact hba), vl_can, vl_can]
  · show val _ _ = _
    rw [val_dig, Nat.mod_eq_of_lt (by omega)]
def dmOf (i j : Int) : Zr × Zr × Int := if j = 0 then (⟨false, []⟩, ⟨false, []⟩, 7) else (zn (i / j), zn (i % j), 0)
theorem divMod_eq {x y : Zr} (hx : Wl x) (hy : Wl y) : whole_DivMod_m x y = some (dmOf (zi x) (zi y)) := by
  obtain ⟨n, w⟩ := x
  obtain ⟨m, u⟩ := y
  unfold whole_DivMod_m
  have hcx : (can 4294967296 (vl w)).length ≤ 10000000000 := hx.cl
  have hcy : (can 4294967296 (vl u)).length ≤ 10000000000 := hy.cl
  simp only []
  rw [show whole_trim_m w = some (can 4294967296 (vl w)) from hx.trim, show whole_trim_m u = some (can 4294967296 (vl u)) from hy.trim, bsm, bsm, show zi ⟨n, w⟩ = sv n (vl w) from rfl, show zi ⟨m, u⟩ = sv m (vl u) from rfl]
  simp only [bsm, letJ]
  generalize vl w = a at *
  generalize vl u = b at *
  by_cases h0 : b = 0
  · subst h0
    rw [show sv m 0 = 0 by cases m <;> rfl]; rfl
  · have hlen0 : (can 4294967296 b).length ≠ 0 := fun h => h0 (can_len0.1 h)
    rw [show decide (((can 4294967296 b).length : Int) = 0) = false by simp; intro e; rw [e] at hlen0; exact hlen0 rfl, cfm]
    obtain ⟨q, r, hqr, hq1, hq2, hr1, hr2, hq3, hr3⟩ := divWords_eq a b hcx hcy h0
    have hm : a % b < b := Nat.mod_lt _ (by omega)
    obtain ⟨e1, e2⟩ := sv_div n m (a := a) (show 0 < b by omega)
    have hj : sv m b ≠ 0 := by cases m <;> simp [sv] <;> omega
    rw [hqr, bsm]
    simp only []
    rw [trim_eq r (by have := hr1.2; omega), trim_can (by decide) hr1.1, show val 4294967296 r = a % b from hr2, bsm, dmOf, if_neg hj, e1, e2]
    have hrl : (can 4294967296 (a % b)).length ≤ (can 4294967296 b).length := (can_len_iff (by decide)).2 (Nat.lt_trans hm (lt_can_len (by decide) b))
    have hK : ∀ c : Bool, (decide (n = true ∧ 0 < a % b) = c) → (bif c then (whole_addWords_m q [1]).bind fun x39 => (whole_subWords_m (can 4294967296 b) (can 4294967296 (a % b))).bind fun x42 => (whole_build_m (!(n == m)) x39).bind fun x => (whole_build_m false x42).bind fun x_1 => some ((⟨x.neg, x.w⟩ : Zr), (⟨x_1.neg, x_1.w⟩ : Zr), (0 : Int))
        else (whole_build_m (!(n == m)) q).bind fun x => (whole_build_m false (can 4294967296 (a % b))).bind fun x_1 => some ((⟨x.neg, x.w⟩ : Zr), (⟨x_1.neg, x_1.w⟩ : Zr), (0 : Int))) =
        some (zn (if n = true ∧ 0 < a % b then sv (!(n == m)) (a / b + 1) else sv (!(n == m)) (a / b)), zn (if n = true ∧ 0 < a % b then ((b - a % b : Nat) : Int) else ((a % b : Nat) : Int)), 0) := by
      intro c hc
      cases c
      · have hc' := of_decide_eq_false hc
        rw [cfm, if_neg hc', if_neg hc', build_eq _ _ hq1, bsm, build_eq _ _ (can_W32 (by omega)), bsm, vl_can, hq2, zc_zn, zc_zn, sv_false]
      · have hc' := of_decide_eq_true hc
        obtain ⟨s1, s2⟩ := canSub (a := b) (b := a % b) (by omega) hcy
        have w1 : W32 [1] := ⟨by simp, by simp⟩
        rw [ctm, if_pos hc', if_pos hc', addWords_eq _ _ hq1 w1, bsm, s1, bsm, build_eq _ _ ⟨fun x hx => dig_lt (by decide) _ _ _ hx, by rw [dig_len]; simp; omega⟩, bsm, build_eq _ _ ⟨fun x hx => dig_lt (by decide) _ _ _ hx, by rw [dig_len]; omega⟩, bsm, s2, zc_zn, zc_zn, sv_false]
        have : vl (dig 4294967296 (max q.length [1].length + 1) (vl q + vl [1])) = a / b + 1 := by
          show val _ _ = _
          rw [val_dig, show vl [1] = 1 by decide, hq2, Nat.mod_eq_of_lt]
          have h1 : vl q < 4294967296 ^ q.length := val_lt q hq1.1
          rw [hq2] at h1
          have h2 : 4294967296 ^ q.length ≤ 4294967296 ^ (max q.length [1].length) := Nat.pow_le_pow_right (by decide) (by omega)
          have h3 : 0 < 4294967296 ^ (max q.length [1].length) := Nat.pow_pos (by decide)
          rw [Nat.pow_succ]; omega
        rw [this]
    have hz : (0 < (can 4294967296 (a % b)).length) ↔ 0 < a % b := by
      have := can_len0 (v := a % b); omega
    cases n
    · rw [cfm, bsm]
      exact hK false (by simp)
    · rw [ctm, bsm]
      refine hK _ ?_
      simp only [true_and]
      by_cases h : 0 < a % b
      · simp [h, hz.2 h]
      · have h' : ¬ 0 < (can 4294967296 (a % b)).length := fun e => h (hz.1 e)
        have h'' : ¬ ((0 : Int) < ((can 4294967296 (a % b)).length : Int)) := by omega
        simp only [h, h'', decide_false]
theorem gcd_eq {x y : Zr} (hx : Wl x) (hy : Wl y) : whole_GCD_m x y = some (zn (Int.gcd (zi x) (zi y) : Int)) := by
  obtain ⟨n, w⟩ := x
  obtain ⟨m, u⟩ := y
  unfold whole_GCD_m
  have hcx : (can 4294967296 (vl w)).length ≤ 10000000000 := hx.cl
  have hcy : (can 4294967296 (vl u)).length ≤ 10000000000 := hy.cl
  simp only []
  rw [show whole_trim_m w = some (can 4294967296 (vl w)) from hx.trim, show whole_trim_m u = some (can 4294967296 (vl u)) from hy.trim, bsm, bsm, Int.gcd, zi_abs, zi_abs]
  show _ = some (zn ((Nat.gcd (vl w) (vl u) : Nat) : Int))
  generalize vl w = a at *
  generalize vl u = b at *
  refine bind_loop (fun s => ∃ c d, s = (can 4294967296 c, can 4294967296 d) ∧ Nat.gcd c d = Nat.gcd a b ∧ (can 4294967296 c).length ≤ 10000000000 ∧ (can 4294967296 d).length ≤ 10000000000)
    (fun s => ∃ c d, s = (can 4294967296 c, can 4294967296 d) ∧ Nat.gcd c d = Nat.gcd a b ∧ (can 4294967296 c).length ≤ 10000000000 ∧ (d = 0 ∨ (c < 18446744073709551616 ∧ d < 18446744073709551616))) (fun s => vl s.2) ?_ ⟨a, b, rfl, rfl, hcx, hcy⟩ ?_
  · rintro _ ⟨c, d, rfl, hg, hc, hd⟩
    simp only [bsm, letJ]
    by_cases h0 : d = 0
    · right
      subst h0
      exact ⟨_, rfl, c, 0, rfl, hg, hc, .inl rfl⟩
    · have hlen0 : (can 4294967296 d).length ≠ 0 := fun h => h0 (can_len0.1 h)
      rw [show decide ((0 : Int) < ((can 4294967296 d).length : Int)) = true by simp; omega, ctm]
      by_cases h2 : c < 18446744073709551616 ∧ d < 18446744073709551616
      · right
        have c1 := can_len2.2 h2.1
        have c2 := can_len2.2 h2.2
        rw [show decide ((2 : Int) < ((can 4294967296 c).length : Int)) = false by simp; omega, cfm, show decide ((2 : Int) < ((can 4294967296 d).length : Int)) = false by simp; omega]
        exact ⟨_, rfl, c, d, rfl, hg, hc, .inr h2⟩
      · left
        have hm : c % d < d := Nat.mod_lt _ (by omega)
        obtain ⟨q, r, hqr, hq1, hq2, hr1, hr2, -, -⟩ := divWords_eq c d hc hd h0
        have hcond : ((bif decide ((2 : Int) < ((can 4294967296 c).length : Int)) then some true else some (decide ((2 : Int) < ((can 4294967296 d).length : Int)))) : Option Bool) = some true := by
          by_cases hc2 : c < 18446744073709551616
          · have hd2 : ¬ d < 18446744073709551616 := fun h => h2 ⟨hc2, h⟩
            have : ¬ (((can 4294967296 d).length : Int) ≤ 2) := fun h => hd2 (can_len2.1 h)
            rw [show decide ((2 : Int) < ((can 4294967296 d).length : Int)) = true by simp; omega]
            exact bif_same _ _
          · have : ¬ (((can 4294967296 c).length : Int) ≤ 2) := fun h => hc2 (can_len2.1 h)
            rw [show decide ((2 : Int) < ((can 4294967296 c).length : Int)) = true by simp; omega, ctm]
        rw [hcond, bsm, bsm, ctm, hqr, bsm]
        simp only []
        rw [trim_eq r (by have := hr1.2; omega), trim_can (by decide) hr1.1, show val 4294967296 r = c % d from hr2, bsm]
        refine ⟨_, rfl, ⟨d, c % d, rfl, ?_, hd, ?_⟩, ?_⟩
        · rw [← hg, Nat.gcd_comm d, ← Nat.gcd_rec, Nat.gcd_comm]
        · exact Nat.le_trans ((can_len_iff (by decide)).2 (Nat.lt_trans hm (lt_can_len (by decide) d))) hd
        · simp only [vl_can]; exact hm
  · rintro _ ⟨c, d, rfl, hg, hc, hcase⟩
    simp only [bsm]
    by_cases h0 : d = 0
    · subst h0
      rw [show decide (((can 4294967296 0).length : Int) = 0) = true by simp [can_zero], ctm, clone_eq _ (by omega), bsm, build_eq _ _ (can_W32 (by omega)), bsm, vl_can, zc_zn, sv_false, ← hg, Nat.gcd_zero_right]
    · have h2 := hcase.resolve_left h0
      have hlen0 : (can 4294967296 d).length ≠ 0 := fun h => h0 (can_len0.1 h)
      have c1 := can_len2.2 h2.1
      have c2 := can_len2.2 h2.2
      rw [show decide (((can 4294967296 d).length : Int) = 0) = false by simp; intro e; rw [e] at hlen0; exact hlen0 rfl, cfm, low_eq _ (fun _ hx => can_lt (by decide) hx) (by omega), bsm, low_eq _ (fun _ hx => can_lt (by decide) hx) (by omega), bsm, vl_can, vl_can]
      refine bind_loop (fun s => Nat.gcd s.1 s.2 = Nat.gcd a b ∧ s.1 < 18446744073709551616 ∧ s.2 < 18446744073709551616) (fun e => e = Nat.gcd a b ∧ e < 18446744073709551616) (fun s => s.2) ?_ ⟨hg, h2.1, h2.2⟩ ?_
      · rintro ⟨s, t⟩ ⟨i1, i2, i3⟩
        simp only at i1 i2 i3 ⊢
        by_cases ht : 0 < t
        · left
          rw [show decide (0 < t) = true by simp [ht], ctm, urem_of (by omega), bsm]
          refine ⟨_, rfl, ⟨?_, i3, ?_⟩, Nat.mod_lt _ ht⟩
          · rw [← i1, Nat.gcd_comm t, ← Nat.gcd_rec, Nat.gcd_comm]
          · exact Nat.lt_trans (Nat.mod_lt _ ht) i3
        · right
          rw [show decide (0 < t) = false by simp [ht], cfm]
          refine ⟨_, rfl, ?_, i2⟩
          rw [← i1, show t = 0 by omega, Nat.gcd_zero_right]
      · rintro e ⟨rfl, he⟩
        rw [small_eq _ _ he, bsm, zc_zn, sv_false]
end Go.Proofs.YthgkgjogdgdcgaaGreat
namespace Go.Proofs.YthgkgjogdgdcgaaGreat
open Go.Fw
def zl (l : List Nat) : List Int := l.map (fun (n : Nat) => (n : Int))
theorem zl_len (l : List Nat) : (zl l).length = l.length := by simp [zl]
theorem zl_get {l : List Nat} {i x : Nat} (h : l[i]? = some x) : (zl l)[i]? = some (x : Int) := by simp [zl, h]
theorem zl_app (l k : List Nat) : zl (l ++ k) = zl l ++ zl k := by simp [zl]
theorem zl_one (x : Nat) : zl [x] = [(x : Int)] := rfl
theorem zl_take (l : List Nat) (n : Nat) : (zl l).take n = zl (l.take n) := by simp [zl, List.map_take]
theorem zl_set (l : List Nat) (i x : Nat) : (zl l).set i (x : Int) = zl (l.set i x) := by simp [zl, List.map_set]
def H16 (l : List Nat) : Prop := (∀ x ∈ l, x < 65536) ∧ l.length ≤ 100000000000
abbrev v16 (l : List Nat) : Nat := val 65536 l
theorem rtrim_eq (l : List Nat) (hl : l.length ≤ 1000000000000) : ref01_trim_m (zl l) = some (zl (trimW l)) := by
  unfold ref01_trim_m
  simp only [bsm]
  refine bind_loop (fun y => ∃ n : Nat, y = (n : Int) ∧ n ≤ l.length ∧ trimW (l.take n) = trimW l) (fun y => ∃ n : Nat, y = (n : Int) ∧ n ≤ l.length ∧ l.take n = trimW l) (fun y => y.toNat) ?_ ⟨l.length, by rw [zl_len], Nat.le_refl _, by rw [List.take_length]⟩ ?_
  · rintro _ ⟨n, rfl, hn, ht⟩
    simp only [letJ]
    rcases n with _ | n
    · right
      refine ⟨_, rfl, 0, rfl, by omega, ?_⟩
      rw [← ht]; rfl
    · have hi : ∃ x, l[n]? = some x := ⟨l[n], by simp⟩
      obtain ⟨x, hx⟩ := hi
      have htk : l.take (n + 1) = l.take n ++ [x] := by
        rw [List.take_add_one, hx]; rfl
      rw [show decide ((0 : Int) < ((n + 1 : Nat) : Int)) = true by rw [decide_eq_true_eq]; omega, ctm, w64_pred (by omega), geti_nat (zl_get hx), bsm]
      by_cases h0 : x = 0
      · left
        subst h0
        rw [show decide (((0 : Nat) : Int) = 0) = true by simp, bsm, ctm]
        refine ⟨_, rfl, ⟨n, rfl, by omega, ?_⟩, by omega⟩
        rw [← ht, htk, trimW_zero]
      · right
        rw [show decide (((x : Nat) : Int) = 0) = false by simp; omega, bsm, cfm]
        refine ⟨_, rfl, n + 1, rfl, hn, ?_⟩
        rw [← ht, htk, trimW_last _ h0]
  · rintro _ ⟨n, rfl, hn, ht⟩
    rw [subM_zero (by rw [zl_len]; exact hn), bsm, zl_take, ht]
theorem at_eq {l : List Nat} (h : ∀ x ∈ l, x < 65536) (i : Nat) : ref01_at_m (zl l) (i : Int) = some ((v16 l / 65536 ^ i % 65536 : Nat) : Int) := by
  unfold ref01_at_m
  simp only [bsm]
  rw [zl_len]
  by_cases hi : i < l.length
  · rw [show decide ((i : Int) < (l.length : Int)) = true by simp [hi], ctm, geti_nat (zl_get (get_val h hi)), bsm]
  · rw [show decide ((i : Int) < (l.length : Int)) = false by simp; omega, cfm]
    have : v16 l / 65536 ^ i = 0 := Nat.div_eq_of_lt (Nat.lt_of_lt_of_le (val_lt l h) (Nat.pow_le_pow_right (by decide) (by omega)))
    rw [this]; rfl
theorem val_halves (V k : Nat) : dig 65536 (2 * k) V ++ [V / 4294967296 ^ k % 4294967296 % 65536, V / 4294967296 ^ k % 4294967296 / 65536] = dig 65536 (2 * (k + 1)) V := by
  have e : 65536 ^ (2 * k) = 4294967296 ^ k := by rw [Nat.pow_mul]
  rw [show 2 * (k + 1) = 2 * k + 1 + 1 by omega, dig_succ, dig_succ, Nat.pow_succ, e, ← Nat.div_div_eq_div_mul, List.append_assoc]
  generalize V / 4294967296 ^ k = x
  rw [show x % 4294967296 % 65536 = x % 65536 by omega, show x % 4294967296 / 65536 = x / 65536 % 65536 by omega]
  rfl
theorem halves_eq (w : List Nat) (hw : W32 w) : ref01_halves_m w = some (zl (can 65536 (vl w))) := by
  obtain ⟨hl, hn⟩ := hw
  unfold ref01_halves_m
  refine bind_loop_to (fun i => ((i : Int), zl (dig 65536 (2 * i) (vl w)))) w.length (zl (dig 65536 (2 * w.length) (vl w))) ?_ (fun k hk => ?_) ?_ ?_
  · rfl
  · have hg := get_val hl hk
    have hlt := Nat.mod_lt (val 4294967296 w / 4294967296 ^ k) (show 0 < 4294967296 by decide)
    have hv := val_halves (vl w) k
    simp only [bsm]
    rw [show decide ((k : Int) < (w.length : Int)) = true by simp [hk], ctm, geti_nat hg, bsm, bsm, w64_nat (by omega), w64_nat (by omega), apMl (by decide) (by rw [zl_len, dig_len]; simp; omega), bsm, w64_succ (by omega)]
    rw [← hv, zl_app]
    rw [show val 4294967296 w / 4294967296 ^ k % 4294967296 / 65536 % 4294967296 = val 4294967296 w / 4294967296 ^ k % 4294967296 / 65536 by omega]
    rfl
  · simp
  · rw [rtrim_eq _ (by rw [dig_len]; omega), bsm, trim_dig (by decide)]
    rw [Nat.pow_mul]; exact val_lt w hl
theorem pow16 (k : Nat) : 65536 ^ (2 * k) = 4294967296 ^ k := by rw [Nat.pow_mul]
theorem can_halves (v : Nat) : can 4294967296 v = dig 4294967296 (((can 65536 v).length + 1) / 2) v := by
  have h1 := lt_can_len (B := 65536) (by decide) v
  obtain ⟨n, hn⟩ : ∃ n, (can 65536 v).length = n := ⟨_, rfl⟩
  rw [hn] at h1 ⊢
  have h2 : v < 4294967296 ^ ((n + 1) / 2) := by
    rw [← pow16]; exact Nat.lt_of_lt_of_le h1 (Nat.pow_le_pow_right (by decide) (by omega))
  rw [can_dig (by decide) v]
  congr 1
  have h3 := (can_len_iff (B := 4294967296) (by decide)).2 h2
  refine Nat.le_antisymm h3 ?_
  rcases n with _ | n
  · simp
  · have h4 : 65536 ^ n ≤ v := pow_le_of_can (by decide) (by omega)
    obtain ⟨m, hm⟩ : ∃ m, (n + 1 + 1) / 2 = m + 1 := ⟨n / 2, by omega⟩
    rw [hm]
    rcases Nat.lt_or_ge m (can 4294967296 v).length with h | h
    · exact h
    · have h5 := (can_len_iff (B := 4294967296) (by decide)).1 h
      rw [← pow16] at h5
      have : 65536 ^ (2 * m) ≤ 65536 ^ n := Nat.pow_le_pow_right (by decide) (by omega)
      omega
theorem of_eq (n : Bool) (l : List Nat) (hl : H16 l) : ref01_of_m n (zl l) = some (zc n (v16 l)) := by
  obtain ⟨h, hn⟩ := hl
  unfold ref01_of_m
  rw [rtrim_eq _ (by omega), bsm, trim_can (by decide) h]
  have hc : (can 65536 (val 65536 l)).length ≤ l.length := (can_len_iff (by decide)).2 (val_lt l h)
  show _ = some (zc n (val 65536 l))
  generalize val 65536 l = v at *
  have hcl : ∀ x ∈ can 65536 v, x < 65536 := fun _ hx => can_lt (by decide) hx
  have hat := fun i => at_eq hcl i
  refine bind_loop_to (fun i => (((2 * i : Nat) : Int), dig 4294967296 i v)) (((can 65536 v).length + 1) / 2) (can 4294967296 v) ?_ (fun k hk => ?_) ?_ ?_
  · rfl
  · have a1 := hat (2 * k)
    have a2 := hat (2 * k + 1)
    rw [show v16 (can 65536 v) = v from val_can (by decide) v] at a1 a2
    rw [pow16] at a1
    rw [Nat.pow_succ, pow16, ← Nat.div_div_eq_div_mul] at a2
    simp only [bsm]
    rw [zl_len, show decide (((2 * k : Nat) : Int) < ((can 65536 v).length : Int)) = true by simp; omega, ctm, a1, bsm, w64_succ (by omega), a2, bsm]
    rw [dig_succ]
    have e : ((((v / 4294967296 ^ k % 65536 : Nat) : Int) % 4294967296).toNat + (((v / 4294967296 ^ k / 65536 % 65536 : Nat) : Int) % 4294967296).toNat * 65536 % 4294967296) % 4294967296 = v / 4294967296 ^ k % 4294967296 := by
      generalize v / 4294967296 ^ k = x
      omega
    rw [e, apM1 (by decide) (by rw [dig_len]; omega), bsm, show ((2 * k : Nat) : Int) + 2 = ((2 * (k + 1) : Nat) : Int) by omega, w64_nat (by omega)]
  · simp only [bsm]
    rw [zl_len, show decide (((2 * (((can 65536 v).length + 1) / 2) : Nat) : Int) < ((can 65536 v).length : Int)) = false by simp; omega, cfm, ← can_halves]
  · simp only [letJ]
    rw [zc]
    have hz := can_len0 (v := v)
    cases n
    · rw [cfm, bsm]; rfl
    · rw [ctm, bsm, bsm, bsm]
      congr 2
      by_cases h0 : v = 0
      · rw [h0]; rfl
      · have : ¬ (can 4294967296 v).length = 0 := fun e => h0 (hz.1 e)
        rw [show decide ((0 : Int) < ((can 4294967296 v).length : Int)) = true by rw [decide_eq_true_eq]; omega, show (true && v != 0) = true by simp [h0]]
theorem of_can (n : Bool) (v : Nat) (hl : (can 65536 v).length ≤ 100000000000) : ref01_of_m n (zl (can 65536 v)) = some (zn (sv n v)) := by
  rw [of_eq n _ ⟨fun _ hx => can_lt (by decide) hx, hl⟩, show v16 (can 65536 v) = v from val_can (by decide) v, zc_zn]
theorem can16_len {w : List Nat} (hw : ∀ x ∈ w, x < 4294967296) : (can 65536 (vl w)).length ≤ 2 * w.length := by
  apply (can_len_iff (by decide)).2
  rw [pow16]; exact val_lt w hw
theorem halves_of {x : Zr} (h : Wl x) : ref01_halves_m x.w = some (zl (can 65536 (zi x).natAbs)) := by
  rw [zi_abs]; exact halves_eq _ ⟨h.1, by have := h.2; omega⟩
theorem Wl.c16 {x : Zr} (h : Wl x) : (can 65536 (zi x).natAbs).length ≤ 20000000000 := by
  rw [zi_abs]; have := can16_len h.1; have := h.2; omega
theorem least_eq {x : Zr} (h : Wl x) : ref01_Least_m x = some (zn (zi x)) := by
  obtain ⟨n, w⟩ := x
  have h1 := halves_of h
  have h2 := h.c16
  unfold ref01_Least_m
  simp only []
  rw [show ref01_halves_m w = _ from h1, bsm, of_can _ _ (by omega), bsm, zi_abs]
  rfl
theorem same_eq {x y : Zr} (h : x.w.length ≤ 100000000000) : ∃ b, ref01_Same_m x y = some b ∧ (b = true ↔ x = y) := by
  obtain ⟨n, w⟩ := x
  obtain ⟨m, u⟩ := y
  unfold ref01_Same_m
  simp only [bsm, letJ]
  by_cases hnm : n = m
  · subst hnm
    rw [show (!(n == n)) = false by simp, cfm, bsm]
    by_cases hl : w.length = u.length
    · rw [show decide ((w.length : Int) ≠ (u.length : Int)) = false by simp [hl], cfm]
      refine bind_loop_ex (fun y => ∃ i : Nat, y = (i : Int) ∧ i ≤ w.length ∧ w.take i = u.take i) (fun e => (∃ c, e = .inl c ∧ w = u) ∨ (e = .inr false ∧ w ≠ u)) (fun y => w.length - y.toNat) ?_ ⟨0, rfl, by omega, rfl⟩ ?_
      · rintro _ ⟨i, rfl, hi, ht⟩
        by_cases hlt : i < w.length
        · have g1 : w[i]? = some w[i] := by simp
          have g2 : u[i]? = some (u[i]'(by omega)) := by simp
          rw [show decide ((i : Int) < (w.length : Int)) = true by simp [hlt], ctm, geti_nat g1, bsm, geti_nat g2, bsm]
          by_cases he : w[i] = u[i]'(by omega)
          · left
            rw [show decide (w[i] ≠ u[i]'(by omega)) = false by simp [he], cfm, w64_succ (by simp at h; omega)]
            refine ⟨_, rfl, ⟨i + 1, rfl, hlt, ?_⟩, by omega⟩
            rw [List.take_add_one, List.take_add_one, ht, g1, g2, he]
          · right
            rw [show decide (w[i] ≠ u[i]'(by omega)) = true by simp [he], ctm]
            refine ⟨_, rfl, .inr ⟨rfl, ?_⟩⟩
            rintro rfl; exact he rfl
        · right
          rw [show decide ((i : Int) < (w.length : Int)) = false by simp; omega, cfm]
          refine ⟨_, rfl, .inl ⟨_, rfl, ?_⟩⟩
          rw [List.take_of_length_le (by omega), List.take_of_length_le (by omega)] at ht
          exact ht
      · rintro e (⟨c, rfl, he⟩ | ⟨rfl, he⟩)
        · exact ⟨true, rfl, by simp [he]⟩
        · exact ⟨false, rfl, by simp [he]⟩
    · rw [show decide ((w.length : Int) ≠ (u.length : Int)) = true by simp; omega, ctm]
      refine ⟨_, rfl, ?_⟩
      simp only [Bool.false_eq_true, false_iff]
      intro e
      have : w = u := congrArg Zr.w e
      exact hl (by rw [this])
  · rw [show (!(n == m)) = true by simp [hnm], ctm, bsm, ctm]
    refine ⟨_, rfl, ?_⟩
    simp only [Bool.false_eq_true, false_iff]
    intro e
    exact hnm (congrArg Zr.neg e)
theorem from_eq {x : Int} (h : i64ok x) : ref01_From_m x = some (zn x) := by
  unfold i64ok at h
  have key : ∀ (v : Nat) (n : Bool), v < 18446744073709551616 → ((ref01_Least_m ⟨n, [v % 4294967296 % 4294967296, v / 4294967296 % 18446744073709551616 % 4294967296]⟩).bind fun x => some (⟨x.neg, x.w⟩ : Zr)) = some (zn (sv n v)) := by
    intro v n hv
    rw [least_eq ⟨by simp; omega, by simp⟩, bsm]
    show some (zn (sv n (vl _))) = _
    congr 3
    simp only [vl, val]
    omega
  unfold ref01_From_m
  simp only [bsm, letJ]
  by_cases hx : x < 0
  · have e : (x % 18446744073709551616).toNat = 18446744073709551616 - x.natAbs := by omega
    rw [show decide (x < 0) = true by simp [hx], ctm, e, usub_lt (by omega) (by omega), show 18446744073709551616 + 0 - (18446744073709551616 - x.natAbs) = x.natAbs by omega, key _ _ (by omega), show sv true x.natAbs = x by simp [sv]; omega]
  · have e : (x % 18446744073709551616).toNat = x.natAbs := by omega
    rw [show decide (x < 0) = false by simp [hx], cfm, e, key _ _ (by omega), show sv false x.natAbs = x by simp [sv]; omega]
end Go.Proofs.YthgkgjogdgdcgaaGreat
namespace Go.Proofs.YthgkgjogdgdcgaaGreat
open Go.Fw
theorem p9 (k : Nat) : 10 ^ (9 * (k + 1)) = 10 ^ (9 * k) * 1000000000 := by
  rw [show 9 * (k + 1) = 9 * k + 9 by omega, Nat.pow_add]
end Go.Proofs.YthgkgjogdgdcgaaGreat
namespace Go.Proofs.YthgkgjogdgdcgaaGreat
open Go.Fw
def body (s : Str) : Str := if s.head? = some 45 then s.tail else s
def z0 : Zr := ⟨false, []⟩
end Go.Proofs.YthgkgjogdgdcgaaGreat
namespace Go.Proofs.YthgkgjogdgdcgaaGreat
open Go.Fw
theorem zeta' (z : Zr) : (⟨z.neg, z.w⟩ : Zr) = z := by cases z; rfl
theorem small_fit {i : Int} (h : i64ok i) : Fit 2 i := Fit.i64 h.1 h.2
theorem wl_small {i : Int} (h : i64ok i) : Wl (zn i) := wl_zn (small_fit h) (by decide)
end Go.Proofs.YthgkgjogdgdcgaaGreat
namespace Go.Proofs.YthgkgjogdgdcgaaGreat
open Go.Fw
theorem cmpI_sub (i j : Int) : (i - j).sign = cmpI i j := by
  rcases Int.lt_trichotomy i j with h | h | h
  · rw [cmpI_lt h, Int.sign_eq_neg_one_of_neg (by omega)]
  · rw [h, cmpI_self, Int.sub_self]; rfl
  · rw [cmpI_gt h, Int.sign_eq_one_of_pos (by omega)]
theorem cmpI_flip (i j : Int) : IntKind.i64.wrap (0 - cmpI j i) = cmpI i j := by
  rcases Int.lt_trichotomy i j with h | h | h
  · rw [cmpI_lt h, cmpI_gt h]; rfl
  · rw [h, cmpI_self]; rfl
  · rw [cmpI_gt h, cmpI_lt h]; rfl
abbrev OkZ (z : Zr) : Prop := True ∧ (z.w.length ≤ 9223372036854775807 ∧ ∀ x ∈ z.w, x < 4294967296)
end Go.Proofs.YthgkgjogdgdcgaaGreat
namespace Go.Proofs.YthgkgjogdgdcgaaGreat
open Go.Fw
theorem Fit.gcd {L : Nat} {i j : Int} (h : Fit L i) (h' : Fit L j) : Fit L (Int.gcd i j : Int) := by
  by_cases h0 : i = 0
  · subst h0; rw [Int.gcd_zero_left]; exact h'.le (by simp)
  · have : Int.gcd i j ∣ i.natAbs := Nat.gcd_dvd_left _ _
    exact h.le (by have := Nat.le_of_dvd (by omega) this; simpa using this)
end Go.Proofs.YthgkgjogdgdcgaaGreat
namespace Go.Proofs.YthgkgjogdgdcgaaGreat
open Go.Fw
def qd (q : Qr) : Int := if zi q.den = 0 then 1 else zi q.den
def qv (q : Qr) : Rat := Rat.divInt (zi q.num) (qd q)
def qn (r : Rat) : Qr := ⟨zn r.num, if r.den = 1 then ⟨false, []⟩ else zn (r.den : Int)⟩
def FQ (L : Nat) (r : Rat) : Prop := Fit L r.num ∧ Fit L (r.den : Int)
structure Rep (L : Nat) (q : Qr) (r : Rat) : Prop where
  n : ∀ x ∈ q.num.w, x < 4294967296
  d : ∀ x ∈ q.den.w, x < 4294967296
  ln : q.num.w.length ≤ L
  ld : q.den.w.length ≤ L
  l1 : 1 ≤ L
  v : qv q = r
theorem qd_ne (q : Qr) : qd q ≠ 0 := by
  unfold qd
  by_cases h : zi q.den = 0
  · rw [if_pos h]; decide
  · rw [if_neg h]; exact h
theorem qv_qn (r : Rat) : qv (qn r) = r := by
  unfold qv qd qn
  by_cases h : r.den = 1
  · rw [if_pos h]
    show Rat.divInt (zi (zn r.num)) (if zi ⟨false, []⟩ = 0 then 1 else zi ⟨false, []⟩) = r
    rw [if_pos (show zi ⟨false, []⟩ = 0 from rfl), zi_zn]
    have := Rat.num_divInt_den r
    rw [h] at this; exact this
  · rw [if_neg h]
    show Rat.divInt (zi (zn r.num)) (if zi (zn (r.den : Int)) = 0 then 1 else zi (zn (r.den : Int))) = r
    have := r.den_nz
    rw [zi_zn, zi_zn, if_neg (by omega), Rat.num_divInt_den]
theorem fit_len {w : List Nat} {n : Bool} {L : Nat} (h : ∀ x ∈ w, x < 4294967296) (hl : w.length ≤ L) : Fit L (zi ⟨n, w⟩) := by
  unfold Fit
  rw [zi_abs]
  exact Nat.lt_of_lt_of_le (val_lt w h) (Nat.pow_le_pow_right (by decide) hl)
theorem fit_one {L : Nat} (h : 1 ≤ L) : Fit L 1 := by
  unfold Fit
  exact Nat.lt_of_lt_of_le (show (1 : Int).natAbs < 4294967296 ^ 1 by decide) (Nat.pow_le_pow_right (by decide) h)
theorem FQ.rep {L : Nat} {r : Rat} (h : FQ L r) (h1 : 1 ≤ L) : Rep L (qn r) r := by
  refine ⟨fun x hx => can_lt (by decide) hx, ?_, (can_len_iff (by decide)).2 h.1, ?_, h1, qv_qn r⟩
  · unfold qn
    by_cases e : r.den = 1
    · rw [if_pos e]; simp
    · rw [if_neg e]; exact fun x hx => can_lt (by decide) hx
  · unfold qn
    by_cases e : r.den = 1
    · rw [if_pos e]; simp
    · rw [if_neg e]; exact (can_len_iff (by decide)).2 h.2
theorem Rep.wn {L : Nat} {q : Qr} {r : Rat} (h : Rep L q r) (hL : L ≤ 10000000000) : Wl q.num := ⟨h.n, Nat.le_trans h.ln hL⟩
theorem Rep.wd {L : Nat} {q : Qr} {r : Rat} (h : Rep L q r) (hL : L ≤ 10000000000) : Wl q.den := ⟨h.d, Nat.le_trans h.ld hL⟩
theorem Rep.fn {L : Nat} {q : Qr} {r : Rat} (h : Rep L q r) : Fit L (zi q.num) := fit_len (n := q.num.neg) h.n h.ln
theorem Rep.fd {L : Nat} {q : Qr} {r : Rat} (h : Rep L q r) : Fit L (zi q.den) := fit_len (n := q.den.neg) h.d h.ld
theorem Rep.fqd {L : Nat} {q : Qr} {r : Rat} (h : Rep L q r) : Fit L (qd q) := by
  unfold qd
  by_cases e : zi q.den = 0
  · rw [if_pos e]; exact fit_one h.l1
  · rw [if_neg e]; exact h.fd
theorem Rep.mono {L M : Nat} {q : Qr} {r : Rat} (h : Rep L q r) (hl : L ≤ M) : Rep M q r := ⟨h.n, h.d, Nat.le_trans h.ln hl, Nat.le_trans h.ld hl, Nat.le_trans h.l1 hl, h.v⟩
theorem FQ.mono {L M : Nat} {r : Rat} (h : FQ L r) (hl : L ≤ M) : FQ M r := ⟨h.1.mono hl, h.2.mono hl⟩
theorem fq_divInt {L : Nat} {a d : Int} (h0 : d ≠ 0) (ha : Fit L a) (hd : Fit L d) : FQ L (Rat.divInt a d) := by
  generalize hr : Rat.divInt a d = r
  obtain ⟨n', d', z', c⟩ := r
  obtain ⟨m, hm, h1, h2⟩ := Rat.divInt_num_den h0 hr
  have hm' : 0 < m.natAbs := Int.natAbs_pos.2 hm
  refine ⟨ha.le ?_, hd.le ?_⟩
  · rw [h1, Int.natAbs_mul]; exact Nat.le_mul_of_pos_right _ hm'
  · rw [h2, Int.natAbs_mul]; exact Nat.le_mul_of_pos_right _ hm'
theorem Rep.fq {L : Nat} {q : Qr} {r : Rat} (h : Rep L q r) : FQ L r := by rw [← h.v]; exact fq_divInt (qd_ne q) h.fn h.fqd
theorem rat_div (r : Rat) : r = Rat.divInt r.num (r.den : Int) := (Rat.num_divInt_den r).symm
theorem den_ne (r : Rat) : (r.den : Int) ≠ 0 := by have := r.den_nz; omega
theorem FQ.add {L M : Nat} {x y : Rat} (hx : FQ L x) (hy : FQ M y) : FQ (L + M + 1) (x + y) := by
  have e : x + y = Rat.divInt (x.num * y.den + y.num * x.den) (x.den * y.den) := by
    conv => lhs; rw [rat_div x, rat_div y, Rat.divInt_add_divInt _ _ (den_ne x) (den_ne y)]
  rw [e]
  refine fq_divInt (Int.mul_ne_zero (den_ne x) (den_ne y)) ?_ ?_
  · exact (hx.1.mul hy.2).add (by rw [Nat.add_comm L M]; exact hy.1.mul hx.2)
  · exact (hx.2.mul hy.2).mono (by omega)
theorem FQ.sub {L M : Nat} {x y : Rat} (hx : FQ L x) (hy : FQ M y) : FQ (L + M + 1) (x - y) := by
  have e : x - y = Rat.divInt (x.num * y.den - y.num * x.den) (x.den * y.den) := by
    conv => lhs; rw [rat_div x, rat_div y, Rat.divInt_sub_divInt _ _ (den_ne x) (den_ne y)]
  rw [e]
  refine fq_divInt (Int.mul_ne_zero (den_ne x) (den_ne y)) ?_ ?_
  · exact (hx.1.mul hy.2).sub (by rw [Nat.add_comm L M]; exact hy.1.mul hx.2)
  · exact (hx.2.mul hy.2).mono (by omega)
theorem FQ.mul {L M : Nat} {x y : Rat} (hx : FQ L x) (hy : FQ M y) : FQ (L + M) (x * y) := by
  have e : x * y = Rat.divInt (x.num * y.num) (x.den * y.den) := by
    conv => lhs; rw [rat_div x, rat_div y, Rat.divInt_mul_divInt]
  rw [e]
  exact fq_divInt (Int.mul_ne_zero (den_ne x) (den_ne y)) (hx.1.mul hy.1) (hx.2.mul hy.2)
theorem FQ.neg {L : Nat} {x : Rat} (hx : FQ L x) : FQ L (-x) := ⟨hx.1.neg, hx.2⟩
theorem FQ.int {L : Nat} {i : Int} (h : Fit L i) (h1 : 1 ≤ L) : FQ L (i : Rat) := ⟨h, fit_one h1⟩
def cmpQ (x y : Rat) : Int := if x < y then -1 else if x = y then 0 else 1
theorem cmpQ_self (x : Rat) : cmpQ x x = 0 := by unfold cmpQ; rw [if_neg Rat.lt_irrefl, if_pos rfl]
theorem divInt_lt {a b c d : Int} (hb : 0 < b) (hd : 0 < d) : Rat.divInt a b < Rat.divInt c d ↔ a * d < c * b := by
  have hb' : (0 : Rat) < (b : Rat) := Rat.intCast_pos.2 hb
  have hd' : (0 : Rat) < (d : Rat) := Rat.intCast_pos.2 hd
  rw [Rat.divInt_eq_div, Rat.divInt_eq_div, Rat.div_lt_iff hb', Rat.div_def, Rat.mul_assoc, Rat.mul_comm (d : Rat)⁻¹, ← Rat.mul_assoc, ← Rat.div_def, Rat.lt_div_iff hd', ← Rat.intCast_mul, ← Rat.intCast_mul, Rat.intCast_lt_intCast]
theorem cmpQ_int {a b c d : Int} (hb : 0 < b) (hd : 0 < d) : cmpQ (Rat.divInt a b) (Rat.divInt c d) = cmpI (a * d) (c * b) := by
  unfold cmpQ cmpI
  have e1 := divInt_lt (a := a) (c := c) hb hd
  have e2 := Rat.divInt_eq_divInt_iff (n₁ := a) (d₁ := b) (n₂ := c) (d₂ := d) (by omega) (by omega)
  by_cases h1 : a * d < c * b
  · rw [if_pos (e1.2 h1), if_pos h1]
  · rw [if_neg (fun h => h1 (e1.1 h)), if_neg h1]
    by_cases h2 : a * d = c * b
    · rw [if_pos (e2.2 h2), if_pos h2]
    · rw [if_neg (fun h => h2 (e2.1 h)), if_neg h2]
theorem sign_divInt {a b : Int} (hb : 0 < b) : a.sign = cmpQ (Rat.divInt a b) 0 := by
  have : (0 : Rat) = Rat.divInt 0 1 := rfl
  rw [this, cmpQ_int hb (by decide), Int.mul_one, Int.zero_mul, ← cmpI_sub, Int.sub_zero]
theorem qn_divInt {a d : Int} (hd : 0 < d) : qn (Rat.divInt a d) = ⟨zn (a / (Int.gcd a d : Int)), if d / (Int.gcd a d : Int) = 1 then ⟨false, []⟩ else zn (d / (Int.gcd a d : Int))⟩ := by
  have h1 : (Rat.divInt a d).num = a / (Int.gcd a d : Int) := by rw [Rat.num_divInt, Int.sign_eq_one_of_pos hd, Int.one_mul, Int.gcd_comm]
  have h2 : ((Rat.divInt a d).den : Int) = d / (Int.gcd a d : Int) := by
    rw [Rat.den_divInt, if_neg (by omega), Int.gcd_comm]
    have : (d.natAbs : Int) = d := by omega
    rw [Int.natCast_ediv, this]
  unfold qn
  rw [h1, h2]
  by_cases e : (Rat.divInt a d).den = 1
  · rw [if_pos e, if_pos (by omega)]
  · rw [if_neg e, if_neg (by omega)]
theorem i64_one (k : Int) : ((bif (i64of k).2 then some (decide ((i64of k).1 = 1)) else some false) : Option Bool) = some (decide (k = 1)) := by
  by_cases h : i64ok k
  · rw [i64of_ok h]; rfl
  · rw [i64of_no h]
    have : ¬ k = 1 := by rintro rfl; exact h (by decide)
    rw [decide_eq_false this]; rfl
theorem reduce_pos {n d : Zr} (hn : Wl n) (hd : Wl d) (h : 0 < zi d) : ((whole_GCD_m n d).bind fun g => (whole_DivMod_m n g).bind fun a => (whole_DivMod_m d g).bind fun b => (whole_Int64_m b.1).bind fun c =>
    (bif c.2 then some (decide (c.1 = 1)) else some false).bind fun e => bif e then some (⟨a.1, ⟨false, []⟩⟩ : Qr) else some ⟨a.1, b.1⟩) = some (qn (Rat.divInt (zi n) (zi d))) := by
  have g0 : (Int.gcd (zi n) (zi d) : Int) ≠ 0 := by
    have : 0 < Int.gcd (zi n) (zi d) := Int.gcd_pos_of_ne_zero_right _ (by omega)
    omega
  have wg : Wl (zn (Int.gcd (zi n) (zi d) : Int)) := wl_zn ((Wl.fit hd).le (by
    have := Nat.le_of_dvd (Int.natAbs_pos.2 (show zi d ≠ 0 by omega)) (Int.gcd_dvd_natAbs_right (zi n) (zi d))
    simpa using this)) hd.2
  have wq : Wl (zn (zi d / (Int.gcd (zi n) (zi d) : Int))) := wl_zn ((Wl.fit hd).le (Int.natAbs_ediv_le_natAbs _ _)) hd.2
  rw [gcd_eq hn hd, bsm, divMod_eq hn wg, bsm, divMod_eq hd wg, bsm, zi_zn, dmOf, if_neg g0, dmOf, if_neg g0]
  simp only []
  rw [int64_eq wq, bsm, zi_zn, i64_one, bsm, qn_divInt h]
  by_cases e : zi d / (Int.gcd (zi n) (zi d) : Int) = 1
  · rw [decide_eq_true e, ctm, if_pos e]
  · rw [decide_eq_false e, cfm, if_neg e]
theorem reduce_eq {x y : Zr} (hx : Wl x) (hy : Wl y) (h0 : zi y ≠ 0) : frac_reduce_m x y = some (qn (Rat.divInt (zi x) (zi y))) := by
  unfold frac_reduce_m
  simp only [letJ, bsm, zeta', sign_eq hy]
  by_cases h : zi y < 0
  · rw [show decide ((zi y).sign < 0) = true by rw [Int.sign_eq_neg_one_of_neg h]; rfl, ctm, neg_eq hx, bsm, neg_eq hy, bsm]
    have hp := reduce_pos (wl_zn (Wl.fit hx).neg hx.2) (wl_zn (Wl.fit hy).neg hy.2) (by rw [zi_zn]; omega)
    rw [zi_zn, zi_zn, Rat.neg_divInt_neg] at hp
    exact hp
  · rw [show decide ((zi y).sign < 0) = false by rw [Int.sign_eq_one_of_pos (by omega)]; rfl, cfm]
    exact reduce_pos hx hy (by omega)
end Go.Proofs.YthgkgjogdgdcgaaGreat
