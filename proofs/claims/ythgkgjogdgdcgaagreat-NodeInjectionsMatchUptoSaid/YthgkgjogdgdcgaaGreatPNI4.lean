/- A part of the proof: the framework, the plain functions, the followed functions, the plain laws. -/
import Derived.Test.YthgkgjogdgdcgaaGreatPNI3
set_option linter.unusedVariables false
set_option linter.unusedSimpArgs false
namespace Go.Proofs.YthgkgjogdgdcgaaGreat
open Go.Fw Go.Fw.Z Go.RowKit
theorem node_element_ok {x0 : List Qr} {x1 : Int} {r : Qr} (h : node_element_m x0 x1 = some r) : Pure Tryz.prog 45 [slc 4 (List.map eQ x0), .v (.int .i64 x1)] (.agg (eQ r)) := by
 refine pure_of_ok Tryz.func45 rfl (Nat.le_of_ble_eq_true rfl) (fun wld M vs hvs => ?_)
 unfold node_element_m at h
 refine sr <| al (cs := [.v (.bool false), slc 1 (List.map eU32 []), .v (.bool false), slc 1 (List.map eU32 [])]) (by exact ⟨SV.imp_refl _, imp_nil, SV.imp_refl _, imp_nil, trivial⟩) rfl <| dn <| qq <| qq ?_
 refine ok_tailJ h (fun j3 => AS.mkL 18 [(0, .sv (slc 4 (List.map eQ x0))), (1, .sv (.v (.int .i64 x1))), (4, .ptr 4 0), (12, .sv (.v (.bool j3)))] [(4, ⟨42, [.sv (.v (.bool false)), .sv (slc 1 (List.map eU32 [])), .sv (.v (.bool false)), .sv (slc 1 (List.map eU32 []))]⟩)] []) (fun h => ?_) (fun y12j2 h => ?_)
 refine ok_region <| mv rfl <| lE h fun x6 h6 h => ls _ rfl rfl h6 <| mv rfl <| bE h fun c12_4 hg4 h => ?_
 cases x6
 refine gm rfl <| gm rfl <| lE (F hg4) fun x10 h10 hg4 => gn rfl h10 <| lE hg4 fun x11 h11 hg4 => RT.geq (.some rfl rfl) _ rfl rfl T h11 ?_
 obtain rfl := O hg4
 exact pF rfl <| dn <| ⟨x11, h, wR []⟩
 obtain rfl := O (V hg4)
 exact ww <| ww <| ww <| ww <| pT rfl <| dn <| ⟨true, h, wR []⟩
 try dsimp only
 refine AThen.n ?_
 cases y12j2
 refine fs <| sr <| mv rfl <| mv rfl ?_
 obtain ⟨⟨⟨x16_0, x16_1⟩, ⟨x16_2, x16_3⟩⟩, h16, h⟩ := bS (F h)
 refine ix rfl rfl h16 <| RT.loadR (cs := [_, _, _, _]) .none rfl T rfl rfl <| so rfl rfl rfl <| dn <| ok_ret ?_
 obtain rfl := O h
 exact RZ (.agg rfl rfl (.cons rfl (.cons rfl (.cons rfl (.cons rfl (.nil))))) rfl (.nil))
 refine cT <| sr <| bI (cs := [_, _, _, _]) (cs' := [.v (.bool false), slc 1 (List.map eU32 []), .v (.bool false), slc 1 (List.map eU32 [])]) (.nil) ⟨SV.imp_refl _, imp_nil, SV.imp_refl _, imp_nil, trivial⟩ <| so rfl rfl rfl <| dn <| ok_ret <| AThen.r ?_
 obtain rfl := O (V h)
 exact RZ (.agg rfl rfl (.cons rfl (.cons rfl (.cons rfl (.cons rfl (.nil))))) rfl (.nil))
theorem node_Split_1_ok {x0 : Int} {c_0 : List Qr} {c_1 : List (List Qr)} {c_2 : Int} {r : Qr} (h : node_Split_1_m x0 c_0 c_1 c_2 = some r) : Pure Tryz.prog 47 [.v (.int .i64 x0), ref [slc 4 (List.map eQ c_0)], ref [slc 1 (List.map (eS 4 eQ) c_1)], ref [.v (.int .i64 c_2)]] (.agg (eQ r)) := by
 refine pure_of_ok Tryz.func47 rfl (Nat.le_of_ble_eq_true rfl) (fun wld M vs hvs => ?_)
 unfold node_Split_1_m at h
 refine sr <| al (cs := [.v (.bool false), slc 1 (List.map eU32 []), .v (.bool false), slc 1 (List.map eU32 [])]) (by exact ⟨SV.imp_refl _, imp_nil, SV.imp_refl _, imp_nil, trivial⟩) rfl <| dn <| qq <| ok_region_draw mixed <| lr rfl rfl <| mv rfl ?_
 obtain ⟨⟨⟨x8_0, x8_1⟩, ⟨x8_2, x8_3⟩⟩, h8, h⟩ := bS h
 refine ix rfl rfl h8 <| RT.loadR (cs := [_, _, _, _]) .none rfl T rfl rfl <| lr rfl rfl <| mv rfl <| bE h fun x12 h12 h => ix rfl rfl h12 <| lr rfl rfl <| lr rfl rfl ?_
 obtain ⟨⟨⟨x15_0, x15_1⟩, ⟨x15_2, x15_3⟩⟩, h15, h⟩ := bS h
 refine cl (node_element_ok h15) ⟨rfl, rfl, trivial⟩ ?_
 obtain ⟨⟨⟨x16_0, x16_1⟩, ⟨x16_2, x16_3⟩⟩, h16, h⟩ := bS h
 refine cl (frac_Mul_ok h16) ⟨rfl, rfl, trivial⟩ <| so rfl rfl rfl ?_
 refine RT.done ⟨by kernel_rfl, ?_⟩
 refine AThen.n <| ok_ret ?_
 obtain rfl := O h
 exact RZ (.agg rfl rfl (.cons rfl (.cons rfl (.cons rfl (.cons rfl (.nil))))) rfl (.nil))
theorem node_sumS_ok {x0 : Int} {k1_0 : List Qr} {k1_1 : List (List Qr)} {k1_2 : Int} {r : Qr} (h : node_sumS_m x0 k1_0 k1_1 k1_2 = some r) : Pure Tryz.prog 46 [.v (.int .i64 x0), cloS 47 [ref [slc 4 (List.map eQ k1_0)], ref [slc 1 (List.map (eS 4 eQ) k1_1)], ref [.v (.int .i64 k1_2)]]] (.agg (eQ r)) := by
 refine pure_of_ok Tryz.func46 rfl (Nat.le_of_ble_eq_true rfl) (fun wld M vs hvs => ?_)
 unfold node_sumS_m at h
 refine sr <| al (cs := [.v (.bool false), slc 1 (List.map eU32 []), .v (.bool false), slc 1 (List.map eU32 [])]) (by exact ⟨SV.imp_refl _, imp_nil, SV.imp_refl _, imp_nil, trivial⟩) rfl <| dn <| sr <| bI (cs := [_, _, _, _]) (cs' := [.v (.bool false), slc 1 (List.map eU32 []), .v (.bool false), slc 1 (List.map eU32 [])]) (.nil) ⟨SV.imp_refl _, imp_nil, SV.imp_refl _, imp_nil, trivial⟩ <| al (cs := [.v (.bool false), slc 1 (List.map eU32 []), .v (.bool false), slc 1 (List.map eU32 [])]) (by exact ⟨SV.imp_refl _, imp_nil, SV.imp_refl _, imp_nil, trivial⟩) rfl ?_
 refine so rfl rfl rfl <| dn <| qq <| sr <| mv rfl <| mv rfl <| dn <| bE h fun e6 hl6 ho6 => ?_
 refine ok_tailP (fun (xe6 : Bool × (List Nat) × Bool × (List Nat)) => AS.mkL 19 [(4, .ptr 4 0), (5, .ptr 5 0)] [(5, ⟨42, [.sv (.v (.bool xe6.1)), .sv (slc 1 (List.map eU32 xe6.2.1)), .sv (.v (.bool xe6.2.2.1)), .sv (slc 1 (List.map eU32 xe6.2.2.2))]⟩), (4, ⟨42, [.sv (.v (.bool false)), .sv (slc 1 (List.map eU32 [])), .sv (.v (.bool false)), .sv (slc 1 (List.map eU32 []))]⟩)] []) (fun xe6 => xe6 = e6) ?_ (fun xe6 hx6 => ?_)
 refine ok_block ?_
 refine ok_loopM hl6 (fun s6 => AS.mkL 19 [(1, .sv (cloS 47 [ref [slc 4 (List.map eQ k1_0)], ref [slc 1 (List.map (eS 4 eQ) k1_1)], ref [.v (.int .i64 k1_2)]])), (4, .ptr 4 0), (5, .ptr 5 0), (8, .sv (.v (.int .i64 x0))), (9, .sv (.v (.int .i64 s6.1)))] [(5, ⟨42, [.sv (.v (.bool s6.2.1)), .sv (slc 1 (List.map eU32 s6.2.2.1)), .sv (.v (.bool s6.2.2.2.1)), .sv (slc 1 (List.map eU32 s6.2.2.2.2))]⟩), (4, ⟨42, [.sv (.v (.bool false)), .sv (slc 1 (List.map eU32 [])), .sv (.v (.bool false)), .sv (slc 1 (List.map eU32 []))]⟩)] []) (wR []) (fun s6 y6 G6 h hG6 hE6 => ?_)
 obtain ⟨y9l3, b5_0l3, b5_1l3, b5_2l3, b5_3l3⟩ := s6
 try dsimp only
 refine sr <| lE h fun x10 h10 h => ls _ rfl rfl h10 <| dn <| qq ?_
 cases x10
 refine cF <| ok_exit <| AThen.x <| AThen.x <| AInB.x <| AThen.n ?_
 obtain rfl := O (F h)
 exact ⟨(b5_0l3, b5_1l3, b5_2l3, b5_3l3), hE6 _ rfl, wR []⟩
 refine cT <| ok_skip <| AThen.n <| qq <| ok_block <| sr <| mv rfl <| ag rfl <| dn <| ok_region_draw mixed <| ld rfl rfl (.cons rfl (.cons rfl (.cons rfl (.cons rfl (.nil))))) <| mv rfl <| mv rfl ?_
 obtain ⟨⟨⟨x15_0, x15_1⟩, ⟨x15_2, x15_3⟩⟩, h15, h⟩ := bS (V h)
 refine RT.callS (args := [_]) (caps := [_, _, _]) .none (node_Split_1_ok h15) rfl ⟨rfl, trivial⟩ T ?_
 obtain ⟨⟨⟨x16_0, x16_1⟩, ⟨x16_2, x16_3⟩⟩, h16, h⟩ := bS h
 refine cl (frac_Add_ok h16) ⟨rfl, rfl, trivial⟩ <| so rfl rfl rfl ?_
 refine RT.done ⟨by kernel_rfl, ?_⟩
 refine AInB.n <| AThen.n <| ok_region <| lE h fun x17 h17 h => ad _ rfl rfl h17 <| mv rfl <| RT.done ?_
 obtain rfl := O h
 exact AThen.n ⟨(x17, x16_0, x16_1, x16_2, x16_3), hG6 _ rfl, wR []⟩
 subst hx6
 obtain ⟨b5_0e5, b5_1e5, b5_2e5, b5_3e5⟩ := xe6
 try dsimp only
 refine AThen.n <| sr <| ld rfl rfl (.cons rfl (.cons rfl (.cons rfl (.cons rfl (.nil))))) <| so rfl rfl rfl <| dn <| ok_ret ?_
 obtain rfl := O ho6
 exact RZ (.agg rfl rfl (.cons rfl (.cons rfl (.cons rfl (.cons rfl (.nil))))) rfl (.nil))
theorem node_total_1_ok {x0 : Int} {c_0 : List Int} {c_1 : Int} {c_2 : List Qr} {r : Qr} (h : node_total_1_m x0 c_0 c_1 c_2 = some r) : Pure Tryz.prog 69 [.v (.int .i64 x0), ref [slc 1 (List.map eI64 c_0)], ref [.v (.int .i64 c_1)], ref [slc 4 (List.map eQ c_2)]] (.agg (eQ r)) := by
 refine pure_of_ok Tryz.func69 rfl (Nat.le_of_ble_eq_true rfl) (fun wld M vs hvs => ?_)
 unfold node_total_1_m at h
 refine sr <| al (cs := [.v (.bool false), slc 1 (List.map eU32 []), .v (.bool false), slc 1 (List.map eU32 [])]) (by exact ⟨SV.imp_refl _, imp_nil, SV.imp_refl _, imp_nil, trivial⟩) rfl <| dn <| qq <| qq <| ok_region_draw mixed <| lr rfl rfl <| mv rfl <| bE h fun x8 h8 h => ix rfl rfl h8 <| lr rfl rfl <| lr rfl rfl <| lE h fun x11 h11 h => ne _ rfl rfl (neI (p := x8) (q := c_1) h11) ?_
 refine RT.done ⟨by kernel_rfl, ?_⟩
 refine AThen.n ?_
 cases x11
 refine fs <| sr <| lr rfl rfl <| mv rfl ?_
 obtain ⟨⟨⟨x15_0, x15_1⟩, ⟨x15_2, x15_3⟩⟩, h15, h⟩ := bS (F h)
 refine ix rfl rfl h15 <| RT.loadR (cs := [_, _, _, _]) .none rfl T rfl rfl <| so rfl rfl rfl <| dn <| ok_ret ?_
 obtain rfl := O h
 exact RZ (.agg rfl rfl (.cons rfl (.cons rfl (.cons rfl (.cons rfl (.nil))))) rfl (.nil))
 refine cT <| sr <| bI (cs := [_, _, _, _]) (cs' := [.v (.bool false), slc 1 (List.map eU32 []), .v (.bool false), slc 1 (List.map eU32 [])]) (.nil) ⟨SV.imp_refl _, imp_nil, SV.imp_refl _, imp_nil, trivial⟩ <| so rfl rfl rfl <| dn <| ok_ret <| AThen.r ?_
 obtain rfl := O (V h)
 exact RZ (.agg rfl rfl (.cons rfl (.cons rfl (.cons rfl (.cons rfl (.nil))))) rfl (.nil))
theorem node_sumT_ok {x0 : Int} {k1_0 : List Int} {k1_1 : Int} {k1_2 : List Qr} {r : Qr} (h : node_sumT_m x0 k1_0 k1_1 k1_2 = some r) : Pure Tryz.prog 46 [.v (.int .i64 x0), cloS 69 [ref [slc 1 (List.map eI64 k1_0)], ref [.v (.int .i64 k1_1)], ref [slc 4 (List.map eQ k1_2)]]] (.agg (eQ r)) := by
 refine pure_of_ok Tryz.func46 rfl (Nat.le_of_ble_eq_true rfl) (fun wld M vs hvs => ?_)
 unfold node_sumT_m at h
 refine sr <| al (cs := [.v (.bool false), slc 1 (List.map eU32 []), .v (.bool false), slc 1 (List.map eU32 [])]) (by exact ⟨SV.imp_refl _, imp_nil, SV.imp_refl _, imp_nil, trivial⟩) rfl <| dn <| sr <| bI (cs := [_, _, _, _]) (cs' := [.v (.bool false), slc 1 (List.map eU32 []), .v (.bool false), slc 1 (List.map eU32 [])]) (.nil) ⟨SV.imp_refl _, imp_nil, SV.imp_refl _, imp_nil, trivial⟩ <| al (cs := [.v (.bool false), slc 1 (List.map eU32 []), .v (.bool false), slc 1 (List.map eU32 [])]) (by exact ⟨SV.imp_refl _, imp_nil, SV.imp_refl _, imp_nil, trivial⟩) rfl ?_
 refine so rfl rfl rfl <| dn <| qq <| sr <| mv rfl <| mv rfl <| dn <| bE h fun e6 hl6 ho6 => ?_
 refine ok_tailP (fun (xe6 : Bool × (List Nat) × Bool × (List Nat)) => AS.mkL 19 [(4, .ptr 4 0), (5, .ptr 5 0)] [(5, ⟨42, [.sv (.v (.bool xe6.1)), .sv (slc 1 (List.map eU32 xe6.2.1)), .sv (.v (.bool xe6.2.2.1)), .sv (slc 1 (List.map eU32 xe6.2.2.2))]⟩), (4, ⟨42, [.sv (.v (.bool false)), .sv (slc 1 (List.map eU32 [])), .sv (.v (.bool false)), .sv (slc 1 (List.map eU32 []))]⟩)] []) (fun xe6 => xe6 = e6) ?_ (fun xe6 hx6 => ?_)
 refine ok_block ?_
 refine ok_loopM hl6 (fun s6 => AS.mkL 19 [(1, .sv (cloS 69 [ref [slc 1 (List.map eI64 k1_0)], ref [.v (.int .i64 k1_1)], ref [slc 4 (List.map eQ k1_2)]])), (4, .ptr 4 0), (5, .ptr 5 0), (8, .sv (.v (.int .i64 x0))), (9, .sv (.v (.int .i64 s6.1)))] [(5, ⟨42, [.sv (.v (.bool s6.2.1)), .sv (slc 1 (List.map eU32 s6.2.2.1)), .sv (.v (.bool s6.2.2.2.1)), .sv (slc 1 (List.map eU32 s6.2.2.2.2))]⟩), (4, ⟨42, [.sv (.v (.bool false)), .sv (slc 1 (List.map eU32 [])), .sv (.v (.bool false)), .sv (slc 1 (List.map eU32 []))]⟩)] []) (wR []) (fun s6 y6 G6 h hG6 hE6 => ?_)
 obtain ⟨y9l3, b5_0l3, b5_1l3, b5_2l3, b5_3l3⟩ := s6
 try dsimp only
 refine sr <| lE h fun x10 h10 h => ls _ rfl rfl h10 <| dn <| qq ?_
 cases x10
 refine cF <| ok_exit <| AThen.x <| AThen.x <| AInB.x <| AThen.n ?_
 obtain rfl := O (F h)
 exact ⟨(b5_0l3, b5_1l3, b5_2l3, b5_3l3), hE6 _ rfl, wR []⟩
 refine cT <| ok_skip <| AThen.n <| qq <| ok_block <| sr <| mv rfl <| ag rfl <| dn <| ok_region_draw mixed <| ld rfl rfl (.cons rfl (.cons rfl (.cons rfl (.cons rfl (.nil))))) <| mv rfl <| mv rfl ?_
 obtain ⟨⟨⟨x15_0, x15_1⟩, ⟨x15_2, x15_3⟩⟩, h15, h⟩ := bS (V h)
 refine RT.callS (args := [_]) (caps := [_, _, _]) .none (node_total_1_ok h15) rfl ⟨rfl, trivial⟩ T ?_
 obtain ⟨⟨⟨x16_0, x16_1⟩, ⟨x16_2, x16_3⟩⟩, h16, h⟩ := bS h
 refine cl (frac_Add_ok h16) ⟨rfl, rfl, trivial⟩ <| so rfl rfl rfl ?_
 refine RT.done ⟨by kernel_rfl, ?_⟩
 refine AInB.n <| AThen.n <| ok_region <| lE h fun x17 h17 h => ad _ rfl rfl h17 <| mv rfl <| RT.done ?_
 obtain rfl := O h
 exact AThen.n ⟨(x17, x16_0, x16_1, x16_2, x16_3), hG6 _ rfl, wR []⟩
 subst hx6
 obtain ⟨b5_0e5, b5_1e5, b5_2e5, b5_3e5⟩ := xe6
 try dsimp only
 refine AThen.n <| sr <| ld rfl rfl (.cons rfl (.cons rfl (.cons rfl (.cons rfl (.nil))))) <| so rfl rfl rfl <| dn <| ok_ret ?_
 obtain rfl := O ho6
 exact RZ (.agg rfl rfl (.cons rfl (.cons rfl (.cons rfl (.cons rfl (.nil))))) rfl (.nil))
theorem node_Split_ok {x0 : List Int} {x1 : List Qr} {x2 : List (List Qr)} {x3 : List Qr} {r : (List Qr) × (List Qr)} (h : node_Split_m x0 x1 x2 x3 = some r) : Pure Tryz.prog 14 [slc 1 (List.map eI64 x0), slc 4 (List.map eQ x1), slc 1 (List.map (eS 4 eQ) x2), slc 4 (List.map eQ x3)] (.tup [slc 4 (List.map eQ r.1), slc 4 (List.map eQ r.2)]) := by
 refine pure_of_ok Tryz.func14 rfl (Nat.le_of_ble_eq_true rfl) (fun wld M vs hvs => ?_)
 unfold node_Split_m at h
 refine sr <| RT.boxV .none (s := .sv _) rfl T rfl rfl <| RT.boxV .none (s := .sv _) rfl T rfl rfl <| ag rfl <| ag rfl <| dn <| ok_weak (weak_frzB (i := 6) rfl [slc 1 (List.map (eS 4 eQ) x2)] (.cons rfl (.nil)) .any 0 [(6, .sv (ref [slc 1 (List.map (eS 4 eQ) x2)]))] (fun _ _ _ => trivial) (Ones.h (l := [slc 1 (List.map (eS 4 eQ) x2)])) ⟨@FT.ptr _ _ _ _ _ 6 0 rfl, trivial⟩) <| ok_weak (weak_frzB (i := 7) rfl [slc 4 (List.map eQ x3)] (.cons rfl (.nil)) .any 0 [(7, .sv (ref [slc 4 (List.map eQ x3)]))] (fun _ _ _ => trivial) (Ones.h (l := [slc 4 (List.map eQ x3)])) ⟨@FT.ptr _ _ _ _ _ 7 0 rfl, trivial⟩) ?_
 refine ok_weak (weak_nil 8 306 42 4 rfl rfl T) <| ok_weak (weak_nil 9 308 42 4 rfl rfl T) <| sr <| mv rfl <| lE h fun x14 h14 h => ln rfl h14 <| bE h fun x15 h15 h => RT.mkRow (n := 4) (e := eQ) .none rfl rfl T rfl T (by rfl) (by decide) (by exact ⟨SV.imp_refl _, imp_nil, SV.imp_refl _, imp_nil, trivial⟩) h15 <| an (s := .row _) rfl <| dn <| sr <| mv rfl <| lE h fun x17 h17 h => ln rfl h17 <| bE h fun x18 h18 h => RT.mkRow (n := 4) (e := eQ) .none rfl rfl T rfl T (by rfl) (by decide) (by exact ⟨SV.imp_refl _, imp_nil, SV.imp_refl _, imp_nil, trivial⟩) h18 ?_
 refine an (s := .row _) rfl <| dn <| sr <| lr rfl rfl <| lE h fun x20 h20 h => ln rfl h20 <| lr rfl rfl <| lE h fun x22 h22 h => ln rfl h22 <| lE h fun x23 h23 h => RT.min .none _ rfl rfl T (minI (p := x20) (q := x22) h23) <| ag rfl <| dn <| qq <| sr <| mv rfl <| lE h fun x25 h25 h => ln rfl h25 <| mv rfl <| dn <| bE h fun e10 hl10 ho10 => ?_
 refine ok_tailP (fun (xe10 : (List Qr) × (List Qr)) => AS.mkL 48 [(8, .row 15), (9, .row 18)] [] [(15, TR 42 4 eQ xe10.1), (18, TR 42 4 eQ xe10.2)]) (fun xe10 => xe10 = e10) ?_ (fun xe10 hx10 => ?_)
 refine ok_block ?_
 refine ok_loopM hl10 (fun s10 => AS.mkL 48 [(1, .sv (slc 4 (List.map eQ x1))), (6, .sv (ref [slc 1 (List.map (eS 4 eQ) x2)])), (7, .sv (ref [slc 4 (List.map eQ x3)])), (8, .row 15), (9, .row 18), (10, .sv (.v (.int .i64 x23))), (24, .sv (slc 1 (List.map eI64 x0))), (25, .sv (.v (.int .i64 x25))), (26, .sv (.v (.int .i64 s10.1)))] [] [(15, TR 42 4 eQ s10.2.1), (18, TR 42 4 eQ s10.2.2)]) (wR []) (fun s10 y10 G10 h hG10 hE10 => ?_)
 obtain ⟨y26l5, r15l5, r18l5⟩ := s10
 try dsimp only
 refine sr <| lE h fun x27 h27 h => ls _ rfl rfl h27 <| dn <| qq ?_
 cases x27
 refine cF <| ok_exit <| AThen.x <| AThen.x <| AInB.x <| AThen.n ?_
 obtain rfl := O (F h)
 exact ⟨(r15l5, r18l5), hE10 _ rfl, wR []⟩
 refine cT <| ok_skip <| AThen.n <| qq <| ok_block <| sr <| mv rfl <| bE (V h) fun x29 h29 h => ix rfl rfl h29 <| lr rfl rfl <| al (cs := [.v (.int .i64 0)]) (by exact ⟨SV.imp_refl _, trivial⟩) rfl <| RT.storeV (cells := [_]) .none (s := .sv _) rfl rfl rfl T rfl <| ag rfl <| dn <| ok_weak (weak_frzB (i := 11) rfl [.v (.int .i64 y26l5)] (.cons rfl (.nil)) .any 0 [(11, .sv (ref [.v (.int .i64 y26l5)]))] (fun _ _ _ => trivial) (Ones.h (l := [.v (.int .i64 y26l5)])) ⟨@FT.ptr _ _ _ _ _ 11 0 rfl, trivial⟩) <| qq ?_
 refine ok_region_draw mixed <| mo (s := .row _) rfl <| lr rfl rfl <| mv rfl <| mv rfl ?_
 obtain ⟨⟨⟨x35_0, x35_1⟩, ⟨x35_2, x35_3⟩⟩, h35, h⟩ := bS h
 refine cl (node_element_ok h35) ⟨rfl, rfl, trivial⟩ ?_
 obtain ⟨⟨⟨x36_0, x36_1⟩, ⟨x36_2, x36_3⟩⟩, h36, h⟩ := bS h
 refine cl (frac_Canonical_ok h36) ⟨rfl, trivial⟩ <| bE h fun x37 h37 h => iR rfl rfl rfl h37 <| bE h fun l12 hl12_ h => sA ⟨⟨x36_0, x36_1⟩, ⟨x36_2, x36_3⟩⟩ rfl rfl rfl hl12_ ?_
 refine RT.done ⟨by kernel_rfl, ?_⟩
 refine AThen.n <| ok_region_draw mixed <| mo (s := .row _) rfl <| lr rfl rfl <| mv rfl <| RT.makeFuncS (caps := [_, _, _]) .none ⟨rfl, rfl, rfl, trivial⟩ T ?_
 obtain ⟨⟨⟨x42_0, x42_1⟩, ⟨x42_2, x42_3⟩⟩, h42, h⟩ := bS h
 refine cl (node_sumS_ok h42) ⟨rfl, rfl, trivial⟩ ?_
 obtain ⟨⟨⟨x43_0, x43_1⟩, ⟨x43_2, x43_3⟩⟩, h43, h⟩ := bS h
 refine cl (frac_Neg_ok h43) ⟨rfl, trivial⟩ <| bE h fun x44 h44 h => iR rfl rfl rfl h44 <| bE h fun l14 hl14_ h => sA ⟨⟨x43_0, x43_1⟩, ⟨x43_2, x43_3⟩⟩ rfl rfl rfl hl14_ ?_
 refine RT.done ⟨by kernel_rfl, ?_⟩
 refine AInB.n <| AThen.n <| ok_region <| lE h fun x45 h45 h => ad _ rfl rfl h45 <| mv rfl <| RT.done ?_
 obtain rfl := O h
 exact AThen.n ⟨(x45, l12, l14), hG10 _ rfl, wR []⟩
 subst hx10
 obtain ⟨r15e9, r18e9⟩ := xe10
 try dsimp only
 refine AThen.n <| sr <| mo (s := .row _) rfl <| mo (s := .row _) rfl <| an (s := .row _) rfl <| an (s := .row _) rfl <| dn <| ok_weak (weak_frzM (i := 15) (E1 := 42) (n := 4) (e := eQ) (l := r15e9) rfl) <| ok_weak (weak_frzM (i := 18) (E1 := 42) (n := 4) (e := eQ) (l := r18e9) rfl) <| ok_ret ?_
 obtain rfl := O ho10
 exact R2 rfl rfl
theorem node_Prices_ok {x0 : List Int} {x1 : List Qr} {x2 : List (List Qr)} {x3 : List Qr} {r : List Qr} (h : node_Prices_m x0 x1 x2 x3 = some r) : Pure Tryz.prog 15 [slc 1 (List.map eI64 x0), slc 4 (List.map eQ x1), slc 1 (List.map (eS 4 eQ) x2), slc 4 (List.map eQ x3)] (slc 4 (List.map eQ r)) := by
 refine pure_of_ok Tryz.func15 rfl (Nat.le_of_ble_eq_true rfl) (fun wld M vs hvs => ?_)
 unfold node_Prices_m at h
 refine sr <| aI rfl (imp_nil (n := 4) (e := eQ)) <| dn <| sr <| mv rfl <| mv rfl <| mv rfl <| mv rfl ?_
 obtain ⟨⟨x18a, x18b⟩, h18, h⟩ := bS h
 refine cl (node_Split_ok h18) ⟨rfl, rfl, rfl, rfl, trivial⟩ <| mv rfl <| ex rfl rfl <| ex rfl rfl <| ag rfl <| ag rfl <| dn <| sr <| mv rfl <| lE h fun x22 h22 h => ln rfl h22 <| bE h fun x23 h23 h => RT.mkRow (n := 4) (e := eQ) .none rfl rfl T rfl T (by rfl) (by decide) (by exact ⟨SV.imp_refl _, imp_nil, SV.imp_refl _, imp_nil, trivial⟩) h23 <| an (s := .row _) rfl <| dn <| qq <| sr <| mo (s := .row _) rfl ?_
 refine lE h fun x25 h25 h => lL rfl rfl h25 <| mv rfl <| dn <| bE h fun e8 hl8 ho8 => ?_
 refine ok_tailP (fun (r23e7 : (List Qr)) => AS.mkL 43 [(11, .row 23)] [] [(23, TR 42 4 eQ r23e7)]) (fun r23e7 => r23e7 = e8) ?_ (fun r23e7 hx8 => ?_)
 refine ok_block ?_
 refine ok_loopM hl8 (fun s8 => AS.mkL 43 [(9, .sv (slc 4 (List.map eQ x18a))), (10, .sv (slc 4 (List.map eQ x18b))), (11, .row 23), (25, .sv (.v (.int .i64 x25))), (26, .sv (.v (.int .i64 s8.1)))] [] [(23, TR 42 4 eQ s8.2)]) (wR []) (fun s8 y8 G8 h hG8 hE8 => ?_)
 obtain ⟨y26l4, r23l4⟩ := s8
 try dsimp only
 refine sr <| lE h fun x27 h27 h => ls _ rfl rfl h27 <| dn <| qq ?_
 cases x27
 refine cF <| ok_exit <| AThen.x <| AThen.x <| AInB.x <| AThen.n ?_
 obtain rfl := O (F h)
 exact ⟨r23l4, hE8 _ rfl, wR []⟩
 refine cT <| ok_skip <| AThen.n <| qq <| ok_block <| sr <| mv rfl <| ag rfl <| dn <| ok_region_draw mixed <| mo (s := .row _) rfl <| mv rfl <| mv rfl <| mv rfl ?_
 obtain ⟨⟨⟨x33_0, x33_1⟩, ⟨x33_2, x33_3⟩⟩, h33, h⟩ := bS (V h)
 refine ix rfl rfl h33 <| RT.loadR (cs := [_, _, _, _]) .none rfl T rfl rfl <| mv rfl <| mv rfl ?_
 obtain ⟨⟨⟨x37_0, x37_1⟩, ⟨x37_2, x37_3⟩⟩, h37, h⟩ := bS h
 refine ix rfl rfl h37 <| RT.loadR (cs := [_, _, _, _]) .none rfl T rfl rfl ?_
 obtain ⟨⟨⟨x39_0, x39_1⟩, ⟨x39_2, x39_3⟩⟩, h39, h⟩ := bS h
 refine cl (frac_Add_ok h39) ⟨rfl, rfl, trivial⟩ <| bE h fun x40 h40 h => iR rfl rfl rfl h40 <| bE h fun l10 hl10_ h => sA ⟨⟨x39_0, x39_1⟩, ⟨x39_2, x39_3⟩⟩ rfl rfl rfl hl10_ ?_
 refine RT.done ⟨by kernel_rfl, ?_⟩
 refine AInB.n <| AThen.n <| ok_region <| lE h fun x41 h41 h => ad _ rfl rfl h41 <| mv rfl <| RT.done ?_
 obtain rfl := O h
 exact AThen.n ⟨(x41, l10), hG8 _ rfl, wR []⟩
 subst hx8
 try dsimp only
 refine AThen.n <| sr <| mo (s := .row _) rfl <| an (s := .row _) rfl <| dn <| ok_weak (weak_frzM (i := 23) (E1 := 42) (n := 4) (e := eQ) (l := r23e7) rfl) <| ok_ret ?_
 obtain rfl := O ho8
 exact R1 rfl
theorem node_Rent_ok {x0 : List Qr} {x1 : List Qr} {r : Qr} (h : node_Rent_m x0 x1 = some r) : Pure Tryz.prog 33 [slc 4 (List.map eQ x0), slc 4 (List.map eQ x1)] (.agg (eQ r)) := by
 refine pure_of_ok Tryz.func33 rfl (Nat.le_of_ble_eq_true rfl) (fun wld M vs hvs => ?_)
 unfold node_Rent_m at h
 refine sr <| al (cs := [.v (.bool false), slc 1 (List.map eU32 []), .v (.bool false), slc 1 (List.map eU32 [])]) (by exact ⟨SV.imp_refl _, imp_nil, SV.imp_refl _, imp_nil, trivial⟩) rfl <| dn <| sr <| mv rfl <| mv rfl ?_
 obtain ⟨⟨⟨x7_0, x7_1⟩, ⟨x7_2, x7_3⟩⟩, h7, h⟩ := bS h
 refine cl (vec_Dot_ok h7) ⟨rfl, rfl, trivial⟩ ?_
 obtain ⟨⟨⟨x8_0, x8_1⟩, ⟨x8_2, x8_3⟩⟩, h8, h⟩ := bS h
 refine cl (frac_Neg_ok h8) ⟨rfl, trivial⟩ <| so rfl rfl rfl <| dn <| ok_ret ?_
 obtain rfl := O h
 exact RZ (.agg rfl rfl (.cons rfl (.cons rfl (.cons rfl (.cons rfl (.nil))))) rfl (.nil))
theorem node_Jam_ok {x0 : List Qr} {x1 : List Qr} {r : Qr} (h : node_Jam_m x0 x1 = some r) : Pure Tryz.prog 39 [slc 4 (List.map eQ x0), slc 4 (List.map eQ x1)] (.agg (eQ r)) := by
 refine pure_of_ok Tryz.func39 rfl (Nat.le_of_ble_eq_true rfl) (fun wld M vs hvs => ?_)
 unfold node_Jam_m at h
 refine sr <| al (cs := [.v (.bool false), slc 1 (List.map eU32 []), .v (.bool false), slc 1 (List.map eU32 [])]) (by exact ⟨SV.imp_refl _, imp_nil, SV.imp_refl _, imp_nil, trivial⟩) rfl <| dn <| sr <| mv rfl <| mv rfl ?_
 obtain ⟨⟨⟨x7_0, x7_1⟩, ⟨x7_2, x7_3⟩⟩, h7, h⟩ := bS h
 refine cl (vec_Dot_ok h7) ⟨rfl, rfl, trivial⟩ <| so rfl rfl rfl <| dn <| ok_ret ?_
 obtain rfl := O h
 exact RZ (.agg rfl rfl (.cons rfl (.cons rfl (.cons rfl (.cons rfl (.nil))))) rfl (.nil))
theorem node_Trade_ok {x0 : List Qr} {x1 : Int} {x2 : Int} {x3 : Qr} {r : Qr × Int} (h : node_Trade_m x0 x1 x2 x3 = some r) : Pure Tryz.prog 28 [slc 4 (List.map eQ x0), .v (.int .i64 x1), .v (.int .i64 x2), .agg (eQ x3)] (.tup [.agg (eQ r.1), .v (.int .i64 r.2)]) := by
 obtain ⟨⟨x3_0, x3_1⟩, ⟨x3_2, x3_3⟩⟩ := x3
 refine pure_of_ok Tryz.func28 rfl (Nat.le_of_ble_eq_true rfl) (fun wld M vs hvs => ?_)
 unfold node_Trade_m at h
 refine sr <| bx rfl <| al (cs := [.v (.bool false), slc 1 (List.map eU32 []), .v (.bool false), slc 1 (List.map eU32 [])]) (by exact ⟨SV.imp_refl _, imp_nil, SV.imp_refl _, imp_nil, trivial⟩) rfl <| ag rfl <| dn <| qq <| qq ?_
 refine ok_tailJ h (fun j10 => AS.mkL 40 [(0, .sv (slc 4 (List.map eQ x0))), (1, .sv (.v (.int .i64 x1))), (2, .sv (.v (.int .i64 x2))), (7, .ptr 7 0), (8, .ptr 8 0), (27, .sv (.v (.bool j10)))] [(8, ⟨42, [.sv (.v (.bool false)), .sv (slc 1 (List.map eU32 [])), .sv (.v (.bool false)), .sv (slc 1 (List.map eU32 []))]⟩), (7, ⟨42, [.sv (.v (.bool x3_0)), .sv (slc 1 (List.map eU32 x3_1)), .sv (.v (.bool x3_2)), .sv (slc 1 (List.map eU32 x3_3))]⟩)] []) (fun h => ?_) (fun y27j9 h => ?_)
 refine ok_region <| mv rfl <| lE h fun x11 h11 h => ls _ rfl rfl h11 <| mv rfl <| bE h fun c17_11 hg11 h => ?_
 cases x11
 refine gm rfl <| gm rfl <| lE (F hg11) fun x15 h15 hg11 => gn rfl h15 <| lE hg11 fun x16 h16 hg11 => RT.geq (.some rfl rfl) _ rfl rfl T h16 ?_
 obtain rfl := O hg11
 refine pF rfl <| mv rfl <| bE h fun c21_12 hg12 h => ?_
 cases x16
 refine gm rfl <| lE (F hg12) fun x20 h20 hg12 => RT.lss (.some rfl rfl) _ rfl rfl T h20 ?_
 obtain rfl := O hg12
 refine pF rfl <| mv rfl <| bE h fun c27_13 hg13 h => ?_
 cases x20
 refine gm rfl <| gm rfl <| lE (F hg13) fun x25 h25 hg13 => gn rfl h25 <| lE hg13 fun x26 h26 hg13 => RT.geq (.some rfl rfl) _ rfl rfl T h26 ?_
 obtain rfl := O hg13
 exact pF rfl <| dn <| ⟨x26, h, wR []⟩
 obtain rfl := O (V hg13)
 exact ww <| ww <| ww <| ww <| pT rfl <| dn <| ⟨true, h, wR []⟩
 obtain rfl := O (V hg12)
 refine ww <| ww <| pT rfl <| mv rfl <| bE h fun c27_14 hg14 h => ?_
 obtain rfl := O (V hg14)
 exact ww <| ww <| ww <| ww <| pT rfl <| dn <| ⟨true, h, wR []⟩
 obtain rfl := O (V hg11)
 refine ww <| ww <| ww <| ww <| pT rfl <| mv rfl <| bE h fun c21_15 hg15 h => ?_
 obtain rfl := O (V hg15)
 refine ww <| ww <| pT rfl <| mv rfl <| bE h fun c27_16 hg16 h => ?_
 obtain rfl := O (V hg16)
 exact ww <| ww <| ww <| ww <| pT rfl <| dn <| ⟨true, h, wR []⟩
 try dsimp only
 refine AThen.n ?_
 cases y27j9
 refine fs <| qq <| ok_region_draw mixed <| ld rfl rfl (.cons rfl (.cons rfl (.cons rfl (.cons rfl (.nil))))) <| mv rfl <| mv rfl ?_
 obtain ⟨⟨⟨x32_0, x32_1⟩, ⟨x32_2, x32_3⟩⟩, h32, h⟩ := bS (F h)
 refine ix rfl rfl h32 <| RT.loadR (cs := [_, _, _, _]) .none rfl T rfl rfl <| mv rfl <| mv rfl ?_
 obtain ⟨⟨⟨x36_0, x36_1⟩, ⟨x36_2, x36_3⟩⟩, h36, h⟩ := bS h
 refine ix rfl rfl h36 <| RT.loadR (cs := [_, _, _, _]) .none rfl T rfl rfl ?_
 obtain ⟨⟨⟨x38_0, x38_1⟩, ⟨x38_2, x38_3⟩⟩, h38, h⟩ := bS h
 refine cl (frac_Sub_ok h38) ⟨rfl, rfl, trivial⟩ ?_
 obtain ⟨⟨⟨x39_0, x39_1⟩, ⟨x39_2, x39_3⟩⟩, h39, h⟩ := bS h
 refine cl (frac_Mul_ok h39) ⟨rfl, rfl, trivial⟩ <| so rfl rfl rfl <| ag rfl ?_
 refine RT.done ⟨by kernel_rfl, ?_⟩
 refine AThen.n <| ok_ret ?_
 obtain rfl := O h
 exact RZ (.agg rfl rfl (.cons rfl (.cons rfl (.cons rfl (.cons rfl (.nil))))) rfl (.tmp rfl (.nil)))
 refine cT <| sr <| bI (cs := [_, _, _, _]) (cs' := [.v (.bool false), slc 1 (List.map eU32 []), .v (.bool false), slc 1 (List.map eU32 [])]) (.nil) ⟨SV.imp_refl _, imp_nil, SV.imp_refl _, imp_nil, trivial⟩ <| so rfl rfl rfl <| ag rfl <| dn <| ok_ret <| AThen.r ?_
 obtain rfl := O (V h)
 exact RZ (.agg rfl rfl (.cons rfl (.cons rfl (.cons rfl (.cons rfl (.nil))))) rfl (.tmp rfl (.nil)))
theorem node_Ends_ok {x0 : List Qr} {r : Int × Int} (h : node_Ends_m x0 = some r) : Pure Tryz.prog 36 [slc 4 (List.map eQ x0)] (.tup [.v (.int .i64 r.1), .v (.int .i64 r.2)]) := by
 refine pure_of_ok Tryz.func36 rfl (Nat.le_of_ble_eq_true rfl) (fun wld M vs hvs => ?_)
 unfold node_Ends_m at h
 refine sr <| ag rfl <| ag rfl <| dn <| qq <| sr <| mv rfl <| lE h fun x7 h7 h => ln rfl h7 <| mv rfl <| dn <| bE h fun e14 hl14 ho14 => ?_
 refine ok_tailP (fun (xe14 : Int × Int) => AS.mkL 32 [(2, .sv (.v (.int .i64 xe14.1))), (3, .sv (.v (.int .i64 xe14.2)))] [] []) (fun xe14 => xe14 = e14) ?_ (fun xe14 hx14 => ?_)
 refine ok_block ?_
 refine ok_loopM hl14 (fun s14 => AS.mkL 32 [(0, .sv (slc 4 (List.map eQ x0))), (2, .sv (.v (.int .i64 s14.1))), (3, .sv (.v (.int .i64 s14.2.1))), (6, .sv (slc 4 (List.map eQ x0))), (7, .sv (.v (.int .i64 x7))), (8, .sv (.v (.int .i64 s14.2.2)))] [] []) (wR []) (fun s14 y14 G14 h hG14 hE14 => ?_)
 obtain ⟨y2l9, y3l9, y8l9⟩ := s14
 try dsimp only
 refine sr <| lE h fun x9 h9 h => ls _ rfl rfl h9 <| dn <| qq ?_
 cases x9
 refine cF <| ok_exit <| AThen.x <| AThen.x <| AInB.x <| AThen.n ?_
 obtain rfl := O (F h)
 exact ⟨(y2l9, y3l9), hE14 _ rfl, wR []⟩
 refine cT <| ok_skip <| AThen.n <| qq <| ok_block <| sr <| mv rfl ?_
 obtain ⟨⟨⟨x11_0, x11_1⟩, ⟨x11_2, x11_3⟩⟩, h11, h⟩ := bS (V h)
 refine ix rfl rfl h11 <| RT.loadR (cs := [_, _, _, _]) .none rfl T rfl rfl <| al (cs := [.v (.bool false), slc 1 (List.map eU32 []), .v (.bool false), slc 1 (List.map eU32 [])]) (by exact ⟨SV.imp_refl _, imp_nil, SV.imp_refl _, imp_nil, trivial⟩) rfl <| ag rfl <| so rfl rfl rfl <| dn <| qq <| qq <| ok_region_draw mixed <| ld rfl rfl (.cons rfl (.cons rfl (.cons rfl (.cons rfl (.nil))))) <| mv rfl <| mv rfl ?_
 obtain ⟨⟨⟨x16_0, x16_1⟩, ⟨x16_2, x16_3⟩⟩, h16, h⟩ := bS h
 refine ix rfl rfl h16 <| RT.loadR (cs := [_, _, _, _]) .none rfl T rfl rfl <| bE h fun x18 h18 h => cl (frac_Cmp_ok h18) ⟨rfl, rfl, trivial⟩ <| lE h fun x19 h19 h => ls _ rfl rfl h19 ?_
 refine RT.done ⟨by kernel_rfl, ?_⟩
 refine AThen.n ?_
 refine ok_tailJ h (fun j16 => AS.mkL 32 [(0, .sv (slc 4 (List.map eQ x0))), (2, .sv (.v (.int .i64 j16))), (3, .sv (.v (.int .i64 y3l9))), (4, .sv (.v (.int .i64 y8l9))), (5, .ptr 5 0), (6, .sv (slc 4 (List.map eQ x0))), (7, .sv (.v (.int .i64 x7))), (8, .sv (.v (.int .i64 y8l9)))] [(5, ⟨42, [.sv (.v (.bool x11_0)), .sv (slc 1 (List.map eU32 x11_1)), .sv (.v (.bool x11_2)), .sv (slc 1 (List.map eU32 x11_3))]⟩)] []) (fun h => ?_) (fun y2j15 h => ?_)
 cases x19
 exact fs <| ⟨y2l9, (F h), wR []⟩
 exact cT <| ok_region <| mv rfl <| ag rfl <| dn <| ⟨y8l9, (V h), wR []⟩
 try dsimp only
 refine AThen.n <| qq <| ok_region_draw mixed <| ld rfl rfl (.cons rfl (.cons rfl (.cons rfl (.cons rfl (.nil))))) <| mv rfl <| mv rfl ?_
 obtain ⟨⟨⟨x24_0, x24_1⟩, ⟨x24_2, x24_3⟩⟩, h24, h⟩ := bS h
 refine ix rfl rfl h24 <| RT.loadR (cs := [_, _, _, _]) .none rfl T rfl rfl <| bE h fun x26 h26 h => cl (frac_Cmp_ok h26) ⟨rfl, rfl, trivial⟩ <| lE h fun x27 h27 h => gt _ rfl rfl h27 ?_
 refine RT.done ⟨by kernel_rfl, ?_⟩
 refine AThen.n ?_
 refine ok_tailJ h (fun j18 => AS.mkL 32 [(0, .sv (slc 4 (List.map eQ x0))), (2, .sv (.v (.int .i64 y2j15))), (3, .sv (.v (.int .i64 j18))), (6, .sv (slc 4 (List.map eQ x0))), (7, .sv (.v (.int .i64 x7))), (8, .sv (.v (.int .i64 y8l9)))] [] []) (fun h => ?_) (fun y3j17 h => ?_)
 cases x27
 exact fs <| ⟨y3l9, (F h), wR []⟩
 exact cT <| ok_region <| mv rfl <| ag rfl <| dn <| ⟨y8l9, (V h), wR []⟩
 try dsimp only
 refine AInB.n <| AThen.n <| ok_region <| lE h fun x29 h29 h => ad _ rfl rfl h29 <| mv rfl <| RT.done ?_
 obtain rfl := O h
 exact AThen.n ⟨(y2j15, y3j17, x29), hG14 _ rfl, wR []⟩
 subst hx14
 obtain ⟨y2e13, y3e13⟩ := xe14
 try dsimp only
 refine AThen.n <| sr <| mv rfl <| mv rfl <| ag rfl <| ag rfl <| dn <| ok_ret ?_
 obtain rfl := O ho14
 exact R2 rfl rfl
theorem node_total_ok {x0 : List Int} {x1 : Int} {x2 : List Qr} {r : Qr} (h : node_total_m x0 x1 x2 = some r) : Pure Tryz.prog 51 [slc 1 (List.map eI64 x0), .v (.int .i64 x1), slc 4 (List.map eQ x2)] (.agg (eQ r)) := by
 refine pure_of_ok Tryz.func51 rfl (Nat.le_of_ble_eq_true rfl) (fun wld M vs hvs => ?_)
 unfold node_total_m at h
 refine sr <| RT.boxV .none (s := .sv _) rfl T rfl rfl <| RT.boxV .none (s := .sv _) rfl T rfl rfl <| RT.boxV .none (s := .sv _) rfl T rfl rfl <| al (cs := [.v (.bool false), slc 1 (List.map eU32 []), .v (.bool false), slc 1 (List.map eU32 [])]) (by exact ⟨SV.imp_refl _, imp_nil, SV.imp_refl _, imp_nil, trivial⟩) rfl <| dn <| ok_weak (weak_frzB (i := 3) rfl [slc 1 (List.map eI64 x0)] (.cons rfl (.nil)) .any 0 [(3, .sv (ref [slc 1 (List.map eI64 x0)]))] (fun _ _ _ => trivial) (Ones.h (l := [slc 1 (List.map eI64 x0)])) ⟨@FT.ptr _ _ _ _ _ 3 0 rfl, trivial⟩) ?_
 refine ok_weak (weak_frzB (i := 4) rfl [.v (.int .i64 x1)] (.cons rfl (.nil)) .any 0 [(4, .sv (ref [.v (.int .i64 x1)]))] (fun _ _ _ => trivial) (Ones.h (l := [.v (.int .i64 x1)])) ⟨@FT.ptr _ _ _ _ _ 4 0 rfl, trivial⟩) <| ok_weak (weak_frzB (i := 5) rfl [slc 4 (List.map eQ x2)] (.cons rfl (.nil)) .any 0 [(5, .sv (ref [slc 4 (List.map eQ x2)]))] (fun _ _ _ => trivial) (Ones.h (l := [slc 4 (List.map eQ x2)])) ⟨@FT.ptr _ _ _ _ _ 5 0 rfl, trivial⟩) <| sr <| lr rfl rfl <| lE h fun x8 h8 h => ln rfl h8 <| lr rfl rfl <| lE h fun x10 h10 h => ln rfl h10 ?_
 refine lE h fun x11 h11 h => RT.min .none _ rfl rfl T (minI (p := x8) (q := x10) h11) <| RT.makeFuncS (caps := [_, _, _]) .none ⟨rfl, rfl, rfl, trivial⟩ T ?_
 obtain ⟨⟨⟨x13_0, x13_1⟩, ⟨x13_2, x13_3⟩⟩, h13, h⟩ := bS h
 refine cl (node_sumT_ok h13) ⟨rfl, rfl, trivial⟩ <| so rfl rfl rfl <| dn <| ok_ret ?_
 obtain rfl := O h
 exact RZ (.agg rfl rfl (.cons rfl (.cons rfl (.cons rfl (.cons rfl (.nil))))) rfl (.nil))
theorem node_In_ok {x0 : Int} {x1 : List Int} {x2 : List Int} {x3 : List Qr} {x4 : List Qr} {r : List Qr} (h : node_In_m x0 x1 x2 x3 x4 = some r) : Pure Tryz.prog 19 [.v (.int .i64 x0), slc 1 (List.map eI64 x1), slc 1 (List.map eI64 x2), slc 4 (List.map eQ x3), slc 4 (List.map eQ x4)] (slc 4 (List.map eQ r)) := by
 refine pure_of_ok Tryz.func19 rfl (Nat.le_of_ble_eq_true rfl) (fun wld M vs hvs => ?_)
 unfold node_In_m at h
 refine sr <| aI rfl (imp_nil (n := 4) (e := eQ)) <| dn <| qq <| sr <| mv rfl <| lE h fun x14 h14 h => ls _ rfl rfl h14 <| dn ?_
 cases x14
 refine fs <| sr <| mv rfl <| lE (F h) fun x16 h16 h => RT.min .none _ rfl rfl T (minI (p := x0) (q := 6) h16) <| bE h fun x17 h17 h => RT.mkRow (n := 4) (e := eQ) .none rfl rfl T rfl T (by rfl) (by decide) (by exact ⟨SV.imp_refl _, imp_nil, SV.imp_refl _, imp_nil, trivial⟩) h17 <| an (s := .row _) rfl <| dn <| qq <| sr <| mo (s := .row _) rfl <| lE h fun x19 h19 h => lL rfl rfl h19 <| mv rfl <| dn <| bE h fun e8 hl8 ho8 => ?_
 refine ok_tailP (fun (r17e7 : (List Qr)) => AS.mkL 37 [(11, .row 17)] [] [(17, TR 42 4 eQ r17e7)]) (fun r17e7 => r17e7 = e8) ?_ (fun r17e7 hx8 => ?_)
 refine ok_block ?_
 refine ok_loopM hl8 (fun s8 => AS.mkL 37 [(1, .sv (slc 1 (List.map eI64 x1))), (2, .sv (slc 1 (List.map eI64 x2))), (3, .sv (slc 4 (List.map eQ x3))), (4, .sv (slc 4 (List.map eQ x4))), (11, .row 17), (19, .sv (.v (.int .i64 x19))), (20, .sv (.v (.int .i64 s8.1)))] [] [(17, TR 42 4 eQ s8.2)]) (wR []) (fun s8 y8 G8 h hG8 hE8 => ?_)
 obtain ⟨y20l4, r17l4⟩ := s8
 try dsimp only
 refine sr <| lE h fun x21 h21 h => ls _ rfl rfl h21 <| dn <| qq ?_
 cases x21
 refine cF <| ok_exit <| AThen.x <| AThen.x <| AInB.x <| AThen.n ?_
 obtain rfl := O (F h)
 exact ⟨r17l4, hE8 _ rfl, wR []⟩
 refine cT <| ok_skip <| AThen.n <| qq <| ok_block <| sr <| mv rfl <| ag rfl <| dn <| ok_region <| mo (s := .row _) rfl <| mv rfl <| mv rfl <| mv rfl <| mv rfl ?_
 obtain ⟨⟨⟨x28_0, x28_1⟩, ⟨x28_2, x28_3⟩⟩, h28, h⟩ := bS (V h)
 refine cl (node_total_ok h28) ⟨rfl, rfl, rfl, trivial⟩ <| mv rfl <| mv rfl <| mv rfl ?_
 obtain ⟨⟨⟨x32_0, x32_1⟩, ⟨x32_2, x32_3⟩⟩, h32, h⟩ := bS h
 refine cl (node_total_ok h32) ⟨rfl, rfl, rfl, trivial⟩ ?_
 obtain ⟨⟨⟨x33_0, x33_1⟩, ⟨x33_2, x33_3⟩⟩, h33, h⟩ := bS h
 refine cl (frac_Sub_ok h33) ⟨rfl, rfl, trivial⟩ <| bE h fun x34 h34 h => iR rfl rfl rfl h34 <| bE h fun l10 hl10_ h => sA ⟨⟨x33_0, x33_1⟩, ⟨x33_2, x33_3⟩⟩ rfl rfl rfl hl10_ <| RT.done <| AInB.n <| AThen.n <| ok_region <| lE h fun x35 h35 h => ad _ rfl rfl h35 <| mv rfl <| RT.done ?_
 obtain rfl := O h
 exact AThen.n ⟨(x35, l10), hG8 _ rfl, wR []⟩
 subst hx8
 try dsimp only
 refine AThen.n <| sr <| mo (s := .row _) rfl <| an (s := .row _) rfl <| dn <| ok_weak (weak_frzM (i := 17) (E1 := 42) (n := 4) (e := eQ) (l := r17e7) rfl) <| ok_ret ?_
 obtain rfl := O ho8
 exact R1 rfl
 refine cT <| sr <| aI rfl (imp_nil (n := 4) (e := eQ)) <| dn <| ok_ret <| AThen.r ?_
 obtain rfl := O (V h)
 exact R1 rfl
end Go.Proofs.YthgkgjogdgdcgaaGreat
namespace Go.Proofs.YthgkgjogdgdcgaaGreat
open Go.Fw
noncomputable def ref01_trim_m (x0 : List Int) : Option (List Int) := (some (x0.length : Int)).bind fun x5 => (loopM (fun (y3l5 : Int) => (show Option ((Int) ⊕ (Int)) from letJ (fun (y15j12 : Bool) => (bif y15j12 then (some (IntKind.i64.wrap (y3l5 - 1))).bind fun x17 => some (.inl x17) else some (.inr y3l5))) fun K13 => (some (decide ((0 : Int) < y3l5))).bind fun x7 => (bif x7 then (some (IntKind.i64.wrap (y3l5 - 1))).bind fun x11 => (geti x0 x11).bind fun x12 => (some (decide ((x12 : Int) = 0))).bind fun x14 => some x14 else some false).bind fun c15_14 => K13 c15_14)) x5).bind fun y3e9 => (subM x0 0 y3e9).bind fun x20 => some x20
noncomputable def ref01_halves_m (x0 : List Nat) : Option (List Int) := (loopM (fun (s6 : Int × (List Int)) => match s6 with | ⟨y4l3, r306l3⟩ => (show Option ((Int × (List Int)) ⊕ ((List Int))) from (some (x0.length : Int)).bind fun x7 => (some (decide ((y4l3 : Int) < x7))).bind fun x8 => (bif x8 then (geti x0 y4l3).bind fun x14 => (some (x14 % 65536)).bind fun x16 => (some (IntKind.i64.wrap (x16 : Int))).bind fun x17 => (geti x0 y4l3).bind fun x20 => (some (x20 / 65536 % 4294967296)).bind fun x22 => (some (IntKind.i64.wrap (x22 : Int))).bind fun x23 => (apM 8 r306l3 [x17, x23]).bind fun x25 => (some (IntKind.i64.wrap (y4l3 + 1))).bind fun x10 => some (.inl (x10, x25)) else some (.inr r306l3)))) (0, [])).bind fun r306e5 => (ref01_trim_m r306e5).bind fun x27 => some x27
noncomputable def ref01_at_m (x0 : List Int) (x1 : Int) : Option (Int) := (some (x0.length : Int)).bind fun x7 => (some (decide ((x1 : Int) < x7))).bind fun x8 => (bif x8 then (geti x0 x1).bind fun x11 => some x11 else some 0)
noncomputable def ref01_of_m (x0 : Bool) (x1 : List Int) : Option (Zr) := (ref01_trim_m x1).bind fun x8 => (loopM (fun (s6 : Int × (List Nat)) => match s6 with | ⟨y6l3, r306l3⟩ => (show Option ((Int × (List Nat)) ⊕ ((List Nat))) from (some (x8.length : Int)).bind fun x11 => (some (decide ((y6l3 : Int) < x11))).bind fun x12 => (bif x12 then (ref01_at_m x8 y6l3).bind fun x18 => (some ((x18 % 4294967296).toNat)).bind fun x19 => (some (IntKind.i64.wrap (y6l3 + 1))).bind fun x22 => (ref01_at_m x8 x22).bind fun x23 => (some ((x23 % 4294967296).toNat)).bind fun x24 => (some ((x24 * 65536) % 4294967296)).bind fun x25 => (some ((x19 + x25) % 4294967296)).bind fun x26 => (apM 4 r306l3 [x26]).bind fun x28 => (some (IntKind.i64.wrap (y6l3 + 2))).bind fun x14 => some (.inl (x14, x28)) else some (.inr r306l3)))) (0, [])).bind fun r306e5 => letJ (fun (b4_0j8 : Bool) => some ⟨b4_0j8, r306e5⟩) fun K9 => (bif x0 then (some (r306e5.length : Int)).bind fun x32 => (some (decide ((0 : Int) < x32))).bind fun x33 => some x33 else some false).bind fun c34_10 => K9 c34_10
noncomputable def ref01_Least_m (x0 : Zr) : Option (Zr) := match x0 with | ⟨x0_0, x0_1⟩ => (ref01_halves_m x0_1).bind fun x7 => (ref01_of_m x0_0 x7).bind fun ⟨x8_0, x8_1⟩ => some ⟨x8_0, x8_1⟩
noncomputable def ref01_Same_m (x0 : Zr) (x1 : Zr) : Option (Bool) := match x0 with | ⟨x0_0, x0_1⟩ => match x1 with | ⟨x1_0, x1_1⟩ => letJ (fun (y19j2 : Bool) => (bif y19j2 then some false else (loopM (fun (y5l6 : Int) => (show Option ((Int) ⊕ ((Unit) ⊕ (Bool))) from (some (x0_1.length : Int)).bind fun x23 => (some (decide ((y5l6 : Int) < x23))).bind fun x24 => (bif x24 then (geti x0_1 y5l6).bind fun x30 => (geti x1_1 y5l6).bind fun x35 => (some (decide ((x30 : Nat) ≠ x35))).bind fun x37 => (bif x37 then some (.inr (.inr false)) else (some (IntKind.i64.wrap (y5l6 + 1))).bind fun x26 => some (.inl x26)) else some (.inr (.inl ()))))) 0).bind fun e9 => match e9 with | .inr v9 => some v9 | .inl _ => some true)) fun K3 => (some (!(x0_0 == x1_0))).bind fun x10 => (bif x10 then some true else (some (x0_1.length : Int)).bind fun x14 => (some (x1_1.length : Int)).bind fun x17 => (some (decide ((x14 : Int) ≠ x17))).bind fun x18 => some x18).bind fun c19_10 => K3 c19_10
noncomputable def ref01_From_m (x0 : Int) : Option (Zr) := (some ((x0 % 18446744073709551616).toNat)).bind fun x5 => (some (decide ((x0 : Int) < 0))).bind fun x7 => letJ (fun (y3j1 : Nat) => (some (decide ((x0 : Int) < 0))).bind fun x11 => (some (y3j1 % 4294967296)).bind fun x13 => (some (x13 % 4294967296)).bind fun x14 => (some (y3j1 / 4294967296 % 18446744073709551616)).bind fun x16 => (some (x16 % 4294967296)).bind fun x17 => (ref01_Least_m ⟨x11, [x14, x17]⟩).bind fun ⟨x20_0, x20_1⟩ => some ⟨x20_0, x20_1⟩) fun K2 => (bif x7 then (some (usub 18446744073709551616 0 x5)).bind fun x9 => K2 x9 else K2 x5)
noncomputable def ref01_cmp_m (x0 : List Int) (x1 : List Int) : Option (Int) := (some (x0.length : Int)).bind fun x7 => (some (x1.length : Int)).bind fun x9 => (some (max (x7 : Int) x9)).bind fun x10 => (some (IntKind.i64.wrap (x10 - 1))).bind fun x11 => (loopM (fun (y5l3 : Int) => (show Option ((Int) ⊕ ((Unit) ⊕ (Int))) from (some (decide ((0 : Int) ≤ y5l3))).bind fun x13 => (bif x13 then (ref01_at_m x0 y5l3).bind fun x18 => (ref01_at_m x1 y5l3).bind fun x21 => (some (decide ((x18 : Int) < x21))).bind fun x22 => (bif x22 then some (.inr (.inr (-1))) else (ref01_at_m x0 y5l3).bind fun x25 => (ref01_at_m x1 y5l3).bind fun x28 => (some (decide ((x28 : Int) < x25))).bind fun x29 => (bif x29 then some (.inr (.inr 1)) else (some (IntKind.i64.wrap (y5l3 - 1))).bind fun x15 => some (.inl x15))) else some (.inr (.inl ()))))) x11).bind fun e6 => match e6 with | .inr v6 => some v6 | .inl _ => some 0
noncomputable def ref01_add_m (x0 : List Int) (x1 : List Int) : Option (List Int) := (loopM (fun (s16 : Int × Int × (List Int)) => match s16 with | ⟨y6l8, y7l8, r306l8⟩ => (show Option ((Int × Int × (List Int)) ⊕ ((List Int))) from letJ (fun (y22j21 : Bool) => (bif y22j21 then (ref01_at_m x0 y7l8).bind fun x27 => (ref01_at_m x1 y7l8).bind fun x30 => (some (IntKind.i64.wrap (x27 + x30))).bind fun x31 => (some (IntKind.i64.wrap (x31 + y6l8))).bind fun x33 => (some (Int.tmod x33 65536)).bind fun x36 => (apM 8 r306l8 [x36]).bind fun x38 => (some (IntKind.i64.wrap (Int.tdiv x33 65536))).bind fun x40 => (some (IntKind.i64.wrap (y7l8 + 1))).bind fun x24 => some (.inl (x40, x24, x38)) else some (.inr r306l8))) fun K22 => (some (x0.length : Int)).bind fun x11 => (some (decide ((y7l8 : Int) < x11))).bind fun x12 => (bif x12 then some true else (some (x1.length : Int)).bind fun x16 => (some (decide ((y7l8 : Int) < x16))).bind fun x17 => some x17).bind fun c18_23 => (bif c18_23 then some true else (some (decide ((0 : Int) < y6l8))).bind fun x21 => some x21).bind fun c22_26 => K22 c22_26)) (0, 0, [])).bind fun r306e15 => (ref01_trim_m r306e15).bind fun x42 => some x42
noncomputable def ref01_sub_m (x0 : List Int) (x1 : List Int) : Option (List Int) := (loopM (fun (s8 : Int × Int × (List Int)) => match s8 with | ⟨y6l4, y7l4, r306l4⟩ => (show Option ((Int × Int × (List Int)) ⊕ ((List Int))) from (some (x0.length : Int)).bind fun x11 => (some (decide ((y7l4 : Int) < x11))).bind fun x12 => (bif x12 then (ref01_at_m x0 y7l4).bind fun x17 => (ref01_at_m x1 y7l4).bind fun x20 => (some (IntKind.i64.wrap (x17 - x20))).bind fun x21 => (some (IntKind.i64.wrap (x21 - y6l4))).bind fun x23 => (some (decide ((x23 : Int) < 0))).bind fun x25 => letJ (fun (j10 : Int × Int) => match j10 with | ⟨y6j9, y8j9⟩ => (apM 8 r306l4 [y8j9]).bind fun x31 => (some (IntKind.i64.wrap (y7l4 + 1))).bind fun x14 => some (.inl (y6j9, x14, x31))) fun K10 => (bif x25 then (some (IntKind.i64.wrap (x23 + 65536))).bind fun x27 => K10 (1, x27) else K10 (0, x23)) else some (.inr r306l4)))) (0, 0, [])).bind fun r306e7 => (ref01_trim_m r306e7).bind fun x33 => some x33
noncomputable def ref01_small_m (x0 : List Int) : Option (Int) := (some (x0.length : Int)).bind fun x6 => (some (IntKind.i64.wrap (x6 - 1))).bind fun x7 => (loopM (fun (s6 : Int × Int) => match s6 with | ⟨y3l3, y4l3⟩ => (show Option ((Int × Int) ⊕ (Int)) from (some (decide ((0 : Int) ≤ y4l3))).bind fun x9 => (bif x9 then (some (IntKind.i64.wrap (y3l3 * 65536))).bind fun x13 => (geti x0 y4l3).bind fun x16 => (some (IntKind.i64.wrap (x13 + x16))).bind fun x18 => (some (IntKind.i64.wrap (y4l3 - 1))).bind fun x11 => some (.inl (x18, x11)) else some (.inr y3l3)))) (0, x7)).bind fun y3e5 => some y3e5
noncomputable def ref01_back_m (x0 : Int) : Option (List Int) := (some (Int.tmod x0 65536)).bind fun x4 => (some (IntKind.i64.wrap (Int.tdiv x0 65536))).bind fun x6 => (some (Int.tmod x6 65536)).bind fun x7 => (some (IntKind.i64.wrap (Int.tdiv x0 65536))).bind fun x9 => (some (IntKind.i64.wrap (Int.tdiv x9 65536))).bind fun x10 => (ref01_trim_m [x4, x7, x10]).bind fun x12 => some x12
noncomputable def ref01_times_m (x0 : List Int) (x1 : Int) : Option (List Int) := (loopM (fun (s10 : Int × Int × (List Int)) => match s10 with | ⟨y6l5, y7l5, r306l5⟩ => (show Option ((Int × Int × (List Int)) ⊕ ((List Int))) from letJ (fun (y16j12 : Bool) => (bif y16j12 then (ref01_at_m x0 y7l5).bind fun x21 => (some (IntKind.i64.wrap (x21 * x1))).bind fun x23 => (some (IntKind.i64.wrap (x23 + y6l5))).bind fun x25 => (some (Int.tmod x25 65536)).bind fun x28 => (apM 8 r306l5 [x28]).bind fun x30 => (some (IntKind.i64.wrap (Int.tdiv x25 65536))).bind fun x32 => (some (IntKind.i64.wrap (y7l5 + 1))).bind fun x18 => some (.inl (x32, x18, x30)) else some (.inr r306l5))) fun K13 => (some (x0.length : Int)).bind fun x11 => (some (decide ((y7l5 : Int) < x11))).bind fun x12 => (bif x12 then some true else (some (decide ((0 : Int) < y6l5))).bind fun x15 => some x15).bind fun c16_14 => K13 c16_14)) (0, 0, [])).bind fun r306e9 => (ref01_trim_m r306e9).bind fun x34 => some x34
noncomputable def ref01_mul_m (x0 : List Int) (x1 : List Int) : Option (List Int) := (some (x0.length : Int)).bind fun x9 => (some (x1.length : Int)).bind fun x11 => (some (IntKind.i64.wrap (x9 + x11))).bind fun x12 => (some (decide ((x12 : Int) ≤ 3))).bind fun x13 => (bif x13 then (ref01_small_m x0).bind fun x15 => (ref01_small_m x1).bind fun x17 => (some (IntKind.i64.wrap (x15 * x17))).bind fun x18 => (ref01_back_m x18).bind fun x19 => some x19 else (some (x0.length : Int)).bind fun x21 => (some (IntKind.i64.wrap (x21 - 1))).bind fun x22 => (loopM (fun (s16 : (List Int) × Int) => match s16 with | ⟨y5l8, y6l8⟩ => (show Option (((List Int) × Int) ⊕ ((List Int))) from (some (decide ((0 : Int) ≤ y6l8))).bind fun x24 => (bif x24 then (apM 8 [0] y5l8).bind fun x29 => (loopM (fun (s22 : (List Int) × Int) => match s22 with | ⟨y5l19, y7l19⟩ => (show Option (((List Int) × Int) ⊕ ((List Int))) from (geti x0 y6l8).bind fun x33 => (some (decide ((y7l19 : Int) < x33))).bind fun x35 => (bif x35 then (geti x0 y6l8).bind fun x42 => (some (IntKind.i64.wrap (x42 - y7l19))).bind fun x45 => (some (min (1024 : Int) x45)).bind fun x46 => (ref01_times_m x1 x46).bind fun x47 => (ref01_add_m y5l19 x47).bind fun x48 => (some (IntKind.i64.wrap (y7l19 + 1024))).bind fun x37 => some (.inl (x48, x37)) else some (.inr y5l19)))) (x29, 0)).bind fun y5e21 => (some (IntKind.i64.wrap (y6l8 - 1))).bind fun x26 => some (.inl (y5e21, x26)) else some (.inr y5l8)))) ([], x22)).bind fun y5e15 => (ref01_trim_m y5e15).bind fun x50 => some x50)
noncomputable def ref01_div_m (x0 : List Int) (x1 : List Int) : Option ((List Int) × (List Int)) := letJ (fun (y21j2 : Bool) => (bif y21j2 then (ref01_small_m x0).bind fun x23 => (ref01_small_m x1).bind fun x25 => (iquo x23 x25).bind fun x26 => (ref01_back_m x26).bind fun x27 => (ref01_small_m x0).bind fun x29 => (ref01_small_m x1).bind fun x31 => (irem x29 x31).bind fun x32 => (ref01_back_m x32).bind fun x33 => some (x27, x33) else (some (x0.length : Int)).bind fun x35 => (mkM 8 x35 (0 : Int)).bind fun x36 => (some (x1.length : Int)).bind fun x38 => (some (decide ((x38 : Int) = 1))).bind fun x39 => (bif x39 then (some (x0.length : Int)).bind fun x41 => (some (IntKind.i64.wrap (x41 - 1))).bind fun x42 => (loopM (fun (s18 : Int × Int × (List Int)) => match s18 with | ⟨y7l14, y8l14, r36l14⟩ => (show Option ((Int × Int × (List Int)) ⊕ (Int × (List Int))) from (some (decide ((0 : Int) ≤ y8l14))).bind fun x44 => (bif x44 then (some (IntKind.i64.wrap (y7l14 * 65536))).bind fun x48 => (geti x0 y8l14).bind fun x51 => (some (IntKind.i64.wrap (x48 + x51))).bind fun x53 => (geti x1 0).bind fun x58 => (iquo x53 x58).bind fun x60 => (geti x1 0).bind fun x63 => (irem x53 x63).bind fun x65 => (cki r36l14 y8l14).bind fun x66 => (stM r36l14 x66 x60).bind fun l20 => (some (IntKind.i64.wrap (y8l14 - 1))).bind fun x46 => some (.inl (x65, x46, l20)) else some (.inr (y7l14, r36l14))))) (0, x42, x36)).bind fun e18 => match e18 with | ⟨y7e17, r36e17⟩ => (ref01_trim_m r36e17).bind fun x68 => (ref01_trim_m [y7e17]).bind fun x71 => some (x68, x71) else (some (x0.length : Int)).bind fun x73 => (some (IntKind.i64.wrap (x73 - 1))).bind fun x74 => (loopM (fun (s44 : (List Int) × Int × (List Int)) => match s44 with | ⟨y9l32, y10l32, r36l32⟩ => (show Option (((List Int) × Int × (List Int)) ⊕ ((List Int) × (List Int))) from (some (decide ((0 : Int) ≤ y10l32))).bind fun x76 => (bif x76 then (geti x0 y10l32).bind fun x81 => (apM 8 [x81] y9l32).bind fun x85 => (ref01_trim_m x85).bind fun x86 => (some (x86.length : Int)).bind fun x88 => (some (x1.length : Int)).bind fun x90 => (some (decide ((x88 : Int) < x90))).bind fun x91 => letJ (fun (y12j45 : Int) => (loopM (fun (s54 : Int × Int) => match s54 with | ⟨y11l50, y12l50⟩ => (show Option ((Int × Int) ⊕ (Int)) from (some (IntKind.i64.wrap (y12l50 - y11l50))).bind fun x94 => (some (decide ((1 : Int) < x94))).bind fun x95 => (bif x95 then (some (IntKind.i64.wrap (y11l50 + y12l50))).bind fun x98 => (some (IntKind.i64.wrap (Int.tdiv x98 2))).bind fun x99 => (ref01_times_m x1 x99).bind fun x102 => (ref01_cmp_m x102 x86).bind fun x104 => (some (decide ((x104 : Int) ≤ 0))).bind fun x105 => letJ (fun (j56 : Int × Int) => match j56 with | ⟨y11j55, y12j55⟩ => some (.inl (y11j55, y12j55))) fun K56 => (bif x105 then K56 (x99, y12l50) else K56 (y11l50, x99)) else some (.inr y11l50)))) (0, y12j45)).bind fun y11e53 => (ref01_times_m x1 y11e53).bind fun x114 => (ref01_sub_m x86 x114).bind fun x115 => (cki r36l32 y10l32).bind fun x116 => (stM r36l32 x116 y11e53).bind fun l58 => (some (IntKind.i64.wrap (y10l32 - 1))).bind fun x78 => some (.inl (x115, x78, l58))) fun K46 => (bif x91 then K46 1 else K46 65536) else some (.inr (y9l32, r36l32))))) ([], x74, x36)).bind fun e44 => match e44 with | ⟨y9e43, r36e43⟩ => (ref01_trim_m r36e43).bind fun x118 => some (x118, y9e43)))) fun K3 => (some (x0.length : Int)).bind fun x15 => (some (decide ((x15 : Int) ≤ 3))).bind fun x16 => (bif x16 then (some (x1.length : Int)).bind fun x19 => (some (decide ((x19 : Int) ≤ 3))).bind fun x20 => some x20 else some false).bind fun c21_59 => K3 c21_59
noncomputable def ref01_Sign_m (x0 : Zr) : Option (Int) := match x0 with | ⟨x0_0, x0_1⟩ => (ref01_halves_m x0_1).bind fun x5 => (some (x5.length : Int)).bind fun x6 => (some (decide ((x6 : Int) = 0))).bind fun x7 => (bif x7 then some 0 else (bif x0_0 then some (-1) else some 1))
noncomputable def ref01_Cmp_m (x0 : Zr) (x1 : Zr) : Option (Int) := match x0 with | ⟨x0_0, x0_1⟩ => match x1 with | ⟨x1_0, x1_1⟩ => (ref01_Sign_m ⟨x0_0, x0_1⟩).bind fun x7 => (ref01_Sign_m ⟨x1_0, x1_1⟩).bind fun x9 => (some (decide ((x7 : Int) ≠ x9))).bind fun x10 => (bif x10 then (ref01_Sign_m ⟨x0_0, x0_1⟩).bind fun x12 => (ref01_Sign_m ⟨x1_0, x1_1⟩).bind fun x14 => (some (decide ((x12 : Int) < x14))).bind fun x15 => (bif x15 then some (-1) else some 1) else (ref01_halves_m x0_1).bind fun x18 => (ref01_halves_m x1_1).bind fun x21 => (ref01_cmp_m x18 x21).bind fun x22 => (ref01_Sign_m ⟨x0_0, x0_1⟩).bind fun x24 => (some (decide ((x24 : Int) < 0))).bind fun x25 => (bif x25 then (some (IntKind.i64.wrap (0 - x22))).bind fun x27 => some x27 else some x22))
noncomputable def ref01_Neg_m (x0 : Zr) : Option (Zr) := match x0 with | ⟨x0_0, x0_1⟩ => (some (!x0_0)).bind fun x5 => (ref01_halves_m x0_1).bind fun x8 => (ref01_of_m x5 x8).bind fun ⟨x9_0, x9_1⟩ => some ⟨x9_0, x9_1⟩
noncomputable def ref01_Abs_m (x0 : Zr) : Option (Zr) := match x0 with | ⟨x0_0, x0_1⟩ => (ref01_halves_m x0_1).bind fun x5 => (ref01_of_m false x5).bind fun ⟨x6_0, x6_1⟩ => some ⟨x6_0, x6_1⟩
noncomputable def ref01_Add_m (x0 : Zr) (x1 : Zr) : Option (Zr) := match x0 with | ⟨x0_0, x0_1⟩ => match x1 with | ⟨x1_0, x1_1⟩ => (ref01_halves_m x0_1).bind fun x9 => (ref01_halves_m x1_1).bind fun x12 => (some (x0_0 == x1_0)).bind fun x17 => (bif x17 then (ref01_add_m x9 x12).bind fun x22 => (ref01_of_m x0_0 x22).bind fun ⟨x23_0, x23_1⟩ => some ⟨x23_0, x23_1⟩ else (ref01_cmp_m x9 x12).bind fun x26 => (some (decide ((0 : Int) ≤ x26))).bind fun x27 => (bif x27 then (ref01_sub_m x9 x12).bind fun x32 => (ref01_of_m x0_0 x32).bind fun ⟨x33_0, x33_1⟩ => some ⟨x33_0, x33_1⟩ else (ref01_sub_m x12 x9).bind fun x38 => (ref01_of_m x1_0 x38).bind fun ⟨x39_0, x39_1⟩ => some ⟨x39_0, x39_1⟩))
noncomputable def ref01_Mul_m (x0 : Zr) (x1 : Zr) : Option (Zr) := match x0 with | ⟨x0_0, x0_1⟩ => match x1 with | ⟨x1_0, x1_1⟩ => (some (!(x0_0 == x1_0))).bind fun x9 => (ref01_halves_m x0_1).bind fun x12 => (ref01_halves_m x1_1).bind fun x15 => (ref01_mul_m x12 x15).bind fun x16 => (ref01_of_m x9 x16).bind fun ⟨x17_0, x17_1⟩ => some ⟨x17_0, x17_1⟩
noncomputable def ref01_Div_m (x0 : Zr) (x1 : Zr) : Option (Zr × Zr × Int) := match x0 with | ⟨x0_0, x0_1⟩ => match x1 with | ⟨x1_0, x1_1⟩ => (ref01_halves_m x0_1).bind fun x13 => (ref01_halves_m x1_1).bind fun x16 => (some (x16.length : Int)).bind fun x18 => (some (decide ((x18 : Int) = 0))).bind fun x19 => (bif x19 then some (⟨false, []⟩, ⟨false, []⟩, 7) else (ref01_div_m x13 x16).bind fun ⟨x25a, x25b⟩ => letJ (fun (j3 : Bool × Bool) => match j3 with | ⟨y34j2, b2_0j2⟩ => letJ (fun (j5 : (List Int) × (List Int)) => match j5 with | ⟨y9j4, y10j4⟩ => (some (!(b2_0j2 == x1_0))).bind fun x45 => (ref01_of_m x45 y9j4).bind fun ⟨x47_0, x47_1⟩ => (ref01_of_m false y10j4).bind fun ⟨x49_0, x49_1⟩ => some (⟨x47_0, x47_1⟩, ⟨x49_0, x49_1⟩, 0)) fun K5 => (bif y34j2 then (ref01_add_m x25a [1]).bind fun x37 => (ref01_sub_m x16 x25b).bind fun x40 => K5 (x37, x40) else K5 (x25a, x25b))) fun K3 => (bif x0_0 then (some (x25b.length : Int)).bind fun x32 => (some (decide ((0 : Int) < x32))).bind fun x33 => some x33 else some false).bind fun c34_6 => K3 (c34_6, x0_0))
noncomputable def ref01_Gcd_m (x0 : Zr) (x1 : Zr) : Option (Zr) := match x0 with | ⟨x0_0, x0_1⟩ => match x1 with | ⟨x1_0, x1_1⟩ => (ref01_halves_m x0_1).bind fun x11 => (ref01_halves_m x1_1).bind fun x14 => (loopM (fun (s6 : (List Int) × (List Int)) => match s6 with | ⟨y5l3, y6l3⟩ => (show Option (((List Int) × (List Int)) ⊕ ((List Int))) from (some (y6l3.length : Int)).bind fun x16 => (some (decide ((0 : Int) < x16))).bind fun x17 => (bif x17 then (ref01_div_m y5l3 y6l3).bind fun ⟨x21a, x21b⟩ => some (.inl (y6l3, x21b)) else some (.inr y5l3)))) (x11, x14)).bind fun y5e5 => (ref01_of_m false y5e5).bind fun ⟨x27_0, x27_1⟩ => some ⟨x27_0, x27_1⟩
end Go.Proofs.YthgkgjogdgdcgaaGreat
namespace Go.Proofs.YthgkgjogdgdcgaaGreat
open Go.Fw Go.Fw.Z Go.RowKit
theorem ref01_trim_ok {x0 : List Int} {r : List Int} (h : ref01_trim_m x0 = some r) : Pure Tryz.prog 110 [slc 1 (List.map eI64 x0)] (slc 1 (List.map eI64 r)) := by
 refine pure_of_ok Tryz.func110 rfl (Nat.le_of_ble_eq_true rfl) (fun wld M vs hvs => ?_)
 unfold ref01_trim_m at h
 refine sr <| aI rfl (imp_nil (n := 1) (e := eI64)) <| dn <| sr <| mv rfl <| lE h fun x5 h5 h => ln rfl h5 <| ag rfl <| dn <| qq <| bE h fun e10 hl10 ho10 => ?_
 refine ok_tailP (fun (y3e9 : Int) => AS.mkL 21 [(0, .sv (slc 1 (List.map eI64 x0))), (3, .sv (.v (.int .i64 y3e9)))] [] []) (fun y3e9 => y3e9 = e10) ?_ (fun y3e9 hx10 => ?_)
 refine ok_block ?_
 refine ok_loopM hl10 (fun s10 => AS.mkL 21 [(0, .sv (slc 1 (List.map eI64 x0))), (3, .sv (.v (.int .i64 s10)))] [] []) (wR []) (fun y3l5 y10 G10 h hG10 hE10 => ?_)
 try dsimp only
 refine qq <| qq ?_
 refine ok_tailJ h (fun j13 => AS.mkL 21 [(0, .sv (slc 1 (List.map eI64 x0))), (3, .sv (.v (.int .i64 y3l5))), (15, .sv (.v (.bool j13)))] [] []) (fun h => ?_) (fun y15j12 h => ?_)
 refine ok_region <| mv rfl <| lE h fun x7 h7 h => gt _ rfl rfl h7 <| mv rfl <| bE h fun c15_14 hg14 h => ?_
 cases x7
 obtain rfl := O (F hg14)
 exact ww <| ww <| ww <| ww <| ww <| ww <| pF rfl <| dn <| ⟨false, h, wR []⟩
 refine gm rfl <| gm rfl <| lE (V hg14) fun x11 h11 hg14 => RT.sub (.some rfl rfl) _ rfl rfl T h11 <| bE hg14 fun x12 h12 hg14 => RT.ixM (.some rfl rfl) rfl rfl T h12 <| gr rfl rfl <| lE hg14 fun x14 h14 hg14 => ge_ _ rfl rfl (eqI (p := x12) (q := 0) h14) ?_
 obtain rfl := O hg14
 exact pT rfl <| dn <| ⟨x14, h, wR []⟩
 try dsimp only
 refine AThen.n ?_
 cases y15j12
 refine cF <| ok_exit <| AThen.x <| AThen.x <| AInB.x <| AThen.n ?_
 obtain rfl := O (F h)
 exact ⟨y3l5, hE10 _ rfl, wR []⟩
 refine cT <| ok_skip <| AThen.n <| ok_block <| ok_region <| mv rfl <| lE (V h) fun x17 h17 h => sb _ rfl rfl h17 <| ag rfl <| RT.done <| AInB.n ?_
 obtain rfl := O h
 exact AThen.n ⟨x17, hG10 _ rfl, wR []⟩
 subst hx10
 try dsimp only
 refine AThen.n <| sr <| mv rfl <| mv rfl <| bE ho10 fun x20 h20 ho10 => RT.sliceM .none 0 y3e9 rfl rfl ⟨_, rfl⟩ T h20 <| ag rfl <| dn <| ok_ret ?_
 obtain rfl := O ho10
 exact R1 rfl
theorem ref01_halves_ok {x0 : List Nat} {r : List Int} (h : ref01_halves_m x0 = some r) : Pure Tryz.prog 92 [slc 1 (List.map eU32 x0)] (slc 1 (List.map eI64 r)) := by
 refine pure_of_ok Tryz.func92 rfl (Nat.le_of_ble_eq_true rfl) (fun wld M vs hvs => ?_)
 unfold ref01_halves_m at h
 refine sr <| aI rfl (imp_nil (n := 1) (e := eI64)) <| dn <| sr <| ag rfl <| dn <| ok_weak (weak_nil 3 304 3 1 rfl rfl T) <| qq <| sr <| ag rfl <| dn <| bE h fun e6 hl6 ho6 => ?_
 refine ok_tailP (fun (r306e5 : (List Int)) => AS.mkL 28 [(3, .row 306)] [] [(306, TR 3 1 eI64 r306e5)]) (fun r306e5 => r306e5 = e6) ?_ (fun r306e5 hx6 => ?_)
 refine ok_block ?_
 refine ok_loopM hl6 (fun s6 => AS.mkL 28 [(0, .sv (slc 1 (List.map eU32 x0))), (3, .row 306), (4, .sv (.v (.int .i64 s6.1)))] [] [(306, TR 3 1 eI64 s6.2)]) (weakL (fun i => bif Nat.beq i 306 then 304 else i) rfl rfl rfl rfl rfl ⟨.sv (SV.imp_refl _), .row rfl, .sv (SV.imp_refl _), trivial⟩ trivial ⟨⟨_, rfl, SVIs.refl _⟩, trivial⟩ (fun i hi => by rw [beq_ne (show i ≠ 306 by omega)]; rfl)) (fun s6 y6 G6 h hG6 hE6 => ?_)
 obtain ⟨y4l3, r306l3⟩ := s6
 try dsimp only
 refine qq <| sr <| mv rfl <| mv rfl <| lE h fun x7 h7 h => ln rfl h7 <| lE h fun x8 h8 h => ls _ rfl rfl h8 <| dn ?_
 cases x8
 refine cF <| ok_exit <| AThen.x <| AThen.x <| AInB.x <| AThen.n ?_
 obtain rfl := O (F h)
 exact ⟨r306l3, hE6 _ rfl, wR []⟩
 refine cT <| ok_skip <| AThen.n <| qq <| ok_block <| ok_region_draw mixed <| mo (s := .row _) rfl <| mv rfl <| mv rfl <| bE (V h) fun x14 h14 h => ix rfl rfl h14 <| lr rfl rfl <| lE h fun x16 h16 h => RT.rem .none _ rfl rfl T (by decide) (remU' (a := x14) (b := 65536) h16) <| lE h fun x17 h17 h => cv _ rfl h17 <| mv rfl <| mv rfl <| bE h fun x20 h20 h => ix rfl rfl h20 <| lr rfl rfl <| lE h fun x22 h22 h => RT.quo .none _ rfl rfl T (by decide) (UK.quo' (a := x20) (b := 65536) h22) ?_
 refine lE h fun x23 h23 h => cv _ rfl h23 <| bl (l := [x17, x23]) (e := eI64) (.one rfl (.one rfl (.nil))) rfl rfl rfl rfl rfl rfl <| bE h fun x25 h25 h => aR (k := [x17, x23]) (e := eI64) rfl rfl rfl h25 <| an (s := .row _) rfl ?_
 refine RT.done ⟨by kernel_rfl, ?_⟩
 refine AInB.n <| AThen.n <| ok_region <| mv rfl <| lE h fun x10 h10 h => ad _ rfl rfl h10 <| ag rfl <| RT.done ?_
 obtain rfl := O h
 exact AThen.n ⟨(x10, x25), hG6 _ rfl, weakL (fun i => bif Nat.beq i 306 then 25 else i) rfl rfl rfl rfl rfl ⟨.sv (SV.imp_refl _), .row rfl, .sv (SV.imp_refl _), trivial⟩ trivial ⟨⟨_, rfl, SVIs.refl _⟩, trivial⟩ (fun i hi => by rw [beq_ne (show i ≠ 306 by omega)]; rfl)⟩
 subst hx6
 try dsimp only
 refine AThen.n <| qq <| ok_weak (weak_frzM (i := 306) (E1 := 3) (n := 1) (e := eI64) (l := r306e5) rfl) <| ok_region <| mv rfl <| bE ho6 fun x27 h27 ho6 => cl (ref01_trim_ok h27) ⟨rfl, trivial⟩ <| ag rfl <| dn <| ok_ret ?_
 obtain rfl := O ho6
 exact R1 rfl
theorem ref01_at_ok {x0 : List Int} {x1 : Int} {r : Int} (h : ref01_at_m x0 x1 = some r) : Pure Tryz.prog 111 [slc 1 (List.map eI64 x0), .v (.int .i64 x1)] (.v (.int .i64 r)) := by
 refine pure_of_ok Tryz.func111 rfl (Nat.le_of_ble_eq_true rfl) (fun wld M vs hvs => ?_)
 unfold ref01_at_m at h
 refine sr <| ag rfl <| dn <| qq <| sr <| mv rfl <| mv rfl <| lE h fun x7 h7 h => ln rfl h7 <| lE h fun x8 h8 h => ls _ rfl rfl h8 <| dn ?_
 cases x8
 refine fs <| sr <| ag rfl <| dn <| ok_ret ?_
 obtain rfl := O (F h)
 exact R1 rfl
 refine cT <| sr <| mv rfl <| mv rfl <| bE (V h) fun x11 h11 h => ix rfl rfl h11 <| lr rfl rfl <| ag rfl <| dn <| ok_ret <| AThen.r ?_
 obtain rfl := O h
 exact R1 rfl
theorem ref01_of_ok {x0 : Bool} {x1 : List Int} {r : Zr} (h : ref01_of_m x0 x1 = some r) : Pure Tryz.prog 90 [.v (.bool x0), slc 1 (List.map eI64 x1)] (.agg (eZ r)) := by
 refine pure_of_ok Tryz.func90 rfl (Nat.le_of_ble_eq_true rfl) (fun wld M vs hvs => ?_)
 unfold ref01_of_m at h
 refine sr <| al (cs := [.v (.bool false), slc 1 (List.map eU32 [])]) (by exact ⟨SV.imp_refl _, imp_nil, trivial⟩) rfl <| dn <| sr <| mv rfl <| bE h fun x8 h8 h => cl (ref01_trim_ok h8) ⟨rfl, trivial⟩ <| ag rfl <| dn <| sr <| ag rfl <| dn <| ok_weak (weak_nil 5 304 64 1 rfl rfl T) <| qq <| sr <| ag rfl <| dn <| bE h fun e6 hl6 ho6 => ?_
 refine ok_tailP (fun (r306e5 : (List Nat)) => AS.mkL 37 [(0, .sv (.v (.bool x0))), (4, .ptr 4 0), (5, .row 306)] [(4, ⟨40, [.sv (.v (.bool false)), .sv (slc 1 (List.map eU32 []))]⟩)] [(306, TR 64 1 eU32 r306e5)]) (fun r306e5 => r306e5 = e6) ?_ (fun r306e5 hx6 => ?_)
 refine ok_block ?_
 refine ok_loopM hl6 (fun s6 => AS.mkL 37 [(0, .sv (.v (.bool x0))), (1, .sv (slc 1 (List.map eI64 x8))), (4, .ptr 4 0), (5, .row 306), (6, .sv (.v (.int .i64 s6.1)))] [(4, ⟨40, [.sv (.v (.bool false)), .sv (slc 1 (List.map eU32 []))]⟩)] [(306, TR 64 1 eU32 s6.2)]) (weakL (fun i => bif Nat.beq i 306 then 304 else i) rfl rfl rfl rfl rfl ⟨.sv (SV.imp_refl _), .sv (SV.imp_refl _), .ptr, .row rfl, .sv (SV.imp_refl _), trivial⟩ ⟨⟨_, rfl, ⟨.sv (SV.imp_refl _), .sv (SV.imp_refl _), trivial⟩⟩, trivial⟩ ⟨⟨_, rfl, SVIs.refl _⟩, trivial⟩ (fun i hi => by rw [beq_ne (show i ≠ 306 by omega)]; rfl)) (fun s6 y6 G6 h hG6 hE6 => ?_)
 obtain ⟨y6l3, r306l3⟩ := s6
 try dsimp only
 refine qq <| sr <| mv rfl <| mv rfl <| lE h fun x11 h11 h => ln rfl h11 <| lE h fun x12 h12 h => ls _ rfl rfl h12 <| dn ?_
 cases x12
 refine cF <| ok_exit <| AThen.x <| AThen.x <| AInB.x <| AThen.n ?_
 obtain rfl := O (F h)
 exact ⟨r306l3, hE6 _ rfl, wR []⟩
 refine cT <| ok_skip <| AThen.n <| qq <| ok_block <| ok_region <| mo (s := .row _) rfl <| mv rfl <| mv rfl <| bE (V h) fun x18 h18 h => cl (ref01_at_ok h18) ⟨rfl, rfl, trivial⟩ <| lE h fun x19 h19 h => cv _ rfl (UK.conv h19) <| mv rfl <| mv rfl <| lE h fun x22 h22 h => ad _ rfl rfl h22 <| bE h fun x23 h23 h => cl (ref01_at_ok h23) ⟨rfl, rfl, trivial⟩ <| lE h fun x24 h24 h => cv _ rfl (UK.conv h24) <| lE h fun x25 h25 h => RT.mul .none _ rfl rfl T (UK.mul (a := x24) (b := 65536) h25) ?_
 refine lE h fun x26 h26 h => ad _ rfl rfl (UK.add (a := x19) (b := x25) h26) <| bl (l := [x26]) (e := eU32) (.one rfl (.nil)) rfl rfl rfl rfl rfl rfl <| bE h fun x28 h28 h => aR (k := [x26]) (e := eU32) rfl rfl rfl h28 <| an (s := .row _) rfl <| RT.done <| AInB.n <| AThen.n <| ok_region <| mv rfl <| lE h fun x14 h14 h => ad _ rfl rfl h14 <| ag rfl <| RT.done ?_
 obtain rfl := O h
 exact AThen.n ⟨(x14, x28), hG6 _ rfl, weakL (fun i => bif Nat.beq i 306 then 28 else i) rfl rfl rfl rfl rfl ⟨.sv (SV.imp_refl _), .sv (SV.imp_refl _), .ptr, .row rfl, .sv (SV.imp_refl _), trivial⟩ ⟨⟨_, rfl, ⟨.sv (SV.imp_refl _), .sv (SV.imp_refl _), trivial⟩⟩, trivial⟩ ⟨⟨_, rfl, SVIs.refl _⟩, trivial⟩ (fun i hi => by rw [beq_ne (show i ≠ 306 by omega)]; rfl)⟩
 subst hx6
 try dsimp only
 refine AThen.n <| qq ?_
 refine ok_tailJ ho6 (fun j9 => AS.mkL 37 [(4, .ptr 4 0)] [(4, ⟨40, [.sv (.v (.bool j9)), .sv (slc 1 (List.map eU32 r306e5))]⟩)] []) (fun ho6 => ?_) (fun b4_0j8 ho6 => ?_)
 refine ok_weak (weak_frzM (i := 306) (E1 := 64) (n := 1) (e := eU32) (l := r306e5) rfl) <| ok_region <| mv rfl <| mv rfl <| bE ho6 fun c34_10 hg10 ho6 => ?_
 cases x0
 obtain rfl := O (F hg10)
 exact ww <| ww <| ww <| pF rfl <| mv rfl <| bI (cs := [_, _]) (cs' := [.v (.bool false), slc 1 (List.map eU32 r306e5)]) (.one rfl (.one rfl (.nil))) ⟨SV.imp_refl _, SV.imp_refl _, trivial⟩ <| so rfl rfl rfl <| dn <| ⟨false, ho6, wR []⟩
 refine gm rfl <| lE (V hg10) fun x32 h32 hg10 => gn rfl h32 <| lE hg10 fun x33 h33 hg10 => gg _ rfl rfl h33 ?_
 obtain rfl := O hg10
 exact pT rfl <| mv rfl <| bI (cs := [_, _]) (cs' := [.v (.bool x33), slc 1 (List.map eU32 r306e5)]) (.one rfl (.one rfl (.nil))) ⟨SV.imp_refl _, SV.imp_refl _, trivial⟩ <| so rfl rfl rfl <| dn <| ⟨x33, ho6, wR []⟩
 try dsimp only
 refine AThen.n <| ok_ret ?_
 obtain rfl := O ho6
 exact RZ (.agg rfl rfl (.cons rfl (.cons rfl (.nil))) rfl (.nil))
theorem ref01_Least_ok {x0 : Zr} {r : Zr} (h : ref01_Least_m x0 = some r) : Pure Tryz.prog 88 [.agg (eZ x0)] (.agg (eZ r)) := by
 obtain ⟨x0_0, x0_1⟩ := x0
 refine pure_of_ok Tryz.func88 rfl (Nat.le_of_ble_eq_true rfl) (fun wld M vs hvs => ?_)
 unfold ref01_Least_m at h
 refine sr <| bx rfl <| al (cs := [.v (.bool false), slc 1 (List.map eU32 [])]) (by exact ⟨SV.imp_refl _, imp_nil, trivial⟩) rfl <| dn <| qq <| ok_region_draw mixed <| fa rfl rfl <| lV rfl rfl rfl <| fa rfl rfl <| lV rfl rfl rfl <| bE h fun x7 h7 h => cl (ref01_halves_ok h7) ⟨rfl, trivial⟩ ?_
 obtain ⟨⟨x8_0, x8_1⟩, h8, h⟩ := bS h
 refine cl (ref01_of_ok h8) ⟨rfl, rfl, trivial⟩ <| so rfl rfl rfl ?_
 refine RT.done ⟨by kernel_rfl, ?_⟩
 refine AThen.n <| ok_ret ?_
 obtain rfl := O h
 exact RZ (.agg rfl rfl (.cons rfl (.cons rfl (.nil))) rfl (.nil))
theorem ref01_Same_ok {x0 : Zr} {x1 : Zr} {r : Bool} (h : ref01_Same_m x0 x1 = some r) : Pure Tryz.prog 68 [.agg (eZ x0), .agg (eZ x1)] (.v (.bool r)) := by
 obtain ⟨x0_0, x0_1⟩ := x0
 obtain ⟨x1_0, x1_1⟩ := x1
 refine pure_of_ok Tryz.func68 rfl (Nat.le_of_ble_eq_true rfl) (fun wld M vs hvs => ?_)
 unfold ref01_Same_m at h
 refine sr <| bx rfl <| bx rfl <| ag rfl <| dn <| qq <| qq ?_
 refine ok_tailJ h (fun j3 => AS.mkL 38 [(2, .ptr 2 0), (3, .ptr 3 0), (19, .sv (.v (.bool j3)))] [(3, ⟨40, [.sv (.v (.bool x1_0)), .sv (slc 1 (List.map eU32 x1_1))]⟩), (2, ⟨40, [.sv (.v (.bool x0_0)), .sv (slc 1 (List.map eU32 x0_1))]⟩)] []) (fun h => ?_) (fun y19j2 h => ?_)
 refine ok_region <| fa rfl rfl <| lV rfl rfl rfl <| fa rfl rfl <| lV rfl rfl rfl <| lE h fun x10 h10 h => RT.bneq .none _ rfl rfl T h10 <| mv rfl <| bE h fun c19_10 hg10 h => ?_
 cases x10
 refine RT.fieldAddr (.some rfl rfl) rfl T rfl <| RT.ldV (.some rfl rfl) rfl rfl rfl T <| lE (F hg10) fun x14 h14 hg10 => gn rfl h14 <| RT.fieldAddr (.some rfl rfl) rfl T rfl <| RT.ldV (.some rfl rfl) rfl rfl rfl T <| lE hg10 fun x17 h17 hg10 => gn rfl h17 <| lE hg10 fun x18 h18 hg10 => gq _ rfl rfl (neI (p := x14) (q := x17) h18) ?_
 obtain rfl := O hg10
 exact pF rfl <| dn <| ⟨x18, h, wR []⟩
 obtain rfl := O (V hg10)
 exact ww <| ww <| ww <| ww <| ww <| ww <| ww <| pT rfl <| dn <| ⟨true, h, wR []⟩
 try dsimp only
 refine AThen.n ?_
 cases y19j2
 refine fs <| qq <| sr <| ag rfl <| dn <| bE (F h) fun e9 hl9 ho9 => ?_
 refine ok_tailP (fun (xe9 : Unit) => AS.mkL 38 [] [] []) (fun xe9 => .inl xe9 = e9) ?_ (fun xe9 hx9 => ?_)
 refine ok_block ?_
 refine ok_loopM hl9 (fun s9 => AS.mkL 38 [(2, .ptr 2 0), (3, .ptr 3 0), (5, .sv (.v (.int .i64 s9)))] [(3, ⟨40, [.sv (.v (.bool x1_0)), .sv (slc 1 (List.map eU32 x1_1))]⟩), (2, ⟨40, [.sv (.v (.bool x0_0)), .sv (slc 1 (List.map eU32 x0_1))]⟩)] []) (wR []) (fun y5l6 y9 G9 h hG9 hE9 => ?_)
 try dsimp only
 refine qq <| sr <| mv rfl <| fa rfl rfl <| lV rfl rfl rfl <| lE h fun x23 h23 h => ln rfl h23 <| lE h fun x24 h24 h => ls _ rfl rfl h24 <| dn ?_
 cases x24
 refine cF <| ok_exit <| AThen.x <| AThen.x <| AInB.x <| AThen.n ?_
 obtain rfl := O (F h)
 exact ⟨(), hE9 _ rfl, wR []⟩
 refine cT <| ok_skip <| AThen.n <| qq <| ok_block <| qq <| ok_region_draw mixed <| fa rfl rfl <| lV rfl rfl rfl <| mv rfl <| bE (V h) fun x30 h30 h => ix rfl rfl h30 <| lr rfl rfl <| fa rfl rfl <| lV rfl rfl rfl <| mv rfl <| bE h fun x35 h35 h => ix rfl rfl h35 <| lr rfl rfl <| lE h fun x37 h37 h => ne _ rfl rfl (neN (p := x30) (q := x35) h37) ?_
 refine RT.done ⟨by kernel_rfl, ?_⟩
 refine AThen.n ?_
 cases x37
 refine cF <| ok_skip <| AInB.n <| AThen.n <| ok_region <| mv rfl <| lE (F h) fun x26 h26 h => ad _ rfl rfl h26 <| ag rfl <| RT.done ?_
 obtain rfl := O h
 exact AThen.n ⟨x26, hG9 _ rfl, wR []⟩
 refine cT <| sr <| ag rfl <| dn <| ok_ret <| AInB.r <| AThen.r ?_
 obtain rfl := O (V h)
 have he9 := hE9 _ rfl
 subst he9
 refine AThen.r <| AInB.r <| AThen.r <| AThen.r ?_
 obtain rfl := O ho9
 exact R1 rfl
 subst hx9
 try dsimp only
 refine AThen.n <| sr <| ag rfl <| dn <| ok_ret ?_
 obtain rfl := O ho9
 exact R1 rfl
 refine cT <| sr <| ag rfl <| dn <| ok_ret <| AThen.r ?_
 obtain rfl := O (V h)
 exact R1 rfl
theorem ref01_From_ok {x0 : Int} {r : Zr} (h : ref01_From_m x0 = some r) : Pure Tryz.prog 109 [.v (.int .i64 x0)] (.agg (eZ r)) := by
 refine pure_of_ok Tryz.func109 rfl (Nat.le_of_ble_eq_true rfl) (fun wld M vs hvs => ?_)
 unfold ref01_From_m at h
 refine sr <| al (cs := [.v (.bool false), slc 1 (List.map eU32 [])]) (by exact ⟨SV.imp_refl _, imp_nil, trivial⟩) rfl <| dn <| sr <| mv rfl <| lE h fun x5 h5 h => cv _ rfl (UK.conv h5) <| ag rfl <| dn <| qq <| sr <| mv rfl <| lE h fun x7 h7 h => ls _ rfl rfl h7 <| dn ?_
 refine ok_tailJ h (fun j2 => AS.mkL 21 [(0, .sv (.v (.int .i64 x0))), (2, .ptr 2 0), (3, .sv (.v (.int .u64 ((j2 : Nat) : Int))))] [(2, ⟨40, [.sv (.v (.bool false)), .sv (slc 1 (List.map eU32 []))]⟩)] []) (fun h => ?_) (fun y3j1 h => ?_)
 cases x7
 exact fs <| ⟨x5, (F h), wR []⟩
 exact cT <| ok_region <| mv rfl <| lE (V h) fun x9 h9 h => RT.neg .none _ rfl T (UK.neg h9) <| ag rfl <| dn <| ⟨x9, h, wR []⟩
 try dsimp only
 refine AThen.n <| sr <| mv rfl <| lE h fun x11 h11 h => ls _ rfl rfl h11 <| mv rfl <| lE h fun x13 h13 h => RT.rem .none _ rfl rfl T (by decide) (remU' (a := y3j1) (b := 4294967296) h13) <| lE h fun x14 h14 h => cv _ rfl (UK.nat h14) <| mv rfl <| lE h fun x16 h16 h => RT.quo .none _ rfl rfl T (by decide) (UK.quo' (a := y3j1) (b := 4294967296) h16) <| lE h fun x17 h17 h => cv _ rfl (UK.nat h17) <| bl (l := [x14, x17]) (e := eU32) (.one rfl (.one rfl (.nil))) rfl rfl rfl rfl rfl rfl <| bI (cs := [_, _]) (cs' := [.v (.bool x11), slc 1 (List.map eU32 [x14, x17])]) (.one rfl (.one rfl (.nil))) ⟨SV.imp_refl _, SV.imp_refl _, trivial⟩ ?_
 obtain ⟨⟨x20_0, x20_1⟩, h20, h⟩ := bS h
 refine cl (ref01_Least_ok h20) ⟨rfl, trivial⟩ <| so rfl rfl rfl <| dn <| ok_ret ?_
 obtain rfl := O h
 exact RZ (.agg rfl rfl (.cons rfl (.cons rfl (.nil))) rfl (.nil))
end Go.Proofs.YthgkgjogdgdcgaaGreat
namespace Go.Proofs.YthgkgjogdgdcgaaGreat
open Go.Fw Go.Fw.Z Go.RowKit
theorem ref01_cmp_ok {x0 : List Int} {x1 : List Int} {r : Int} (h : ref01_cmp_m x0 x1 = some r) : Pure Tryz.prog 94 [slc 1 (List.map eI64 x0), slc 1 (List.map eI64 x1)] (.v (.int .i64 r)) := by
 refine pure_of_ok Tryz.func94 rfl (Nat.le_of_ble_eq_true rfl) (fun wld M vs hvs => ?_)
 unfold ref01_cmp_m at h
 refine sr <| ag rfl <| dn <| qq <| sr <| mv rfl <| lE h fun x7 h7 h => ln rfl h7 <| mv rfl <| lE h fun x9 h9 h => ln rfl h9 <| lE h fun x10 h10 h => RT.max .none _ rfl rfl T (maxI (p := x7) (q := x9) h10) <| lE h fun x11 h11 h => sb _ rfl rfl h11 <| ag rfl <| dn <| bE h fun e6 hl6 ho6 => ?_
 refine ok_tailP (fun (xe6 : Unit) => AS.mkL 30 [] [] []) (fun xe6 => .inl xe6 = e6) ?_ (fun xe6 hx6 => ?_)
 refine ok_block ?_
 refine ok_loopM hl6 (fun s6 => AS.mkL 30 [(0, .sv (slc 1 (List.map eI64 x0))), (1, .sv (slc 1 (List.map eI64 x1))), (5, .sv (.v (.int .i64 s6)))] [] []) (wR []) (fun y5l3 y6 G6 h hG6 hE6 => ?_)
 try dsimp only
 refine qq <| sr <| mv rfl <| lE h fun x13 h13 h => ge _ rfl rfl h13 <| dn ?_
 cases x13
 refine cF <| ok_exit <| AThen.x <| AThen.x <| AInB.x <| AThen.n ?_
 obtain rfl := O (F h)
 exact ⟨(), hE6 _ rfl, wR []⟩
 refine cT <| ok_skip <| AThen.n <| qq <| ok_block <| qq <| sr <| mv rfl <| mv rfl <| bE (V h) fun x18 h18 h => cl (ref01_at_ok h18) ⟨rfl, rfl, trivial⟩ <| mv rfl <| mv rfl <| bE h fun x21 h21 h => cl (ref01_at_ok h21) ⟨rfl, rfl, trivial⟩ <| lE h fun x22 h22 h => ls _ rfl rfl h22 <| dn ?_
 cases x22
 refine fs <| sr <| mv rfl <| mv rfl <| bE (F h) fun x25 h25 h => cl (ref01_at_ok h25) ⟨rfl, rfl, trivial⟩ <| mv rfl <| mv rfl <| bE h fun x28 h28 h => cl (ref01_at_ok h28) ⟨rfl, rfl, trivial⟩ <| lE h fun x29 h29 h => gt _ rfl rfl h29 <| dn ?_
 cases x29
 refine cF <| ok_skip <| AInB.n <| AThen.n <| ok_region <| mv rfl <| lE (F h) fun x15 h15 h => sb _ rfl rfl h15 <| ag rfl <| RT.done ?_
 obtain rfl := O h
 exact AThen.n ⟨x15, hG6 _ rfl, wR []⟩
 refine cT <| sr <| ag rfl <| dn <| ok_ret <| AInB.r <| AThen.r ?_
 obtain rfl := O (V h)
 have he6 := hE6 _ rfl
 subst he6
 refine AThen.r <| AInB.r <| AThen.r <| AThen.r ?_
 obtain rfl := O ho6
 exact R1 rfl
 refine cT <| sr <| ag rfl <| dn <| ok_ret <| AThen.r <| AInB.r <| AThen.r ?_
 obtain rfl := O (V h)
 have he6 := hE6 _ rfl
 subst he6
 refine AThen.r <| AInB.r <| AThen.r <| AThen.r ?_
 obtain rfl := O ho6
 exact R1 rfl
 subst hx6
 try dsimp only
 refine AThen.n <| sr <| ag rfl <| dn <| ok_ret ?_
 obtain rfl := O ho6
 exact R1 rfl
theorem ref01_add_ok {x0 : List Int} {x1 : List Int} {r : List Int} (h : ref01_add_m x0 x1 = some r) : Pure Tryz.prog 93 [slc 1 (List.map eI64 x0), slc 1 (List.map eI64 x1)] (slc 1 (List.map eI64 r)) := by
 refine pure_of_ok Tryz.func93 rfl (Nat.le_of_ble_eq_true rfl) (fun wld M vs hvs => ?_)
 unfold ref01_add_m at h
 refine sr <| aI rfl (imp_nil (n := 1) (e := eI64)) <| dn <| sr <| ag rfl <| dn <| ok_weak (weak_nil 5 304 3 1 rfl rfl T) <| sr <| ag rfl <| dn <| qq <| sr <| ag rfl <| dn <| bE h fun e16 hl16 ho16 => ?_
 refine ok_tailP (fun (r306e15 : (List Int)) => AS.mkL 43 [(5, .row 306)] [] [(306, TR 3 1 eI64 r306e15)]) (fun r306e15 => r306e15 = e16) ?_ (fun r306e15 hx16 => ?_)
 refine ok_block ?_
 refine ok_loopM hl16 (fun s16 => AS.mkL 43 [(0, .sv (slc 1 (List.map eI64 x0))), (1, .sv (slc 1 (List.map eI64 x1))), (5, .row 306), (6, .sv (.v (.int .i64 s16.1))), (7, .sv (.v (.int .i64 s16.2.1)))] [] [(306, TR 3 1 eI64 s16.2.2)]) (weakL (fun i => bif Nat.beq i 306 then 304 else i) rfl rfl rfl rfl rfl ⟨.sv (SV.imp_refl _), .sv (SV.imp_refl _), .row rfl, .sv (SV.imp_refl _), .sv (SV.imp_refl _), trivial⟩ trivial ⟨⟨_, rfl, SVIs.refl _⟩, trivial⟩ (fun i hi => by rw [beq_ne (show i ≠ 306 by omega)]; rfl)) (fun s16 y16 G16 h hG16 hE16 => ?_)
 obtain ⟨y6l8, y7l8, r306l8⟩ := s16
 try dsimp only
 refine qq <| qq ?_
 refine ok_tailJ h (fun j22 => AS.mkL 43 [(0, .sv (slc 1 (List.map eI64 x0))), (1, .sv (slc 1 (List.map eI64 x1))), (5, .row 306), (6, .sv (.v (.int .i64 y6l8))), (7, .sv (.v (.int .i64 y7l8))), (22, .sv (.v (.bool j22)))] [] [(306, TR 3 1 eI64 r306l8)]) (fun h => ?_) (fun y22j21 h => ?_)
 refine ok_region <| mv rfl <| mv rfl <| lE h fun x11 h11 h => ln rfl h11 <| lE h fun x12 h12 h => ls _ rfl rfl h12 <| mv rfl <| bE h fun c18_23 hg23 h => ?_
 cases x12
 refine gm rfl <| gm rfl <| lE (F hg23) fun x16 h16 hg23 => gn rfl h16 <| lE hg23 fun x17 h17 hg23 => RT.lss (.some rfl rfl) _ rfl rfl T h17 ?_
 obtain rfl := O hg23
 refine pF rfl <| mv rfl <| bE h fun c22_24 hg24 h => ?_
 cases x17
 refine gm rfl <| lE (F hg24) fun x21 h21 hg24 => gg _ rfl rfl h21 ?_
 obtain rfl := O hg24
 exact pF rfl <| dn <| ⟨x21, h, wR []⟩
 obtain rfl := O (V hg24)
 exact ww <| ww <| pT rfl <| dn <| ⟨true, h, wR []⟩
 obtain rfl := O (V hg23)
 refine ww <| ww <| ww <| ww <| pT rfl <| mv rfl <| bE h fun c22_25 hg25 h => ?_
 obtain rfl := O (V hg25)
 exact ww <| ww <| pT rfl <| dn <| ⟨true, h, wR []⟩
 try dsimp only
 refine AThen.n ?_
 cases y22j21
 refine cF <| ok_exit <| AThen.x <| AThen.x <| AInB.x <| AThen.n ?_
 obtain rfl := O (F h)
 exact ⟨r306l8, hE16 _ rfl, wR []⟩
 refine cT <| ok_skip <| AThen.n <| qq <| ok_block <| sr <| mv rfl <| mv rfl <| bE (V h) fun x27 h27 h => cl (ref01_at_ok h27) ⟨rfl, rfl, trivial⟩ <| mv rfl <| mv rfl <| bE h fun x30 h30 h => cl (ref01_at_ok h30) ⟨rfl, rfl, trivial⟩ <| lE h fun x31 h31 h => ad _ rfl rfl h31 <| mv rfl <| lE h fun x33 h33 h => ad _ rfl rfl h33 <| ag rfl <| dn <| sr <| mo (s := .row _) rfl <| mv rfl <| lE h fun x36 h36 h => ?_
 refine RT.rem .none _ rfl rfl T (by decide) h36 <| bl (l := [x36]) (e := eI64) (.one rfl (.nil)) rfl rfl rfl rfl rfl rfl <| bE h fun x38 h38 h => aR (k := [x36]) (e := eI64) rfl rfl rfl h38 <| an (s := .row _) rfl <| dn <| ok_region <| mv rfl <| lE h fun x40 h40 h => RT.quo .none _ rfl rfl T (by decide) h40 <| ag rfl <| RT.done <| AInB.n <| AThen.n <| ok_region <| mv rfl <| lE h fun x24 h24 h => ad _ rfl rfl h24 <| ag rfl <| RT.done ?_
 obtain rfl := O h
 exact AThen.n ⟨(x40, x24, x38), hG16 _ rfl, weakL (fun i => bif Nat.beq i 306 then 38 else i) rfl rfl rfl rfl rfl ⟨.sv (SV.imp_refl _), .sv (SV.imp_refl _), .row rfl, .sv (SV.imp_refl _), .sv (SV.imp_refl _), trivial⟩ trivial ⟨⟨_, rfl, SVIs.refl _⟩, trivial⟩ (fun i hi => by rw [beq_ne (show i ≠ 306 by omega)]; rfl)⟩
 subst hx16
 try dsimp only
 refine AThen.n <| qq <| ok_weak (weak_frzM (i := 306) (E1 := 3) (n := 1) (e := eI64) (l := r306e15) rfl) <| ok_region <| mv rfl <| bE ho16 fun x42 h42 ho16 => cl (ref01_trim_ok h42) ⟨rfl, trivial⟩ <| ag rfl <| dn <| ok_ret ?_
 obtain rfl := O ho16
 exact R1 rfl
theorem ref01_sub_ok {x0 : List Int} {x1 : List Int} {r : List Int} (h : ref01_sub_m x0 x1 = some r) : Pure Tryz.prog 95 [slc 1 (List.map eI64 x0), slc 1 (List.map eI64 x1)] (slc 1 (List.map eI64 r)) := by
 refine pure_of_ok Tryz.func95 rfl (Nat.le_of_ble_eq_true rfl) (fun wld M vs hvs => ?_)
 unfold ref01_sub_m at h
 refine sr <| aI rfl (imp_nil (n := 1) (e := eI64)) <| dn <| sr <| ag rfl <| dn <| ok_weak (weak_nil 5 304 3 1 rfl rfl T) <| sr <| ag rfl <| dn <| qq <| sr <| ag rfl <| dn <| bE h fun e8 hl8 ho8 => ?_
 refine ok_tailP (fun (r306e7 : (List Int)) => AS.mkL 34 [(5, .row 306)] [] [(306, TR 3 1 eI64 r306e7)]) (fun r306e7 => r306e7 = e8) ?_ (fun r306e7 hx8 => ?_)
 refine ok_block ?_
 refine ok_loopM hl8 (fun s8 => AS.mkL 34 [(0, .sv (slc 1 (List.map eI64 x0))), (1, .sv (slc 1 (List.map eI64 x1))), (5, .row 306), (6, .sv (.v (.int .i64 s8.1))), (7, .sv (.v (.int .i64 s8.2.1)))] [] [(306, TR 3 1 eI64 s8.2.2)]) (weakL (fun i => bif Nat.beq i 306 then 304 else i) rfl rfl rfl rfl rfl ⟨.sv (SV.imp_refl _), .sv (SV.imp_refl _), .row rfl, .sv (SV.imp_refl _), .sv (SV.imp_refl _), trivial⟩ trivial ⟨⟨_, rfl, SVIs.refl _⟩, trivial⟩ (fun i hi => by rw [beq_ne (show i ≠ 306 by omega)]; rfl)) (fun s8 y8 G8 h hG8 hE8 => ?_)
 obtain ⟨y6l4, y7l4, r306l4⟩ := s8
 try dsimp only
 refine qq <| sr <| mv rfl <| mv rfl <| lE h fun x11 h11 h => ln rfl h11 <| lE h fun x12 h12 h => ls _ rfl rfl h12 <| dn ?_
 cases x12
 refine cF <| ok_exit <| AThen.x <| AThen.x <| AInB.x <| AThen.n ?_
 obtain rfl := O (F h)
 exact ⟨r306l4, hE8 _ rfl, wR []⟩
 refine cT <| ok_skip <| AThen.n <| qq <| ok_block <| sr <| mv rfl <| mv rfl <| bE (V h) fun x17 h17 h => cl (ref01_at_ok h17) ⟨rfl, rfl, trivial⟩ <| mv rfl <| mv rfl <| bE h fun x20 h20 h => cl (ref01_at_ok h20) ⟨rfl, rfl, trivial⟩ <| lE h fun x21 h21 h => sb _ rfl rfl h21 <| mv rfl <| lE h fun x23 h23 h => sb _ rfl rfl h23 <| ag rfl <| dn <| sr <| ag rfl <| dn <| qq <| sr <| mv rfl <| lE h fun x25 h25 h => ?_
 refine ls _ rfl rfl h25 <| dn ?_
 refine ok_tailJ h (fun j10 => AS.mkL 34 [(0, .sv (slc 1 (List.map eI64 x0))), (1, .sv (slc 1 (List.map eI64 x1))), (5, .row 306), (6, .sv (.v (.int .i64 j10.1))), (7, .sv (.v (.int .i64 y7l4))), (8, .sv (.v (.int .i64 j10.2)))] [] [(306, TR 3 1 eI64 r306l4)]) (fun h => ?_) (fun j10 h => ?_)
 cases x25
 exact fs <| ⟨(0, x23), (F h), wR []⟩
 exact cT <| sr <| mv rfl <| lE (V h) fun x27 h27 h => ad _ rfl rfl h27 <| ag rfl <| dn <| ok_region <| ag rfl <| dn <| ⟨(1, x27), h, wR []⟩
 obtain ⟨y6j9, y8j9⟩ := j10
 try dsimp only
 refine AThen.n <| ok_region <| mo (s := .row _) rfl <| mv rfl <| bl (l := [y8j9]) (e := eI64) (.one rfl (.nil)) rfl rfl rfl rfl rfl rfl <| bE h fun x31 h31 h => aR (k := [y8j9]) (e := eI64) rfl rfl rfl h31 <| an (s := .row _) rfl <| RT.done <| AInB.n <| AThen.n <| ok_region <| mv rfl <| lE h fun x14 h14 h => ad _ rfl rfl h14 <| ag rfl <| RT.done ?_
 obtain rfl := O h
 exact AThen.n ⟨(y6j9, x14, x31), hG8 _ rfl, weakL (fun i => bif Nat.beq i 306 then 31 else i) rfl rfl rfl rfl rfl ⟨.sv (SV.imp_refl _), .sv (SV.imp_refl _), .row rfl, .sv (SV.imp_refl _), .sv (SV.imp_refl _), trivial⟩ trivial ⟨⟨_, rfl, SVIs.refl _⟩, trivial⟩ (fun i hi => by rw [beq_ne (show i ≠ 306 by omega)]; rfl)⟩
 subst hx8
 try dsimp only
 refine AThen.n <| qq <| ok_weak (weak_frzM (i := 306) (E1 := 3) (n := 1) (e := eI64) (l := r306e7) rfl) <| ok_region <| mv rfl <| bE ho8 fun x33 h33 ho8 => cl (ref01_trim_ok h33) ⟨rfl, trivial⟩ <| ag rfl <| dn <| ok_ret ?_
 obtain rfl := O ho8
 exact R1 rfl
theorem ref01_small_ok {x0 : List Int} {r : Int} (h : ref01_small_m x0 = some r) : Pure Tryz.prog 113 [slc 1 (List.map eI64 x0)] (.v (.int .i64 r)) := by
 refine pure_of_ok Tryz.func113 rfl (Nat.le_of_ble_eq_true rfl) (fun wld M vs hvs => ?_)
 unfold ref01_small_m at h
 refine sr <| ag rfl <| dn <| sr <| ag rfl <| dn <| qq <| sr <| mv rfl <| lE h fun x6 h6 h => ln rfl h6 <| lE h fun x7 h7 h => sb _ rfl rfl h7 <| ag rfl <| dn <| bE h fun e6 hl6 ho6 => ?_
 refine ok_tailP (fun (y3e5 : Int) => AS.mkL 20 [(3, .sv (.v (.int .i64 y3e5)))] [] []) (fun y3e5 => y3e5 = e6) ?_ (fun y3e5 hx6 => ?_)
 refine ok_block ?_
 refine ok_loopM hl6 (fun s6 => AS.mkL 20 [(0, .sv (slc 1 (List.map eI64 x0))), (3, .sv (.v (.int .i64 s6.1))), (4, .sv (.v (.int .i64 s6.2)))] [] []) (wR []) (fun s6 y6 G6 h hG6 hE6 => ?_)
 obtain ⟨y3l3, y4l3⟩ := s6
 try dsimp only
 refine qq <| sr <| mv rfl <| lE h fun x9 h9 h => ge _ rfl rfl h9 <| dn ?_
 cases x9
 refine cF <| ok_exit <| AThen.x <| AThen.x <| AInB.x <| AThen.n ?_
 obtain rfl := O (F h)
 exact ⟨y3l3, hE6 _ rfl, wR []⟩
 refine cT <| ok_skip <| AThen.n <| qq <| ok_block <| ok_region <| mv rfl <| lE (V h) fun x13 h13 h => RT.mul .none _ rfl rfl T h13 <| mv rfl <| mv rfl <| bE h fun x16 h16 h => ix rfl rfl h16 <| lr rfl rfl <| lE h fun x18 h18 h => ad _ rfl rfl h18 <| ag rfl <| RT.done <| AInB.n <| AThen.n <| ok_region <| mv rfl <| lE h fun x11 h11 h => sb _ rfl rfl h11 <| ag rfl <| RT.done ?_
 obtain rfl := O h
 exact AThen.n ⟨(x18, x11), hG6 _ rfl, wR []⟩
 subst hx6
 try dsimp only
 refine AThen.n <| sr <| mv rfl <| ag rfl <| dn <| ok_ret ?_
 obtain rfl := O ho6
 exact R1 rfl
theorem ref01_back_ok {x0 : Int} {r : List Int} (h : ref01_back_m x0 = some r) : Pure Tryz.prog 112 [.v (.int .i64 x0)] (slc 1 (List.map eI64 r)) := by
 refine pure_of_ok Tryz.func112 rfl (Nat.le_of_ble_eq_true rfl) (fun wld M vs hvs => ?_)
 unfold ref01_back_m at h
 refine sr <| aI rfl (imp_nil (n := 1) (e := eI64)) <| dn <| sr <| mv rfl <| lE h fun x4 h4 h => RT.rem .none _ rfl rfl T (by decide) h4 <| mv rfl <| lE h fun x6 h6 h => RT.quo .none _ rfl rfl T (by decide) h6 <| lE h fun x7 h7 h => RT.rem .none _ rfl rfl T (by decide) h7 <| mv rfl <| lE h fun x9 h9 h => RT.quo .none _ rfl rfl T (by decide) h9 <| lE h fun x10 h10 h => RT.quo .none _ rfl rfl T (by decide) h10 <| bl (l := [x4, x7, x10]) (e := eI64) (.one rfl (.one rfl (.one rfl (.nil)))) rfl rfl rfl rfl rfl rfl ?_
 refine bE h fun x12 h12 h => cl (ref01_trim_ok h12) ⟨rfl, trivial⟩ <| ag rfl <| dn <| ok_ret ?_
 obtain rfl := O h
 exact R1 rfl
theorem ref01_times_ok {x0 : List Int} {x1 : Int} {r : List Int} (h : ref01_times_m x0 x1 = some r) : Pure Tryz.prog 114 [slc 1 (List.map eI64 x0), .v (.int .i64 x1)] (slc 1 (List.map eI64 r)) := by
 refine pure_of_ok Tryz.func114 rfl (Nat.le_of_ble_eq_true rfl) (fun wld M vs hvs => ?_)
 unfold ref01_times_m at h
 refine sr <| aI rfl (imp_nil (n := 1) (e := eI64)) <| dn <| sr <| ag rfl <| dn <| ok_weak (weak_nil 5 304 3 1 rfl rfl T) <| sr <| ag rfl <| dn <| qq <| sr <| ag rfl <| dn <| bE h fun e10 hl10 ho10 => ?_
 refine ok_tailP (fun (r306e9 : (List Int)) => AS.mkL 35 [(5, .row 306)] [] [(306, TR 3 1 eI64 r306e9)]) (fun r306e9 => r306e9 = e10) ?_ (fun r306e9 hx10 => ?_)
 refine ok_block ?_
 refine ok_loopM hl10 (fun s10 => AS.mkL 35 [(0, .sv (slc 1 (List.map eI64 x0))), (1, .sv (.v (.int .i64 x1))), (5, .row 306), (6, .sv (.v (.int .i64 s10.1))), (7, .sv (.v (.int .i64 s10.2.1)))] [] [(306, TR 3 1 eI64 s10.2.2)]) (weakL (fun i => bif Nat.beq i 306 then 304 else i) rfl rfl rfl rfl rfl ⟨.sv (SV.imp_refl _), .sv (SV.imp_refl _), .row rfl, .sv (SV.imp_refl _), .sv (SV.imp_refl _), trivial⟩ trivial ⟨⟨_, rfl, SVIs.refl _⟩, trivial⟩ (fun i hi => by rw [beq_ne (show i ≠ 306 by omega)]; rfl)) (fun s10 y10 G10 h hG10 hE10 => ?_)
 obtain ⟨y6l5, y7l5, r306l5⟩ := s10
 try dsimp only
 refine qq <| qq ?_
 refine ok_tailJ h (fun j13 => AS.mkL 35 [(0, .sv (slc 1 (List.map eI64 x0))), (1, .sv (.v (.int .i64 x1))), (5, .row 306), (6, .sv (.v (.int .i64 y6l5))), (7, .sv (.v (.int .i64 y7l5))), (16, .sv (.v (.bool j13)))] [] [(306, TR 3 1 eI64 r306l5)]) (fun h => ?_) (fun y16j12 h => ?_)
 refine ok_region <| mv rfl <| mv rfl <| lE h fun x11 h11 h => ln rfl h11 <| lE h fun x12 h12 h => ls _ rfl rfl h12 <| mv rfl <| bE h fun c16_14 hg14 h => ?_
 cases x12
 refine gm rfl <| lE (F hg14) fun x15 h15 hg14 => gg _ rfl rfl h15 ?_
 obtain rfl := O hg14
 exact pF rfl <| dn <| ⟨x15, h, wR []⟩
 obtain rfl := O (V hg14)
 exact ww <| ww <| pT rfl <| dn <| ⟨true, h, wR []⟩
 try dsimp only
 refine AThen.n ?_
 cases y16j12
 refine cF <| ok_exit <| AThen.x <| AThen.x <| AInB.x <| AThen.n ?_
 obtain rfl := O (F h)
 exact ⟨r306l5, hE10 _ rfl, wR []⟩
 refine cT <| ok_skip <| AThen.n <| qq <| ok_block <| sr <| mv rfl <| mv rfl <| bE (V h) fun x21 h21 h => cl (ref01_at_ok h21) ⟨rfl, rfl, trivial⟩ <| mv rfl <| lE h fun x23 h23 h => RT.mul .none _ rfl rfl T h23 <| mv rfl <| lE h fun x25 h25 h => ad _ rfl rfl h25 <| ag rfl <| dn <| sr <| mo (s := .row _) rfl <| mv rfl <| lE h fun x28 h28 h => RT.rem .none _ rfl rfl T (by decide) h28 <| bl (l := [x28]) (e := eI64) (.one rfl (.nil)) rfl rfl rfl rfl rfl rfl ?_
 refine bE h fun x30 h30 h => aR (k := [x28]) (e := eI64) rfl rfl rfl h30 <| an (s := .row _) rfl <| dn <| ok_region <| mv rfl <| lE h fun x32 h32 h => RT.quo .none _ rfl rfl T (by decide) h32 <| ag rfl <| RT.done <| AInB.n <| AThen.n <| ok_region <| mv rfl <| lE h fun x18 h18 h => ad _ rfl rfl h18 <| ag rfl <| RT.done ?_
 obtain rfl := O h
 exact AThen.n ⟨(x32, x18, x30), hG10 _ rfl, weakL (fun i => bif Nat.beq i 306 then 30 else i) rfl rfl rfl rfl rfl ⟨.sv (SV.imp_refl _), .sv (SV.imp_refl _), .row rfl, .sv (SV.imp_refl _), .sv (SV.imp_refl _), trivial⟩ trivial ⟨⟨_, rfl, SVIs.refl _⟩, trivial⟩ (fun i hi => by rw [beq_ne (show i ≠ 306 by omega)]; rfl)⟩
 subst hx10
 try dsimp only
 refine AThen.n <| qq <| ok_weak (weak_frzM (i := 306) (E1 := 3) (n := 1) (e := eI64) (l := r306e9) rfl) <| ok_region <| mv rfl <| bE ho10 fun x34 h34 ho10 => cl (ref01_trim_ok h34) ⟨rfl, trivial⟩ <| ag rfl <| dn <| ok_ret ?_
 obtain rfl := O ho10
 exact R1 rfl
theorem ref01_mul_ok {x0 : List Int} {x1 : List Int} {r : List Int} (h : ref01_mul_m x0 x1 = some r) : Pure Tryz.prog 91 [slc 1 (List.map eI64 x0), slc 1 (List.map eI64 x1)] (slc 1 (List.map eI64 r)) := by
 refine pure_of_ok Tryz.func91 rfl (Nat.le_of_ble_eq_true rfl) (fun wld M vs hvs => ?_)
 unfold ref01_mul_m at h
 refine sr <| aI rfl (imp_nil (n := 1) (e := eI64)) <| dn <| qq <| sr <| mv rfl <| lE h fun x9 h9 h => ln rfl h9 <| mv rfl <| lE h fun x11 h11 h => ln rfl h11 <| lE h fun x12 h12 h => ad _ rfl rfl h12 <| lE h fun x13 h13 h => RT.leq .none _ rfl rfl T h13 <| dn ?_
 cases x13
 refine fs <| sr <| aI rfl (imp_nil (n := 1) (e := eI64)) <| dn <| qq <| sr <| mv rfl <| lE (F h) fun x21 h21 h => ln rfl h21 <| lE h fun x22 h22 h => sb _ rfl rfl h22 <| ag rfl <| dn <| bE h fun e16 hl16 ho16 => ?_
 refine ok_tailP (fun (y5e15 : (List Int)) => AS.mkL 51 [(5, .sv (slc 1 (List.map eI64 y5e15)))] [] []) (fun y5e15 => y5e15 = e16) ?_ (fun y5e15 hx16 => ?_)
 refine ok_block ?_
 refine ok_loopM hl16 (fun s16 => AS.mkL 51 [(0, .sv (slc 1 (List.map eI64 x0))), (1, .sv (slc 1 (List.map eI64 x1))), (5, .sv (slc 1 (List.map eI64 s16.1))), (6, .sv (.v (.int .i64 s16.2)))] [] []) (wR []) (fun s16 y16 G16 h hG16 hE16 => ?_)
 obtain ⟨y5l8, y6l8⟩ := s16
 try dsimp only
 refine qq <| sr <| mv rfl <| lE h fun x24 h24 h => ge _ rfl rfl h24 <| dn ?_
 cases x24
 refine cF <| ok_exit <| AThen.x <| AThen.x <| AInB.x <| AThen.n ?_
 obtain rfl := O (F h)
 exact ⟨y5l8, hE16 _ rfl, wR []⟩
 refine cT <| ok_skip <| AThen.n <| qq <| ok_block <| sr <| RT.buildRw (l := [0]) (e := eI64) .none (.one rfl (.nil)) T rfl T rfl rfl rfl rfl rfl rfl <| mv rfl <| bE (V h) fun x29 h29 h => RT.apIR (k := y5l8) (e := eI64) .none rfl rfl rfl T rfl T h29 <| ag rfl <| dn <| sr <| ag rfl <| dn <| bE h fun e22 hl22 ho22 => ?_
 refine ok_tailP (fun (y5e21 : (List Int)) => AS.mkL 51 [(0, .sv (slc 1 (List.map eI64 x0))), (1, .sv (slc 1 (List.map eI64 x1))), (5, .sv (slc 1 (List.map eI64 y5e21))), (6, .sv (.v (.int .i64 y6l8)))] [] []) (fun y5e21 => y5e21 = e22) ?_ (fun y5e21 hx22 => ?_)
 refine ok_block ?_
 refine ok_loopM hl22 (fun s22 => AS.mkL 51 [(0, .sv (slc 1 (List.map eI64 x0))), (1, .sv (slc 1 (List.map eI64 x1))), (5, .sv (slc 1 (List.map eI64 s22.1))), (6, .sv (.v (.int .i64 y6l8))), (7, .sv (.v (.int .i64 s22.2)))] [] []) (wR []) (fun s22 y22 G22 h hG22 hE22 => ?_)
 obtain ⟨y5l19, y7l19⟩ := s22
 try dsimp only
 refine qq <| sr <| mv rfl <| mv rfl <| mv rfl <| bE h fun x33 h33 h => ix rfl rfl h33 <| lr rfl rfl <| lE h fun x35 h35 h => ls _ rfl rfl h35 <| dn ?_
 cases x35
 refine cF <| ok_exit <| AThen.x <| AThen.x <| AInB.x <| AThen.n ?_
 obtain rfl := O (F h)
 exact ⟨y5l19, hE22 _ rfl, wR []⟩
 refine cT <| ok_skip <| AThen.n <| qq <| ok_block <| ok_region <| mv rfl <| mv rfl <| mv rfl <| mv rfl <| bE (V h) fun x42 h42 h => ix rfl rfl h42 <| lr rfl rfl <| mv rfl <| lE h fun x45 h45 h => sb _ rfl rfl h45 <| lE h fun x46 h46 h => RT.min .none _ rfl rfl T (minI (p := 1024) (q := x45) h46) <| bE h fun x47 h47 h => cl (ref01_times_ok h47) ⟨rfl, rfl, trivial⟩ <| bE h fun x48 h48 h => cl (ref01_add_ok h48) ⟨rfl, rfl, trivial⟩ <| ag rfl ?_
 refine RT.done <| AInB.n <| AThen.n <| ok_region <| mv rfl <| lE h fun x37 h37 h => ad _ rfl rfl h37 <| ag rfl <| RT.done ?_
 obtain rfl := O h
 exact AThen.n ⟨(x48, x37), hG22 _ rfl, wR []⟩
 subst hx22
 try dsimp only
 refine AInB.n <| AThen.n <| ok_region <| mv rfl <| lE ho22 fun x26 h26 ho22 => sb _ rfl rfl h26 <| ag rfl <| RT.done ?_
 obtain rfl := O ho22
 exact AThen.n ⟨(y5e21, x26), hG16 _ rfl, wR []⟩
 subst hx16
 try dsimp only
 refine AThen.n <| sr <| mv rfl <| bE ho16 fun x50 h50 ho16 => cl (ref01_trim_ok h50) ⟨rfl, trivial⟩ <| ag rfl <| dn <| ok_ret ?_
 obtain rfl := O ho16
 exact R1 rfl
 refine cT <| sr <| mv rfl <| bE (V h) fun x15 h15 h => cl (ref01_small_ok h15) ⟨rfl, trivial⟩ <| mv rfl <| bE h fun x17 h17 h => cl (ref01_small_ok h17) ⟨rfl, trivial⟩ <| lE h fun x18 h18 h => RT.mul .none _ rfl rfl T h18 <| bE h fun x19 h19 h => cl (ref01_back_ok h19) ⟨rfl, trivial⟩ <| ag rfl <| dn <| ok_ret <| AThen.r ?_
 obtain rfl := O h
 exact R1 rfl
set_option maxHeartbeats 4000000 in
theorem ref01_div_ok {x0 : List Int} {x1 : List Int} {r : (List Int) × (List Int)} (h : ref01_div_m x0 x1 = some r) : Pure Tryz.prog 108 [slc 1 (List.map eI64 x0), slc 1 (List.map eI64 x1)] (.tup [slc 1 (List.map eI64 r.1), slc 1 (List.map eI64 r.2)]) := by
 refine pure_of_ok Tryz.func108 rfl (Nat.le_of_ble_eq_true rfl) (fun wld M vs hvs => ?_)
 unfold ref01_div_m at h
 refine sr <| aI rfl (imp_nil (n := 1) (e := eI64)) <| aI rfl (imp_nil (n := 1) (e := eI64)) <| dn <| qq <| qq ?_
 refine ok_tailJ h (fun j3 => AS.mkL 120 [(0, .sv (slc 1 (List.map eI64 x0))), (1, .sv (slc 1 (List.map eI64 x1))), (21, .sv (.v (.bool j3)))] [] []) (fun h => ?_) (fun y21j2 h => ?_)
 refine ok_region <| mv rfl <| lE h fun x15 h15 h => ln rfl h15 <| lE h fun x16 h16 h => RT.leq .none _ rfl rfl T h16 <| mv rfl <| bE h fun c21_59 hg59 h => ?_
 cases x16
 obtain rfl := O (F hg59)
 exact ww <| ww <| ww <| pF rfl <| dn <| ⟨false, h, wR []⟩
 refine gm rfl <| lE (V hg59) fun x19 h19 hg59 => gn rfl h19 <| lE hg59 fun x20 h20 hg59 => RT.leq (.some rfl rfl) _ rfl rfl T h20 ?_
 obtain rfl := O hg59
 exact pT rfl <| dn <| ⟨x20, h, wR []⟩
 try dsimp only
 refine AThen.n ?_
 cases y21j2
 refine fs <| sr <| mv rfl <| lE (F h) fun x35 h35 h => ln rfl h35 <| bE h fun x36 h36 h => RT.mkRow (n := 1) (e := eI64) .none rfl rfl T rfl T (by rfl) (by decide) (by exact ⟨SV.imp_refl _, trivial⟩) h36 <| an (s := .row _) rfl <| dn <| qq <| sr <| mv rfl <| lE h fun x38 h38 h => ln rfl h38 <| lE h fun x39 h39 h => eq _ rfl rfl (eqI (p := x38) (q := 1) h39) <| dn ?_
 cases x39
 refine fs <| sr <| aI rfl (imp_nil (n := 1) (e := eI64)) <| dn <| qq <| sr <| mv rfl <| lE (F h) fun x73 h73 h => ln rfl h73 <| lE h fun x74 h74 h => sb _ rfl rfl h74 <| ag rfl <| dn <| bE h fun e44 hl44 ho44 => ?_
 refine ok_tailP (fun (xe44 : (List Int) × (List Int)) => AS.mkL 120 [(6, .row 36), (9, .sv (slc 1 (List.map eI64 xe44.1)))] [] [(36, TR 3 1 eI64 xe44.2)]) (fun xe44 => xe44 = e44) ?_ (fun xe44 hx44 => ?_)
 refine ok_block ?_
 refine ok_loopM hl44 (fun s44 => AS.mkL 120 [(0, .sv (slc 1 (List.map eI64 x0))), (1, .sv (slc 1 (List.map eI64 x1))), (6, .row 36), (9, .sv (slc 1 (List.map eI64 s44.1))), (10, .sv (.v (.int .i64 s44.2.1)))] [] [(36, TR 3 1 eI64 s44.2.2)]) (wR []) (fun s44 y44 G44 h hG44 hE44 => ?_)
 obtain ⟨y9l32, y10l32, r36l32⟩ := s44
 try dsimp only
 refine qq <| sr <| mv rfl <| lE h fun x76 h76 h => ge _ rfl rfl h76 <| dn ?_
 cases x76
 refine cF <| ok_exit <| AThen.x <| AThen.x <| AInB.x <| AThen.n ?_
 obtain rfl := O (F h)
 exact ⟨(y9l32, r36l32), hE44 _ rfl, wR []⟩
 refine cT <| ok_skip <| AThen.n <| qq <| ok_block <| sr <| mv rfl <| mv rfl <| bE (V h) fun x81 h81 h => ix rfl rfl h81 <| lr rfl rfl <| RT.buildRw (l := [x81]) (e := eI64) .none (.one rfl (.nil)) T rfl T rfl rfl rfl rfl rfl rfl <| mv rfl <| bE h fun x85 h85 h => RT.apIR (k := y9l32) (e := eI64) .none rfl rfl rfl T rfl T h85 <| bE h fun x86 h86 h => cl (ref01_trim_ok h86) ⟨rfl, trivial⟩ <| ag rfl <| dn <| sr <| ag rfl <| ag rfl ?_
 refine dn <| qq <| sr <| mv rfl <| lE h fun x88 h88 h => ln rfl h88 <| mv rfl <| lE h fun x90 h90 h => ln rfl h90 <| lE h fun x91 h91 h => ls _ rfl rfl h91 <| dn ?_
 refine ok_tailJ h (fun j46 => AS.mkL 120 [(0, .sv (slc 1 (List.map eI64 x0))), (1, .sv (slc 1 (List.map eI64 x1))), (6, .row 36), (9, .sv (slc 1 (List.map eI64 x86))), (10, .sv (.v (.int .i64 y10l32))), (11, .sv (.v (.int .i64 0))), (12, .sv (.v (.int .i64 j46)))] [] [(36, TR 3 1 eI64 r36l32)]) (fun h => ?_) (fun y12j45 h => ?_)
 cases x91
 exact fs <| ⟨65536, (F h), wR []⟩
 exact cT <| ok_region <| ag rfl <| dn <| ⟨1, (V h), wR []⟩
 try dsimp only
 refine AThen.n <| qq <| bE h fun e54 hl54 ho54 => ?_
 refine ok_tailP (fun (y11e53 : Int) => AS.mkL 120 [(0, .sv (slc 1 (List.map eI64 x0))), (1, .sv (slc 1 (List.map eI64 x1))), (6, .row 36), (9, .sv (slc 1 (List.map eI64 x86))), (10, .sv (.v (.int .i64 y10l32))), (11, .sv (.v (.int .i64 y11e53)))] [] [(36, TR 3 1 eI64 r36l32)]) (fun y11e53 => y11e53 = e54) ?_ (fun y11e53 hx54 => ?_)
 refine ok_block ?_
 refine ok_loopM hl54 (fun s54 => AS.mkL 120 [(0, .sv (slc 1 (List.map eI64 x0))), (1, .sv (slc 1 (List.map eI64 x1))), (6, .row 36), (9, .sv (slc 1 (List.map eI64 x86))), (10, .sv (.v (.int .i64 y10l32))), (11, .sv (.v (.int .i64 s54.1))), (12, .sv (.v (.int .i64 s54.2)))] [] [(36, TR 3 1 eI64 r36l32)]) (wR []) (fun s54 y54 G54 h hG54 hE54 => ?_)
 obtain ⟨y11l50, y12l50⟩ := s54
 try dsimp only
 refine qq <| sr <| mv rfl <| mv rfl <| lE h fun x94 h94 h => sb _ rfl rfl h94 <| lE h fun x95 h95 h => gt _ rfl rfl h95 <| dn ?_
 cases x95
 refine cF <| ok_exit <| AThen.x <| AThen.x <| AInB.x <| AThen.n ?_
 obtain rfl := O (F h)
 exact ⟨y11l50, hE54 _ rfl, wR []⟩
 refine cT <| ok_skip <| AThen.n <| ok_block <| sr <| mv rfl <| mv rfl <| lE (V h) fun x98 h98 h => ad _ rfl rfl h98 <| lE h fun x99 h99 h => RT.quo .none _ rfl rfl T (by decide) h99 <| ag rfl <| dn <| sr <| mv rfl <| mv rfl <| bE h fun x102 h102 h => cl (ref01_times_ok h102) ⟨rfl, rfl, trivial⟩ <| mv rfl <| bE h fun x104 h104 h => cl (ref01_cmp_ok h104) ⟨rfl, rfl, trivial⟩ <| lE h fun x105 h105 h => RT.leq .none _ rfl rfl T h105 <| dn ?_
 refine ok_tailJ h (fun j56 => AS.mkL 120 [(0, .sv (slc 1 (List.map eI64 x0))), (1, .sv (slc 1 (List.map eI64 x1))), (6, .row 36), (9, .sv (slc 1 (List.map eI64 x86))), (10, .sv (.v (.int .i64 y10l32))), (11, .sv (.v (.int .i64 j56.1))), (12, .sv (.v (.int .i64 j56.2)))] [] [(36, TR 3 1 eI64 r36l32)]) (fun h => ?_) (fun j56 h => ?_)
 cases x105
 exact cF <| ok_region <| mv rfl <| ag rfl <| dn <| ⟨(y11l50, x99), (F h), wR []⟩
 exact cT <| ok_region <| mv rfl <| ag rfl <| dn <| ⟨(x99, y12l50), (V h), wR []⟩
 obtain ⟨y11j55, y12j55⟩ := j56
 try dsimp only
 refine AInB.n ?_
 obtain rfl := O h
 exact AThen.n ⟨(y11j55, y12j55), hG54 _ rfl, wR []⟩
 subst hx54
 try dsimp only
 refine AThen.n <| ok_region <| mo (s := .row _) rfl <| mv rfl <| mv rfl <| mv rfl <| mv rfl <| mv rfl <| bE ho54 fun x114 h114 ho54 => cl (ref01_times_ok h114) ⟨rfl, rfl, trivial⟩ <| bE ho54 fun x115 h115 ho54 => cl (ref01_sub_ok h115) ⟨rfl, rfl, trivial⟩ <| bE ho54 fun x116 h116 ho54 => iR rfl rfl rfl h116 <| bE ho54 fun l58 hl58_ ho54 => sR y11e53 rfl rfl rfl rfl hl58_ <| ag rfl <| RT.done <| AInB.n <| AThen.n <| ok_region <| mv rfl <| lE ho54 fun x78 h78 ho54 => ?_
 refine sb _ rfl rfl h78 <| ag rfl <| RT.done ?_
 obtain rfl := O ho54
 exact AThen.n ⟨(x115, x78, l58), hG44 _ rfl, wR []⟩
 subst hx44
 obtain ⟨y9e43, r36e43⟩ := xe44
 try dsimp only
 refine AThen.n <| qq <| ok_weak (weak_frzM (i := 36) (E1 := 3) (n := 1) (e := eI64) (l := r36e43) rfl) <| ok_region <| mv rfl <| bE ho44 fun x118 h118 ho44 => cl (ref01_trim_ok h118) ⟨rfl, trivial⟩ <| mv rfl <| ag rfl <| ag rfl <| dn <| ok_ret ?_
 obtain rfl := O ho44
 exact R2 rfl rfl
 refine cT <| sr <| ag rfl <| dn <| qq <| sr <| mv rfl <| lE (V h) fun x41 h41 h => ln rfl h41 <| lE h fun x42 h42 h => sb _ rfl rfl h42 <| ag rfl <| dn <| bE h fun e18 hl18 ho18 => ?_
 refine ok_tailP (fun (xe18 : Int × (List Int)) => AS.mkL 120 [(6, .row 36), (7, .sv (.v (.int .i64 xe18.1)))] [] [(36, TR 3 1 eI64 xe18.2)]) (fun xe18 => xe18 = e18) ?_ (fun xe18 hx18 => ?_)
 refine ok_block ?_
 refine ok_loopM hl18 (fun s18 => AS.mkL 120 [(0, .sv (slc 1 (List.map eI64 x0))), (1, .sv (slc 1 (List.map eI64 x1))), (6, .row 36), (7, .sv (.v (.int .i64 s18.1))), (8, .sv (.v (.int .i64 s18.2.1)))] [] [(36, TR 3 1 eI64 s18.2.2)]) (wR []) (fun s18 y18 G18 h hG18 hE18 => ?_)
 obtain ⟨y7l14, y8l14, r36l14⟩ := s18
 try dsimp only
 refine qq <| sr <| mv rfl <| lE h fun x44 h44 h => ge _ rfl rfl h44 <| dn ?_
 cases x44
 refine cF <| ok_exit <| AThen.x <| AThen.x <| AInB.x <| AThen.n ?_
 obtain rfl := O (F h)
 exact ⟨(y7l14, r36l14), hE18 _ rfl, wR []⟩
 refine cT <| ok_skip <| AThen.n <| qq <| ok_block <| sr <| mv rfl <| lE (V h) fun x48 h48 h => RT.mul .none _ rfl rfl T h48 <| mv rfl <| mv rfl <| bE h fun x51 h51 h => ix rfl rfl h51 <| lr rfl rfl <| lE h fun x53 h53 h => ad _ rfl rfl h53 <| ag rfl <| dn <| ok_region_draw mixed <| mo (s := .row _) rfl <| mv rfl <| mv rfl <| mv rfl <| bE h fun x58 h58 h => ix rfl rfl h58 <| lr rfl rfl <| bE h fun x60 h60 h => ?_
 refine RT.quo .none _ rfl rfl T (nzI h60) (quoI h60) <| mv rfl <| mv rfl <| bE h fun x63 h63 h => ix rfl rfl h63 <| lr rfl rfl <| bE h fun x65 h65 h => RT.rem .none _ rfl rfl T (nzRI h65) (remI h65) <| bE h fun x66 h66 h => iR rfl rfl rfl h66 <| bE h fun l20 hl20_ h => sR x60 rfl rfl rfl rfl hl20_ <| ag rfl ?_
 refine RT.done ⟨by kernel_rfl, ?_⟩
 refine AInB.n <| AThen.n <| ok_region <| mv rfl <| lE h fun x46 h46 h => sb _ rfl rfl h46 <| ag rfl <| RT.done ?_
 obtain rfl := O h
 exact AThen.n ⟨(x65, x46, l20), hG18 _ rfl, wR []⟩
 subst hx18
 obtain ⟨y7e17, r36e17⟩ := xe18
 try dsimp only
 refine AThen.n <| qq <| ok_weak (weak_frzM (i := 36) (E1 := 3) (n := 1) (e := eI64) (l := r36e17) rfl) <| ok_region <| mv rfl <| bE ho18 fun x68 h68 ho18 => cl (ref01_trim_ok h68) ⟨rfl, trivial⟩ <| mv rfl <| bl (l := [y7e17]) (e := eI64) (.one rfl (.nil)) rfl rfl rfl rfl rfl rfl <| bE ho18 fun x71 h71 ho18 => cl (ref01_trim_ok h71) ⟨rfl, trivial⟩ <| ag rfl <| ag rfl <| dn <| ok_ret <| AThen.r ?_
 obtain rfl := O ho18
 exact R2 rfl rfl
 refine cT <| sr <| mv rfl <| bE (V h) fun x23 h23 h => cl (ref01_small_ok h23) ⟨rfl, trivial⟩ <| mv rfl <| bE h fun x25 h25 h => cl (ref01_small_ok h25) ⟨rfl, trivial⟩ <| bE h fun x26 h26 h => RT.quo .none _ rfl rfl T (nzI h26) (quoI h26) <| bE h fun x27 h27 h => cl (ref01_back_ok h27) ⟨rfl, trivial⟩ <| mv rfl <| bE h fun x29 h29 h => cl (ref01_small_ok h29) ⟨rfl, trivial⟩ <| mv rfl <| bE h fun x31 h31 h => cl (ref01_small_ok h31) ⟨rfl, trivial⟩ ?_
 refine bE h fun x32 h32 h => RT.rem .none _ rfl rfl T (nzRI h32) (remI h32) <| bE h fun x33 h33 h => cl (ref01_back_ok h33) ⟨rfl, trivial⟩ <| ag rfl <| ag rfl <| dn <| ok_ret <| AThen.r ?_
 obtain rfl := O h
 exact R2 rfl rfl
end Go.Proofs.YthgkgjogdgdcgaaGreat
namespace Go.Proofs.YthgkgjogdgdcgaaGreat
open Go.Fw Go.Fw.Z Go.RowKit
theorem ref01_Sign_ok {x0 : Zr} {r : Int} (h : ref01_Sign_m x0 = some r) : Pure Tryz.prog 87 [.agg (eZ x0)] (.v (.int .i64 r)) := by
 obtain ⟨x0_0, x0_1⟩ := x0
 refine pure_of_ok Tryz.func87 rfl (Nat.le_of_ble_eq_true rfl) (fun wld M vs hvs => ?_)
 unfold ref01_Sign_m at h
 refine sr <| bx rfl <| ag rfl <| dn <| qq <| sr <| fa rfl rfl <| lV rfl rfl rfl <| bE h fun x5 h5 h => cl (ref01_halves_ok h5) ⟨rfl, trivial⟩ <| lE h fun x6 h6 h => ln rfl h6 <| lE h fun x7 h7 h => eq _ rfl rfl (eqI (p := x6) (q := 0) h7) <| dn ?_
 cases x7
 refine fs <| qq <| sr <| fa rfl rfl <| lV rfl rfl rfl <| dn ?_
 replace h := F h
 cases x0_0
 refine fs <| sr <| ag rfl <| dn <| ok_ret ?_
 obtain rfl := O (F h)
 exact R1 rfl
 refine cT <| sr <| ag rfl <| dn <| ok_ret <| AThen.r ?_
 obtain rfl := O (V h)
 exact R1 rfl
 refine cT <| sr <| ag rfl <| dn <| ok_ret <| AThen.r ?_
 obtain rfl := O (V h)
 exact R1 rfl
theorem ref01_Cmp_ok {x0 : Zr} {x1 : Zr} {r : Int} (h : ref01_Cmp_m x0 x1 = some r) : Pure Tryz.prog 85 [.agg (eZ x0), .agg (eZ x1)] (.v (.int .i64 r)) := by
 obtain ⟨x0_0, x0_1⟩ := x0
 obtain ⟨x1_0, x1_1⟩ := x1
 refine pure_of_ok Tryz.func85 rfl (Nat.le_of_ble_eq_true rfl) (fun wld M vs hvs => ?_)
 unfold ref01_Cmp_m at h
 refine sr <| bx rfl <| bx rfl <| ag rfl <| dn <| qq <| qq <| ok_region_draw mixed <| ld rfl rfl (.cons rfl (.cons rfl (.nil))) <| bE h fun x7 h7 h => cl (ref01_Sign_ok h7) ⟨rfl, trivial⟩ <| ld rfl rfl (.cons rfl (.cons rfl (.nil))) <| bE h fun x9 h9 h => cl (ref01_Sign_ok h9) ⟨rfl, trivial⟩ <| lE h fun x10 h10 h => ne _ rfl rfl (neI (p := x7) (q := x9) h10) ?_
 refine RT.done ⟨by kernel_rfl, ?_⟩
 refine AThen.n ?_
 cases x10
 refine fs <| qq <| ok_region_draw mixed <| fa rfl rfl <| lV rfl rfl rfl <| bE (F h) fun x18 h18 h => cl (ref01_halves_ok h18) ⟨rfl, trivial⟩ <| fa rfl rfl <| lV rfl rfl rfl <| bE h fun x21 h21 h => cl (ref01_halves_ok h21) ⟨rfl, trivial⟩ <| bE h fun x22 h22 h => cl (ref01_cmp_ok h22) ⟨rfl, rfl, trivial⟩ <| ag rfl ?_
 refine RT.done ⟨by kernel_rfl, ?_⟩
 refine AThen.n <| qq <| sr <| ld rfl rfl (.cons rfl (.cons rfl (.nil))) <| bE h fun x24 h24 h => cl (ref01_Sign_ok h24) ⟨rfl, trivial⟩ <| lE h fun x25 h25 h => ls _ rfl rfl h25 <| dn ?_
 cases x25
 refine fs <| sr <| mv rfl <| ag rfl <| dn <| ok_ret ?_
 obtain rfl := O (F h)
 exact R1 rfl
 refine cT <| sr <| mv rfl <| lE (V h) fun x27 h27 h => RT.neg .none _ rfl T h27 <| ag rfl <| dn <| ok_ret <| AThen.r ?_
 obtain rfl := O h
 exact R1 rfl
 refine cT <| qq <| qq <| ok_region_draw mixed <| ld rfl rfl (.cons rfl (.cons rfl (.nil))) <| bE (V h) fun x12 h12 h => cl (ref01_Sign_ok h12) ⟨rfl, trivial⟩ <| ld rfl rfl (.cons rfl (.cons rfl (.nil))) <| bE h fun x14 h14 h => cl (ref01_Sign_ok h14) ⟨rfl, trivial⟩ <| lE h fun x15 h15 h => ls _ rfl rfl h15 ?_
 refine RT.done ⟨by kernel_rfl, ?_⟩
 refine AThen.n ?_
 cases x15
 refine fs <| sr <| ag rfl <| dn <| ok_ret <| AThen.r ?_
 obtain rfl := O (F h)
 exact R1 rfl
 refine cT <| sr <| ag rfl <| dn <| ok_ret <| AThen.r <| AThen.r ?_
 obtain rfl := O (V h)
 exact R1 rfl
theorem ref01_Neg_ok {x0 : Zr} {r : Zr} (h : ref01_Neg_m x0 = some r) : Pure Tryz.prog 65 [.agg (eZ x0)] (.agg (eZ r)) := by
 obtain ⟨x0_0, x0_1⟩ := x0
 refine pure_of_ok Tryz.func65 rfl (Nat.le_of_ble_eq_true rfl) (fun wld M vs hvs => ?_)
 unfold ref01_Neg_m at h
 refine sr <| bx rfl <| al (cs := [.v (.bool false), slc 1 (List.map eU32 [])]) (by exact ⟨SV.imp_refl _, imp_nil, trivial⟩) rfl <| dn <| qq <| ok_region_draw mixed <| fa rfl rfl <| lV rfl rfl rfl <| lE h fun x5 h5 h => nt rfl _ h5 <| fa rfl rfl <| lV rfl rfl rfl <| bE h fun x8 h8 h => cl (ref01_halves_ok h8) ⟨rfl, trivial⟩ ?_
 obtain ⟨⟨x9_0, x9_1⟩, h9, h⟩ := bS h
 refine cl (ref01_of_ok h9) ⟨rfl, rfl, trivial⟩ <| so rfl rfl rfl ?_
 refine RT.done ⟨by kernel_rfl, ?_⟩
 refine AThen.n <| ok_ret ?_
 obtain rfl := O h
 exact RZ (.agg rfl rfl (.cons rfl (.cons rfl (.nil))) rfl (.nil))
theorem ref01_Abs_ok {x0 : Zr} {r : Zr} (h : ref01_Abs_m x0 = some r) : Pure Tryz.prog 89 [.agg (eZ x0)] (.agg (eZ r)) := by
 obtain ⟨x0_0, x0_1⟩ := x0
 refine pure_of_ok Tryz.func89 rfl (Nat.le_of_ble_eq_true rfl) (fun wld M vs hvs => ?_)
 unfold ref01_Abs_m at h
 refine sr <| bx rfl <| al (cs := [.v (.bool false), slc 1 (List.map eU32 [])]) (by exact ⟨SV.imp_refl _, imp_nil, trivial⟩) rfl <| dn <| sr <| fa rfl rfl <| lV rfl rfl rfl <| bE h fun x5 h5 h => cl (ref01_halves_ok h5) ⟨rfl, trivial⟩ ?_
 obtain ⟨⟨x6_0, x6_1⟩, h6, h⟩ := bS h
 refine cl (ref01_of_ok h6) ⟨rfl, rfl, trivial⟩ <| so rfl rfl rfl <| dn <| ok_ret ?_
 obtain rfl := O h
 exact RZ (.agg rfl rfl (.cons rfl (.cons rfl (.nil))) rfl (.nil))
theorem ref01_Add_ok {x0 : Zr} {x1 : Zr} {r : Zr} (h : ref01_Add_m x0 x1 = some r) : Pure Tryz.prog 64 [.agg (eZ x0), .agg (eZ x1)] (.agg (eZ r)) := by
 obtain ⟨x0_0, x0_1⟩ := x0
 obtain ⟨x1_0, x1_1⟩ := x1
 refine pure_of_ok Tryz.func64 rfl (Nat.le_of_ble_eq_true rfl) (fun wld M vs hvs => ?_)
 unfold ref01_Add_m at h
 refine sr <| bx rfl <| bx rfl <| al (cs := [.v (.bool false), slc 1 (List.map eU32 [])]) (by exact ⟨SV.imp_refl _, imp_nil, trivial⟩) rfl <| dn <| qq <| ok_region_draw mixed <| fa rfl rfl <| lV rfl rfl rfl <| bE h fun x9 h9 h => cl (ref01_halves_ok h9) ⟨rfl, trivial⟩ <| fa rfl rfl <| lV rfl rfl rfl <| bE h fun x12 h12 h => cl (ref01_halves_ok h12) ⟨rfl, trivial⟩ <| ag rfl <| ag rfl ?_
 refine RT.done ⟨by kernel_rfl, ?_⟩
 refine AThen.n <| qq <| sr <| fa rfl rfl <| lV rfl rfl rfl <| fa rfl rfl <| lV rfl rfl rfl <| lE h fun x17 h17 h => RT.beql .none _ rfl rfl T h17 <| dn ?_
 cases x17
 refine fs <| qq <| sr <| mv rfl <| mv rfl <| bE (F h) fun x26 h26 h => cl (ref01_cmp_ok h26) ⟨rfl, rfl, trivial⟩ <| lE h fun x27 h27 h => ge _ rfl rfl h27 <| dn ?_
 cases x27
 refine fs <| qq <| ok_region_draw mixed <| fa rfl rfl <| lV rfl rfl rfl <| mv rfl <| mv rfl <| bE (F h) fun x38 h38 h => cl (ref01_sub_ok h38) ⟨rfl, rfl, trivial⟩ ?_
 obtain ⟨⟨x39_0, x39_1⟩, h39, h⟩ := bS h
 refine cl (ref01_of_ok h39) ⟨rfl, rfl, trivial⟩ <| so rfl rfl rfl ?_
 refine RT.done ⟨by kernel_rfl, ?_⟩
 refine AThen.n <| ok_ret ?_
 obtain rfl := O h
 exact RZ (.agg rfl rfl (.cons rfl (.cons rfl (.nil))) rfl (.nil))
 refine cT <| qq <| ok_region_draw mixed <| fa rfl rfl <| lV rfl rfl rfl <| mv rfl <| mv rfl <| bE (V h) fun x32 h32 h => cl (ref01_sub_ok h32) ⟨rfl, rfl, trivial⟩ ?_
 obtain ⟨⟨x33_0, x33_1⟩, h33, h⟩ := bS h
 refine cl (ref01_of_ok h33) ⟨rfl, rfl, trivial⟩ <| so rfl rfl rfl ?_
 refine RT.done ⟨by kernel_rfl, ?_⟩
 refine AThen.n <| ok_ret <| AThen.r ?_
 obtain rfl := O h
 exact RZ (.agg rfl rfl (.cons rfl (.cons rfl (.nil))) rfl (.nil))
 refine cT <| qq <| ok_region_draw mixed <| fa rfl rfl <| lV rfl rfl rfl <| mv rfl <| mv rfl <| bE (V h) fun x22 h22 h => cl (ref01_add_ok h22) ⟨rfl, rfl, trivial⟩ ?_
 obtain ⟨⟨x23_0, x23_1⟩, h23, h⟩ := bS h
 refine cl (ref01_of_ok h23) ⟨rfl, rfl, trivial⟩ <| so rfl rfl rfl ?_
 refine RT.done ⟨by kernel_rfl, ?_⟩
 refine AThen.n <| ok_ret <| AThen.r ?_
 obtain rfl := O h
 exact RZ (.agg rfl rfl (.cons rfl (.cons rfl (.nil))) rfl (.nil))
theorem ref01_Mul_ok {x0 : Zr} {x1 : Zr} {r : Zr} (h : ref01_Mul_m x0 x1 = some r) : Pure Tryz.prog 63 [.agg (eZ x0), .agg (eZ x1)] (.agg (eZ r)) := by
 obtain ⟨x0_0, x0_1⟩ := x0
 obtain ⟨x1_0, x1_1⟩ := x1
 refine pure_of_ok Tryz.func63 rfl (Nat.le_of_ble_eq_true rfl) (fun wld M vs hvs => ?_)
 unfold ref01_Mul_m at h
 refine sr <| bx rfl <| bx rfl <| al (cs := [.v (.bool false), slc 1 (List.map eU32 [])]) (by exact ⟨SV.imp_refl _, imp_nil, trivial⟩) rfl <| dn <| qq <| ok_region_draw mixed <| fa rfl rfl <| lV rfl rfl rfl <| fa rfl rfl <| lV rfl rfl rfl <| lE h fun x9 h9 h => RT.bneq .none _ rfl rfl T h9 <| fa rfl rfl <| lV rfl rfl rfl <| bE h fun x12 h12 h => cl (ref01_halves_ok h12) ⟨rfl, trivial⟩ <| fa rfl rfl ?_
 refine lV rfl rfl rfl <| bE h fun x15 h15 h => cl (ref01_halves_ok h15) ⟨rfl, trivial⟩ <| bE h fun x16 h16 h => cl (ref01_mul_ok h16) ⟨rfl, rfl, trivial⟩ ?_
 obtain ⟨⟨x17_0, x17_1⟩, h17, h⟩ := bS h
 refine cl (ref01_of_ok h17) ⟨rfl, rfl, trivial⟩ <| so rfl rfl rfl ?_
 refine RT.done ⟨by kernel_rfl, ?_⟩
 refine AThen.n <| ok_ret ?_
 obtain rfl := O h
 exact RZ (.agg rfl rfl (.cons rfl (.cons rfl (.nil))) rfl (.nil))
theorem ref01_Div_ok {x0 : Zr} {x1 : Zr} {r : Zr × Zr × Int} (h : ref01_Div_m x0 x1 = some r) : Pure Tryz.prog 84 [.agg (eZ x0), .agg (eZ x1)] (.tup [.agg (eZ r.1), .agg (eZ r.2.1), .v (.int .i64 r.2.2)]) := by
 obtain ⟨x0_0, x0_1⟩ := x0
 obtain ⟨x1_0, x1_1⟩ := x1
 refine pure_of_ok Tryz.func84 rfl (Nat.le_of_ble_eq_true rfl) (fun wld M vs hvs => ?_)
 unfold ref01_Div_m at h
 refine sr <| bx rfl <| bx rfl <| al (cs := [.v (.bool false), slc 1 (List.map eU32 [])]) (by exact ⟨SV.imp_refl _, imp_nil, trivial⟩) rfl <| al (cs := [.v (.bool false), slc 1 (List.map eU32 [])]) (by exact ⟨SV.imp_refl _, imp_nil, trivial⟩) rfl <| ag rfl <| dn <| qq <| ok_region_draw mixed <| fa rfl rfl <| lV rfl rfl rfl <| bE h fun x13 h13 h => cl (ref01_halves_ok h13) ⟨rfl, trivial⟩ <| fa rfl rfl ?_
 refine lV rfl rfl rfl <| bE h fun x16 h16 h => cl (ref01_halves_ok h16) ⟨rfl, trivial⟩ <| ag rfl <| ag rfl ?_
 refine RT.done ⟨by kernel_rfl, ?_⟩
 refine AThen.n <| qq <| sr <| mv rfl <| lE h fun x18 h18 h => ln rfl h18 <| lE h fun x19 h19 h => eq _ rfl rfl (eqI (p := x18) (q := 0) h19) <| dn ?_
 cases x19
 refine fs <| sr <| mv rfl <| mv rfl ?_
 obtain ⟨⟨x25a, x25b⟩, h25, h⟩ := bS (F h)
 refine cl (ref01_div_ok h25) ⟨rfl, rfl, trivial⟩ <| mv rfl <| ex rfl rfl <| ex rfl rfl <| ag rfl <| ag rfl <| dn <| qq <| qq ?_
 refine ok_tailJ h (fun j3 => AS.mkL 50 [(2, .ptr 2 0), (3, .ptr 3 0), (4, .ptr 4 0), (5, .ptr 5 0), (8, .sv (slc 1 (List.map eI64 x16))), (9, .sv (slc 1 (List.map eI64 x25a))), (10, .sv (slc 1 (List.map eI64 x25b))), (34, .sv (.v (.bool j3.1)))] [(5, ⟨40, [.sv (.v (.bool false)), .sv (slc 1 (List.map eU32 []))]⟩), (4, ⟨40, [.sv (.v (.bool false)), .sv (slc 1 (List.map eU32 []))]⟩), (3, ⟨40, [.sv (.v (.bool x1_0)), .sv (slc 1 (List.map eU32 x1_1))]⟩), (2, ⟨40, [.sv (.v (.bool j3.2)), .sv (slc 1 (List.map eU32 x0_1))]⟩)] []) (fun h => ?_) (fun j3 h => ?_)
 refine ok_region <| fa rfl rfl <| lV rfl rfl rfl <| mv rfl <| bE h fun c34_6 hg6 h => ?_
 cases x0_0
 obtain rfl := O (F hg6)
 exact ww <| ww <| ww <| pF rfl <| dn <| ⟨(false, false), h, wR []⟩
 refine gm rfl <| lE (V hg6) fun x32 h32 hg6 => gn rfl h32 <| lE hg6 fun x33 h33 hg6 => gg _ rfl rfl h33 ?_
 obtain rfl := O hg6
 exact pT rfl <| dn <| ⟨(x33, true), h, wR []⟩
 obtain ⟨y34j2, b2_0j2⟩ := j3
 try dsimp only
 refine AThen.n ?_
 refine ok_tailJ h (fun j5 => AS.mkL 50 [(2, .ptr 2 0), (3, .ptr 3 0), (4, .ptr 4 0), (5, .ptr 5 0), (9, .sv (slc 1 (List.map eI64 j5.1))), (10, .sv (slc 1 (List.map eI64 j5.2)))] [(5, ⟨40, [.sv (.v (.bool false)), .sv (slc 1 (List.map eU32 []))]⟩), (4, ⟨40, [.sv (.v (.bool false)), .sv (slc 1 (List.map eU32 []))]⟩), (3, ⟨40, [.sv (.v (.bool x1_0)), .sv (slc 1 (List.map eU32 x1_1))]⟩), (2, ⟨40, [.sv (.v (.bool b2_0j2)), .sv (slc 1 (List.map eU32 x0_1))]⟩)] []) (fun h => ?_) (fun j5 h => ?_)
 cases y34j2
 exact fs <| ⟨(x25a, x25b), (F h), wR []⟩
 exact cT <| sr <| mv rfl <| bl (l := [1]) (e := eI64) (.one rfl (.nil)) rfl rfl rfl rfl rfl rfl <| bE (V h) fun x37 h37 h => cl (ref01_add_ok h37) ⟨rfl, rfl, trivial⟩ <| ag rfl <| dn <| ok_region <| mv rfl <| mv rfl <| bE h fun x40 h40 h => cl (ref01_sub_ok h40) ⟨rfl, rfl, trivial⟩ <| ag rfl <| dn <| ⟨(x37, x40), h, wR []⟩
 obtain ⟨y9j4, y10j4⟩ := j5
 try dsimp only
 refine AThen.n <| sr <| fa rfl rfl <| lV rfl rfl rfl <| fa rfl rfl <| lV rfl rfl rfl <| lE h fun x45 h45 h => RT.bneq .none _ rfl rfl T h45 <| mv rfl ?_
 obtain ⟨⟨x47_0, x47_1⟩, h47, h⟩ := bS h
 refine cl (ref01_of_ok h47) ⟨rfl, rfl, trivial⟩ <| mv rfl ?_
 obtain ⟨⟨x49_0, x49_1⟩, h49, h⟩ := bS h
 refine cl (ref01_of_ok h49) ⟨rfl, rfl, trivial⟩ <| so rfl rfl rfl <| so rfl rfl rfl <| ag rfl <| dn <| ok_ret ?_
 obtain rfl := O h
 exact RZ (.agg rfl rfl (.cons rfl (.cons rfl (.nil))) rfl (.agg rfl rfl (.cons rfl (.cons rfl (.nil))) rfl (.tmp rfl (.nil))))
 refine cT <| sr <| bI (cs := [_, _]) (cs' := [.v (.bool false), slc 1 (List.map eU32 [])]) (.nil) ⟨SV.imp_refl _, imp_nil, trivial⟩ <| bI (cs := [_, _]) (cs' := [.v (.bool false), slc 1 (List.map eU32 [])]) (.nil) ⟨SV.imp_refl _, imp_nil, trivial⟩ <| so rfl rfl rfl <| so rfl rfl rfl <| ag rfl <| dn <| ok_ret <| AThen.r ?_
 obtain rfl := O (V h)
 exact RZ (.agg rfl rfl (.cons rfl (.cons rfl (.nil))) rfl (.agg rfl rfl (.cons rfl (.cons rfl (.nil))) rfl (.tmp rfl (.nil))))
theorem ref01_Gcd_ok {x0 : Zr} {x1 : Zr} {r : Zr} (h : ref01_Gcd_m x0 x1 = some r) : Pure Tryz.prog 83 [.agg (eZ x0), .agg (eZ x1)] (.agg (eZ r)) := by
 obtain ⟨x0_0, x0_1⟩ := x0
 obtain ⟨x1_0, x1_1⟩ := x1
 refine pure_of_ok Tryz.func83 rfl (Nat.le_of_ble_eq_true rfl) (fun wld M vs hvs => ?_)
 unfold ref01_Gcd_m at h
 refine sr <| bx rfl <| bx rfl <| al (cs := [.v (.bool false), slc 1 (List.map eU32 [])]) (by exact ⟨SV.imp_refl _, imp_nil, trivial⟩) rfl <| dn <| qq <| ok_region_draw mixed <| fa rfl rfl <| lV rfl rfl rfl <| bE h fun x11 h11 h => cl (ref01_halves_ok h11) ⟨rfl, trivial⟩ <| fa rfl rfl <| lV rfl rfl rfl <| bE h fun x14 h14 h => cl (ref01_halves_ok h14) ⟨rfl, trivial⟩ <| ag rfl <| ag rfl ?_
 refine RT.done ⟨by kernel_rfl, ?_⟩
 refine AThen.n <| qq <| bE h fun e6 hl6 ho6 => ?_
 refine ok_tailP (fun (y5e5 : (List Int)) => AS.mkL 28 [(4, .ptr 4 0), (5, .sv (slc 1 (List.map eI64 y5e5)))] [(4, ⟨40, [.sv (.v (.bool false)), .sv (slc 1 (List.map eU32 []))]⟩)] []) (fun y5e5 => y5e5 = e6) ?_ (fun y5e5 hx6 => ?_)
 refine ok_block ?_
 refine ok_loopM hl6 (fun s6 => AS.mkL 28 [(4, .ptr 4 0), (5, .sv (slc 1 (List.map eI64 s6.1))), (6, .sv (slc 1 (List.map eI64 s6.2)))] [(4, ⟨40, [.sv (.v (.bool false)), .sv (slc 1 (List.map eU32 []))]⟩)] []) (wR []) (fun s6 y6 G6 h hG6 hE6 => ?_)
 obtain ⟨y5l3, y6l3⟩ := s6
 try dsimp only
 refine qq <| sr <| mv rfl <| lE h fun x16 h16 h => ln rfl h16 <| lE h fun x17 h17 h => gt _ rfl rfl h17 <| dn ?_
 cases x17
 refine cF <| ok_exit <| AThen.x <| AThen.x <| AInB.x <| AThen.n ?_
 obtain rfl := O (F h)
 exact ⟨y5l3, hE6 _ rfl, wR []⟩
 refine cT <| ok_skip <| AThen.n <| ok_block <| sr <| mv rfl <| mv rfl ?_
 obtain ⟨⟨x21a, x21b⟩, h21, h⟩ := bS (V h)
 refine cl (ref01_div_ok h21) ⟨rfl, rfl, trivial⟩ <| mv rfl <| ex rfl rfl <| ex rfl rfl <| ag rfl <| ag rfl <| dn <| ok_region <| mv rfl <| mv rfl <| ag rfl <| ag rfl <| RT.done <| AInB.n ?_
 obtain rfl := O h
 exact AThen.n ⟨(y6l3, x21b), hG6 _ rfl, wR []⟩
 subst hx6
 try dsimp only
 refine AThen.n <| sr <| mv rfl ?_
 obtain ⟨⟨x27_0, x27_1⟩, h27, ho6⟩ := bS ho6
 refine cl (ref01_of_ok h27) ⟨rfl, rfl, trivial⟩ <| so rfl rfl rfl <| dn <| ok_ret ?_
 obtain rfl := O ho6
 exact RZ (.agg rfl rfl (.cons rfl (.cons rfl (.nil))) rfl (.nil))
end Go.Proofs.YthgkgjogdgdcgaaGreat
namespace Go.Proofs.YthgkgjogdgdcgaaGreat
open Go.Fw
noncomputable def ref02_one_m  : Option (Zr) := (ref01_From_m 1).bind fun ⟨x1_0, x1_1⟩ => some ⟨x1_0, x1_1⟩
noncomputable def ref02_den_m (x0 : Qr) : Option (Zr) := match x0 with | ⟨⟨x0_0, x0_1⟩, ⟨x0_2, x0_3⟩⟩ => (ref01_Sign_m ⟨x0_2, x0_3⟩).bind fun x5 => (some (decide ((x5 : Int) = 0))).bind fun x6 => (bif x6 then (ref02_one_m).bind fun ⟨x7_0, x7_1⟩ => some ⟨x7_0, x7_1⟩ else (ref01_Abs_m ⟨x0_2, x0_3⟩).bind fun ⟨x10_0, x10_1⟩ => some ⟨x10_0, x10_1⟩)
noncomputable def ref02_num_m (x0 : Qr) : Option (Zr) := match x0 with | ⟨⟨x0_0, x0_1⟩, ⟨x0_2, x0_3⟩⟩ => (ref01_Sign_m ⟨x0_2, x0_3⟩).bind fun x5 => (some (decide ((x5 : Int) < 0))).bind fun x6 => (bif x6 then (ref01_Neg_m ⟨x0_0, x0_1⟩).bind fun ⟨x9_0, x9_1⟩ => some ⟨x9_0, x9_1⟩ else (ref01_Least_m ⟨x0_0, x0_1⟩).bind fun ⟨x12_0, x12_1⟩ => some ⟨x12_0, x12_1⟩)
noncomputable def ref02_over_m (x0 : Zr) (x1 : Zr) : Option (Qr) := match x0 with | ⟨x0_0, x0_1⟩ => match x1 with | ⟨x1_0, x1_1⟩ => (ref01_Gcd_m ⟨x0_0, x0_1⟩ ⟨x1_0, x1_1⟩).bind fun ⟨x14_0, x14_1⟩ => (ref01_Div_m ⟨x0_0, x0_1⟩ ⟨x14_0, x14_1⟩).bind fun ⟨⟨x18a_0, x18a_1⟩, ⟨x18b_0, x18b_1⟩, x18c⟩ => (ref01_Div_m ⟨x1_0, x1_1⟩ ⟨x14_0, x14_1⟩).bind fun ⟨⟨x25a_0, x25a_1⟩, ⟨x25b_0, x25b_1⟩, x25c⟩ => (ref02_one_m).bind fun ⟨x30_0, x30_1⟩ => (ref01_Cmp_m ⟨x25a_0, x25a_1⟩ ⟨x30_0, x30_1⟩).bind fun x31 => (some (decide ((x31 : Int) = 0))).bind fun x32 => (bif x32 then some ⟨⟨x18a_0, x18a_1⟩, ⟨false, []⟩⟩ else some ⟨⟨x18a_0, x18a_1⟩, ⟨x25a_0, x25a_1⟩⟩)
noncomputable def ref02_Is_m (x0 : Qr) (x1 : Qr) : Option (Bool) := match x0 with | ⟨⟨x0_0, x0_1⟩, ⟨x0_2, x0_3⟩⟩ => match x1 with | ⟨⟨x1_0, x1_1⟩, ⟨x1_2, x1_3⟩⟩ => letJ (fun (y4j2 : Bool) => some y4j2) fun K3 => (ref01_Same_m ⟨x0_0, x0_1⟩ ⟨x1_0, x1_1⟩).bind fun x9 => (bif x9 then (ref01_Same_m ⟨x0_2, x0_3⟩ ⟨x1_2, x1_3⟩).bind fun x15 => some x15 else some false).bind fun c16_4 => K3 c16_4
noncomputable def ref02_Add_m (x0 : Qr) (x1 : Qr) : Option (Qr) := match x0 with | ⟨⟨x0_0, x0_1⟩, ⟨x0_2, x0_3⟩⟩ => match x1 with | ⟨⟨x1_0, x1_1⟩, ⟨x1_2, x1_3⟩⟩ => (ref02_num_m ⟨⟨x0_0, x0_1⟩, ⟨x0_2, x0_3⟩⟩).bind fun ⟨x8_0, x8_1⟩ => (ref02_den_m ⟨⟨x1_0, x1_1⟩, ⟨x1_2, x1_3⟩⟩).bind fun ⟨x10_0, x10_1⟩ => (ref01_Mul_m ⟨x8_0, x8_1⟩ ⟨x10_0, x10_1⟩).bind fun ⟨x11_0, x11_1⟩ => (ref02_num_m ⟨⟨x1_0, x1_1⟩, ⟨x1_2, x1_3⟩⟩).bind fun ⟨x13_0, x13_1⟩ => (ref02_den_m ⟨⟨x0_0, x0_1⟩, ⟨x0_2, x0_3⟩⟩).bind fun ⟨x15_0, x15_1⟩ => (ref01_Mul_m ⟨x13_0, x13_1⟩ ⟨x15_0, x15_1⟩).bind fun ⟨x16_0, x16_1⟩ => (ref01_Add_m ⟨x11_0, x11_1⟩ ⟨x16_0, x16_1⟩).bind fun ⟨x19_0, x19_1⟩ => (ref02_den_m ⟨⟨x0_0, x0_1⟩, ⟨x0_2, x0_3⟩⟩).bind fun ⟨x21_0, x21_1⟩ => (ref02_den_m ⟨⟨x1_0, x1_1⟩, ⟨x1_2, x1_3⟩⟩).bind fun ⟨x23_0, x23_1⟩ => (ref01_Mul_m ⟨x21_0, x21_1⟩ ⟨x23_0, x23_1⟩).bind fun ⟨x24_0, x24_1⟩ => (ref02_over_m ⟨x19_0, x19_1⟩ ⟨x24_0, x24_1⟩).bind fun ⟨⟨x25_0, x25_1⟩, ⟨x25_2, x25_3⟩⟩ => some ⟨⟨x25_0, x25_1⟩, ⟨x25_2, x25_3⟩⟩
noncomputable def ref02_Neg_m (x0 : Qr) : Option (Qr) := match x0 with | ⟨⟨x0_0, x0_1⟩, ⟨x0_2, x0_3⟩⟩ => (ref02_num_m ⟨⟨x0_0, x0_1⟩, ⟨x0_2, x0_3⟩⟩).bind fun ⟨x4_0, x4_1⟩ => (ref01_Neg_m ⟨x4_0, x4_1⟩).bind fun ⟨x5_0, x5_1⟩ => (ref02_den_m ⟨⟨x0_0, x0_1⟩, ⟨x0_2, x0_3⟩⟩).bind fun ⟨x7_0, x7_1⟩ => (ref02_over_m ⟨x5_0, x5_1⟩ ⟨x7_0, x7_1⟩).bind fun ⟨⟨x8_0, x8_1⟩, ⟨x8_2, x8_3⟩⟩ => some ⟨⟨x8_0, x8_1⟩, ⟨x8_2, x8_3⟩⟩
noncomputable def ref02_Sub_m (x0 : Qr) (x1 : Qr) : Option (Qr) := match x0 with | ⟨⟨x0_0, x0_1⟩, ⟨x0_2, x0_3⟩⟩ => match x1 with | ⟨⟨x1_0, x1_1⟩, ⟨x1_2, x1_3⟩⟩ => (ref02_Neg_m ⟨⟨x1_0, x1_1⟩, ⟨x1_2, x1_3⟩⟩).bind fun ⟨⟨x7_0, x7_1⟩, ⟨x7_2, x7_3⟩⟩ => (ref02_Add_m ⟨⟨x0_0, x0_1⟩, ⟨x0_2, x0_3⟩⟩ ⟨⟨x7_0, x7_1⟩, ⟨x7_2, x7_3⟩⟩).bind fun ⟨⟨x8_0, x8_1⟩, ⟨x8_2, x8_3⟩⟩ => some ⟨⟨x8_0, x8_1⟩, ⟨x8_2, x8_3⟩⟩
end Go.Proofs.YthgkgjogdgdcgaaGreat
namespace Go.Proofs.YthgkgjogdgdcgaaGreat
open Go.Fw Go.Fw.Z Go.RowKit
theorem ref02_one_ok  {r : Zr} (h : ref02_one_m = some r) : Pure Tryz.prog 86 [] (.agg (eZ r)) := by
 refine pure_of_ok Tryz.func86 rfl (Nat.le_of_ble_eq_true rfl) (fun wld M vs hvs => ?_)
 unfold ref02_one_m at h
 refine sr <| al (cs := [.v (.bool false), slc 1 (List.map eU32 [])]) (by exact ⟨SV.imp_refl _, imp_nil, trivial⟩) rfl <| dn <| sr ?_
 obtain ⟨⟨x1_0, x1_1⟩, h1, h⟩ := bS h
 refine cl (ref01_From_ok h1) ⟨rfl, trivial⟩ <| so rfl rfl rfl <| dn <| ok_ret ?_
 obtain rfl := O h
 exact RZ (.agg rfl rfl (.cons rfl (.cons rfl (.nil))) rfl (.nil))
theorem ref02_den_ok {x0 : Qr} {r : Zr} (h : ref02_den_m x0 = some r) : Pure Tryz.prog 62 [.agg (eQ x0)] (.agg (eZ r)) := by
 obtain ⟨⟨x0_0, x0_1⟩, ⟨x0_2, x0_3⟩⟩ := x0
 refine pure_of_ok Tryz.func62 rfl (Nat.le_of_ble_eq_true rfl) (fun wld M vs hvs => ?_)
 unfold ref02_den_m at h
 refine sr <| bx rfl <| al (cs := [.v (.bool false), slc 1 (List.map eU32 [])]) (by exact ⟨SV.imp_refl _, imp_nil, trivial⟩) rfl <| dn <| qq <| sr <| fa rfl rfl <| ld rfl rfl (.cons rfl (.cons rfl (.nil))) <| bE h fun x5 h5 h => cl (ref01_Sign_ok h5) ⟨rfl, trivial⟩ <| lE h fun x6 h6 h => eq _ rfl rfl (eqI (p := x5) (q := 0) h6) <| dn ?_
 cases x6
 refine fs <| sr <| fa rfl rfl <| ld rfl rfl (.cons rfl (.cons rfl (.nil))) ?_
 obtain ⟨⟨x10_0, x10_1⟩, h10, h⟩ := bS (F h)
 refine cl (ref01_Abs_ok h10) ⟨rfl, trivial⟩ <| so rfl rfl rfl <| dn <| ok_ret ?_
 obtain rfl := O h
 exact RZ (.agg rfl rfl (.cons rfl (.cons rfl (.nil))) rfl (.nil))
 refine cT <| sr ?_
 obtain ⟨⟨x7_0, x7_1⟩, h7, h⟩ := bS (V h)
 refine cl (ref02_one_ok h7) trivial <| so rfl rfl rfl <| dn <| ok_ret <| AThen.r ?_
 obtain rfl := O h
 exact RZ (.agg rfl rfl (.cons rfl (.cons rfl (.nil))) rfl (.nil))
theorem ref02_num_ok {x0 : Qr} {r : Zr} (h : ref02_num_m x0 = some r) : Pure Tryz.prog 61 [.agg (eQ x0)] (.agg (eZ r)) := by
 obtain ⟨⟨x0_0, x0_1⟩, ⟨x0_2, x0_3⟩⟩ := x0
 refine pure_of_ok Tryz.func61 rfl (Nat.le_of_ble_eq_true rfl) (fun wld M vs hvs => ?_)
 unfold ref02_num_m at h
 refine sr <| bx rfl <| al (cs := [.v (.bool false), slc 1 (List.map eU32 [])]) (by exact ⟨SV.imp_refl _, imp_nil, trivial⟩) rfl <| dn <| qq <| sr <| fa rfl rfl <| ld rfl rfl (.cons rfl (.cons rfl (.nil))) <| bE h fun x5 h5 h => cl (ref01_Sign_ok h5) ⟨rfl, trivial⟩ <| lE h fun x6 h6 h => ls _ rfl rfl h6 <| dn ?_
 cases x6
 refine fs <| sr <| fa rfl rfl <| ld rfl rfl (.cons rfl (.cons rfl (.nil))) ?_
 obtain ⟨⟨x12_0, x12_1⟩, h12, h⟩ := bS (F h)
 refine cl (ref01_Least_ok h12) ⟨rfl, trivial⟩ <| so rfl rfl rfl <| dn <| ok_ret ?_
 obtain rfl := O h
 exact RZ (.agg rfl rfl (.cons rfl (.cons rfl (.nil))) rfl (.nil))
 refine cT <| sr <| fa rfl rfl <| ld rfl rfl (.cons rfl (.cons rfl (.nil))) ?_
 obtain ⟨⟨x9_0, x9_1⟩, h9, h⟩ := bS (V h)
 refine cl (ref01_Neg_ok h9) ⟨rfl, trivial⟩ <| so rfl rfl rfl <| dn <| ok_ret <| AThen.r ?_
 obtain rfl := O h
 exact RZ (.agg rfl rfl (.cons rfl (.cons rfl (.nil))) rfl (.nil))
theorem ref02_over_ok {x0 : Zr} {x1 : Zr} {r : Qr} (h : ref02_over_m x0 x1 = some r) : Pure Tryz.prog 60 [.agg (eZ x0), .agg (eZ x1)] (.agg (eQ r)) := by
 obtain ⟨x0_0, x0_1⟩ := x0
 obtain ⟨x1_0, x1_1⟩ := x1
 refine pure_of_ok Tryz.func60 rfl (Nat.le_of_ble_eq_true rfl) (fun wld M vs hvs => ?_)
 unfold ref02_over_m at h
 refine sr <| bx rfl <| bx rfl <| al (cs := [.v (.bool false), slc 1 (List.map eU32 []), .v (.bool false), slc 1 (List.map eU32 [])]) (by exact ⟨SV.imp_refl _, imp_nil, SV.imp_refl _, imp_nil, trivial⟩) rfl <| dn <| sr <| ld rfl rfl (.cons rfl (.cons rfl (.nil))) <| ld rfl rfl (.cons rfl (.cons rfl (.nil))) ?_
 obtain ⟨⟨x14_0, x14_1⟩, h14, h⟩ := bS h
 refine cl (ref01_Gcd_ok h14) ⟨rfl, rfl, trivial⟩ <| al (cs := [.v (.bool false), slc 1 (List.map eU32 [])]) (by exact ⟨SV.imp_refl _, imp_nil, trivial⟩) rfl <| so rfl rfl rfl <| dn <| sr <| ld rfl rfl (.cons rfl (.cons rfl (.nil))) <| ld rfl rfl (.cons rfl (.cons rfl (.nil))) ?_
 obtain ⟨⟨⟨x18a_0, x18a_1⟩, ⟨x18b_0, x18b_1⟩, x18c⟩, h18, h⟩ := bS h
 refine cl (ref01_Div_ok h18) ⟨rfl, rfl, trivial⟩ <| mv rfl <| ex rfl rfl <| ex rfl rfl <| ex rfl rfl <| al (cs := [.v (.bool false), slc 1 (List.map eU32 [])]) (by exact ⟨SV.imp_refl _, imp_nil, trivial⟩) rfl <| al (cs := [.v (.bool false), slc 1 (List.map eU32 [])]) (by exact ⟨SV.imp_refl _, imp_nil, trivial⟩) rfl <| so rfl rfl rfl <| so rfl rfl rfl <| ag rfl <| dn <| sr <| ld rfl rfl (.cons rfl (.cons rfl (.nil))) ?_
 refine ld rfl rfl (.cons rfl (.cons rfl (.nil))) ?_
 obtain ⟨⟨⟨x25a_0, x25a_1⟩, ⟨x25b_0, x25b_1⟩, x25c⟩, h25, h⟩ := bS h
 refine cl (ref01_Div_ok h25) ⟨rfl, rfl, trivial⟩ <| mv rfl <| ex rfl rfl <| ex rfl rfl <| ex rfl rfl <| al (cs := [.v (.bool false), slc 1 (List.map eU32 [])]) (by exact ⟨SV.imp_refl _, imp_nil, trivial⟩) rfl <| al (cs := [.v (.bool false), slc 1 (List.map eU32 [])]) (by exact ⟨SV.imp_refl _, imp_nil, trivial⟩) rfl <| so rfl rfl rfl <| so rfl rfl rfl <| ag rfl <| dn <| qq <| qq <| ok_region_draw mixed <| ld rfl rfl (.cons rfl (.cons rfl (.nil))) ?_
 obtain ⟨⟨x30_0, x30_1⟩, h30, h⟩ := bS h
 refine cl (ref02_one_ok h30) trivial <| bE h fun x31 h31 h => cl (ref01_Cmp_ok h31) ⟨rfl, rfl, trivial⟩ <| lE h fun x32 h32 h => eq _ rfl rfl (eqI (p := x31) (q := 0) h32) ?_
 refine RT.done ⟨by kernel_rfl, ?_⟩
 refine AThen.n ?_
 cases x32
 refine fs <| sr <| ld rfl rfl (.cons rfl (.cons rfl (.nil))) <| ld rfl rfl (.cons rfl (.cons rfl (.nil))) <| bI (cs := [_, _, _, _]) (cs' := [.v (.bool x18a_0), slc 1 (List.map eU32 x18a_1), .v (.bool x25a_0), slc 1 (List.map eU32 x25a_1)]) (.agg rfl (.agg rfl (.nil))) ⟨SV.imp_refl _, SV.imp_refl _, SV.imp_refl _, SV.imp_refl _, trivial⟩ <| so rfl rfl rfl <| dn <| ok_ret ?_
 obtain rfl := O (F h)
 exact RZ (.agg rfl rfl (.cons rfl (.cons rfl (.cons rfl (.cons rfl (.nil))))) rfl (.nil))
 refine cT <| sr <| ld rfl rfl (.cons rfl (.cons rfl (.nil))) <| bI (cs := [_, _, _, _]) (cs' := [.v (.bool x18a_0), slc 1 (List.map eU32 x18a_1), .v (.bool false), slc 1 (List.map eU32 [])]) (.agg rfl (.nil)) ⟨SV.imp_refl _, SV.imp_refl _, SV.imp_refl _, imp_nil, trivial⟩ <| so rfl rfl rfl <| dn <| ok_ret <| AThen.r ?_
 obtain rfl := O (V h)
 exact RZ (.agg rfl rfl (.cons rfl (.cons rfl (.cons rfl (.cons rfl (.nil))))) rfl (.nil))
theorem ref02_Is_ok {x0 : Qr} {x1 : Qr} {r : Bool} (h : ref02_Is_m x0 x1 = some r) : Pure Tryz.prog 49 [.agg (eQ x0), .agg (eQ x1)] (.v (.bool r)) := by
 obtain ⟨⟨x0_0, x0_1⟩, ⟨x0_2, x0_3⟩⟩ := x0
 obtain ⟨⟨x1_0, x1_1⟩, ⟨x1_2, x1_3⟩⟩ := x1
 refine pure_of_ok Tryz.func49 rfl (Nat.le_of_ble_eq_true rfl) (fun wld M vs hvs => ?_)
 unfold ref02_Is_m at h
 refine sr <| bx rfl <| bx rfl <| ag rfl <| dn <| qq ?_
 refine ok_tailJ h (fun j3 => AS.mkL 17 [(4, .sv (.v (.bool j3)))] [] []) (fun h => ?_) (fun y4j2 h => ?_)
 refine ok_region <| fa rfl rfl <| ld rfl rfl (.cons rfl (.cons rfl (.nil))) <| fa rfl rfl <| ld rfl rfl (.cons rfl (.cons rfl (.nil))) <| bE h fun x9 h9 h => cl (ref01_Same_ok h9) ⟨rfl, rfl, trivial⟩ <| mv rfl <| bE h fun c16_4 hg4 h => ?_
 cases x9
 obtain rfl := O (F hg4)
 exact ww <| ww <| ww <| ww <| ww <| pF rfl <| ag rfl <| dn <| ⟨false, h, wR []⟩
 refine RT.fieldAddr (.some rfl rfl) rfl T rfl <| gl rfl rfl (.cons rfl (.cons rfl (.nil))) <| RT.fieldAddr (.some rfl rfl) rfl T rfl <| gl rfl rfl (.cons rfl (.cons rfl (.nil))) <| bE (V hg4) fun x15 h15 hg4 => gc (ref01_Same_ok h15) ⟨rfl, rfl, trivial⟩ ?_
 obtain rfl := O hg4
 exact pT rfl <| ag rfl <| dn <| ⟨x15, h, wR []⟩
 try dsimp only
 refine AThen.n <| ok_ret ?_
 obtain rfl := O h
 exact R1 rfl
theorem ref02_Add_ok {x0 : Qr} {x1 : Qr} {r : Qr} (h : ref02_Add_m x0 x1 = some r) : Pure Tryz.prog 41 [.agg (eQ x0), .agg (eQ x1)] (.agg (eQ r)) := by
 obtain ⟨⟨x0_0, x0_1⟩, ⟨x0_2, x0_3⟩⟩ := x0
 obtain ⟨⟨x1_0, x1_1⟩, ⟨x1_2, x1_3⟩⟩ := x1
 refine pure_of_ok Tryz.func41 rfl (Nat.le_of_ble_eq_true rfl) (fun wld M vs hvs => ?_)
 unfold ref02_Add_m at h
 refine sr <| bx rfl <| bx rfl <| al (cs := [.v (.bool false), slc 1 (List.map eU32 []), .v (.bool false), slc 1 (List.map eU32 [])]) (by exact ⟨SV.imp_refl _, imp_nil, SV.imp_refl _, imp_nil, trivial⟩) rfl <| dn <| qq <| ok_region_draw mixed <| ld rfl rfl (.cons rfl (.cons rfl (.cons rfl (.cons rfl (.nil))))) ?_
 obtain ⟨⟨x8_0, x8_1⟩, h8, h⟩ := bS h
 refine cl (ref02_num_ok h8) ⟨rfl, trivial⟩ <| ld rfl rfl (.cons rfl (.cons rfl (.cons rfl (.cons rfl (.nil))))) ?_
 obtain ⟨⟨x10_0, x10_1⟩, h10, h⟩ := bS h
 refine cl (ref02_den_ok h10) ⟨rfl, trivial⟩ ?_
 obtain ⟨⟨x11_0, x11_1⟩, h11, h⟩ := bS h
 refine cl (ref01_Mul_ok h11) ⟨rfl, rfl, trivial⟩ <| ld rfl rfl (.cons rfl (.cons rfl (.cons rfl (.cons rfl (.nil))))) ?_
 obtain ⟨⟨x13_0, x13_1⟩, h13, h⟩ := bS h
 refine cl (ref02_num_ok h13) ⟨rfl, trivial⟩ <| ld rfl rfl (.cons rfl (.cons rfl (.cons rfl (.cons rfl (.nil))))) ?_
 obtain ⟨⟨x15_0, x15_1⟩, h15, h⟩ := bS h
 refine cl (ref02_den_ok h15) ⟨rfl, trivial⟩ ?_
 obtain ⟨⟨x16_0, x16_1⟩, h16, h⟩ := bS h
 refine cl (ref01_Mul_ok h16) ⟨rfl, rfl, trivial⟩ <| al (cs := [.v (.bool false), slc 1 (List.map eU32 [])]) (by exact ⟨SV.imp_refl _, imp_nil, trivial⟩) rfl <| al (cs := [.v (.bool false), slc 1 (List.map eU32 [])]) (by exact ⟨SV.imp_refl _, imp_nil, trivial⟩) rfl <| so rfl rfl rfl <| so rfl rfl rfl ?_
 refine RT.done ⟨by kernel_rfl, ?_⟩
 refine AThen.n <| qq <| ok_region_draw mixed <| ld rfl rfl (.cons rfl (.cons rfl (.nil))) <| ld rfl rfl (.cons rfl (.cons rfl (.nil))) ?_
 obtain ⟨⟨x19_0, x19_1⟩, h19, h⟩ := bS h
 refine cl (ref01_Add_ok h19) ⟨rfl, rfl, trivial⟩ <| ld rfl rfl (.cons rfl (.cons rfl (.cons rfl (.cons rfl (.nil))))) ?_
 obtain ⟨⟨x21_0, x21_1⟩, h21, h⟩ := bS h
 refine cl (ref02_den_ok h21) ⟨rfl, trivial⟩ <| ld rfl rfl (.cons rfl (.cons rfl (.cons rfl (.cons rfl (.nil))))) ?_
 obtain ⟨⟨x23_0, x23_1⟩, h23, h⟩ := bS h
 refine cl (ref02_den_ok h23) ⟨rfl, trivial⟩ ?_
 obtain ⟨⟨x24_0, x24_1⟩, h24, h⟩ := bS h
 refine cl (ref01_Mul_ok h24) ⟨rfl, rfl, trivial⟩ ?_
 obtain ⟨⟨⟨x25_0, x25_1⟩, ⟨x25_2, x25_3⟩⟩, h25, h⟩ := bS h
 refine cl (ref02_over_ok h25) ⟨rfl, rfl, trivial⟩ <| so rfl rfl rfl ?_
 refine RT.done ⟨by kernel_rfl, ?_⟩
 refine AThen.n <| ok_ret ?_
 obtain rfl := O h
 exact RZ (.agg rfl rfl (.cons rfl (.cons rfl (.cons rfl (.cons rfl (.nil))))) rfl (.nil))
theorem ref02_Neg_ok {x0 : Qr} {r : Qr} (h : ref02_Neg_m x0 = some r) : Pure Tryz.prog 43 [.agg (eQ x0)] (.agg (eQ r)) := by
 obtain ⟨⟨x0_0, x0_1⟩, ⟨x0_2, x0_3⟩⟩ := x0
 refine pure_of_ok Tryz.func43 rfl (Nat.le_of_ble_eq_true rfl) (fun wld M vs hvs => ?_)
 unfold ref02_Neg_m at h
 refine sr <| bx rfl <| al (cs := [.v (.bool false), slc 1 (List.map eU32 []), .v (.bool false), slc 1 (List.map eU32 [])]) (by exact ⟨SV.imp_refl _, imp_nil, SV.imp_refl _, imp_nil, trivial⟩) rfl <| dn <| qq <| ok_region_draw mixed <| ld rfl rfl (.cons rfl (.cons rfl (.cons rfl (.cons rfl (.nil))))) ?_
 obtain ⟨⟨x4_0, x4_1⟩, h4, h⟩ := bS h
 refine cl (ref02_num_ok h4) ⟨rfl, trivial⟩ ?_
 obtain ⟨⟨x5_0, x5_1⟩, h5, h⟩ := bS h
 refine cl (ref01_Neg_ok h5) ⟨rfl, trivial⟩ <| ld rfl rfl (.cons rfl (.cons rfl (.cons rfl (.cons rfl (.nil))))) ?_
 obtain ⟨⟨x7_0, x7_1⟩, h7, h⟩ := bS h
 refine cl (ref02_den_ok h7) ⟨rfl, trivial⟩ ?_
 obtain ⟨⟨⟨x8_0, x8_1⟩, ⟨x8_2, x8_3⟩⟩, h8, h⟩ := bS h
 refine cl (ref02_over_ok h8) ⟨rfl, rfl, trivial⟩ <| so rfl rfl rfl ?_
 refine RT.done ⟨by kernel_rfl, ?_⟩
 refine AThen.n <| ok_ret ?_
 obtain rfl := O h
 exact RZ (.agg rfl rfl (.cons rfl (.cons rfl (.cons rfl (.cons rfl (.nil))))) rfl (.nil))
theorem ref02_Sub_ok {x0 : Qr} {x1 : Qr} {r : Qr} (h : ref02_Sub_m x0 x1 = some r) : Pure Tryz.prog 50 [.agg (eQ x0), .agg (eQ x1)] (.agg (eQ r)) := by
 obtain ⟨⟨x0_0, x0_1⟩, ⟨x0_2, x0_3⟩⟩ := x0
 obtain ⟨⟨x1_0, x1_1⟩, ⟨x1_2, x1_3⟩⟩ := x1
 refine pure_of_ok Tryz.func50 rfl (Nat.le_of_ble_eq_true rfl) (fun wld M vs hvs => ?_)
 unfold ref02_Sub_m at h
 refine sr <| bx rfl <| bx rfl <| al (cs := [.v (.bool false), slc 1 (List.map eU32 []), .v (.bool false), slc 1 (List.map eU32 [])]) (by exact ⟨SV.imp_refl _, imp_nil, SV.imp_refl _, imp_nil, trivial⟩) rfl <| dn <| qq <| ok_region_draw mixed <| ld rfl rfl (.cons rfl (.cons rfl (.cons rfl (.cons rfl (.nil))))) <| ld rfl rfl (.cons rfl (.cons rfl (.cons rfl (.cons rfl (.nil))))) ?_
 obtain ⟨⟨⟨x7_0, x7_1⟩, ⟨x7_2, x7_3⟩⟩, h7, h⟩ := bS h
 refine cl (ref02_Neg_ok h7) ⟨rfl, trivial⟩ ?_
 obtain ⟨⟨⟨x8_0, x8_1⟩, ⟨x8_2, x8_3⟩⟩, h8, h⟩ := bS h
 refine cl (ref02_Add_ok h8) ⟨rfl, rfl, trivial⟩ <| so rfl rfl rfl ?_
 refine RT.done ⟨by kernel_rfl, ?_⟩
 refine AThen.n <| ok_ret ?_
 obtain rfl := O h
 exact RZ (.agg rfl rfl (.cons rfl (.cons rfl (.cons rfl (.cons rfl (.nil))))) rfl (.nil))
end Go.Proofs.YthgkgjogdgdcgaaGreat
namespace Go.Proofs.YthgkgjogdgdcgaaGreat
open Go.Fw
noncomputable def ref33_At_m (x0 : List Qr) (x1 : Int) : Option (Qr) := letJ (fun (y12j2 : Bool) => (bif y12j2 then some ⟨⟨false, []⟩, ⟨false, []⟩⟩ else (geti x0 x1).bind fun ⟨⟨x16_0, x16_1⟩, ⟨x16_2, x16_3⟩⟩ => some ⟨⟨x16_0, x16_1⟩, ⟨x16_2, x16_3⟩⟩)) fun K3 => (some (decide ((x1 : Int) < 0))).bind fun x6 => (bif x6 then some true else (some (x0.length : Int)).bind fun x10 => (some (decide ((x10 : Int) ≤ x1))).bind fun x11 => some x11).bind fun c12_4 => K3 c12_4
noncomputable def ref33_IsRow_m (x0 : List Qr) (x1 : List Qr) : Option (Bool) := (some (x0.length : Int)).bind fun x7 => (some (x1.length : Int)).bind fun x9 => (some (decide ((x7 : Int) ≠ x9))).bind fun x10 => (bif x10 then some false else (loopM (fun (y5l3 : Int) => (show Option ((Int) ⊕ ((Unit) ⊕ (Bool))) from (some (x0.length : Int)).bind fun x13 => (some (decide ((y5l3 : Int) < x13))).bind fun x14 => (bif x14 then (geti x0 y5l3).bind fun ⟨⟨x19_0, x19_1⟩, ⟨x19_2, x19_3⟩⟩ => (geti x1 y5l3).bind fun ⟨⟨x23_0, x23_1⟩, ⟨x23_2, x23_3⟩⟩ => (ref02_Is_m ⟨⟨x19_0, x19_1⟩, ⟨x19_2, x19_3⟩⟩ ⟨⟨x23_0, x23_1⟩, ⟨x23_2, x23_3⟩⟩).bind fun x25 => (some (!x25)).bind fun x26 => (bif x26 then some (.inr (.inr false)) else (some (IntKind.i64.wrap (y5l3 + 1))).bind fun x16 => some (.inl x16)) else some (.inr (.inl ()))))) 0).bind fun e6 => match e6 with | .inr v6 => some v6 | .inl _ => some true)
noncomputable def ref33_In_m (x0 : Int) (x1 : List Int) (x2 : List Int) (x3 : List Qr) (x4 : List Qr) : Option (List Qr) := (loopM (fun (s38 : Int × (List Qr)) => match s38 with | ⟨y12l19, r306l19⟩ => (show Option ((Int × (List Qr)) ⊕ ((List Qr))) from letJ (fun (y22j40 : Bool) => (bif y22j40 then (loopM (fun (s49 : Int × Bool × (List Nat) × Bool × (List Nat)) => match s49 with | ⟨y14l45, b13_0l45, b13_1l45, b13_2l45, b13_3l45⟩ => (show Option ((Int × Bool × (List Nat) × Bool × (List Nat)) ⊕ (Bool × (List Nat) × Bool × (List Nat))) from (some (x1.length : Int)).bind fun x28 => (some (decide ((y14l45 : Int) < x28))).bind fun x29 => (bif x29 then (geti x1 y14l45).bind fun x34 => (some (decide ((x34 : Int) = y12l19))).bind fun x37 => letJ (fun (j51 : Bool × (List Nat) × Bool × (List Nat)) => match j51 with | ⟨b13_0j50, b13_1j50, b13_2j50, b13_3j50⟩ => (some (IntKind.i64.wrap (y14l45 + 1))).bind fun x31 => some (.inl (x31, b13_0j50, b13_1j50, b13_2j50, b13_3j50))) fun K51 => (bif x37 then (ref33_At_m x3 y14l45).bind fun ⟨⟨x41_0, x41_1⟩, ⟨x41_2, x41_3⟩⟩ => (ref02_Add_m ⟨⟨b13_0l45, b13_1l45⟩, ⟨b13_2l45, b13_3l45⟩⟩ ⟨⟨x41_0, x41_1⟩, ⟨x41_2, x41_3⟩⟩).bind fun ⟨⟨x42_0, x42_1⟩, ⟨x42_2, x42_3⟩⟩ => K51 (x42_0, x42_1, x42_2, x42_3) else K51 (b13_0l45, b13_1l45, b13_2l45, b13_3l45)) else some (.inr (b13_0l45, b13_1l45, b13_2l45, b13_3l45))))) (0, false, [], false, [])).bind fun e49 => match e49 with | ⟨b13_0e48, b13_1e48, b13_2e48, b13_3e48⟩ => (loopM (fun (s59 : Int × Bool × (List Nat) × Bool × (List Nat)) => match s59 with | ⟨y15l55, b13_0l55, b13_1l55, b13_2l55, b13_3l55⟩ => (show Option ((Int × Bool × (List Nat) × Bool × (List Nat)) ⊕ (Bool × (List Nat) × Bool × (List Nat))) from (some (x2.length : Int)).bind fun x45 => (some (decide ((y15l55 : Int) < x45))).bind fun x46 => (bif x46 then (geti x2 y15l55).bind fun x51 => (some (decide ((x51 : Int) = y12l19))).bind fun x54 => letJ (fun (j61 : Bool × (List Nat) × Bool × (List Nat)) => match j61 with | ⟨b13_0j60, b13_1j60, b13_2j60, b13_3j60⟩ => (some (IntKind.i64.wrap (y15l55 + 1))).bind fun x48 => some (.inl (x48, b13_0j60, b13_1j60, b13_2j60, b13_3j60))) fun K61 => (bif x54 then (ref33_At_m x4 y15l55).bind fun ⟨⟨x58_0, x58_1⟩, ⟨x58_2, x58_3⟩⟩ => (ref02_Sub_m ⟨⟨b13_0l55, b13_1l55⟩, ⟨b13_2l55, b13_3l55⟩⟩ ⟨⟨x58_0, x58_1⟩, ⟨x58_2, x58_3⟩⟩).bind fun ⟨⟨x59_0, x59_1⟩, ⟨x59_2, x59_3⟩⟩ => K61 (x59_0, x59_1, x59_2, x59_3) else K61 (b13_0l55, b13_1l55, b13_2l55, b13_3l55)) else some (.inr (b13_0l55, b13_1l55, b13_2l55, b13_3l55))))) (0, b13_0e48, b13_1e48, b13_2e48, b13_3e48)).bind fun e59 => match e59 with | ⟨b13_0e58, b13_1e58, b13_2e58, b13_3e58⟩ => (apM 64 r306l19 [⟨⟨b13_0e58, b13_1e58⟩, ⟨b13_2e58, b13_3e58⟩⟩]).bind fun x63 => (some (IntKind.i64.wrap (y12l19 + 1))).bind fun x24 => some (.inl (x24, x63)) else some (.inr r306l19))) fun K41 => (some (decide ((y12l19 : Int) < x0))).bind fun x18 => (bif x18 then (some (decide ((y12l19 : Int) < 6))).bind fun x21 => some x21 else some false).bind fun c22_62 => K41 c22_62)) (0, [])).bind fun r306e37 => some r306e37
end Go.Proofs.YthgkgjogdgdcgaaGreat
namespace Go.Proofs.YthgkgjogdgdcgaaGreat
open Go.Fw Go.Fw.Z Go.RowKit
theorem ref33_At_ok {x0 : List Qr} {x1 : Int} {r : Qr} (h : ref33_At_m x0 x1 = some r) : Pure Tryz.prog 23 [slc 4 (List.map eQ x0), .v (.int .i64 x1)] (.agg (eQ r)) := by
 refine pure_of_ok Tryz.func23 rfl (Nat.le_of_ble_eq_true rfl) (fun wld M vs hvs => ?_)
 unfold ref33_At_m at h
 refine sr <| al (cs := [.v (.bool false), slc 1 (List.map eU32 []), .v (.bool false), slc 1 (List.map eU32 [])]) (by exact ⟨SV.imp_refl _, imp_nil, SV.imp_refl _, imp_nil, trivial⟩) rfl <| dn <| qq <| qq ?_
 refine ok_tailJ h (fun j3 => AS.mkL 18 [(0, .sv (slc 4 (List.map eQ x0))), (1, .sv (.v (.int .i64 x1))), (4, .ptr 4 0), (12, .sv (.v (.bool j3)))] [(4, ⟨42, [.sv (.v (.bool false)), .sv (slc 1 (List.map eU32 [])), .sv (.v (.bool false)), .sv (slc 1 (List.map eU32 []))]⟩)] []) (fun h => ?_) (fun y12j2 h => ?_)
 refine ok_region <| mv rfl <| lE h fun x6 h6 h => ls _ rfl rfl h6 <| mv rfl <| bE h fun c12_4 hg4 h => ?_
 cases x6
 refine gm rfl <| gm rfl <| lE (F hg4) fun x10 h10 hg4 => gn rfl h10 <| lE hg4 fun x11 h11 hg4 => RT.geq (.some rfl rfl) _ rfl rfl T h11 ?_
 obtain rfl := O hg4
 exact pF rfl <| dn <| ⟨x11, h, wR []⟩
 obtain rfl := O (V hg4)
 exact ww <| ww <| ww <| ww <| pT rfl <| dn <| ⟨true, h, wR []⟩
 try dsimp only
 refine AThen.n ?_
 cases y12j2
 refine fs <| sr <| mv rfl <| mv rfl ?_
 obtain ⟨⟨⟨x16_0, x16_1⟩, ⟨x16_2, x16_3⟩⟩, h16, h⟩ := bS (F h)
 refine ix rfl rfl h16 <| RT.loadR (cs := [_, _, _, _]) .none rfl T rfl rfl <| so rfl rfl rfl <| dn <| ok_ret ?_
 obtain rfl := O h
 exact RZ (.agg rfl rfl (.cons rfl (.cons rfl (.cons rfl (.cons rfl (.nil))))) rfl (.nil))
 refine cT <| sr <| bI (cs := [_, _, _, _]) (cs' := [.v (.bool false), slc 1 (List.map eU32 []), .v (.bool false), slc 1 (List.map eU32 [])]) (.nil) ⟨SV.imp_refl _, imp_nil, SV.imp_refl _, imp_nil, trivial⟩ <| so rfl rfl rfl <| dn <| ok_ret <| AThen.r ?_
 obtain rfl := O (V h)
 exact RZ (.agg rfl rfl (.cons rfl (.cons rfl (.cons rfl (.cons rfl (.nil))))) rfl (.nil))
theorem ref33_IsRow_ok {x0 : List Qr} {x1 : List Qr} {r : Bool} (h : ref33_IsRow_m x0 x1 = some r) : Pure Tryz.prog 16 [slc 4 (List.map eQ x0), slc 4 (List.map eQ x1)] (.v (.bool r)) := by
 refine pure_of_ok Tryz.func16 rfl (Nat.le_of_ble_eq_true rfl) (fun wld M vs hvs => ?_)
 unfold ref33_IsRow_m at h
 refine sr <| ag rfl <| dn <| qq <| sr <| mv rfl <| lE h fun x7 h7 h => ln rfl h7 <| mv rfl <| lE h fun x9 h9 h => ln rfl h9 <| lE h fun x10 h10 h => ne _ rfl rfl (neI (p := x7) (q := x9) h10) <| dn ?_
 cases x10
 refine fs <| qq <| sr <| ag rfl <| dn <| bE (F h) fun e6 hl6 ho6 => ?_
 refine ok_tailP (fun (xe6 : Unit) => AS.mkL 27 [] [] []) (fun xe6 => .inl xe6 = e6) ?_ (fun xe6 hx6 => ?_)
 refine ok_block ?_
 refine ok_loopM hl6 (fun s6 => AS.mkL 27 [(0, .sv (slc 4 (List.map eQ x0))), (1, .sv (slc 4 (List.map eQ x1))), (5, .sv (.v (.int .i64 s6)))] [] []) (wR []) (fun y5l3 y6 G6 h hG6 hE6 => ?_)
 try dsimp only
 refine qq <| sr <| mv rfl <| mv rfl <| lE h fun x13 h13 h => ln rfl h13 <| lE h fun x14 h14 h => ls _ rfl rfl h14 <| dn ?_
 cases x14
 refine cF <| ok_exit <| AThen.x <| AThen.x <| AInB.x <| AThen.n ?_
 obtain rfl := O (F h)
 exact ⟨(), hE6 _ rfl, wR []⟩
 refine cT <| ok_skip <| AThen.n <| qq <| ok_block <| qq <| ok_region_draw mixed <| mv rfl <| mv rfl ?_
 obtain ⟨⟨⟨x19_0, x19_1⟩, ⟨x19_2, x19_3⟩⟩, h19, h⟩ := bS (V h)
 refine ix rfl rfl h19 <| RT.loadR (cs := [_, _, _, _]) .none rfl T rfl rfl <| mv rfl <| mv rfl ?_
 obtain ⟨⟨⟨x23_0, x23_1⟩, ⟨x23_2, x23_3⟩⟩, h23, h⟩ := bS h
 refine ix rfl rfl h23 <| RT.loadR (cs := [_, _, _, _]) .none rfl T rfl rfl <| bE h fun x25 h25 h => cl (ref02_Is_ok h25) ⟨rfl, rfl, trivial⟩ <| lE h fun x26 h26 h => nt rfl _ h26 ?_
 refine RT.done ⟨by kernel_rfl, ?_⟩
 refine AThen.n ?_
 cases x26
 refine cF <| ok_skip <| AInB.n <| AThen.n <| ok_region <| mv rfl <| lE (F h) fun x16 h16 h => ad _ rfl rfl h16 <| ag rfl <| RT.done ?_
 obtain rfl := O h
 exact AThen.n ⟨x16, hG6 _ rfl, wR []⟩
 refine cT <| sr <| ag rfl <| dn <| ok_ret <| AInB.r <| AThen.r ?_
 obtain rfl := O (V h)
 have he6 := hE6 _ rfl
 subst he6
 refine AThen.r <| AInB.r <| AThen.r <| AThen.r ?_
 obtain rfl := O ho6
 exact R1 rfl
 subst hx6
 try dsimp only
 refine AThen.n <| sr <| ag rfl <| dn <| ok_ret ?_
 obtain rfl := O ho6
 exact R1 rfl
 refine cT <| sr <| ag rfl <| dn <| ok_ret <| AThen.r ?_
 obtain rfl := O (V h)
 exact R1 rfl
set_option maxHeartbeats 4000000 in
theorem ref33_In_ok {x0 : Int} {x1 : List Int} {x2 : List Int} {x3 : List Qr} {x4 : List Qr} {r : List Qr} (h : ref33_In_m x0 x1 x2 x3 x4 = some r) : Pure Tryz.prog 18 [.v (.int .i64 x0), slc 1 (List.map eI64 x1), slc 1 (List.map eI64 x2), slc 4 (List.map eQ x3), slc 4 (List.map eQ x4)] (slc 4 (List.map eQ r)) := by
 refine pure_of_ok Tryz.func18 rfl (Nat.le_of_ble_eq_true rfl) (fun wld M vs hvs => ?_)
 unfold ref33_In_m at h
 refine sr <| aI rfl (imp_nil (n := 4) (e := eQ)) <| dn <| sr <| ag rfl <| dn <| ok_weak (weak_nil 11 304 42 4 rfl rfl T) <| qq <| sr <| ag rfl <| dn <| bE h fun e38 hl38 ho38 => ?_
 refine ok_tailP (fun (r306e37 : (List Qr)) => AS.mkL 65 [(11, .row 306)] [] [(306, TR 42 4 eQ r306e37)]) (fun r306e37 => r306e37 = e38) ?_ (fun r306e37 hx38 => ?_)
 refine ok_block ?_
 refine ok_loopM hl38 (fun s38 => AS.mkL 65 [(0, .sv (.v (.int .i64 x0))), (1, .sv (slc 1 (List.map eI64 x1))), (2, .sv (slc 1 (List.map eI64 x2))), (3, .sv (slc 4 (List.map eQ x3))), (4, .sv (slc 4 (List.map eQ x4))), (11, .row 306), (12, .sv (.v (.int .i64 s38.1)))] [] [(306, TR 42 4 eQ s38.2)]) (weakL (fun i => bif Nat.beq i 306 then 304 else i) rfl rfl rfl rfl rfl ⟨.sv (SV.imp_refl _), .sv (SV.imp_refl _), .sv (SV.imp_refl _), .sv (SV.imp_refl _), .sv (SV.imp_refl _), .row rfl, .sv (SV.imp_refl _), trivial⟩ trivial ⟨⟨_, rfl, SVIs.refl _⟩, trivial⟩ (fun i hi => by rw [beq_ne (show i ≠ 306 by omega)]; rfl)) (fun s38 y38 G38 h hG38 hE38 => ?_)
 obtain ⟨y12l19, r306l19⟩ := s38
 try dsimp only
 refine qq <| qq ?_
 refine ok_tailJ h (fun j41 => AS.mkL 65 [(0, .sv (.v (.int .i64 x0))), (1, .sv (slc 1 (List.map eI64 x1))), (2, .sv (slc 1 (List.map eI64 x2))), (3, .sv (slc 4 (List.map eQ x3))), (4, .sv (slc 4 (List.map eQ x4))), (11, .row 306), (12, .sv (.v (.int .i64 y12l19))), (22, .sv (.v (.bool j41)))] [] [(306, TR 42 4 eQ r306l19)]) (fun h => ?_) (fun y22j40 h => ?_)
 refine ok_region <| mv rfl <| mv rfl <| lE h fun x18 h18 h => ls _ rfl rfl h18 <| mv rfl <| bE h fun c22_62 hg62 h => ?_
 cases x18
 obtain rfl := O (F hg62)
 exact ww <| ww <| pF rfl <| dn <| ⟨false, h, wR []⟩
 refine gm rfl <| lE (V hg62) fun x21 h21 hg62 => RT.lss (.some rfl rfl) _ rfl rfl T h21 ?_
 obtain rfl := O hg62
 exact pT rfl <| dn <| ⟨x21, h, wR []⟩
 try dsimp only
 refine AThen.n ?_
 cases y22j40
 refine cF <| ok_exit <| AThen.x <| AThen.x <| AInB.x <| AThen.n ?_
 obtain rfl := O (F h)
 exact ⟨r306l19, hE38 _ rfl, wR []⟩
 refine cT <| ok_skip <| AThen.n <| qq <| ok_block <| sr <| bI (cs := [_, _, _, _]) (cs' := [.v (.bool false), slc 1 (List.map eU32 []), .v (.bool false), slc 1 (List.map eU32 [])]) (.nil) ⟨SV.imp_refl _, imp_nil, SV.imp_refl _, imp_nil, trivial⟩ <| al (cs := [.v (.bool false), slc 1 (List.map eU32 []), .v (.bool false), slc 1 (List.map eU32 [])]) (by exact ⟨SV.imp_refl _, imp_nil, SV.imp_refl _, imp_nil, trivial⟩) rfl <| so rfl rfl rfl <| dn <| qq <| sr <| ag rfl <| dn <| bE (V h) fun e49 hl49 ho49 => ?_
 refine ok_tailP (fun (xe49 : Bool × (List Nat) × Bool × (List Nat)) => AS.mkL 65 [(0, .sv (.v (.int .i64 x0))), (1, .sv (slc 1 (List.map eI64 x1))), (2, .sv (slc 1 (List.map eI64 x2))), (3, .sv (slc 4 (List.map eQ x3))), (4, .sv (slc 4 (List.map eQ x4))), (11, .row 306), (12, .sv (.v (.int .i64 y12l19))), (13, .ptr 13 0)] [(13, ⟨42, [.sv (.v (.bool xe49.1)), .sv (slc 1 (List.map eU32 xe49.2.1)), .sv (.v (.bool xe49.2.2.1)), .sv (slc 1 (List.map eU32 xe49.2.2.2))]⟩)] [(306, TR 42 4 eQ r306l19)]) (fun xe49 => xe49 = e49) ?_ (fun xe49 hx49 => ?_)
 refine ok_block ?_
 refine ok_loopM hl49 (fun s49 => AS.mkL 65 [(0, .sv (.v (.int .i64 x0))), (1, .sv (slc 1 (List.map eI64 x1))), (2, .sv (slc 1 (List.map eI64 x2))), (3, .sv (slc 4 (List.map eQ x3))), (4, .sv (slc 4 (List.map eQ x4))), (11, .row 306), (12, .sv (.v (.int .i64 y12l19))), (13, .ptr 13 0), (14, .sv (.v (.int .i64 s49.1)))] [(13, ⟨42, [.sv (.v (.bool s49.2.1)), .sv (slc 1 (List.map eU32 s49.2.2.1)), .sv (.v (.bool s49.2.2.2.1)), .sv (slc 1 (List.map eU32 s49.2.2.2.2))]⟩)] [(306, TR 42 4 eQ r306l19)]) (wR []) (fun s49 y49 G49 h hG49 hE49 => ?_)
 obtain ⟨y14l45, b13_0l45, b13_1l45, b13_2l45, b13_3l45⟩ := s49
 try dsimp only
 refine qq <| sr <| mv rfl <| mv rfl <| lE h fun x28 h28 h => ln rfl h28 <| lE h fun x29 h29 h => ls _ rfl rfl h29 <| dn ?_
 cases x29
 refine cF <| ok_exit <| AThen.x <| AThen.x <| AInB.x <| AThen.n ?_
 obtain rfl := O (F h)
 exact ⟨(b13_0l45, b13_1l45, b13_2l45, b13_3l45), hE49 _ rfl, wR []⟩
 refine cT <| ok_skip <| AThen.n <| qq <| ok_block <| sr <| mv rfl <| mv rfl <| bE (V h) fun x34 h34 h => ix rfl rfl h34 <| lr rfl rfl <| mv rfl <| lE h fun x37 h37 h => eq _ rfl rfl (eqI (p := x34) (q := y12l19) h37) <| dn ?_
 refine ok_tailJ h (fun j51 => AS.mkL 65 [(0, .sv (.v (.int .i64 x0))), (1, .sv (slc 1 (List.map eI64 x1))), (2, .sv (slc 1 (List.map eI64 x2))), (3, .sv (slc 4 (List.map eQ x3))), (4, .sv (slc 4 (List.map eQ x4))), (11, .row 306), (12, .sv (.v (.int .i64 y12l19))), (13, .ptr 13 0), (14, .sv (.v (.int .i64 y14l45)))] [(13, ⟨42, [.sv (.v (.bool j51.1)), .sv (slc 1 (List.map eU32 j51.2.1)), .sv (.v (.bool j51.2.2.1)), .sv (slc 1 (List.map eU32 j51.2.2.2))]⟩)] [(306, TR 42 4 eQ r306l19)]) (fun h => ?_) (fun j51 h => ?_)
 cases x37
 exact fs <| ⟨(b13_0l45, b13_1l45, b13_2l45, b13_3l45), (F h), wR []⟩
 refine cT <| ok_region_draw mixed <| ld rfl rfl (.cons rfl (.cons rfl (.cons rfl (.cons rfl (.nil))))) <| mv rfl <| mv rfl ?_
 obtain ⟨⟨⟨x41_0, x41_1⟩, ⟨x41_2, x41_3⟩⟩, h41, h⟩ := bS (V h)
 refine cl (ref33_At_ok h41) ⟨rfl, rfl, trivial⟩ ?_
 obtain ⟨⟨⟨x42_0, x42_1⟩, ⟨x42_2, x42_3⟩⟩, h42, h⟩ := bS h
 refine cl (ref02_Add_ok h42) ⟨rfl, rfl, trivial⟩ <| so rfl rfl rfl ?_
 refine RT.done ⟨by kernel_rfl, ?_⟩
 exact AThen.n <| ⟨(x42_0, x42_1, x42_2, x42_3), h, wR []⟩
 obtain ⟨b13_0j50, b13_1j50, b13_2j50, b13_3j50⟩ := j51
 try dsimp only
 refine AInB.n <| AThen.n <| ok_region <| mv rfl <| lE h fun x31 h31 h => ad _ rfl rfl h31 <| ag rfl <| RT.done ?_
 obtain rfl := O h
 exact AThen.n ⟨(x31, b13_0j50, b13_1j50, b13_2j50, b13_3j50), hG49 _ rfl, wR []⟩
 subst hx49
 obtain ⟨b13_0e48, b13_1e48, b13_2e48, b13_3e48⟩ := xe49
 try dsimp only
 refine AThen.n <| qq <| sr <| ag rfl <| dn <| bE ho49 fun e59 hl59 ho59 => ?_
 refine ok_tailP (fun (xe59 : Bool × (List Nat) × Bool × (List Nat)) => AS.mkL 65 [(0, .sv (.v (.int .i64 x0))), (1, .sv (slc 1 (List.map eI64 x1))), (2, .sv (slc 1 (List.map eI64 x2))), (3, .sv (slc 4 (List.map eQ x3))), (4, .sv (slc 4 (List.map eQ x4))), (11, .row 306), (12, .sv (.v (.int .i64 y12l19))), (13, .ptr 13 0)] [(13, ⟨42, [.sv (.v (.bool xe59.1)), .sv (slc 1 (List.map eU32 xe59.2.1)), .sv (.v (.bool xe59.2.2.1)), .sv (slc 1 (List.map eU32 xe59.2.2.2))]⟩)] [(306, TR 42 4 eQ r306l19)]) (fun xe59 => xe59 = e59) ?_ (fun xe59 hx59 => ?_)
 refine ok_block ?_
 refine ok_loopM hl59 (fun s59 => AS.mkL 65 [(0, .sv (.v (.int .i64 x0))), (1, .sv (slc 1 (List.map eI64 x1))), (2, .sv (slc 1 (List.map eI64 x2))), (3, .sv (slc 4 (List.map eQ x3))), (4, .sv (slc 4 (List.map eQ x4))), (11, .row 306), (12, .sv (.v (.int .i64 y12l19))), (13, .ptr 13 0), (15, .sv (.v (.int .i64 s59.1)))] [(13, ⟨42, [.sv (.v (.bool s59.2.1)), .sv (slc 1 (List.map eU32 s59.2.2.1)), .sv (.v (.bool s59.2.2.2.1)), .sv (slc 1 (List.map eU32 s59.2.2.2.2))]⟩)] [(306, TR 42 4 eQ r306l19)]) (wR []) (fun s59 y59 G59 h hG59 hE59 => ?_)
 obtain ⟨y15l55, b13_0l55, b13_1l55, b13_2l55, b13_3l55⟩ := s59
 try dsimp only
 refine qq <| sr <| mv rfl <| mv rfl <| lE h fun x45 h45 h => ln rfl h45 <| lE h fun x46 h46 h => ls _ rfl rfl h46 <| dn ?_
 cases x46
 refine cF <| ok_exit <| AThen.x <| AThen.x <| AInB.x <| AThen.n ?_
 obtain rfl := O (F h)
 exact ⟨(b13_0l55, b13_1l55, b13_2l55, b13_3l55), hE59 _ rfl, wR []⟩
 refine cT <| ok_skip <| AThen.n <| qq <| ok_block <| sr <| mv rfl <| mv rfl <| bE (V h) fun x51 h51 h => ix rfl rfl h51 <| lr rfl rfl <| mv rfl <| lE h fun x54 h54 h => eq _ rfl rfl (eqI (p := x51) (q := y12l19) h54) <| dn ?_
 refine ok_tailJ h (fun j61 => AS.mkL 65 [(0, .sv (.v (.int .i64 x0))), (1, .sv (slc 1 (List.map eI64 x1))), (2, .sv (slc 1 (List.map eI64 x2))), (3, .sv (slc 4 (List.map eQ x3))), (4, .sv (slc 4 (List.map eQ x4))), (11, .row 306), (12, .sv (.v (.int .i64 y12l19))), (13, .ptr 13 0), (15, .sv (.v (.int .i64 y15l55)))] [(13, ⟨42, [.sv (.v (.bool j61.1)), .sv (slc 1 (List.map eU32 j61.2.1)), .sv (.v (.bool j61.2.2.1)), .sv (slc 1 (List.map eU32 j61.2.2.2))]⟩)] [(306, TR 42 4 eQ r306l19)]) (fun h => ?_) (fun j61 h => ?_)
 cases x54
 exact fs <| ⟨(b13_0l55, b13_1l55, b13_2l55, b13_3l55), (F h), wR []⟩
 refine cT <| ok_region_draw mixed <| ld rfl rfl (.cons rfl (.cons rfl (.cons rfl (.cons rfl (.nil))))) <| mv rfl <| mv rfl ?_
 obtain ⟨⟨⟨x58_0, x58_1⟩, ⟨x58_2, x58_3⟩⟩, h58, h⟩ := bS (V h)
 refine cl (ref33_At_ok h58) ⟨rfl, rfl, trivial⟩ ?_
 obtain ⟨⟨⟨x59_0, x59_1⟩, ⟨x59_2, x59_3⟩⟩, h59, h⟩ := bS h
 refine cl (ref02_Sub_ok h59) ⟨rfl, rfl, trivial⟩ <| so rfl rfl rfl ?_
 refine RT.done ⟨by kernel_rfl, ?_⟩
 exact AThen.n <| ⟨(x59_0, x59_1, x59_2, x59_3), h, wR []⟩
 obtain ⟨b13_0j60, b13_1j60, b13_2j60, b13_3j60⟩ := j61
 try dsimp only
 refine AInB.n <| AThen.n <| ok_region <| mv rfl <| lE h fun x48 h48 h => ad _ rfl rfl h48 <| ag rfl <| RT.done ?_
 obtain rfl := O h
 exact AThen.n ⟨(x48, b13_0j60, b13_1j60, b13_2j60, b13_3j60), hG59 _ rfl, wR []⟩
 subst hx59
 obtain ⟨b13_0e58, b13_1e58, b13_2e58, b13_3e58⟩ := xe59
 try dsimp only
 refine AThen.n <| ok_region <| mo (s := .row _) rfl <| ld rfl rfl (.cons rfl (.cons rfl (.cons rfl (.cons rfl (.nil))))) <| bl (l := [⟨⟨b13_0e58, b13_1e58⟩, ⟨b13_2e58, b13_3e58⟩⟩]) (e := eQ) (.agg rfl (.nil)) rfl rfl rfl rfl rfl rfl <| bE ho59 fun x63 h63 ho59 => aR (k := [⟨⟨b13_0e58, b13_1e58⟩, ⟨b13_2e58, b13_3e58⟩⟩]) (e := eQ) rfl rfl rfl h63 <| an (s := .row _) rfl <| RT.done <| AInB.n <| AThen.n <| ok_region <| mv rfl <| lE ho59 fun x24 h24 ho59 => ad _ rfl rfl h24 <| ag rfl <| RT.done ?_
 obtain rfl := O ho59
 exact AThen.n ⟨(x24, x63), hG38 _ rfl, weakL (fun i => bif Nat.beq i 306 then 63 else i) rfl rfl rfl rfl rfl ⟨.sv (SV.imp_refl _), .sv (SV.imp_refl _), .sv (SV.imp_refl _), .sv (SV.imp_refl _), .sv (SV.imp_refl _), .row rfl, .sv (SV.imp_refl _), trivial⟩ trivial ⟨⟨_, rfl, SVIs.refl _⟩, trivial⟩ (fun i hi => by rw [beq_ne (show i ≠ 306 by omega)]; rfl)⟩
 subst hx38
 try dsimp only
 refine AThen.n <| sr <| mo (s := .row _) rfl <| an (s := .row _) rfl <| dn <| ok_weak (weak_frzM (i := 306) (E1 := 42) (n := 4) (e := eQ) (l := r306e37) rfl) <| ok_ret ?_
 obtain rfl := O ho38
 exact R1 rfl
end Go.Proofs.YthgkgjogdgdcgaaGreat
namespace Go.Proofs.YthgkgjogdgdcgaaGreat
open Go.Fw
noncomputable def law33_Long_m (x0 : List (List Qr)) : Option (Bool) := (loopM (fun (s16 : Int × Int) => match s16 with | ⟨y3l8, y4l8⟩ => (show Option ((Int × Int) ⊕ ((Unit) ⊕ (Bool))) from (some (x0.length : Int)).bind fun x8 => (some (decide ((y4l8 : Int) < x8))).bind fun x9 => (bif x9 then (geti x0 y4l8).bind fun x14 => (some (x14.length : Int)).bind fun x16 => (some (decide ((40 : Int) < x16))).bind fun x17 => (bif x17 then some (.inr (.inr true)) else (loopM (fun (s22 : Int × Int) => match s22 with | ⟨y3l19, y5l19⟩ => (show Option ((Int × Int) ⊕ (Int)) from (geti x0 y4l8).bind fun x21 => (some (x21.length : Int)).bind fun x23 => (some (decide ((y5l19 : Int) < x23))).bind fun x24 => (bif x24 then (some (IntKind.i64.wrap (y3l19 + 1))).bind fun x28 => (geti x0 y4l8).bind fun x31 => (geti x31 y5l19).bind fun ⟨⟨x34_0, x34_1⟩, ⟨x34_2, x34_3⟩⟩ => (some (x34_1.length : Int)).bind fun x38 => (some (min (100 : Int) x38)).bind fun x39 => (some (IntKind.i64.wrap (x28 + x39))).bind fun x40 => (geti x0 y4l8).bind fun x43 => (geti x43 y5l19).bind fun ⟨⟨x46_0, x46_1⟩, ⟨x46_2, x46_3⟩⟩ => (some (x46_3.length : Int)).bind fun x50 => (some (min (100 : Int) x50)).bind fun x51 => (some (IntKind.i64.wrap (x40 + x51))).bind fun x52 => (some (IntKind.i64.wrap (y5l19 + 1))).bind fun x26 => some (.inl (x52, x26)) else some (.inr y3l19)))) (y3l8, 0)).bind fun y3e21 => (some (decide ((400 : Int) < y3e21))).bind fun x54 => (bif x54 then some (.inr (.inr true)) else (some (IntKind.i64.wrap (y4l8 + 1))).bind fun x11 => some (.inl (y3e21, x11)))) else some (.inr (.inl ()))))) (0, 0)).bind fun e16 => match e16 with | .inr v16 => some v16 | .inl _ => some false
end Go.Proofs.YthgkgjogdgdcgaaGreat
namespace Go.Proofs.YthgkgjogdgdcgaaGreat
open Go.Fw Go.Fw.Z Go.RowKit
theorem law33_Long_ok {x0 : List (List Qr)} {r : Bool} (h : law33_Long_m x0 = some r) : Pure Tryz.prog 9 [slc 1 (List.map (eS 4 eQ) x0)] (.v (.bool r)) := by
 refine pure_of_ok Tryz.func9 rfl (Nat.le_of_ble_eq_true rfl) (fun wld M vs hvs => ?_)
 unfold law33_Long_m at h
 refine sr <| ag rfl <| dn <| sr <| ag rfl <| dn <| qq <| sr <| ag rfl <| dn <| bE h fun e16 hl16 ho16 => ?_
 refine ok_tailP (fun (xe16 : Unit) => AS.mkL 55 [] [] []) (fun xe16 => .inl xe16 = e16) ?_ (fun xe16 hx16 => ?_)
 refine ok_block ?_
 refine ok_loopM hl16 (fun s16 => AS.mkL 55 [(0, .sv (slc 1 (List.map (eS 4 eQ) x0))), (3, .sv (.v (.int .i64 s16.1))), (4, .sv (.v (.int .i64 s16.2)))] [] []) (wR []) (fun s16 y16 G16 h hG16 hE16 => ?_)
 obtain ⟨y3l8, y4l8⟩ := s16
 try dsimp only
 refine qq <| sr <| mv rfl <| mv rfl <| lE h fun x8 h8 h => ln rfl h8 <| lE h fun x9 h9 h => ls _ rfl rfl h9 <| dn ?_
 cases x9
 refine cF <| ok_exit <| AThen.x <| AThen.x <| AInB.x <| AThen.n ?_
 obtain rfl := O (F h)
 exact ⟨(), hE16 _ rfl, wR []⟩
 refine cT <| ok_skip <| AThen.n <| qq <| ok_block <| qq <| sr <| mv rfl <| mv rfl <| bE (V h) fun x14 h14 h => ix rfl rfl h14 <| lr rfl rfl <| lE h fun x16 h16 h => ln rfl h16 <| lE h fun x17 h17 h => gt _ rfl rfl h17 <| dn ?_
 cases x17
 refine fs <| qq <| sr <| ag rfl <| dn <| bE (F h) fun e22 hl22 ho22 => ?_
 refine ok_tailP (fun (y3e21 : Int) => AS.mkL 55 [(0, .sv (slc 1 (List.map (eS 4 eQ) x0))), (3, .sv (.v (.int .i64 y3e21))), (4, .sv (.v (.int .i64 y4l8)))] [] []) (fun y3e21 => y3e21 = e22) ?_ (fun y3e21 hx22 => ?_)
 refine ok_block ?_
 refine ok_loopM hl22 (fun s22 => AS.mkL 55 [(0, .sv (slc 1 (List.map (eS 4 eQ) x0))), (3, .sv (.v (.int .i64 s22.1))), (4, .sv (.v (.int .i64 y4l8))), (5, .sv (.v (.int .i64 s22.2)))] [] []) (wR []) (fun s22 y22 G22 h hG22 hE22 => ?_)
 obtain ⟨y3l19, y5l19⟩ := s22
 try dsimp only
 refine qq <| sr <| mv rfl <| mv rfl <| mv rfl <| bE h fun x21 h21 h => ix rfl rfl h21 <| lr rfl rfl <| lE h fun x23 h23 h => ln rfl h23 <| lE h fun x24 h24 h => ls _ rfl rfl h24 <| dn ?_
 cases x24
 refine cF <| ok_exit <| AThen.x <| AThen.x <| AInB.x <| AThen.n ?_
 obtain rfl := O (F h)
 exact ⟨y3l19, hE22 _ rfl, wR []⟩
 refine cT <| ok_skip <| AThen.n <| qq <| ok_block <| ok_region_draw mixed <| mv rfl <| lE (V h) fun x28 h28 h => ad _ rfl rfl h28 <| mv rfl <| mv rfl <| bE h fun x31 h31 h => ix rfl rfl h31 <| lr rfl rfl <| mv rfl ?_
 obtain ⟨⟨⟨x34_0, x34_1⟩, ⟨x34_2, x34_3⟩⟩, h34, h⟩ := bS h
 refine ix rfl rfl h34 <| RT.fieldAddrR .none rfl T rfl <| RT.fieldAddrR .none rfl T rfl <| lr rfl rfl <| lE h fun x38 h38 h => ln rfl h38 <| lE h fun x39 h39 h => RT.min .none _ rfl rfl T (minI (p := 100) (q := x38) h39) <| lE h fun x40 h40 h => ad _ rfl rfl h40 <| mv rfl <| mv rfl <| bE h fun x43 h43 h => ix rfl rfl h43 <| lr rfl rfl <| mv rfl ?_
 obtain ⟨⟨⟨x46_0, x46_1⟩, ⟨x46_2, x46_3⟩⟩, h46, h⟩ := bS h
 refine ix rfl rfl h46 <| RT.fieldAddrR .none rfl T rfl <| RT.fieldAddrR .none rfl T rfl <| lr rfl rfl <| lE h fun x50 h50 h => ln rfl h50 <| lE h fun x51 h51 h => RT.min .none _ rfl rfl T (minI (p := 100) (q := x50) h51) <| lE h fun x52 h52 h => ad _ rfl rfl h52 <| ag rfl ?_
 refine RT.done ⟨by kernel_rfl, ?_⟩
 refine AInB.n <| AThen.n <| ok_region <| mv rfl <| lE h fun x26 h26 h => ad _ rfl rfl h26 <| ag rfl <| RT.done ?_
 obtain rfl := O h
 exact AThen.n ⟨(x52, x26), hG22 _ rfl, wR []⟩
 subst hx22
 try dsimp only
 refine AThen.n <| sr <| mv rfl <| lE ho22 fun x54 h54 ho22 => gt _ rfl rfl h54 <| dn ?_
 cases x54
 refine cF <| ok_skip <| AInB.n <| AThen.n <| ok_region <| mv rfl <| lE (F ho22) fun x11 h11 ho22 => ad _ rfl rfl h11 <| ag rfl <| RT.done ?_
 obtain rfl := O ho22
 exact AThen.n ⟨(y3e21, x11), hG16 _ rfl, wR []⟩
 refine cT <| sr <| ag rfl <| dn <| ok_ret <| AInB.r <| AThen.r ?_
 obtain rfl := O (V ho22)
 have he16 := hE16 _ rfl
 subst he16
 refine AThen.r <| AInB.r <| AThen.r <| AThen.r ?_
 obtain rfl := O ho16
 exact R1 rfl
 refine cT <| sr <| ag rfl <| dn <| ok_ret <| AThen.r <| AInB.r <| AThen.r ?_
 obtain rfl := O (V h)
 have he16 := hE16 _ rfl
 subst he16
 refine AThen.r <| AInB.r <| AThen.r <| AThen.r ?_
 obtain rfl := O ho16
 exact R1 rfl
 subst hx16
 try dsimp only
 refine AThen.n <| sr <| ag rfl <| dn <| ok_ret ?_
 obtain rfl := O ho16
 exact R1 rfl
end Go.Proofs.YthgkgjogdgdcgaaGreat
namespace Go.Proofs.YthgkgjogdgdcgaaGreat
open Go.Fw
noncomputable def law33_is_m (x0 : Qr) (x1 : Int) : Option (Bool) := match x0 with | ⟨⟨x0_0, x0_1⟩, ⟨x0_2, x0_3⟩⟩ => (frac_FromInt64_m x1).bind fun ⟨⟨x7_0, x7_1⟩, ⟨x7_2, x7_3⟩⟩ => (frac_Equal_m ⟨⟨x0_0, x0_1⟩, ⟨x0_2, x0_3⟩⟩ ⟨⟨x7_0, x7_1⟩, ⟨x7_2, x7_3⟩⟩).bind fun x8 => some x8
noncomputable def law33_row_m (x0 : List Qr) (x1 : List Int) : Option (Bool) := (some (x0.length : Int)).bind fun x7 => (some (x1.length : Int)).bind fun x9 => (some (decide ((x7 : Int) ≠ x9))).bind fun x10 => (bif x10 then some false else (loopM (fun (y5l3 : Int) => (show Option ((Int) ⊕ ((Unit) ⊕ (Bool))) from (some (x1.length : Int)).bind fun x13 => (some (decide ((y5l3 : Int) < x13))).bind fun x14 => (bif x14 then (geti x0 y5l3).bind fun ⟨⟨x19_0, x19_1⟩, ⟨x19_2, x19_3⟩⟩ => (geti x1 y5l3).bind fun x23 => (law33_is_m ⟨⟨x19_0, x19_1⟩, ⟨x19_2, x19_3⟩⟩ x23).bind fun x25 => (some (!x25)).bind fun x26 => (bif x26 then some (.inr (.inr false)) else (some (IntKind.i64.wrap (y5l3 + 1))).bind fun x16 => some (.inl x16)) else some (.inr (.inl ()))))) 0).bind fun e6 => match e6 with | .inr v6 => some v6 | .inl _ => some true)
noncomputable def law33_awake_m  : Option (Bool) := (vec_FromInts_m [20]).bind fun x16 => (vec_FromInts_m [0, (-1)]).bind fun x18 => (vec_FromInts_m [5]).bind fun x21 => (node_Split_m [0, 0] x16 [x18] x21).bind fun ⟨x27a, x27b⟩ => (node_Prices_m [0, 0] x16 [x18] x21).bind fun x34 => (frac_FromInt64_m 8).bind fun ⟨⟨x37_0, x37_1⟩, ⟨x37_2, x37_3⟩⟩ => (node_Trade_m x34 0 1 ⟨⟨x37_0, x37_1⟩, ⟨x37_2, x37_3⟩⟩).bind fun ⟨⟨⟨x38a_0, x38a_1⟩, ⟨x38a_2, x38a_3⟩⟩, x38b⟩ => (frac_FromInt64_m 8).bind fun ⟨⟨x43_0, x43_1⟩, ⟨x43_2, x43_3⟩⟩ => (node_Trade_m x34 0 2 ⟨⟨x43_0, x43_1⟩, ⟨x43_2, x43_3⟩⟩).bind fun ⟨⟨⟨x44a_0, x44a_1⟩, ⟨x44a_2, x44a_3⟩⟩, x44b⟩ => (node_Ends_m x34).bind fun ⟨x49a, x49b⟩ => letJ (fun (y0j65 : Bool) => some y0j65) fun K66 => (law33_row_m x27a [20, 20]).bind fun x54 => (bif x54 then (law33_row_m x27b [0, 5]).bind fun x58 => some x58 else some false).bind fun c59_67 => (bif c59_67 then (law33_row_m x34 [20, 25]).bind fun x63 => some x63 else some false).bind fun c64_122 => (bif c64_122 then (vec_FromInts_m [8, (-8)]).bind fun x68 => (node_Rent_m x34 x68).bind fun ⟨⟨x69_0, x69_1⟩, ⟨x69_2, x69_3⟩⟩ => (law33_is_m ⟨⟨x69_0, x69_1⟩, ⟨x69_2, x69_3⟩⟩ 40).bind fun x70 => some x70 else some false).bind fun c71_123 => (bif c71_123 then (vec_FromInts_m [8]).bind fun x75 => (node_Jam_m x21 x75).bind fun ⟨⟨x76_0, x76_1⟩, ⟨x76_2, x76_3⟩⟩ => (law33_is_m ⟨⟨x76_0, x76_1⟩, ⟨x76_2, x76_3⟩⟩ 40).bind fun x77 => some x77 else some false).bind fun c78_124 => (bif c78_124 then (some (decide ((x38b : Int) = 0))).bind fun x81 => some x81 else some false).bind fun c82_125 => (bif c82_125 then (law33_is_m ⟨⟨x38a_0, x38a_1⟩, ⟨x38a_2, x38a_3⟩⟩ 40).bind fun x85 => some x85 else some false).bind fun c86_126 => (bif c86_126 then (some (decide ((x44b : Int) = 1))).bind fun x89 => some x89 else some false).bind fun c90_127 => (bif c90_127 then (some (decide ((x49a : Int) = 0))).bind fun x93 => some x93 else some false).bind fun c94_128 => (bif c94_128 then (some (decide ((x49b : Int) = 1))).bind fun x97 => some x97 else some false).bind fun c98_129 => (bif c98_129 then (vec_FromInts_m [8]).bind fun x103 => (vec_FromInts_m [8]).bind fun x105 => (node_In_m 2 [0] [1] x103 x105).bind fun x106 => (law33_row_m x106 [8, (-8)]).bind fun x108 => some x108 else some false).bind fun c109_130 => K66 c109_130
noncomputable def law33_copied_m (x0 : List Qr) : Option (List Qr) := (apM 64 [] x0).bind fun x7 => (loopM (fun (s10 : Int × (List Qr)) => match s10 with | ⟨y4l5, r7l5⟩ => (show Option ((Int × (List Qr)) ⊕ ((List Qr))) from (some (r7l5.length : Int)).bind fun x10 => (some (decide ((y4l5 : Int) < x10))).bind fun x11 => (bif x11 then (cki r7l5 y4l5).bind fun x19 => (r7l5[x19]?).bind fun ⟨⟨x22_0, x22_1⟩, ⟨x22_2, x22_3⟩⟩ => (apM 4 [] x22_1).bind fun x23 => (cki r7l5 y4l5).bind fun x24 => (r7l5[x24]?).bind fun ⟨⟨w12_0, w12_1⟩, ⟨w12_2, w12_3⟩⟩ => (stM r7l5 x24 ⟨⟨w12_0, x23⟩, ⟨w12_2, w12_3⟩⟩).bind fun l12 => (cki l12 y4l5).bind fun x32 => (l12[x32]?).bind fun ⟨⟨x35_0, x35_1⟩, ⟨x35_2, x35_3⟩⟩ => (apM 4 [] x35_3).bind fun x36 => (cki l12 y4l5).bind fun x37 => (l12[x37]?).bind fun ⟨⟨w14_0, w14_1⟩, ⟨w14_2, w14_3⟩⟩ => (stM l12 x37 ⟨⟨w14_0, w14_1⟩, ⟨w14_2, x36⟩⟩).bind fun l14 => (some (IntKind.i64.wrap (y4l5 + 1))).bind fun x13 => some (.inl (x13, l14)) else some (.inr r7l5)))) (0, x7)).bind fun r7e9 => some r7e9
noncomputable def law33_NodeInjectionsMatch_m (x0 : Int) (x1 : List Int) (x2 : List Int) (x3 : List Qr) (x4 : List Qr) : Option (Bool) := letJ (fun (y28j5 : Bool) => (bif y28j5 then (law33_awake_m).bind fun x29 => some x29 else (ref33_In_m x0 x1 x2 x3 x4).bind fun x35 => (law33_copied_m x3).bind fun x37 => (loopM (fun (y13l9 : Int) => (show Option ((Int) ⊕ ((Unit) ⊕ (Bool))) from (some (decide ((y13l9 : Int) < 2))).bind fun x39 => (bif x39 then (node_In_m x0 x1 x2 x3 x4).bind fun x47 => (ref33_IsRow_m x47 x35).bind fun x50 => (some (!x50)).bind fun x51 => (bif x51 then some (.inr (.inr false)) else (some (IntKind.i64.wrap (y13l9 + 1))).bind fun x41 => some (.inl x41)) else some (.inr (.inl ()))))) 0).bind fun e12 => match e12 with | .inr v12 => some v12 | .inl _ => letJ (fun (y10j14 : Bool) => some y10j14) fun K15 => (ref33_IsRow_m x3 x37).bind fun x57 => (bif x57 then (law33_awake_m).bind fun x59 => some x59 else some false).bind fun c60_16 => K15 c60_16)) fun K6 => (some (x1.length : Int)).bind fun x16 => (some (decide ((40 : Int) < x16))).bind fun x17 => (bif x17 then some true else (some (x2.length : Int)).bind fun x20 => (some (decide ((40 : Int) < x20))).bind fun x21 => some x21).bind fun c22_17 => (bif c22_17 then some true else (law33_Long_m [x3, x4]).bind fun x27 => some x27).bind fun c28_20 => K6 c28_20
end Go.Proofs.YthgkgjogdgdcgaaGreat
namespace Go.Proofs.YthgkgjogdgdcgaaGreat
open Go.Fw Go.Fw.Z Go.RowKit
theorem law33_is_ok {x0 : Qr} {x1 : Int} {r : Bool} (h : law33_is_m x0 x1 = some r) : Pure Tryz.prog 38 [.agg (eQ x0), .v (.int .i64 x1)] (.v (.bool r)) := by
 obtain ⟨⟨x0_0, x0_1⟩, ⟨x0_2, x0_3⟩⟩ := x0
 refine pure_of_ok Tryz.func38 rfl (Nat.le_of_ble_eq_true rfl) (fun wld M vs hvs => ?_)
 unfold law33_is_m at h
 refine sr <| bx rfl <| ag rfl <| dn <| qq <| ok_region_draw mixed <| ld rfl rfl (.cons rfl (.cons rfl (.cons rfl (.cons rfl (.nil))))) <| mv rfl ?_
 obtain ⟨⟨⟨x7_0, x7_1⟩, ⟨x7_2, x7_3⟩⟩, h7, h⟩ := bS h
 refine cl (frac_FromInt64_ok h7) ⟨rfl, trivial⟩ <| bE h fun x8 h8 h => cl (frac_Equal_ok h8) ⟨rfl, rfl, trivial⟩ <| ag rfl ?_
 refine RT.done ⟨by kernel_rfl, ?_⟩
 refine AThen.n <| ok_ret ?_
 obtain rfl := O h
 exact R1 rfl
theorem law33_row_ok {x0 : List Qr} {x1 : List Int} {r : Bool} (h : law33_row_m x0 x1 = some r) : Pure Tryz.prog 37 [slc 4 (List.map eQ x0), slc 1 (List.map eI64 x1)] (.v (.bool r)) := by
 refine pure_of_ok Tryz.func37 rfl (Nat.le_of_ble_eq_true rfl) (fun wld M vs hvs => ?_)
 unfold law33_row_m at h
 refine sr <| ag rfl <| dn <| qq <| sr <| mv rfl <| lE h fun x7 h7 h => ln rfl h7 <| mv rfl <| lE h fun x9 h9 h => ln rfl h9 <| lE h fun x10 h10 h => ne _ rfl rfl (neI (p := x7) (q := x9) h10) <| dn ?_
 cases x10
 refine fs <| qq <| sr <| ag rfl <| dn <| bE (F h) fun e6 hl6 ho6 => ?_
 refine ok_tailP (fun (xe6 : Unit) => AS.mkL 27 [] [] []) (fun xe6 => .inl xe6 = e6) ?_ (fun xe6 hx6 => ?_)
 refine ok_block ?_
 refine ok_loopM hl6 (fun s6 => AS.mkL 27 [(0, .sv (slc 4 (List.map eQ x0))), (1, .sv (slc 1 (List.map eI64 x1))), (5, .sv (.v (.int .i64 s6)))] [] []) (wR []) (fun y5l3 y6 G6 h hG6 hE6 => ?_)
 try dsimp only
 refine qq <| sr <| mv rfl <| mv rfl <| lE h fun x13 h13 h => ln rfl h13 <| lE h fun x14 h14 h => ls _ rfl rfl h14 <| dn ?_
 cases x14
 refine cF <| ok_exit <| AThen.x <| AThen.x <| AInB.x <| AThen.n ?_
 obtain rfl := O (F h)
 exact ⟨(), hE6 _ rfl, wR []⟩
 refine cT <| ok_skip <| AThen.n <| qq <| ok_block <| qq <| ok_region_draw mixed <| mv rfl <| mv rfl ?_
 obtain ⟨⟨⟨x19_0, x19_1⟩, ⟨x19_2, x19_3⟩⟩, h19, h⟩ := bS (V h)
 refine ix rfl rfl h19 <| RT.loadR (cs := [_, _, _, _]) .none rfl T rfl rfl <| mv rfl <| mv rfl <| bE h fun x23 h23 h => ix rfl rfl h23 <| lr rfl rfl <| bE h fun x25 h25 h => cl (law33_is_ok h25) ⟨rfl, rfl, trivial⟩ <| lE h fun x26 h26 h => nt rfl _ h26 ?_
 refine RT.done ⟨by kernel_rfl, ?_⟩
 refine AThen.n ?_
 cases x26
 refine cF <| ok_skip <| AInB.n <| AThen.n <| ok_region <| mv rfl <| lE (F h) fun x16 h16 h => ad _ rfl rfl h16 <| ag rfl <| RT.done ?_
 obtain rfl := O h
 exact AThen.n ⟨x16, hG6 _ rfl, wR []⟩
 refine cT <| sr <| ag rfl <| dn <| ok_ret <| AInB.r <| AThen.r ?_
 obtain rfl := O (V h)
 have he6 := hE6 _ rfl
 subst he6
 refine AThen.r <| AInB.r <| AThen.r <| AThen.r ?_
 obtain rfl := O ho6
 exact R1 rfl
 subst hx6
 try dsimp only
 refine AThen.n <| sr <| ag rfl <| dn <| ok_ret ?_
 obtain rfl := O ho6
 exact R1 rfl
 refine cT <| sr <| ag rfl <| dn <| ok_ret <| AThen.r ?_
 obtain rfl := O (V h)
 exact R1 rfl
set_option maxHeartbeats 4000000 in
theorem law33_awake_ok  {r : Bool} (h : law33_awake_m = some r) : Pure Tryz.prog 10 [] (.v (.bool r)) := by
 refine pure_of_ok Tryz.func10 rfl (Nat.le_of_ble_eq_true rfl) (fun wld M vs hvs => ?_)
 unfold law33_awake_m at h
 refine sr <| ag rfl <| dn <| sr <| bl (l := [0, 0]) (e := eI64) (.one rfl (.one rfl (.nil))) rfl rfl rfl rfl rfl rfl <| bl (l := [20]) (e := eI64) (.one rfl (.nil)) rfl rfl rfl rfl rfl rfl <| bE h fun x16 h16 h => cl (vec_FromInts_ok h16) ⟨rfl, trivial⟩ <| bl (l := [0, (-1)]) (e := eI64) (.one rfl (.one rfl (.nil))) rfl rfl rfl rfl rfl rfl <| bE h fun x18 h18 h => cl (vec_FromInts_ok h18) ⟨rfl, trivial⟩ <| bl (l := [x18]) (e := (eS 4 eQ)) (.one rfl (.nil)) rfl rfl rfl rfl rfl rfl ?_
 refine bl (l := [5]) (e := eI64) (.one rfl (.nil)) rfl rfl rfl rfl rfl rfl <| bE h fun x21 h21 h => cl (vec_FromInts_ok h21) ⟨rfl, trivial⟩ <| ag rfl <| ag rfl <| ag rfl <| ag rfl <| dn <| sr <| mv rfl <| mv rfl <| mv rfl <| mv rfl ?_
 obtain ⟨⟨x27a, x27b⟩, h27, h⟩ := bS h
 refine cl (node_Split_ok h27) ⟨rfl, rfl, rfl, rfl, trivial⟩ <| mv rfl <| ex rfl rfl <| ex rfl rfl <| ag rfl <| ag rfl <| dn <| sr <| mv rfl <| mv rfl <| mv rfl <| mv rfl <| bE h fun x34 h34 h => cl (node_Prices_ok h34) ⟨rfl, rfl, rfl, rfl, trivial⟩ <| ag rfl <| dn <| sr <| mv rfl ?_
 obtain ⟨⟨⟨x37_0, x37_1⟩, ⟨x37_2, x37_3⟩⟩, h37, h⟩ := bS h
 refine cl (frac_FromInt64_ok h37) ⟨rfl, trivial⟩ ?_
 obtain ⟨⟨⟨⟨x38a_0, x38a_1⟩, ⟨x38a_2, x38a_3⟩⟩, x38b⟩, h38, h⟩ := bS h
 refine cl (node_Trade_ok h38) ⟨rfl, rfl, rfl, rfl, trivial⟩ <| mv rfl <| ex rfl rfl <| ex rfl rfl <| al (cs := [.v (.bool false), slc 1 (List.map eU32 []), .v (.bool false), slc 1 (List.map eU32 [])]) (by exact ⟨SV.imp_refl _, imp_nil, SV.imp_refl _, imp_nil, trivial⟩) rfl <| so rfl rfl rfl <| ag rfl <| dn <| sr <| mv rfl ?_
 obtain ⟨⟨⟨x43_0, x43_1⟩, ⟨x43_2, x43_3⟩⟩, h43, h⟩ := bS h
 refine cl (frac_FromInt64_ok h43) ⟨rfl, trivial⟩ ?_
 obtain ⟨⟨⟨⟨x44a_0, x44a_1⟩, ⟨x44a_2, x44a_3⟩⟩, x44b⟩, h44, h⟩ := bS h
 refine cl (node_Trade_ok h44) ⟨rfl, rfl, rfl, rfl, trivial⟩ <| mv rfl <| ex rfl rfl <| ex rfl rfl <| al (cs := [.v (.bool false), slc 1 (List.map eU32 []), .v (.bool false), slc 1 (List.map eU32 [])]) (by exact ⟨SV.imp_refl _, imp_nil, SV.imp_refl _, imp_nil, trivial⟩) rfl <| so rfl rfl rfl <| ag rfl <| dn <| sr <| mv rfl ?_
 obtain ⟨⟨x49a, x49b⟩, h49, h⟩ := bS h
 refine cl (node_Ends_ok h49) ⟨rfl, trivial⟩ <| mv rfl <| ex rfl rfl <| ex rfl rfl <| ag rfl <| ag rfl <| dn <| qq ?_
 refine ok_tailJ h (fun j66 => AS.mkL 110 [(0, .sv (.v (.bool j66)))] [] []) (fun h => ?_) (fun y0j65 h => ?_)
 refine ok_region <| mv rfl <| bl (l := [20, 20]) (e := eI64) (.one rfl (.one rfl (.nil))) rfl rfl rfl rfl rfl rfl <| bE h fun x54 h54 h => cl (law33_row_ok h54) ⟨rfl, rfl, trivial⟩ <| mv rfl <| bE h fun c59_67 hg67 h => ?_
 cases x54
 obtain rfl := O (F hg67)
 refine ww <| ww <| ww <| pF rfl <| mv rfl <| bE h fun c64_113 hg113 h => ?_
 obtain rfl := O (F hg113)
 refine ww <| ww <| ww <| pF rfl <| mv rfl <| bE h fun c71_114 hg114 h => ?_
 obtain rfl := O (F hg114)
 refine ww <| ww <| ww <| ww <| ww <| pF rfl <| mv rfl <| bE h fun c78_115 hg115 h => ?_
 obtain rfl := O (F hg115)
 refine ww <| ww <| ww <| ww <| ww <| pF rfl <| mv rfl <| bE h fun c82_116 hg116 h => ?_
 obtain rfl := O (F hg116)
 refine ww <| ww <| pF rfl <| mv rfl <| bE h fun c86_117 hg117 h => ?_
 obtain rfl := O (F hg117)
 refine ww <| ww <| pF rfl <| mv rfl <| bE h fun c90_118 hg118 h => ?_
 obtain rfl := O (F hg118)
 refine ww <| ww <| pF rfl <| mv rfl <| bE h fun c94_119 hg119 h => ?_
 obtain rfl := O (F hg119)
 refine ww <| ww <| pF rfl <| mv rfl <| bE h fun c98_120 hg120 h => ?_
 obtain rfl := O (F hg120)
 refine ww <| ww <| pF rfl <| mv rfl <| bE h fun c109_121 hg121 h => ?_
 obtain rfl := O (F hg121)
 exact ww <| ww <| ww <| ww <| ww <| ww <| ww <| ww <| ww <| pF rfl <| ag rfl <| dn <| ⟨false, h, wR []⟩
 refine gm rfl <| RT.buildSl (l := [0, 5]) (e := eI64) (.some rfl rfl) (.one rfl (.one rfl (.nil))) T rfl rfl rfl rfl rfl rfl <| bE (V hg67) fun x58 h58 hg67 => gc (law33_row_ok h58) ⟨rfl, rfl, trivial⟩ ?_
 obtain rfl := O hg67
 refine pT rfl <| mv rfl <| bE h fun c64_68 hg68 h => ?_
 cases x58
 obtain rfl := O (F hg68)
 refine ww <| ww <| ww <| pF rfl <| mv rfl <| bE h fun c71_105 hg105 h => ?_
 obtain rfl := O (F hg105)
 refine ww <| ww <| ww <| ww <| ww <| pF rfl <| mv rfl <| bE h fun c78_106 hg106 h => ?_
 obtain rfl := O (F hg106)
 refine ww <| ww <| ww <| ww <| ww <| pF rfl <| mv rfl <| bE h fun c82_107 hg107 h => ?_
 obtain rfl := O (F hg107)
 refine ww <| ww <| pF rfl <| mv rfl <| bE h fun c86_108 hg108 h => ?_
 obtain rfl := O (F hg108)
 refine ww <| ww <| pF rfl <| mv rfl <| bE h fun c90_109 hg109 h => ?_
 obtain rfl := O (F hg109)
 refine ww <| ww <| pF rfl <| mv rfl <| bE h fun c94_110 hg110 h => ?_
 obtain rfl := O (F hg110)
 refine ww <| ww <| pF rfl <| mv rfl <| bE h fun c98_111 hg111 h => ?_
 obtain rfl := O (F hg111)
 refine ww <| ww <| pF rfl <| mv rfl <| bE h fun c109_112 hg112 h => ?_
 obtain rfl := O (F hg112)
 exact ww <| ww <| ww <| ww <| ww <| ww <| ww <| ww <| ww <| pF rfl <| ag rfl <| dn <| ⟨false, h, wR []⟩
 refine gm rfl <| RT.buildSl (l := [20, 25]) (e := eI64) (.some rfl rfl) (.one rfl (.one rfl (.nil))) T rfl rfl rfl rfl rfl rfl <| bE (V hg68) fun x63 h63 hg68 => gc (law33_row_ok h63) ⟨rfl, rfl, trivial⟩ ?_
 obtain rfl := O hg68
 refine pT rfl <| mv rfl <| bE h fun c71_69 hg69 h => ?_
 cases x63
 obtain rfl := O (F hg69)
 refine ww <| ww <| ww <| ww <| ww <| pF rfl <| mv rfl <| bE h fun c78_98 hg98 h => ?_
 obtain rfl := O (F hg98)
 refine ww <| ww <| ww <| ww <| ww <| pF rfl <| mv rfl <| bE h fun c82_99 hg99 h => ?_
 obtain rfl := O (F hg99)
 refine ww <| ww <| pF rfl <| mv rfl <| bE h fun c86_100 hg100 h => ?_
 obtain rfl := O (F hg100)
 refine ww <| ww <| pF rfl <| mv rfl <| bE h fun c90_101 hg101 h => ?_
 obtain rfl := O (F hg101)
 refine ww <| ww <| pF rfl <| mv rfl <| bE h fun c94_102 hg102 h => ?_
 obtain rfl := O (F hg102)
 refine ww <| ww <| pF rfl <| mv rfl <| bE h fun c98_103 hg103 h => ?_
 obtain rfl := O (F hg103)
 refine ww <| ww <| pF rfl <| mv rfl <| bE h fun c109_104 hg104 h => ?_
 obtain rfl := O (F hg104)
 exact ww <| ww <| ww <| ww <| ww <| ww <| ww <| ww <| ww <| pF rfl <| ag rfl <| dn <| ⟨false, h, wR []⟩
 refine gm rfl <| RT.buildSl (l := [8, (-8)]) (e := eI64) (.some rfl rfl) (.one rfl (.one rfl (.nil))) T rfl rfl rfl rfl rfl rfl <| bE (V hg69) fun x68 h68 hg69 => gc (vec_FromInts_ok h68) ⟨rfl, trivial⟩ ?_
 obtain ⟨⟨⟨x69_0, x69_1⟩, ⟨x69_2, x69_3⟩⟩, h69, hg69⟩ := bS hg69
 refine gc (node_Rent_ok h69) ⟨rfl, rfl, trivial⟩ <| bE hg69 fun x70 h70 hg69 => gc (law33_is_ok h70) ⟨rfl, rfl, trivial⟩ ?_
 obtain rfl := O hg69
 refine pT rfl <| mv rfl <| bE h fun c78_70 hg70 h => ?_
 cases x70
 obtain rfl := O (F hg70)
 refine ww <| ww <| ww <| ww <| ww <| pF rfl <| mv rfl <| bE h fun c82_92 hg92 h => ?_
 obtain rfl := O (F hg92)
 refine ww <| ww <| pF rfl <| mv rfl <| bE h fun c86_93 hg93 h => ?_
 obtain rfl := O (F hg93)
 refine ww <| ww <| pF rfl <| mv rfl <| bE h fun c90_94 hg94 h => ?_
 obtain rfl := O (F hg94)
 refine ww <| ww <| pF rfl <| mv rfl <| bE h fun c94_95 hg95 h => ?_
 obtain rfl := O (F hg95)
 refine ww <| ww <| pF rfl <| mv rfl <| bE h fun c98_96 hg96 h => ?_
 obtain rfl := O (F hg96)
 refine ww <| ww <| pF rfl <| mv rfl <| bE h fun c109_97 hg97 h => ?_
 obtain rfl := O (F hg97)
 exact ww <| ww <| ww <| ww <| ww <| ww <| ww <| ww <| ww <| pF rfl <| ag rfl <| dn <| ⟨false, h, wR []⟩
 refine gm rfl <| RT.buildSl (l := [8]) (e := eI64) (.some rfl rfl) (.one rfl (.nil)) T rfl rfl rfl rfl rfl rfl <| bE (V hg70) fun x75 h75 hg70 => gc (vec_FromInts_ok h75) ⟨rfl, trivial⟩ ?_
 obtain ⟨⟨⟨x76_0, x76_1⟩, ⟨x76_2, x76_3⟩⟩, h76, hg70⟩ := bS hg70
 refine gc (node_Jam_ok h76) ⟨rfl, rfl, trivial⟩ <| bE hg70 fun x77 h77 hg70 => gc (law33_is_ok h77) ⟨rfl, rfl, trivial⟩ ?_
 obtain rfl := O hg70
 refine pT rfl <| mv rfl <| bE h fun c82_71 hg71 h => ?_
 cases x77
 obtain rfl := O (F hg71)
 refine ww <| ww <| pF rfl <| mv rfl <| bE h fun c86_87 hg87 h => ?_
 obtain rfl := O (F hg87)
 refine ww <| ww <| pF rfl <| mv rfl <| bE h fun c90_88 hg88 h => ?_
 obtain rfl := O (F hg88)
 refine ww <| ww <| pF rfl <| mv rfl <| bE h fun c94_89 hg89 h => ?_
 obtain rfl := O (F hg89)
 refine ww <| ww <| pF rfl <| mv rfl <| bE h fun c98_90 hg90 h => ?_
 obtain rfl := O (F hg90)
 refine ww <| ww <| pF rfl <| mv rfl <| bE h fun c109_91 hg91 h => ?_
 obtain rfl := O (F hg91)
 exact ww <| ww <| ww <| ww <| ww <| ww <| ww <| ww <| ww <| pF rfl <| ag rfl <| dn <| ⟨false, h, wR []⟩
 refine gm rfl <| lE (V hg71) fun x81 h81 hg71 => ge_ _ rfl rfl (eqI (p := x38b) (q := 0) h81) ?_
 obtain rfl := O hg71
 refine pT rfl <| mv rfl <| bE h fun c86_72 hg72 h => ?_
 cases x81
 obtain rfl := O (F hg72)
 refine ww <| ww <| pF rfl <| mv rfl <| bE h fun c90_83 hg83 h => ?_
 obtain rfl := O (F hg83)
 refine ww <| ww <| pF rfl <| mv rfl <| bE h fun c94_84 hg84 h => ?_
 obtain rfl := O (F hg84)
 refine ww <| ww <| pF rfl <| mv rfl <| bE h fun c98_85 hg85 h => ?_
 obtain rfl := O (F hg85)
 refine ww <| ww <| pF rfl <| mv rfl <| bE h fun c109_86 hg86 h => ?_
 obtain rfl := O (F hg86)
 exact ww <| ww <| ww <| ww <| ww <| ww <| ww <| ww <| ww <| pF rfl <| ag rfl <| dn <| ⟨false, h, wR []⟩
 refine gl rfl rfl (.cons rfl (.cons rfl (.cons rfl (.cons rfl (.nil))))) <| bE (V hg72) fun x85 h85 hg72 => gc (law33_is_ok h85) ⟨rfl, rfl, trivial⟩ ?_
 obtain rfl := O hg72
 refine pT rfl <| mv rfl <| bE h fun c90_73 hg73 h => ?_
 cases x85
 obtain rfl := O (F hg73)
 refine ww <| ww <| pF rfl <| mv rfl <| bE h fun c94_80 hg80 h => ?_
 obtain rfl := O (F hg80)
 refine ww <| ww <| pF rfl <| mv rfl <| bE h fun c98_81 hg81 h => ?_
 obtain rfl := O (F hg81)
 refine ww <| ww <| pF rfl <| mv rfl <| bE h fun c109_82 hg82 h => ?_
 obtain rfl := O (F hg82)
 exact ww <| ww <| ww <| ww <| ww <| ww <| ww <| ww <| ww <| pF rfl <| ag rfl <| dn <| ⟨false, h, wR []⟩
 refine gm rfl <| lE (V hg73) fun x89 h89 hg73 => ge_ _ rfl rfl (eqI (p := x44b) (q := 1) h89) ?_
 obtain rfl := O hg73
 refine pT rfl <| mv rfl <| bE h fun c94_74 hg74 h => ?_
 cases x89
 obtain rfl := O (F hg74)
 refine ww <| ww <| pF rfl <| mv rfl <| bE h fun c98_78 hg78 h => ?_
 obtain rfl := O (F hg78)
 refine ww <| ww <| pF rfl <| mv rfl <| bE h fun c109_79 hg79 h => ?_
 obtain rfl := O (F hg79)
 exact ww <| ww <| ww <| ww <| ww <| ww <| ww <| ww <| ww <| pF rfl <| ag rfl <| dn <| ⟨false, h, wR []⟩
 refine gm rfl <| lE (V hg74) fun x93 h93 hg74 => ge_ _ rfl rfl (eqI (p := x49a) (q := 0) h93) ?_
 obtain rfl := O hg74
 refine pT rfl <| mv rfl <| bE h fun c98_75 hg75 h => ?_
 cases x93
 obtain rfl := O (F hg75)
 refine ww <| ww <| pF rfl <| mv rfl <| bE h fun c109_77 hg77 h => ?_
 obtain rfl := O (F hg77)
 exact ww <| ww <| ww <| ww <| ww <| ww <| ww <| ww <| ww <| pF rfl <| ag rfl <| dn <| ⟨false, h, wR []⟩
 refine gm rfl <| lE (V hg75) fun x97 h97 hg75 => ge_ _ rfl rfl (eqI (p := x49b) (q := 1) h97) ?_
 obtain rfl := O hg75
 refine pT rfl <| mv rfl <| bE h fun c109_76 hg76 h => ?_
 cases x97
 obtain rfl := O (F hg76)
 exact ww <| ww <| ww <| ww <| ww <| ww <| ww <| ww <| ww <| pF rfl <| ag rfl <| dn <| ⟨false, h, wR []⟩
 refine RT.buildSl (l := [0]) (e := eI64) (.some rfl rfl) (.one rfl (.nil)) T rfl rfl rfl rfl rfl rfl <| RT.buildSl (l := [1]) (e := eI64) (.some rfl rfl) (.one rfl (.nil)) T rfl rfl rfl rfl rfl rfl <| RT.buildSl (l := [8]) (e := eI64) (.some rfl rfl) (.one rfl (.nil)) T rfl rfl rfl rfl rfl rfl <| bE (V hg76) fun x103 h103 hg76 => gc (vec_FromInts_ok h103) ⟨rfl, trivial⟩ <| RT.buildSl (l := [8]) (e := eI64) (.some rfl rfl) (.one rfl (.nil)) T rfl rfl rfl rfl rfl rfl <| bE hg76 fun x105 h105 hg76 => gc (vec_FromInts_ok h105) ⟨rfl, trivial⟩ ?_
 refine bE hg76 fun x106 h106 hg76 => gc (node_In_ok h106) ⟨rfl, rfl, rfl, rfl, rfl, trivial⟩ <| RT.buildSl (l := [8, (-8)]) (e := eI64) (.some rfl rfl) (.one rfl (.one rfl (.nil))) T rfl rfl rfl rfl rfl rfl <| bE hg76 fun x108 h108 hg76 => gc (law33_row_ok h108) ⟨rfl, rfl, trivial⟩ ?_
 obtain rfl := O hg76
 exact pT rfl <| ag rfl <| dn <| ⟨x108, h, wR []⟩
 try dsimp only
 refine AThen.n <| ok_ret ?_
 obtain rfl := O h
 exact R1 rfl
end Go.Proofs.YthgkgjogdgdcgaaGreat
namespace Go.Fw
open Go.RowKit
def Mem.fr (M : Mem) (N : Nat) : Mem := fun b o => if N ≤ b then M b o else none
theorem Mem.fr_le (M : Mem) (N : Nat) : (M.fr N).le M := fun b o v h => by
  unfold Mem.fr at h
  split at h
  · exact h
  · cases h
theorem Mem.fr_mono {M M' : Mem} (h : M.le M') (N : Nat) : (M.fr N).le (M'.fr N) := fun b o v e => by
  unfold Mem.fr at *
  split at e
  · rename_i hn; rw [if_pos hn]; exact h b o v e
  · cases e
theorem Mem.fr_fr (M : Mem) (N : Nat) : (M.fr N).fr N = M.fr N := by
  funext b o; unfold Mem.fr; split <;> rfl
def nw (N : Nat) (s : SV) : SV := ⟨fun M v => s.h (M.fr N) v ∧ ∀ g, v.ownBlock = some g → ∃ o, M.fr N g o = some (.agg #[]), fun hM h => ⟨s.mono (Mem.fr_mono hM N) h.1, fun g e => by obtain ⟨o, q⟩ := h.2 g e; exact ⟨o, Mem.fr_mono hM N _ _ _ q⟩⟩⟩
theorem nw_imp {N : Nat} {s : SV} : SV.imp (nw N s) s := fun M _ h => s.mono (Mem.fr_le M N) h.1
theorem nw_mono {N : Nat} {s s' : SV} (h : SV.imp s s') : SV.imp (nw N s) (nw N s') := fun _ _ hv => ⟨h _ _ hv.1, hv.2⟩
instance {N : Nat} {s : SV} {n : Nat} [h : Len s n] : Len (nw N s) n := ⟨fun M v hv => h.h M v (nw_imp M v hv)⟩
instance {N : Nat} {s : SV} {n : Nat} {rows : List (List SV)} [h : Slc s n rows] : Slc (nw N s) n rows := ⟨fun M v hv => h.h M v (nw_imp M v hv)⟩
instance {N : Nat} {s : SV} {n sz : Nat} {f : Nat → Nat → SV} [h : Sub s n sz f] : Sub (nw N s) n sz (fun a b => nw N (f a b)) := ⟨fun M v hv => by
  obtain ⟨a, c, e, hc, hs⟩ := h.h (M.fr N) v hv.1
  refine ⟨a, c, e, hc, fun lo hi h1 h2 => ⟨hs lo hi h1 h2, fun g hg => hv.2 g ?_⟩⟩
  subst e
  cases a with
  | none => split at hg <;> cases hg
  | some a =>
    split at hg
    · exact hg
    · have e : (a.add (lo * sz)).block = a.block := by unfold Addr.add; split <;> rfl
      rw [show (Value.slice (Option.map (fun x => x.add (lo * sz)) (some a)) (hi - lo) (c - lo)).ownBlock = some (a.add (lo * sz)).block from rfl, e] at hg
      exact hg⟩
instance {N : Nat} {s : SV} [h : One s] : One (nw N s) := ⟨fun M v hv => h.h _ v hv.1⟩
class Sup (N : Nat) (s : SV) : Prop where
  h : ∀ M v, s.h M v → s.h (M.fr N) v
instance {N : Nat} {x : Value} : Sup N (.v x) := ⟨fun _ _ h => h⟩
instance {N : Nat} {s : SV} : Sup N (nw N s) := ⟨fun M v h => by show s.h ((M.fr N).fr N) v ∧ ∀ g, v.ownBlock = some g → ∃ o, (M.fr N).fr N g o = some (.agg #[]); rw [Mem.fr_fr]; exact h⟩
class Sups (N : Nat) (l : List SV) : Prop where
  h : ∀ s ∈ l, ∀ M v, s.h M v → s.h (M.fr N) v
instance {N : Nat} : Sups N [] := ⟨fun s h => by cases h⟩
instance {N : Nat} {s : SV} {l : List SV} [a : Sup N s] [b : Sups N l] : Sups N (s :: l) := ⟨fun t ht => by
  rcases List.mem_cons.1 ht with rfl | ht
  · exact a.h
  · exact b.h t ht⟩
class SupE (N : Nat) {α : Type} (e : α → List SV) : Prop where
  h : ∀ x, Sups N (e x)
instance {N : Nat} : SupE N eU32 := ⟨fun _ => inferInstance⟩
instance {N : Nat} : SupE N eI64 := ⟨fun _ => inferInstance⟩
instance {N : Nat} : SupE N eB := ⟨fun _ => inferInstance⟩
abbrev fZ (N : Nat) (z : Zr) : List SV := [.v (.bool z.neg), nw N (slc 1 (z.w.map eU32))]
abbrev fQ (N : Nat) (q : Qr) : List SV := [.v (.bool q.num.neg), nw N (slc 1 (q.num.w.map eU32)), .v (.bool q.den.neg), nw N (slc 1 (q.den.w.map eU32))]
instance {N : Nat} : EL (fZ N) 2 := ⟨fun _ => rfl, fun _ => inferInstance⟩
instance {N : Nat} : EL (fQ N) 4 := ⟨fun _ => rfl, fun _ => inferInstance⟩
instance {N : Nat} : SupE N (fZ N) := ⟨fun _ => inferInstance⟩
instance {N : Nat} : SupE N (fQ N) := ⟨fun _ => inferInstance⟩
theorem imp_nilF {α : Type} {N n : Nat} {e : α → List SV} : SV.imp (.v (.slice none 0 0)) (nw N (slc n (([] : List α).map e))) := fun _ _ h => ⟨.inl ⟨none, h, rfl⟩, fun g e => by rw [show _ = Value.slice none 0 0 from h] at e; cases e⟩
theorem SVIs.at : ∀ {l l' : List SV}, SVIs l l' → ∀ (k : Nat) (s' : SV), l'[k]? = some s' → ∃ s, l[k]? = some s ∧ SV.imp s s' := fun h _ _ e => SVIs.get h e
theorem slc_imp {α : Type} {n : Nat} {e e' : α → List SV} (h : ∀ x, SVIs (e' x) (e x)) (l : List α) : SV.imp (slc n (l.map e')) (slc n (l.map e)) := by
  rintro M v (⟨a, h1, h2⟩ | ⟨b, o, c, h1, h2, h3, h4⟩)
  · exact .inl ⟨a, h1, by have := List.map_eq_nil_iff.1 h2; rw [this]; rfl⟩
  · refine .inr ⟨b, o, c, by simpa using h1, by simpa using h2, by simpa using h3, fun i row hr => ?_⟩
    rw [List.getElem?_map] at hr
    cases hx : l[i]? with
    | none => rw [hx] at hr; cases hr
    | some x =>
      rw [hx] at hr
      have hr : e x = row := Option.some.inj hr
      subst hr
      obtain ⟨g1, g2⟩ := h4 i (e' x) (by rw [List.getElem?_map, hx]; rfl)
      refine ⟨by rw [SVIs.len (h x)]; exact g1, fun k s hs => ?_⟩
      obtain ⟨s2, hs2, hi⟩ := SVIs.get (h x) hs
      obtain ⟨y, hy, ho, hh⟩ := g2 k s2 hs2
      exact ⟨y, hy, ho, hi M y hh⟩
theorem qI (N : Nat) (q : Qr) : SVIs (fQ N q) (eQ q) := ⟨SV.imp_refl _, nw_imp, SV.imp_refl _, nw_imp, trivial⟩
theorem nwQ {N : Nat} {l : List Qr} : SV.imp (nw N (slc 4 (l.map (fQ N)))) (slc 4 (l.map eQ)) := fun M v h => slc_imp (qI N) l M v (nw_imp M v h)
theorem slc_nw {N n : Nat} {α : Type} {e : α → List SV} [he : SupE N e] {l : List α} {M : Mem} {v : Value} (h : (slc n (l.map e)).h M v) (hb : ∀ g, v.ownBlock = some g → N ≤ g ∧ ∃ o, M g o = some (.agg #[])) : (nw N (slc n (l.map e))).h M v := by
  refine ⟨?_, fun g hg => by obtain ⟨h1, o, h2⟩ := hb g hg; exact ⟨o, by unfold Mem.fr; rw [if_pos h1]; exact h2⟩⟩
  rcases h with ⟨a, h1, h2⟩ | ⟨b, o, c, h1, h2, h3, h4⟩
  · exact .inl ⟨a, h1, h2⟩
  · have hN : N ≤ b := (hb b (by rw [h1]; rfl)).1
    refine .inr ⟨b, o, c, h1, h2, h3, fun i row hr => ⟨(h4 i row hr).1, fun k s hs => ?_⟩⟩
    obtain ⟨y, hy, ho, hh⟩ := (h4 i row hr).2 k s hs
    refine ⟨y, by unfold Mem.fr; rw [if_pos hN]; exact hy, ho, ?_⟩
    rw [List.getElem?_map] at hr
    cases hx : l[i]? with
    | none => rw [hx] at hr; cases hr
    | some x =>
      rw [hx] at hr
      have hr : e x = row := Option.some.inj hr
      subst hr
      exact (he.h x).h s (List.mem_of_getElem? hs) M y hh
section
variable {P : Program} {C : Ctx} {S : AS} {Q : Exit → AS → Prop}
theorem HoldsAt.newImmU {E : Env} {a : Act} {w : World} (h : HoldsAt C S E a w) (vs : List Value) (T : TypeId) (hone : ∀ v ∈ vs, v.oneCell' = true) : HoldsAt C S { E with M := fun b o => if b = w.heap.size then (vs ++ [.agg #[]])[o]? else E.M b o } a (w.alloc (.cells ⟨vs⟩ T)) := by
  have hno : ∀ o, E.M w.heap.size o = none := fun o => by
    cases e : E.M w.heap.size o with
    | none => rfl
    | some v => have := inW_lt h.inW e; omega
  refine h.grow (fun b o v e => ?_) (fun b o v e => ?_) (fun b o v e => ?_) (((Below.refl _ _).alloc (Nat.le_refl _) _))
  · have : b ≠ w.heap.size := by rintro rfl; rw [hno o] at e; cases e
    simp [this, e]
  · by_cases hb : b = w.heap.size
    · exact .inr (by omega)
    · simp only [if_neg hb] at e; exact .inl e
  · by_cases hb : b = w.heap.size
    · subst hb
      simp only [if_true] at e
      by_cases ho : o < vs.length
      · rw [List.getElem?_append_left ho] at e
        refine .of ?_ (hone v (List.mem_of_getElem? e))
        rw [World.cell?_alloc_new]; simpa using e
      · rw [List.getElem?_append_right (by omega)] at e
        cases ho2 : o - vs.length with
        | succ k => rw [ho2] at e; simp at e
        | zero =>
          rw [ho2] at e
          simp at e
          subst e
          exact ⟨⟨vs⟩, T, by show (w.heap.push _)[w.heap.size]? = _; rw [Array.getElem?_push, if_pos rfl]⟩
    · simp only [if_neg hb] at e
      refine (h.inW b o v e).same ?_
      show (w.heap.push _)[b]? = _
      rw [Array.getElem?_push, if_neg hb]
theorem ok_frzF {c : Code} {i n N : Nat} {E1 : TypeId} {α : Type} {e : α → List SV} {l : List α} [el : EL e n] [he : SupE N e] (hN : N ≤ C.w0.heap.size) (hb : ∀ k, ¬ C.bor k) (hR : S.r i = .live (TR E1 n e l)) (hk : Ok P C c (S.frz i (nw N (slc n (l.map e)))) Q) : Ok P C c S Q := fun a w hs => by
  obtain ⟨E, h⟩ := hs
  have hlen : l.length ≤ 9223372036854775807 := by
    obtain ⟨⟨vs, ho, hv⟩, _⟩ := h.rx i _ hR
    rcases ho.2 with ⟨_, q2⟩ | ⟨g', cap, cur, q1, _, q2, q3, q4, q5, q6⟩
    · have q2 : l.length = 0 := q2
      omega
    · have q3 : l.length ≤ cap := q3
      have : maxLen = 9223372036854775807 := by decide
      omega
  exact hk a w (h.frz hR (rows_map l) (by rw [List.length_map]) hlen (ones_flat l) (fun M v hv hg => slc_nw hv (fun g e => ⟨(hg g e).1.elim (fun q => Nat.le_trans hN q) (fun q => absurd q (hb g)), (hg g e).2⟩)))
def PureN (P : Program) (f : FuncId) (N : Nat) (args : List SV) (r : SV) : Prop :=
  ∀ (M : Mem) (w : World) (vs : List Value), N ≤ w.heap.size → M.inW w → SV.All M args vs →
    Calls P f ⟨vs⟩ w fun e w' => ∃ v M', e = .returned v ∧ M.le M' ∧ (∀ b o x, M' b o = some x → M b o = some x ∨ w.heap.size ≤ b) ∧ M'.inW w' ∧ r.h M' v ∧ Below w.heap.size w w'
theorem PureN.w {f : FuncId} {N : Nat} {args args' : List SV} {r : SV} (h : PureN P f N args r) (hi : SVIs args' args) : PureN P f N args' r := fun M w vs hN hM hv => h M w vs hN hM (hi.holds hv)
theorem pureN_of_ok {f : FuncId} {fn : Func} {code : Code} {N : Nat} {args : List SV} {r : SV} (hf : P.funcs[f]? = some fn) (hb : fn.body = some code) (hn : args.length ≤ fn.ntmps)
    (h : ∀ (w : World) (M : Mem) (vs : List Value), N ≤ w.heap.size → SV.All M args vs → Ok P (ctx0 w M) code (AS.init fn.ntmps args) (fun e S => (e = .normal ∨ e = .ret) ∧ Res P S fn.results.toList r)) : PureN P f N args r := by
  intro M w vs hN hM hvs
  refine (callsIn_wide (n := 0)).1 (callsIn_of_wp_marks (F := Fence.wide) hf hb trivial ?_)
  refine wpIn_mono (h w M vs hN hvs _ w ⟨_, init_holds hM hvs hn⟩) ?_
  rintro e a' w' ⟨S', ⟨he, ss, hss, himp⟩, E, hh⟩
  have key : LeavesInM Fence.wide 0 P fn a'.tmps (fun e w' => ∃ v M', e = .returned v ∧ M.le M' ∧ (∀ b o x, M' b o = some x → M b o = some x ∨ w.heap.size ≤ b) ∧ M'.inW w' ∧ r.h M' v ∧ Below w.heap.size w w') a'.defers .returning w' := by
    obtain ⟨ds, h1, h2, h3⟩ := hh.marks
    rw [h1]
    refine leaves_marks ds w' h2 (fun r hr => (h3 r hr).2.2) (fun w2 g1 g2 g3 g4 g5 => ?_)
    have hh2 := hh.unmarked h3 g1 g2 g3 g4 g5
    obtain ⟨v, hv, hs⟩ := res_run hh2 hss
    refine ⟨v, hv, v, E.M, rfl, hh2.m0, fun b o x e => ?_, hh2.inW, himp _ _ hs, hh2.os, hh2.tape, hh2.output, hh2.grown, fun k hk => hh2.frame k hk (fun h => h)⟩
    rcases hh2.mnew b o x e with h | h | h
    · exact .inl h
    · exact .inr h
    · exact h.elim
  rcases he with rfl | rfl
  · exact key
  · exact key
theorem newC_fr {f : FuncId} {N : Nat} {args : List SV} {E1 : TypeId} {n : Nat} {α : Type} {e : α → List SV} {l : List α} [el : EL e n] [he : SupE N e] (hp : NewC P f args (TR E1 n e l)) : PureN P f N args (nw N (slc n (l.map e))) := by
  intro M w vs hN hM hvs
  refine (hp M w vs hM hvs).mono ?_
  rintro ex w' ⟨v, M', us, rfl, hle, hnew, hin, hown, hus, hblk, hbel⟩
  have hrows : Rows n (l.map e) (l.flatMap e) := rows_map l
  have hcl := rows_len hrows
  rcases hown.2 with ⟨h1, h2⟩ | ⟨g, cap, cur, h1, _, h2, h3, _, h5, h6⟩
  · exact ⟨v, M', rfl, hle, hnew, hin, ⟨.inl ⟨none, h1, by have h2 : l.length = 0 := h2; rw [List.length_eq_zero_iff.1 h2]; rfl⟩, fun g e => by rw [h1] at e; cases e⟩, hbel⟩
  · have hg : v.ownBlock = some g := by rw [h1]; rfl
    obtain ⟨hge, hno⟩ := hblk g hg
    have h3 : l.length ≤ cap := h3
    have hmax : maxLen = 9223372036854775807 := by decide
    refine ⟨v, fun b o => if b = g ∧ o < l.length * n then us[o]? else if b = g ∧ o = l.length * n then some (.agg #[]) else M' b o, rfl, fun b o x q => ?_, fun b o x q => ?_, fun b o x q => ?_, ?_, hbel⟩
    · have := hle b o x q
      have : b ≠ g := by rintro rfl; rw [hno o] at this; cases this
      simp [this]; assumption
    · simp only at q
      split at q
      · rename_i hc; exact .inr (by rw [hc.1]; exact hge)
      · split at q
        · rename_i hc; exact .inr (by rw [hc.1]; exact hge)
        · exact hnew b o x q
    · simp only at q
      split at q
      · rename_i hc
        obtain ⟨rfl, hc2⟩ := hc
        refine .of ?_ (ones_flat l _ _ hus x (List.mem_of_getElem? q))
        simp only [World.cell?, h2]
        have h6 : cur.toList.take (l.length * n) = us := h6
        rw [← h6, List.getElem?_take, if_pos hc2] at q
        simpa using q
      · split at q
        · rename_i hc
          cases q
          rw [hc.1]; exact ⟨_, _, h2⟩
        · exact hin b o x q
    · refine slc_nw ?_ (fun g' e' => by rw [hg] at e'; cases e'; exact ⟨Nat.le_trans hN hge, l.length * n, by simp⟩)
      refine .inr ⟨g, 0, cap, by rw [h1, List.length_map], by rw [List.length_map]; exact h3, by rw [List.length_map]; omega, fun k row hk => ?_⟩
      obtain ⟨q1, q2⟩ := rows_get hrows k row hk
      refine ⟨q1, fun j s hs => ?_⟩
      have hs2 := q2 j s hs
      obtain ⟨y, hy, hys⟩ := hus.get hs2
      have hlt : k * n + j < l.length * n := by
        have := (List.getElem?_eq_some_iff.1 hs2).1
        rw [hcl, List.length_map] at this; exact this
      refine ⟨y, by simp [hlt, hy], ones_flat l _ _ hus y (List.mem_of_getElem? hy), s.mono (fun b o x q => ?_) hys⟩
      have : b ≠ g := by rintro rfl; rw [hno o] at q; cases q
      simp [this, q]
end
section
variable {P : Program} {C : Ctx} {ops : Array Oper} {S : AS} {nd : Bool} {K : List Ac → AS → Prop} {rest : List Oper} {acc : List Ac}
variable {gd : Option (Nat × Bool)} {rg : List Nat} {d : Nat} {ty : TypeId} {pos : String} {aft : Array Edge} {x y z : Operand} {T U E0 : TypeId}
variable {α : Type} {l l' k : List α} {e : α → List SV} {n by_ N : Nat} {zv : Value}
theorem RT.callPN (hg : Gd ops S gd rg) {f : FuncId} [Ent P f] {g : Operand} {xs : Array Operand} {at_ : Array TypeId} {args : List SV} {r : SV} (hp : PureN P f N args r) (hN : N ≤ C.w0.heap.size) (hf : S.ev g = .sv (.v (.func (.func f) #[] #[]))) (hargs : AllSv S xs.toList args) (hd : d < S.n)
    (next : RunT P C ops nd K rest (⟨rg ++ (okeys g ++ xs.toList.flatMap okeys), [], [], ⟨some (d, .sv r), [], []⟩⟩ :: acc) (S.set d (.sv r))) : RunT P C ops nd K (⟨some d, .call ⟨.value g, xs, at_⟩, ty, pos, aft, gd⟩ :: rest) acc S := by
  refine .inl ⟨_, [], [], _, ?_, next⟩
  rintro S' hn ht _ _ i a w L Q ho ⟨E, h⟩ hL
  refine wpOp_of (C := C) ho (hg.wanted h (fun s hs => ht s (List.mem_append_left _ hs)) rfl) ?_
  have hgf : a.eval g = .func (.func f) #[] #[] := by
    have h1 := h.ev g; rw [ev_congr (fun _ h => List.mem_append_right _ (List.mem_append_left _ h)) ht, hf] at h1; exact h1
  have hall := AllSv.vals h hargs (fun s hs => ht s (List.mem_append_right _ (List.mem_append_right _ hs)))
  have hr : (execOp a.eval ⟨some d, .call ⟨.value g, xs, at_⟩, ty, pos, aft, gd⟩).run P w = .ok (.enter f ⟨xs.toList.map a.eval⟩) w := by
    have e2 : xs.map a.eval = ⟨xs.toList.map a.eval⟩ := by apply Array.ext'; simp
    have e1 := Ent.run (P := P) (f := f) (xs.map a.eval) w
    rw [← e2]
    simp [execOp, resolve, hgf, Deferred.ofValue, invoke, e1]
  refine wpIn_of (C := C) (by intro c h; cases h) hr ?_
  refine ⟨fun h => by simp at h, fr_calls ((hp E.M w _ (Nat.le_trans hN h.grown) h.inW hall).mono ?_)⟩
  rintro e w' ⟨v, M', rfl, hM, hnew, hin, hv, hb⟩
  exact hL _ _ ⟨_, (h.grow hM hnew hin hb).put (x := .sv r) hv (by show d < S'.n; omega) nomb⟩
theorem RT.lenMF (hg : Gd ops S gd rg) {m : Nat} [tS : TySl P T E0 m] {c : Int} (hx : S.ev x = .sv (nw N (slc n (l.map e)))) (hd : d < S.n) (hc : (l.length : Int) = c)
    (next : RunT P C ops nd K rest (⟨rg ++ okeys x, [], [], ⟨some (d, .sv (.v (.int .i64 c))), [], []⟩⟩ :: acc) (S.set d (.sv (.v (.int .i64 c))))) : RunT P C ops nd K (⟨some d, .call ⟨.builtin .len, #[x], #[T]⟩, ty, pos, aft, gd⟩ :: rest) acc S :=
  RT.len hg hx hd (by rw [List.length_map, hc]; exact next)
theorem RT.ixMF (hg : Gd ops S gd rg) [tS : TySl P T E0 n] {kk : IntKind} {i : Int} {a : α} (hx : S.ev x = .sv (nw N (slc n (l.map e)))) (hy : S.ev y = .sv (.v (.int kk i))) (hd : d < S.n) (ha : geti l i = some a)
    (next : RunT P C ops nd K rest (⟨rg ++ (okeys x ++ okeys y), [], [], ⟨some (d, .sv (ref (e a))), [], []⟩⟩ :: acc) (S.set d (.sv (ref (e a))))) : RunT P C ops nd K (⟨some d, .indexAddr T x y, ty, pos, aft, gd⟩ :: rest) acc S :=
  RT.indexAddr hg (e a) hx hy hd (geti_some ha).1 (by rw [List.getElem?_map, (geti_some ha).2]; rfl) next
theorem RT.sliceMF (hg : Gd ops S gd rg) [tS : TySl P T E0 n] {lo hi : Option Operand} (a b : Int) (hx : S.ev x = .sv (nw N (slc n (l.map e)))) (hlo : bndS S 0 lo a) (hhi : bndS S l.length hi b) (hd : d < S.n) (h : subM l a b = some l')
    (next : RunT P C ops nd K rest (⟨rg ++ (okeys x ++ (bkeys lo ++ bkeys hi)), [], [], ⟨some (d, .sv (nw N (slc n (l'.map e)))), [], []⟩⟩ :: acc) (S.set d (.sv (nw N (slc n (l'.map e)))))) : RunT P C ops nd K (⟨some d, .slice T x lo hi none, ty, pos, aft, gd⟩ :: rest) acc S := by
  obtain ⟨h0, h1, h2, h3⟩ := subM_some h
  exact RT.slice hg hx a b hlo (by rw [List.length_map]; exact hhi) hd h0 h1 (by rw [List.length_map]; exact h2) _ (by rw [cut_map, h3]) next
theorem RT.apIRF (hg : Gd ops S gd rg) [tS : TySl P T E0 n] [tE : TyEl P E0 n by_ zv] [el : EL e n] [he : SupE N e] {i : Nat} (hN : N ≤ C.w0.heap.size) (hb : ∀ k, ¬ C.bor k) (hx : S.ev x = .row i) (hR : S.r i = .live (TR E0 n e l)) (hy : S.ev y = .sv (slc n (k.map e))) (hd : d < S.n) (hdr : S.r d = .un) (hd1 : d < 1000) (h : apM by_ l k = some l')
    (next : RunT P C ops nd K rest (⟨rg ++ (okeys x ++ okeys y), [], [d, i], ⟨some (d, .sv (nw N (slc n (l'.map e)))), [], [(i, .dead), (d, .dead)]⟩⟩ :: acc) ((AS.setRs [(i, .dead), (d, .dead)] S).set d (.sv (nw N (slc n (l'.map e)))))) : RunT P C ops nd K (⟨some d, .call ⟨.builtin .append, #[x, y], #[T, T]⟩, ty, pos, aft, gd⟩ :: rest) acc S := by
  obtain ⟨h1, h2, rfl⟩ := apM_some h
  have hf : l.flatMap e ++ (k.map e).flatten = (l ++ k).flatMap e := by simp [flat_map]
  exact RT.appendI hg (.row hx hR) hy hd hdr hd1 (by simpa using h1) (by simpa using h2) _ (rows' := (l ++ k).map e) (fun _ _ hv hg => slc_nw hv (fun g e => ⟨(hg g e).1.elim (fun q => Nat.le_trans hN q) (fun q => absurd q (hb g)), (hg g e).2⟩)) (by rw [hf]; exact rows_map _) (by simp) (by rw [hf]; exact ones_flat _) next
theorem RT.buildSlF (hg : Gd ops S gd rg) [tS : TySl P T E0 n] [tE : TyEl P E0 n by_ zv] [he : SupE N e] (hN : N ≤ C.w0.heap.size) {len : Nat} {parts : Array (Nat × Operand)} {qs : List (Nat × List SV)} (hp : Parts S parts.toList qs) (hd : d < S.n)
    (hc : consec 0 qs = true) (hl : qs.length = len) (hsz : (qs.all fun q => Nat.beq q.2.length n) = true) (hlen : Nat.ble (len * n) 16777216 = true) (hz1 : (zv.cells.toList.all fun v => v.oneCell') = true) (hrows : qs.map (·.2) = l.map e)
    (next : RunT P C ops nd K rest (⟨rg ++ pkeys parts.toList, [], [], ⟨some (d, .sv (nw N (slc n (l.map e)))), [], []⟩⟩ :: acc) (S.set d (.sv (nw N (slc n (l.map e)))))) : RunT P C ops nd K (⟨some d, .buildSlice T len parts, ty, pos, aft, gd⟩ :: rest) acc S := by
  refine .inl ⟨_, [], [], _, ?_, next⟩
  rintro S' hn ht _ _ i a w L Q ho ⟨E, h⟩ hL
  refine wpOp_of (C := C) ho (hg.wanted h (fun s hs => ht s (List.mem_append_left _ hs)) rfl) ?_
  obtain ⟨vs, hr, hall, hone⟩ := run_buildSlice (P := P) (T := T) (E0 := E0) (n := n) (by_ := by_) (zv := zv) (d := d) (ty := ty) (pos := pos) (aft := aft) (gd := gd) h hp (fun s hs => ht s (List.mem_append_right _ hs)) hc hl hsz (Nat.le_of_ble_eq_true hlen) (List.all_eq_true.1 hz1)
  refine wpIn_of (C := C) (by intro c h; cases h) hr (hL _ _ ⟨_, (h.newImmU vs E0 hone).put (d := d) (x := .sv (nw N (slc n (l.map e)))) (v := .slice (some ⟨w.heap.size, 0, none⟩) len len) ?_ (by show d < S'.n; omega) nomb⟩)
  have hrw : Rows n (qs.map (·.2)) (qs.map (·.2)).flatten := ⟨rfl, fun r hr => by
    obtain ⟨q, hq, rfl⟩ := List.mem_map.1 hr
    exact Nat.eq_of_beq_eq_true (List.all_eq_true.1 hsz q hq)⟩
  have hpn := tE.p
  have hlb : len ≤ 16777216 := Nat.le_trans (Nat.le_mul_of_pos_right _ hpn) (Nat.le_of_ble_eq_true hlen)
  refine slc_nw ?_ (fun g e => by cases e; exact ⟨Nat.le_trans hN h.grown, vs.length, by simp⟩)
  rw [← hrows]
  refine .inr ⟨w.heap.size, 0, len, by rw [List.length_map, hl], by rw [List.length_map, hl]; exact Nat.le_refl _, by rw [List.length_map, hl]; omega, fun k row hk => ?_⟩
  obtain ⟨q1, q2⟩ := rows_get hrw k row hk
  refine ⟨q1, fun j s hs => ?_⟩
  obtain ⟨y, hy, hys⟩ := hall.get (q2 j s hs)
  refine ⟨y, by show (if w.heap.size = w.heap.size then (vs ++ [Value.agg #[]])[0 + k * n + j]? else _) = _; rw [if_pos rfl, Nat.zero_add, List.getElem?_append_left (List.getElem?_eq_some_iff.1 hy).1]; exact hy, hone y (List.mem_of_getElem? hy), s.mono (fun b o v e => ?_) hys⟩
  have : b ≠ w.heap.size := by rintro rfl; have := inW_lt h.inW e; omega
  simp [this, e]
end
end Go.Fw
namespace Go.Proofs.YthgkgjogdgdcgaaGreat
open Go.Fw Go.Fw.Z Go.RowKit
theorem slices_Clone_fr {x0 : List Nat} (N : Nat) {r : List Nat} (h : slices_Clone_m x0 = some r) : PureN Tryz.prog 78 N [slc 1 (List.map eU32 x0)] (nw N (slc 1 (List.map eU32 r))) := newC_fr (slices_CloneN_ok h)
theorem whole_trim_fr {x0 : List Nat} (N : Nat) {r : List Nat} (h : whole_trim_m x0 = some r) : PureN Tryz.prog 79 N [nw N (slc 1 (List.map eU32 x0))] (nw N (slc 1 (List.map eU32 r))) := by
 refine pureN_of_ok Tryz.func79 rfl (Nat.le_of_ble_eq_true rfl) (fun wld M vs hN hvs => ?_)
 unfold whole_trim_m at h
 refine sr <| aI rfl (imp_nilF (N := N) (n := 1) (e := eU32)) <| dn <| qq <| bE h fun e10 hl10 ho10 => ?_
 refine ok_tailP (fun (y0e9 : (List Nat)) => AS.mkL 21 [(0, .sv (nw N (slc 1 (List.map eU32 y0e9))))] [] []) (fun y0e9 => y0e9 = e10) ?_ (fun y0e9 hx10 => ?_)
 refine ok_block ?_
 refine ok_loopM hl10 (fun s10 => AS.mkL 21 [(0, .sv (nw N (slc 1 (List.map eU32 s10))))] [] []) (wR []) (fun y0l5 y10 G10 h hG10 hE10 => ?_)
 try dsimp only
 refine qq <| qq ?_
 refine ok_tailJ h (fun j13 => AS.mkL 21 [(0, .sv (nw N (slc 1 (List.map eU32 y0l5)))), (14, .sv (.v (.bool j13)))] [] []) (fun h => ?_) (fun y14j12 h => ?_)
 refine ok_region <| mv rfl <| lE h fun x4 h4 h => RT.lenMF .none rfl T h4 <| lE h fun x5 h5 h => gt _ rfl rfl h5 <| mv rfl <| bE h fun c14_14 hg14 h => ?_
 cases x5
 obtain rfl := O (F hg14)
 exact ww <| ww <| ww <| ww <| ww <| ww <| ww <| pF rfl <| dn <| ⟨false, h, wR []⟩
 refine gm rfl <| gm rfl <| lE (V hg14) fun x9 h9 hg14 => RT.lenMF (.some rfl rfl) rfl T h9 <| lE hg14 fun x10 h10 hg14 => RT.sub (.some rfl rfl) _ rfl rfl T h10 <| bE hg14 fun x11 h11 hg14 => RT.ixMF (.some rfl rfl) rfl rfl T h11 <| gr rfl rfl <| lE hg14 fun x13 h13 hg14 => ge_ _ rfl rfl (eqN (p := x11) (q := 0) h13) ?_
 obtain rfl := O hg14
 exact pT rfl <| dn <| ⟨x13, h, wR []⟩
 try dsimp only
 refine AThen.n ?_
 cases y14j12
 refine cF <| ok_exit <| AThen.x <| AThen.x <| AInB.x <| AThen.n ?_
 obtain rfl := O (F h)
 exact ⟨y0l5, hE10 _ rfl, wR []⟩
 refine cT <| ok_skip <| AThen.n <| ok_block <| ok_region <| mv rfl <| mv rfl <| lE (V h) fun x17 h17 h => RT.lenMF .none rfl T h17 <| lE h fun x18 h18 h => sb _ rfl rfl h18 <| bE h fun x19 h19 h => RT.sliceMF .none 0 x18 rfl rfl ⟨_, rfl⟩ T h19 <| ag rfl <| RT.done <| AInB.n ?_
 obtain rfl := O h
 exact AThen.n ⟨x19, hG10 _ rfl, wR []⟩
 subst hx10
 try dsimp only
 refine AThen.n <| sr <| mv rfl <| ag rfl <| dn <| ok_ret ?_
 obtain rfl := O ho10
 exact R1 rfl
theorem whole_build_fr {x0 : Bool} {x1 : List Nat} (N : Nat) {r : Zr} (h : whole_build_m x0 x1 = some r) : PureN Tryz.prog 77 N [.v (.bool x0), nw N (slc 1 (List.map eU32 x1))] (.agg ((fZ N) r)) := by
 refine pureN_of_ok Tryz.func77 rfl (Nat.le_of_ble_eq_true rfl) (fun wld M vs hN hvs => ?_)
 unfold whole_build_m at h
 refine sr <| al (cs := [.v (.bool false), nw N (slc 1 (List.map eU32 []))]) (by exact ⟨SV.imp_refl _, imp_nilF, trivial⟩) rfl <| dn <| sr <| mv rfl <| bE h fun x6 h6 h => RT.callPN .none (whole_trim_fr N h6) hN rfl ⟨rfl, trivial⟩ T <| ag rfl <| dn <| qq <| sr <| mv rfl <| lE h fun x8 h8 h => RT.lenMF .none rfl T h8 <| lE h fun x9 h9 h => eq _ rfl rfl (eqI (p := x8) (q := 0) h9) <| dn ?_
 cases x9
 refine fs <| sr <| mv rfl <| mv rfl <| bI (cs := [_, _]) (cs' := [.v (.bool x0), nw N (slc 1 (List.map eU32 x6))]) (.one rfl (.one rfl (.nil))) ⟨SV.imp_refl _, SV.imp_refl _, trivial⟩ <| so rfl rfl rfl <| dn <| ok_ret ?_
 obtain rfl := O (F h)
 exact RZ (.agg rfl rfl (.cons rfl (.cons rfl (.nil))) rfl (.nil))
 refine cT <| sr <| bI (cs := [_, _]) (cs' := [.v (.bool false), nw N (slc 1 (List.map eU32 []))]) (.nil) ⟨SV.imp_refl _, imp_nilF, trivial⟩ <| so rfl rfl rfl <| dn <| ok_ret <| AThen.r ?_
 obtain rfl := O (V h)
 exact RZ (.agg rfl rfl (.cons rfl (.cons rfl (.nil))) rfl (.nil))
theorem whole_small_fr {x0 : Bool} {x1 : Nat} (N : Nat) {r : Zr} (h : whole_small_m x0 x1 = some r) : PureN Tryz.prog 82 N [.v (.bool x0), .v (.int .u64 ((x1 : Nat) : Int))] (.agg ((fZ N) r)) := by
 refine pureN_of_ok Tryz.func82 rfl (Nat.le_of_ble_eq_true rfl) (fun wld M vs hN hvs => ?_)
 unfold whole_small_m at h
 refine sr <| al (cs := [.v (.bool false), nw N (slc 1 (List.map eU32 []))]) (by exact ⟨SV.imp_refl _, imp_nilF, trivial⟩) rfl <| dn <| qq <| ok_block <| sr <| mv rfl <| lE h fun x7 h7 h => eq _ rfl rfl (eqN (p := x1) (q := 0) h7) <| ag rfl <| dn ?_
 cases x7
 refine cF <| sr <| mv rfl <| lE (F h) fun x11 h11 h => RT.shr .none _ rfl rfl T (by decide) (shrU (k := .u64) (a := x1) (q := 32) (s := 32) rfl h11) <| lE h fun x12 h12 h => eq _ rfl rfl (eqN (p := x11) (q := 0) h12) <| ag rfl <| dn ?_
 cases x12
 refine cF <| ok_skip <| AInB.n <| AThen.n <| sr <| mv rfl <| mv rfl <| lE (F h) fun x20 h20 h => cv _ rfl (UK.nat h20) <| mv rfl <| lE h fun x22 h22 h => RT.shr .none _ rfl rfl T (by decide) (shrU (k := .u64) (a := x1) (q := 32) (s := 32) rfl h22) <| lE h fun x23 h23 h => cv _ rfl (UK.nat h23) <| RT.buildSlF (l := [x20, x23]) (e := eU32) .none hN (.one rfl (.one rfl (.nil))) T rfl rfl rfl rfl rfl rfl <| bI (cs := [_, _]) (cs' := [.v (.bool x0), nw N (slc 1 (List.map eU32 [x20, x23]))]) (.one rfl (.one rfl (.nil))) ⟨SV.imp_refl _, SV.imp_refl _, trivial⟩ ?_
 refine so rfl rfl rfl <| dn <| ok_ret ?_
 obtain rfl := O h
 exact RZ (.agg rfl rfl (.cons rfl (.cons rfl (.nil))) rfl (.nil))
 refine cT <| sr <| mv rfl <| mv rfl <| lE (V h) fun x15 h15 h => cv _ rfl (UK.nat h15) <| RT.buildSlF (l := [x15]) (e := eU32) .none hN (.one rfl (.nil)) T rfl rfl rfl rfl rfl rfl <| bI (cs := [_, _]) (cs' := [.v (.bool x0), nw N (slc 1 (List.map eU32 [x15]))]) (.one rfl (.one rfl (.nil))) ⟨SV.imp_refl _, SV.imp_refl _, trivial⟩ <| so rfl rfl rfl <| dn <| ok_ret <| AInB.r <| AThen.r ?_
 obtain rfl := O h
 exact RZ (.agg rfl rfl (.cons rfl (.cons rfl (.nil))) rfl (.nil))
 refine cT <| sr <| bI (cs := [_, _]) (cs' := [.v (.bool false), nw N (slc 1 (List.map eU32 []))]) (.nil) ⟨SV.imp_refl _, imp_nilF, trivial⟩ <| so rfl rfl rfl <| dn <| ok_ret <| AInB.r <| AThen.r ?_
 obtain rfl := O (V h)
 exact RZ (.agg rfl rfl (.cons rfl (.cons rfl (.nil))) rfl (.nil))
theorem whole_addWords_fr {x0 : List Nat} {x1 : List Nat} (N : Nat) {r : List Nat} (h : whole_addWords_m x0 x1 = some r) : PureN Tryz.prog 116 N [slc 1 (List.map eU32 x0), slc 1 (List.map eU32 x1)] (nw N (slc 1 (List.map eU32 r))) := by
 refine pureN_of_ok Tryz.func116 rfl (Nat.le_of_ble_eq_true rfl) (fun wld M vs hN hvs => ?_)
 unfold whole_addWords_m at h
 refine sr <| aI rfl (imp_nilF (N := N) (n := 1) (e := eU32)) <| dn <| sr <| mv rfl <| lE h fun x10 h10 h => ln rfl h10 <| mv rfl <| lE h fun x12 h12 h => ln rfl h12 <| lE h fun x13 h13 h => RT.max .none _ rfl rfl T (maxI (p := x10) (q := x12) h13) <| lE h fun x14 h14 h => ad _ rfl rfl h14 <| bE h fun x15 h15 h => RT.mkEmp (e := eU32) .none rfl rfl T rfl T h15 <| RT.alloc .none T rfl rfl <| RT.storeR (cells := [_]) .none rfl rfl rfl rfl T rfl <| dn <| sr ?_
 refine RT.callF .none (whole_carrier_ok 0) rfl ⟨rfl, trivial⟩ T rfl rfl <| RT.alloc .none T rfl rfl <| RT.storeV (cells := [_]) .none (s := .clo _ _) rfl rfl rfl T rfl <| dn <| qq <| sr <| mv rfl <| mv rfl <| cl (whole_pairs_ok x0 x1) ⟨rfl, rfl, trivial⟩ <| dn <| ok_block <| bE h fun e7 hl7 ho7 => ?_
 obtain ⟨st7, hs7, ht7, hn7⟩ := rangeM_st hl7
 refine ok_rangeFunc (whole_pairs_it x0 x1) (fun _ _ _ _ _ => trivial) rfl (fun k => AS.mkL 35 [(5, .ptr 5 0), (6, .ptr 6 0), (19, .sv (cloS 128 [ref [slc 1 (List.map eU32 x0)], ref [slc 1 (List.map eU32 x1)]]))] [(6, ⟨120, [.clo 123 [.box 16]]⟩), (16, ⟨98, [.sv (.v (.int .u64 (((st7 k).1 : Nat) : Int)))]⟩), (5, ⟨38, [.row 302]⟩)] [(302, TR 64 1 eU32 (st7 k).2)]) [6, 16, 5] rfl (fun _ => ⟨rfl, rfl⟩) (rangeT rfl) (fun _ => rfl) (rangeP rfl) (by (try dsimp only); rw [hs7]; (try dsimp only); exact weakL (fun i => bif Nat.beq i 302 then 15 else i) rfl rfl rfl rfl rfl ⟨.ptr, .ptr, .sv (SV.imp_refl _), trivial⟩ ⟨⟨_, rfl, ⟨.clo, trivial⟩⟩, ⟨_, rfl, ⟨.sv (SV.imp_refl _), trivial⟩⟩, ⟨_, rfl, ⟨.row rfl, trivial⟩⟩, trivial⟩ ⟨⟨_, rfl, SVIs.refl _⟩, trivial⟩ (fun i hi => by rw [beq_ne (show i ≠ 302 by omega)]; rfl)) (fun k hk D hD => ?_) ?_
 have h := ht7 k hk
 obtain ⟨sk, hsk⟩ : ∃ q, st7 k = q := ⟨_, rfl⟩
 rw [hsk] at h ⊢
 obtain ⟨b16_0l4, r302l4⟩ := sk
 dsimp only [AS.inR, setPs]
 try dsimp only at h
 refine lE h fun p20 hp20 h => ?_
 rw [hp20]
 refine lE h fun p21 hp21 h => ?_
 rw [hp21]
 refine sr <| ag rfl <| dn <| ok_region <| ag rfl <| RT.done ?_
 refine AThen.n ⟨rfl, ?_⟩
 dsimp only [AS.goOn]
 refine ok_block <| ok_region_draw mixed <| RT.loadV .none (s := .row _) rfl rfl rfl T <| RT.loadV .none (s := .clo _ _) rfl rfl rfl T <| mv rfl <| mv rfl <| lE h fun x26 h26 h => ad _ rfl rfl (UK.add (a := p20) (b := p21) h26) ?_
 obtain ⟨⟨x27, k9⟩, h27, h⟩ := bS h
 refine cB (whole_carrier_1_ok h27) 16 rfl ⟨rfl, trivial⟩ <| bl (l := [x27]) (e := eU32) (.one rfl (.nil)) rfl rfl rfl rfl rfl rfl <| bE h fun x29 h29 h => aR (k := [x27]) (e := eU32) rfl rfl rfl h29 <| RT.storeR (cells := [_]) .none rfl rfl rfl rfl T rfl ?_
 refine RT.done ⟨by kernel_rfl, ?_⟩
 refine AInB.n ?_
 replace h := Option.some.inj h
 refine ⟨trivial, rfl, rfl, ?_⟩
 try dsimp only
 rw [← h]
 try dsimp only
 exact weakL (fun i => bif Nat.beq i 302 then 29 else i) rfl rfl rfl rfl rfl ⟨.ptr, .ptr, .sv (SV.imp_refl _), trivial⟩ ⟨⟨_, rfl, ⟨.clo, trivial⟩⟩, ⟨_, rfl, ⟨.sv (SV.imp_refl _), trivial⟩⟩, ⟨_, rfl, ⟨.row rfl, trivial⟩⟩, trivial⟩ ⟨⟨_, rfl, SVIs.refl _⟩, trivial⟩ (fun i hi => by rw [beq_ne (show i ≠ 302 by omega)]; rfl)
 rw [hn7]
 obtain ⟨b16_0l4, r302l4⟩ := e7
 try dsimp only
 refine AInB.n <| AThen.n <| qq <| ok_region_draw mixed <| RT.loadV .none (s := .row _) rfl rfl rfl T <| RT.loadV .none (s := .clo _ _) rfl rfl rfl T ?_
 obtain ⟨⟨x32, k11⟩, h32, ho7⟩ := bS ho7
 refine cB (whole_carrier_1_ok h32) 16 rfl ⟨rfl, trivial⟩ <| bl (l := [x32]) (e := eU32) (.one rfl (.nil)) rfl rfl rfl rfl rfl rfl <| bE ho7 fun x34 h34 ho7 => RT.apIRF (k := [x32]) (e := eU32) .none hN (fun _ h => h) rfl rfl rfl T rfl T h34 <| ag rfl ?_
 refine RT.done ⟨by kernel_rfl, ?_⟩
 refine AThen.n <| ok_ret ?_
 obtain rfl := O ho7
 exact R1 rfl
theorem whole_subWords_fr {x0 : List Nat} {x1 : List Nat} (N : Nat) {r : List Nat} (h : whole_subWords_m x0 x1 = some r) : PureN Tryz.prog 117 N [slc 1 (List.map eU32 x0), slc 1 (List.map eU32 x1)] (nw N (slc 1 (List.map eU32 r))) := by
 refine pureN_of_ok Tryz.func117 rfl (Nat.le_of_ble_eq_true rfl) (fun wld M vs hN hvs => ?_)
 unfold whole_subWords_m at h
 refine sr <| aI rfl (imp_nilF (N := N) (n := 1) (e := eU32)) <| dn <| sr <| mv rfl <| lE h fun x10 h10 h => ln rfl h10 <| bE h fun x11 h11 h => RT.mkEmp (e := eU32) .none rfl rfl T rfl T h11 <| RT.alloc .none T rfl rfl <| RT.storeR (cells := [_]) .none rfl rfl rfl rfl T rfl <| dn <| sr <| RT.callF .none (whole_carrier_ok 1) rfl ⟨rfl, trivial⟩ T rfl rfl <| RT.alloc .none T rfl rfl <| RT.storeV (cells := [_]) .none (s := .clo _ _) rfl rfl rfl T rfl <| dn <| qq <| sr <| mv rfl ?_
 refine mv rfl <| cl (whole_pairs_ok x0 x1) ⟨rfl, rfl, trivial⟩ <| dn <| ok_block <| bE h fun e7 hl7 ho7 => ?_
 obtain ⟨st7, hs7, ht7, hn7⟩ := rangeM_st hl7
 refine ok_rangeFunc (whole_pairs_it x0 x1) (fun _ _ _ _ _ => trivial) rfl (fun k => AS.mkL 28 [(5, .ptr 5 0), (6, .ptr 6 0), (15, .sv (cloS 128 [ref [slc 1 (List.map eU32 x0)], ref [slc 1 (List.map eU32 x1)]]))] [(6, ⟨120, [.clo 123 [.box 12]]⟩), (12, ⟨98, [.sv (.v (.int .u64 (((st7 k).1 : Nat) : Int)))]⟩), (5, ⟨38, [.row 302]⟩)] [(302, TR 64 1 eU32 (st7 k).2)]) [6, 12, 5] rfl (fun _ => ⟨rfl, rfl⟩) (rangeT rfl) (fun _ => rfl) (rangeP rfl) (by (try dsimp only); rw [hs7]; (try dsimp only); exact weakL (fun i => bif Nat.beq i 302 then 11 else i) rfl rfl rfl rfl rfl ⟨.ptr, .ptr, .sv (SV.imp_refl _), trivial⟩ ⟨⟨_, rfl, ⟨.clo, trivial⟩⟩, ⟨_, rfl, ⟨.sv (SV.imp_refl _), trivial⟩⟩, ⟨_, rfl, ⟨.row rfl, trivial⟩⟩, trivial⟩ ⟨⟨_, rfl, SVIs.refl _⟩, trivial⟩ (fun i hi => by rw [beq_ne (show i ≠ 302 by omega)]; rfl)) (fun k hk D hD => ?_) ?_
 have h := ht7 k hk
 obtain ⟨sk, hsk⟩ : ∃ q, st7 k = q := ⟨_, rfl⟩
 rw [hsk] at h ⊢
 obtain ⟨b12_0l4, r302l4⟩ := sk
 dsimp only [AS.inR, setPs]
 try dsimp only at h
 refine lE h fun p16 hp16 h => ?_
 rw [hp16]
 refine lE h fun p17 hp17 h => ?_
 rw [hp17]
 refine sr <| ag rfl <| dn <| ok_region <| ag rfl <| RT.done ?_
 refine AThen.n ⟨rfl, ?_⟩
 dsimp only [AS.goOn]
 refine ok_block <| ok_region_draw mixed <| RT.loadV .none (s := .row _) rfl rfl rfl T <| RT.loadV .none (s := .clo _ _) rfl rfl rfl T <| mv rfl <| mv rfl <| lE h fun x22 h22 h => sb _ rfl rfl (UK.sub (a := 4294967295) (b := p17) h22) <| lE h fun x23 h23 h => ad _ rfl rfl (UK.add (a := p16) (b := x22) h23) ?_
 obtain ⟨⟨x24, k9⟩, h24, h⟩ := bS h
 refine cB (whole_carrier_1_ok h24) 12 rfl ⟨rfl, trivial⟩ <| bl (l := [x24]) (e := eU32) (.one rfl (.nil)) rfl rfl rfl rfl rfl rfl <| bE h fun x26 h26 h => aR (k := [x24]) (e := eU32) rfl rfl rfl h26 <| RT.storeR (cells := [_]) .none rfl rfl rfl rfl T rfl ?_
 refine RT.done ⟨by kernel_rfl, ?_⟩
 refine AInB.n ?_
 replace h := Option.some.inj h
 refine ⟨trivial, rfl, rfl, ?_⟩
 try dsimp only
 rw [← h]
 try dsimp only
 exact weakL (fun i => bif Nat.beq i 302 then 26 else i) rfl rfl rfl rfl rfl ⟨.ptr, .ptr, .sv (SV.imp_refl _), trivial⟩ ⟨⟨_, rfl, ⟨.clo, trivial⟩⟩, ⟨_, rfl, ⟨.sv (SV.imp_refl _), trivial⟩⟩, ⟨_, rfl, ⟨.row rfl, trivial⟩⟩, trivial⟩ ⟨⟨_, rfl, SVIs.refl _⟩, trivial⟩ (fun i hi => by rw [beq_ne (show i ≠ 302 by omega)]; rfl)
 rw [hn7]
 obtain ⟨b12_0l4, r302l4⟩ := e7
 try dsimp only
 refine AInB.n <| AThen.n <| sr <| RT.loadV .none (s := .row _) rfl rfl rfl T <| an (s := .row _) rfl <| dn <| ok_frzF (i := 302) (E1 := 64) (n := 1) (e := eU32) (l := r302l4) hN (fun _ h => h) rfl <| ok_ret ?_
 obtain rfl := O ho7
 exact R1 rfl
theorem whole_mulWords_fr {x0 : List Nat} {x1 : List Nat} (N : Nat) {r : List Nat} (h : whole_mulWords_m x0 x1 = some r) : PureN Tryz.prog 101 N [slc 1 (List.map eU32 x0), slc 1 (List.map eU32 x1)] (nw N (slc 1 (List.map eU32 r))) := by
 refine pureN_of_ok Tryz.func101 rfl (Nat.le_of_ble_eq_true rfl) (fun wld M vs hN hvs => ?_)
 unfold whole_mulWords_m at h
 refine sr <| aI rfl (imp_nilF (N := N) (n := 1) (e := eU32)) <| dn <| sr <| mv rfl <| lE h fun x12 h12 h => ln rfl h12 <| mv rfl <| lE h fun x14 h14 h => ln rfl h14 <| lE h fun x15 h15 h => ad _ rfl rfl h15 <| bE h fun x16 h16 h => RT.mkRow (n := 1) (e := eU32) .none rfl rfl T rfl T (by rfl) (by decide) (by exact ⟨SV.imp_refl _, trivial⟩) h16 <| an (s := .row _) rfl <| dn <| qq <| sr <| mv rfl <| lE h fun x18 h18 h => ln rfl h18 ?_
 refine mv rfl <| dn <| bE h fun e28 hl28 ho28 => ?_
 refine ok_tailP (fun (r16e27 : (List Nat)) => AS.mkL 63 [(5, .row 16)] [] [(16, TR 64 1 eU32 r16e27)]) (fun r16e27 => r16e27 = e28) ?_ (fun r16e27 hx28 => ?_)
 refine ok_block ?_
 refine ok_loopM hl28 (fun s28 => AS.mkL 63 [(1, .sv (slc 1 (List.map eU32 x1))), (5, .row 16), (17, .sv (slc 1 (List.map eU32 x0))), (18, .sv (.v (.int .i64 x18))), (19, .sv (.v (.int .i64 s28.1)))] [] [(16, TR 64 1 eU32 s28.2)]) (wR []) (fun s28 y28 G28 h hG28 hE28 => ?_)
 obtain ⟨y19l14, r16l14⟩ := s28
 try dsimp only
 refine sr <| lE h fun x20 h20 h => ls _ rfl rfl h20 <| dn <| qq ?_
 cases x20
 refine cF <| ok_exit <| AThen.x <| AThen.x <| AInB.x <| AThen.n ?_
 obtain rfl := O (F h)
 exact ⟨r16l14, hE28 _ rfl, wR []⟩
 refine cT <| ok_skip <| AThen.n <| qq <| ok_block <| sr <| mv rfl <| bE (V h) fun x22 h22 h => ix rfl rfl h22 <| lr rfl rfl <| ag rfl <| ag rfl <| dn <| sr <| RT.callF .none (whole_carrier_ok 0) rfl ⟨rfl, trivial⟩ T rfl rfl <| an (s := .clo _ _) rfl <| dn <| qq <| sr <| mv rfl <| lE h fun x26 h26 h => ln rfl h26 <| mv rfl <| dn <| bE h fun e38 hl38 ho38 => ?_
 refine ok_tailP (fun (xe38 : Nat × (List Nat)) => AS.mkL 63 [(1, .sv (slc 1 (List.map eU32 x1))), (5, .row 16), (6, .sv (.v (.int .i64 y19l14))), (8, .clo 123 [.box 24]), (17, .sv (slc 1 (List.map eU32 x0))), (18, .sv (.v (.int .i64 x18))), (19, .sv (.v (.int .i64 y19l14)))] [(24, ⟨98, [.sv (.v (.int .u64 ((xe38.1 : Nat) : Int)))]⟩)] [(16, TR 64 1 eU32 xe38.2)]) (fun xe38 => xe38 = e38) ?_ (fun xe38 hx38 => ?_)
 refine ok_block ?_
 refine ok_loopM hl38 (fun s38 => AS.mkL 63 [(1, .sv (slc 1 (List.map eU32 x1))), (5, .row 16), (6, .sv (.v (.int .i64 y19l14))), (7, .sv (.v (.int .u32 ((x22 : Nat) : Int)))), (8, .clo 123 [.box 24]), (17, .sv (slc 1 (List.map eU32 x0))), (18, .sv (.v (.int .i64 x18))), (19, .sv (.v (.int .i64 y19l14))), (25, .sv (slc 1 (List.map eU32 x1))), (26, .sv (.v (.int .i64 x26))), (27, .sv (.v (.int .i64 s38.1)))] [(24, ⟨98, [.sv (.v (.int .u64 ((s38.2.1 : Nat) : Int)))]⟩)] [(16, TR 64 1 eU32 s38.2.2)]) (wR []) (fun s38 y38 G38 h hG38 hE38 => ?_)
 obtain ⟨y27l33, b24_0l33, r16l33⟩ := s38
 try dsimp only
 refine sr <| lE h fun x28 h28 h => ls _ rfl rfl h28 <| dn <| qq ?_
 cases x28
 refine cF <| ok_exit <| AThen.x <| AThen.x <| AInB.x <| AThen.n ?_
 obtain rfl := O (F h)
 exact ⟨(b24_0l33, r16l33), hE38 _ rfl, wR []⟩
 refine cT <| ok_skip <| AThen.n <| qq <| ok_block <| sr <| mv rfl <| bE (V h) fun x30 h30 h => ix rfl rfl h30 <| lr rfl rfl <| ag rfl <| ag rfl <| dn <| ok_region <| mo (s := .row _) rfl <| mv rfl <| mv rfl <| lE h fun x35 h35 h => ad _ rfl rfl h35 <| mo (s := .clo _ _) rfl <| mo (s := .row _) rfl <| mv rfl <| mv rfl <| lE h fun x40 h40 h => ad _ rfl rfl h40 <| bE h fun x41 h41 h => iR rfl rfl rfl h41 ?_
 refine bE h fun x42 h42 h => lR rfl rfl h42 rfl <| lE h fun x43 h43 h => cv _ rfl (UK.nat h43) <| mv rfl <| lE h fun x45 h45 h => cv _ rfl (UK.nat h45) <| mv rfl <| lE h fun x47 h47 h => cv _ rfl (UK.nat h47) <| lE h fun x48 h48 h => RT.mul .none _ rfl rfl T (UK.mul (a := x45) (b := x47) h48) <| lE h fun x49 h49 h => ad _ rfl rfl (UK.add (a := x43) (b := x48) h49) ?_
 obtain ⟨⟨x50, k41⟩, h50, h⟩ := bS h
 refine cB (whole_carrier_1_ok h50) 24 rfl ⟨rfl, trivial⟩ <| bE h fun x51 h51 h => iR rfl rfl rfl h51 <| bE h fun l42 hl42_ h => sR x50 rfl rfl rfl rfl hl42_ <| RT.done <| AInB.n <| AThen.n <| ok_region <| lE h fun x52 h52 h => ad _ rfl rfl h52 <| mv rfl <| RT.done ?_
 obtain rfl := O h
 exact AThen.n ⟨(x52, k41, l42), hG38 _ rfl, wR []⟩
 subst hx38
 obtain ⟨b24_0e37, r16e37⟩ := xe38
 try dsimp only
 refine AThen.n <| ok_region <| mo (s := .row _) rfl <| mv rfl <| mv rfl <| lE ho38 fun x56 h56 ho38 => ln rfl h56 <| lE ho38 fun x57 h57 ho38 => ad _ rfl rfl h57 <| mo (s := .clo _ _) rfl ?_
 obtain ⟨⟨x59, k45⟩, h59, ho38⟩ := bS ho38
 refine cB (whole_carrier_1_ok h59) 24 rfl ⟨rfl, trivial⟩ <| bE ho38 fun x60 h60 ho38 => iR rfl rfl rfl h60 <| bE ho38 fun l46 hl46_ ho38 => sR x59 rfl rfl rfl rfl hl46_ <| RT.done <| AInB.n <| AThen.n <| ok_region <| lE ho38 fun x61 h61 ho38 => ad _ rfl rfl h61 <| mv rfl <| RT.done ?_
 obtain rfl := O ho38
 exact AThen.n ⟨(x61, l46), hG28 _ rfl, wR []⟩
 subst hx28
 try dsimp only
 refine AThen.n <| sr <| mo (s := .row _) rfl <| an (s := .row _) rfl <| dn <| ok_frzF (i := 16) (E1 := 64) (n := 1) (e := eU32) (l := r16e27) hN (fun _ h => h) rfl <| ok_ret ?_
 obtain rfl := O ho28
 exact R1 rfl
set_option maxHeartbeats 4000000 in
theorem whole_longDiv_fr {x0 : List Nat} {x1 : List Nat} (N : Nat) {r : (List Nat) × (List Nat)} (h : whole_longDiv_m x0 x1 = some r) : PureN Tryz.prog 121 N [slc 1 (List.map eU32 x0), slc 1 (List.map eU32 x1)] (.tup [nw N (slc 1 (List.map eU32 r.1)), nw N (slc 1 (List.map eU32 r.2))]) := by
 refine pureN_of_ok Tryz.func121 rfl (Nat.le_of_ble_eq_true rfl) (fun wld M vs hN hvs => ?_)
 unfold whole_longDiv_m at h
 refine sr <| ag rfl <| ag rfl <| dn <| ok_weak (weak_nil 4 306 64 1 rfl rfl T) <| ok_weak (weak_nil 5 308 64 1 rfl rfl T) <| sr <| mv rfl <| lE h fun x17 h17 h => ln rfl h17 <| ag rfl <| dn <| sr <| mv rfl <| mv rfl <| lE h fun x20 h20 h => sb _ rfl rfl h20 <| bE h fun x21 h21 h => ix rfl rfl h21 <| lr rfl rfl <| bE h fun x23 h23 h => cl (math_bits_LeadingZeros32_ok h23) ⟨rfl, trivial⟩ ?_
 refine lE h fun x24 h24 h => cv _ rfl (UK.conv h24) <| ag rfl <| dn <| qq <| ok_region_draw mixed <| mv rfl <| mv rfl <| bE h fun x27 h27 h => cN (whole_shiftLeftN_ok h27) ⟨rfl, rfl, trivial⟩ <| mv rfl <| mv rfl <| bE h fun x30 h30 h => cl (whole_shiftLeft_ok h30) ⟨rfl, rfl, trivial⟩ <| mv rfl <| bE h fun x32 h32 h => RT.sliceM .none 0 x17 rfl rfl ⟨_, rfl⟩ T h32 <| an (s := .row _) rfl <| ag rfl ?_
 refine RT.done ⟨by kernel_rfl, ?_⟩
 refine AThen.n <| sr <| mv rfl <| lE h fun x34 h34 h => ln rfl h34 <| mv rfl <| lE h fun x36 h36 h => sb _ rfl rfl h36 <| lE h fun x37 h37 h => ad _ rfl rfl h37 <| bE h fun x38 h38 h => RT.mkRow (n := 1) (e := eU32) .none rfl rfl T rfl T (by rfl) (by decide) (by exact ⟨SV.imp_refl _, trivial⟩) h38 <| an (s := .row _) rfl <| dn <| qq <| sr <| mv rfl <| lE h fun x40 h40 h => ln rfl h40 <| mv rfl <| lE h fun x42 h42 h => sb _ rfl rfl h42 ?_
 refine ag rfl <| dn <| bE h fun e36 hl36 ho36 => ?_
 refine ok_tailP (fun (xe36 : (List Nat) × (List Nat)) => AS.mkL 141 [(4, .row 38), (6, .sv (.v (.int .i64 x17))), (7, .sv (.v (.int .u64 ((x24 : Nat) : Int)))), (8, .row 27)] [] [(38, TR 64 1 eU32 xe36.1), (27, TR 64 1 eU32 xe36.2)]) (fun xe36 => xe36 = e36) ?_ (fun xe36 hx36 => ?_)
 refine ok_block ?_
 refine ok_loopM hl36 (fun s36 => AS.mkL 141 [(4, .row 38), (6, .sv (.v (.int .i64 x17))), (7, .sv (.v (.int .u64 ((x24 : Nat) : Int)))), (8, .row 27), (9, .sv (slc 1 (List.map eU32 x32))), (10, .sv (.v (.int .i64 s36.1)))] [] [(38, TR 64 1 eU32 s36.2.1), (27, TR 64 1 eU32 s36.2.2)]) (wR []) (fun s36 y36 G36 h hG36 hE36 => ?_)
 obtain ⟨y10l18, r38l18, r27l18⟩ := s36
 try dsimp only
 refine qq <| sr <| mv rfl <| lE h fun x44 h44 h => ge _ rfl rfl h44 <| dn ?_
 cases x44
 refine cF <| ok_exit <| AThen.x <| AThen.x <| AInB.x <| AThen.n ?_
 obtain rfl := O (F h)
 exact ⟨(r38l18, r27l18), hE36 _ rfl, wR []⟩
 refine cT <| ok_skip <| AThen.n <| qq <| ok_block <| sr <| mo (s := .row _) rfl <| mv rfl <| mv rfl <| mv rfl <| lE (V h) fun x51 h51 h => ad _ rfl rfl h51 <| lE h fun x52 h52 h => ad _ rfl rfl h52 ?_
 obtain ⟨⟨o53, n53⟩, h53, h⟩ := bS h
 refine RT.slRM .none y10l18 x52 rfl rfl ⟨_, rfl⟩ ⟨_, rfl⟩ T h53 <| mv rfl ?_
 obtain ⟨⟨x55, l38⟩, h55, h⟩ := bS h
 refine bE h fun _ he38 h => cR (l := r27l18) (l' := l38) (e := eU32) (whole_estimate_ok h55) (eqLen_some he38) 27 rfl (.cons rfl (.cons rfl (.nil))) <| ag rfl <| dn <| qq <| sr <| mo (s := .row _) rfl <| mv rfl <| mv rfl <| mv rfl <| lE h fun x60 h60 h => ad _ rfl rfl h60 <| lE h fun x61 h61 h => ad _ rfl rfl h61 ?_
 obtain ⟨⟨o62, n62⟩, h62, h⟩ := bS h
 refine RT.slRM .none y10l18 x61 rfl rfl ⟨_, rfl⟩ ⟨_, rfl⟩ T h62 <| mv rfl <| mv rfl ?_
 obtain ⟨⟨x65, l40⟩, h65, h⟩ := bS h
 refine bE h fun _ he40 h => cR (l := l38) (l' := l40) (e := eU32) (whole_subtractMultiple_ok h65) (eqLen_some he40) 27 rfl (.cons rfl (.cons rfl (.cons rfl (.nil)))) <| dn ?_
 refine ok_tailJ h (fun j53 => AS.mkL 141 [(4, .row 38), (6, .sv (.v (.int .i64 x17))), (7, .sv (.v (.int .u64 ((x24 : Nat) : Int)))), (8, .row 27), (9, .sv (slc 1 (List.map eU32 x32))), (10, .sv (.v (.int .i64 y10l18))), (11, .sv (.v (.int .u64 ((j53.1 : Nat) : Int))))] [] [(38, TR 64 1 eU32 r38l18), (27, TR 64 1 eU32 j53.2)]) (fun h => ?_) (fun j53 h => ?_)
 cases x65
 exact fs <| ⟨(x55, l40), (F h), wR []⟩
 refine cT <| sr <| mv rfl <| lE (V h) fun x67 h67 h => sb _ rfl rfl (UK.sub (a := x55) (b := 1) h67) <| ag rfl <| dn <| sr <| RT.callF .none (whole_carrier_ok 0) rfl ⟨rfl, trivial⟩ T rfl rfl <| an (s := .clo _ _) rfl <| dn <| qq <| sr <| mv rfl <| lE h fun x70 h70 h => ln rfl h70 <| mv rfl <| dn <| bE h fun e65 hl65 ho65 => ?_
 refine ok_tailP (fun (xe65 : Nat × (List Nat)) => AS.mkL 141 [(4, .row 38), (6, .sv (.v (.int .i64 x17))), (7, .sv (.v (.int .u64 ((x24 : Nat) : Int)))), (8, .row 27), (9, .sv (slc 1 (List.map eU32 x32))), (10, .sv (.v (.int .i64 y10l18))), (11, .sv (.v (.int .u64 ((x67 : Nat) : Int)))), (12, .clo 123 [.box 68])] [(68, ⟨98, [.sv (.v (.int .u64 ((xe65.1 : Nat) : Int)))]⟩)] [(38, TR 64 1 eU32 r38l18), (27, TR 64 1 eU32 xe65.2)]) (fun xe65 => xe65 = e65) ?_ (fun xe65 hx65 => ?_)
 refine ok_block ?_
 refine ok_loopM hl65 (fun s65 => AS.mkL 141 [(4, .row 38), (6, .sv (.v (.int .i64 x17))), (7, .sv (.v (.int .u64 ((x24 : Nat) : Int)))), (8, .row 27), (9, .sv (slc 1 (List.map eU32 x32))), (10, .sv (.v (.int .i64 y10l18))), (11, .sv (.v (.int .u64 ((x67 : Nat) : Int)))), (12, .clo 123 [.box 68]), (69, .sv (slc 1 (List.map eU32 x32))), (70, .sv (.v (.int .i64 x70))), (71, .sv (.v (.int .i64 s65.1)))] [(68, ⟨98, [.sv (.v (.int .u64 ((s65.2.1 : Nat) : Int)))]⟩)] [(38, TR 64 1 eU32 r38l18), (27, TR 64 1 eU32 s65.2.2)]) (wR []) (fun s65 y65 G65 h hG65 hE65 => ?_)
 obtain ⟨y71l60, b68_0l60, r27l60⟩ := s65
 try dsimp only
 refine sr <| lE h fun x72 h72 h => ls _ rfl rfl h72 <| dn <| qq ?_
 cases x72
 refine cF <| ok_exit <| AThen.x <| AThen.x <| AInB.x <| AThen.n ?_
 obtain rfl := O (F h)
 exact ⟨(b68_0l60, r27l60), hE65 _ rfl, wR []⟩
 refine cT <| ok_skip <| AThen.n <| qq <| ok_block <| sr <| mv rfl <| bE (V h) fun x74 h74 h => ix rfl rfl h74 <| lr rfl rfl <| ag rfl <| ag rfl <| dn <| ok_region <| mo (s := .row _) rfl <| mv rfl <| mv rfl <| lE h fun x79 h79 h => ad _ rfl rfl h79 <| mo (s := .clo _ _) rfl <| mo (s := .row _) rfl <| mv rfl <| mv rfl <| lE h fun x84 h84 h => ad _ rfl rfl h84 <| bE h fun x85 h85 h => iR rfl rfl rfl h85 ?_
 refine bE h fun x86 h86 h => lR rfl rfl h86 rfl <| lE h fun x87 h87 h => cv _ rfl (UK.nat h87) <| mv rfl <| lE h fun x89 h89 h => cv _ rfl (UK.nat h89) <| lE h fun x90 h90 h => ad _ rfl rfl (UK.add (a := x87) (b := x89) h90) ?_
 obtain ⟨⟨x91, k68⟩, h91, h⟩ := bS h
 refine cB (whole_carrier_1_ok h91) 68 rfl ⟨rfl, trivial⟩ <| bE h fun x92 h92 h => iR rfl rfl rfl h92 <| bE h fun l69 hl69_ h => sR x91 rfl rfl rfl rfl hl69_ <| RT.done <| AInB.n <| AThen.n <| ok_region <| lE h fun x93 h93 h => ad _ rfl rfl h93 <| mv rfl <| RT.done ?_
 obtain rfl := O h
 exact AThen.n ⟨(x93, k68, l69), hG65 _ rfl, wR []⟩
 subst hx65
 obtain ⟨b68_0e64, r27e64⟩ := xe65
 try dsimp only
 refine AThen.n <| ok_region <| mo (s := .row _) rfl <| mv rfl <| mv rfl <| lE ho65 fun x97 h97 ho65 => ad _ rfl rfl h97 <| mo (s := .clo _ _) rfl <| mo (s := .row _) rfl <| mv rfl <| mv rfl <| lE ho65 fun x102 h102 ho65 => ad _ rfl rfl h102 <| bE ho65 fun x103 h103 ho65 => iR rfl rfl rfl h103 <| bE ho65 fun x104 h104 ho65 => lR rfl rfl h104 rfl <| lE ho65 fun x105 h105 ho65 => cv _ rfl (UK.nat h105) ?_
 obtain ⟨⟨x106, k72⟩, h106, ho65⟩ := bS ho65
 exact cB (whole_carrier_1_ok h106) 68 rfl ⟨rfl, trivial⟩ <| bE ho65 fun x107 h107 ho65 => iR rfl rfl rfl h107 <| bE ho65 fun l73 hl73_ ho65 => sR x106 rfl rfl rfl rfl hl73_ <| dn <| ⟨(x67, l73), ho65, wR []⟩
 obtain ⟨y11j52, r27j52⟩ := j53
 try dsimp only
 refine AThen.n <| ok_region <| mo (s := .row _) rfl <| mv rfl <| mv rfl <| lE h fun x111 h111 h => cv _ rfl (UK.nat h111) <| bE h fun x112 h112 h => iR rfl rfl rfl h112 <| bE h fun l55 hl55_ h => sR x111 rfl rfl rfl rfl hl55_ <| RT.done <| AInB.n <| AThen.n <| ok_region <| mv rfl <| lE h fun x46 h46 h => sb _ rfl rfl h46 <| ag rfl <| RT.done ?_
 obtain rfl := O h
 exact AThen.n ⟨(x46, l55, r27j52), hG36 _ rfl, wR []⟩
 subst hx36
 obtain ⟨r38e35, r27e35⟩ := xe36
 try dsimp only
 refine AThen.n <| sr <| mv rfl <| bE ho36 fun x114 h114 ho36 => RT.mkRow (n := 1) (e := eU32) .none rfl rfl T rfl T (by rfl) (by decide) (by exact ⟨SV.imp_refl _, trivial⟩) h114 <| an (s := .row _) rfl <| dn <| qq <| sr <| mv rfl <| mv rfl <| dn <| bE ho36 fun e81 hl81 ho81 => ?_
 refine ok_tailP (fun (r114e80 : (List Nat)) => AS.mkL 141 [(4, .row 38), (5, .row 114)] [] [(38, TR 64 1 eU32 r38e35), (114, TR 64 1 eU32 r114e80)]) (fun r114e80 => r114e80 = e81) ?_ (fun r114e80 hx81 => ?_)
 refine ok_block ?_
 refine ok_loopM hl81 (fun s81 => AS.mkL 141 [(4, .row 38), (5, .row 114), (7, .sv (.v (.int .u64 ((x24 : Nat) : Int)))), (8, .row 27), (115, .sv (.v (.int .i64 x17))), (116, .sv (.v (.int .i64 s81.1)))] [] [(38, TR 64 1 eU32 r38e35), (114, TR 64 1 eU32 s81.2), (27, TR 64 1 eU32 r27e35)]) (wR []) (fun s81 y81 G81 h hG81 hE81 => ?_)
 obtain ⟨y116l77, r114l77⟩ := s81
 try dsimp only
 refine sr <| lE h fun x117 h117 h => ls _ rfl rfl h117 <| dn <| qq ?_
 cases x117
 refine cF <| ok_exit <| AThen.x <| AThen.x <| AInB.x <| AThen.n ?_
 obtain rfl := O (F h)
 exact ⟨r114l77, hE81 _ rfl, wR []⟩
 refine cT <| ok_skip <| AThen.n <| qq <| ok_block <| sr <| mv rfl <| ag rfl <| dn <| ok_region_draw mixed <| mo (s := .row _) rfl <| mv rfl <| mo (s := .row _) rfl <| mv rfl <| bE (V h) fun x123 h123 h => iR rfl rfl rfl h123 <| bE h fun x124 h124 h => lR rfl rfl h124 rfl <| lE h fun x125 h125 h => cv _ rfl (UK.nat h125) <| mo (s := .row _) rfl <| mv rfl <| lE h fun x128 h128 h => ad _ rfl rfl h128 <| bE h fun x129 h129 h => ?_
 refine iR rfl rfl rfl h129 <| bE h fun x130 h130 h => lR rfl rfl h130 rfl <| lE h fun x131 h131 h => cv _ rfl (UK.nat h131) <| lE h fun x132 h132 h => RT.shl .none _ rfl rfl T (by decide) (UK.shl (a := x131) (q := 32) (s := 32) rfl h132) <| lE h fun x133 h133 h => RT.or .none _ rfl rfl T (UK.or (a := x125) (b := x132) h133) <| mv rfl <| lE h fun x135 h135 h => RT.shr .none _ rfl rfl T (Int.natCast_nonneg _) (shrU (k := .u64) (a := x133) (q := ((x24 : Nat) : Int)) (s := min x24 64) rfl h135) <| lE h fun x136 h136 h => cv _ rfl (UK.nat h136) ?_
 refine bE h fun x137 h137 h => iR rfl rfl rfl h137 <| bE h fun l83 hl83_ h => sR x136 rfl rfl rfl rfl hl83_ ?_
 refine RT.done ⟨by kernel_rfl, ?_⟩
 refine AInB.n <| AThen.n <| ok_region <| lE h fun x138 h138 h => ad _ rfl rfl h138 <| mv rfl <| RT.done ?_
 obtain rfl := O h
 exact AThen.n ⟨(x138, l83), hG81 _ rfl, wR []⟩
 subst hx81
 try dsimp only
 refine AThen.n <| sr <| mo (s := .row _) rfl <| mo (s := .row _) rfl <| an (s := .row _) rfl <| an (s := .row _) rfl <| dn <| ok_frzF (i := 38) (E1 := 64) (n := 1) (e := eU32) (l := r38e35) hN (fun _ h => h) rfl <| ok_frzF (i := 114) (E1 := 64) (n := 1) (e := eU32) (l := r114e80) hN (fun _ h => h) rfl <| ok_ret ?_
 obtain rfl := O ho81
 exact R2 rfl rfl
theorem whole_divWords_fr {x0 : List Nat} {x1 : List Nat} (N : Nat) {r : (List Nat) × (List Nat)} (h : whole_divWords_m x0 x1 = some r) : PureN Tryz.prog 115 N [slc 1 (List.map eU32 x0), slc 1 (List.map eU32 x1)] (.tup [nw N (slc 1 (List.map eU32 r.1)), nw N (slc 1 (List.map eU32 r.2))]) := by
 refine pureN_of_ok Tryz.func115 rfl (Nat.le_of_ble_eq_true rfl) (fun wld M vs hN hvs => ?_)
 unfold whole_divWords_m at h
 refine sr <| ag rfl <| aI rfl (imp_nilF (N := N) (n := 1) (e := eU32)) <| dn <| ok_weak (weak_nil 4 304 64 1 rfl rfl T) <| qq <| ok_block <| sr <| mv rfl <| mv rfl <| bE h fun x12 h12 h => cl (whole_compareWords_ok h12) ⟨rfl, rfl, trivial⟩ <| lE h fun x13 h13 h => ls _ rfl rfl h13 <| ag rfl <| dn ?_
 cases x13
 refine cF <| sr <| mv rfl <| lE (F h) fun x18 h18 h => ln rfl h18 <| lE h fun x19 h19 h => RT.leq .none _ rfl rfl T h19 <| ag rfl <| dn ?_
 cases x19
 refine cF <| sr <| mv rfl <| lE (F h) fun x36 h36 h => ln rfl h36 <| lE h fun x37 h37 h => eq _ rfl rfl (eqI (p := x36) (q := 1) h37) <| ag rfl <| dn ?_
 cases x37
 refine cF <| ok_skip <| AInB.n <| AThen.n <| sr <| mv rfl <| mv rfl ?_
 obtain ⟨⟨x52a, x52b⟩, h52, h⟩ := bS (F h)
 refine RT.callPN .none (whole_longDiv_fr N h52) hN rfl ⟨rfl, rfl, trivial⟩ T <| ex rfl rfl <| ex rfl rfl <| ag rfl <| ag rfl <| dn <| ok_ret ?_
 obtain rfl := O h
 exact R2 rfl rfl
 refine cT <| sr <| mv rfl <| bE (V h) fun x39 h39 h => cN (slices_CloneN_ok h39) ⟨rfl, trivial⟩ <| an (s := .row _) rfl <| dn <| sr <| mo (s := .row _) rfl <| mv rfl <| bE h fun x42 h42 h => ix rfl rfl h42 <| lr rfl rfl <| lE h fun x44 h44 h => cv _ rfl (UK.nat h44) ?_
 obtain ⟨⟨x45, l5⟩, h45, h⟩ := bS h
 refine bE h fun _ he5 h => cR (l := x39) (l' := l5) (e := eU32) (whole_shortDiv_ok h45) (eqLen_some he5) 39 rfl (.cons rfl (.cons rfl (.nil))) <| ag rfl <| dn <| sr <| mo (s := .row _) rfl <| mv rfl <| lE h fun x48 h48 h => cv _ rfl (UK.nat h48) <| RT.buildSlF (l := [x48]) (e := eU32) .none hN (.one rfl (.nil)) T rfl rfl rfl rfl rfl rfl <| an (s := .row _) rfl <| ag rfl <| dn <| ok_frzF (i := 39) (E1 := 64) (n := 1) (e := eU32) (l := l5) hN (fun _ h => h) rfl ?_
 refine ok_ret <| AInB.r <| AThen.r ?_
 obtain rfl := O h
 exact R2 rfl rfl
 refine cT <| sr <| mv rfl <| bE (V h) fun x21 h21 h => cl (whole_low_ok h21) ⟨rfl, trivial⟩ <| mv rfl <| bE h fun x23 h23 h => cl (whole_low_ok h23) ⟨rfl, trivial⟩ <| ag rfl <| ag rfl <| dn <| qq <| ok_region_draw mixed <| mv rfl <| mv rfl <| bE h fun x26 h26 h => RT.quo .none _ rfl rfl T (nzU h26) (UK.quo h26) ?_
 obtain ⟨⟨x27_0, x27_1⟩, h27, h⟩ := bS h
 refine RT.callPN .none (whole_small_fr N h27) hN rfl ⟨rfl, rfl, trivial⟩ T <| fl rfl rfl <| mv rfl <| mv rfl <| bE h fun x31 h31 h => RT.rem .none _ rfl rfl T (nzR h31) (remU h31) ?_
 obtain ⟨⟨x32_0, x32_1⟩, h32, h⟩ := bS h
 refine RT.callPN .none (whole_small_fr N h32) hN rfl ⟨rfl, rfl, trivial⟩ T <| fl rfl rfl <| ag rfl <| ag rfl ?_
 refine RT.done ⟨by kernel_rfl, ?_⟩
 refine AThen.n <| ok_ret <| AInB.r <| AThen.r ?_
 obtain rfl := O h
 exact R2 rfl rfl
 refine cT <| sr <| mv rfl <| bE (V h) fun x15 h15 h => RT.callPN .none (slices_Clone_fr N h15) hN rfl ⟨rfl, trivial⟩ T <| ag rfl <| ag rfl <| dn <| ok_weak (weak_nil 4 310 64 1 rfl rfl T) <| ok_frzF (i := 310) (E1 := 64) (n := 1) (e := eU32) (l := []) hN (fun _ h => h) rfl <| ok_ret <| AInB.r <| AThen.r ?_
 obtain rfl := O h
 exact R2 rfl rfl
end Go.Proofs.YthgkgjogdgdcgaaGreat
namespace Go.Proofs.YthgkgjogdgdcgaaGreat
open Go.Fw Go.Fw.Z Go.RowKit
theorem whole_FromInt64_fr {x0 : Int} (N : Nat) {r : Zr} (h : whole_FromInt64_m x0 = some r) : PureN Tryz.prog 59 N [.v (.int .i64 x0)] (.agg ((fZ N) r)) := by
 refine pureN_of_ok Tryz.func59 rfl (Nat.le_of_ble_eq_true rfl) (fun wld M vs hN hvs => ?_)
 unfold whole_FromInt64_m at h
 refine sr <| al (cs := [.v (.bool false), nw N (slc 1 (List.map eU32 []))]) (by exact ⟨SV.imp_refl _, imp_nilF, trivial⟩) rfl <| dn <| sr <| mv rfl <| lE h fun x5 h5 h => cv _ rfl (UK.conv h5) <| ag rfl <| dn <| qq <| sr <| mv rfl <| lE h fun x7 h7 h => ls _ rfl rfl h7 <| dn ?_
 refine ok_tailJ h (fun j2 => AS.mkL 14 [(0, .sv (.v (.int .i64 x0))), (2, .ptr 2 0), (3, .sv (.v (.int .u64 ((j2 : Nat) : Int))))] [(2, ⟨40, [.sv (.v (.bool false)), .sv (nw N (slc 1 (List.map eU32 [])))]⟩)] []) (fun h => ?_) (fun y3j1 h => ?_)
 cases x7
 exact fs <| ⟨x5, (F h), wR []⟩
 exact cT <| ok_region <| mv rfl <| lE (V h) fun x9 h9 h => RT.neg .none _ rfl T (UK.neg h9) <| ag rfl <| dn <| ⟨x9, h, wR []⟩
 try dsimp only
 refine AThen.n <| sr <| mv rfl <| lE h fun x11 h11 h => ls _ rfl rfl h11 <| mv rfl ?_
 obtain ⟨⟨x13_0, x13_1⟩, h13, h⟩ := bS h
 refine RT.callPN .none (whole_small_fr N h13) hN rfl ⟨rfl, rfl, trivial⟩ T <| so rfl rfl rfl <| dn <| ok_ret ?_
 obtain rfl := O h
 exact RZ (.agg rfl rfl (.cons rfl (.cons rfl (.nil))) rfl (.nil))
theorem whole_signedSum_fr {x0 : Bool} {x1 : List Nat} {x2 : Bool} {x3 : List Nat} (N : Nat) {r : Zr} (h : whole_signedSum_m x0 x1 x2 x3 = some r) : PureN Tryz.prog 119 N [.v (.bool x0), slc 1 (List.map eU32 x1), .v (.bool x2), slc 1 (List.map eU32 x3)] (.agg ((fZ N) r)) := by
 refine pureN_of_ok Tryz.func119 rfl (Nat.le_of_ble_eq_true rfl) (fun wld M vs hN hvs => ?_)
 unfold whole_signedSum_m at h
 refine sr <| al (cs := [.v (.bool false), nw N (slc 1 (List.map eU32 []))]) (by exact ⟨SV.imp_refl _, imp_nilF, trivial⟩) rfl <| dn <| qq <| sr <| mv rfl <| mv rfl <| lE h fun x11 h11 h => RT.beql .none _ rfl rfl T h11 <| dn ?_
 cases x11
 refine fs <| qq <| sr <| mv rfl <| mv rfl <| bE (F h) fun x19 h19 h => cl (whole_compareWords_ok h19) ⟨rfl, rfl, trivial⟩ <| lE h fun x20 h20 h => ls _ rfl rfl h20 <| dn ?_
 cases x20
 refine fs <| sr <| mv rfl <| mv rfl <| mv rfl <| bE (F h) fun x29 h29 h => RT.callPN .none (whole_subWords_fr N h29) hN rfl ⟨rfl, rfl, trivial⟩ T ?_
 obtain ⟨⟨x30_0, x30_1⟩, h30, h⟩ := bS h
 refine RT.callPN .none (whole_build_fr N h30) hN rfl ⟨rfl, rfl, trivial⟩ T <| so rfl rfl rfl <| dn <| ok_ret ?_
 obtain rfl := O h
 exact RZ (.agg rfl rfl (.cons rfl (.cons rfl (.nil))) rfl (.nil))
 refine cT <| sr <| mv rfl <| mv rfl <| mv rfl <| bE (V h) fun x24 h24 h => RT.callPN .none (whole_subWords_fr N h24) hN rfl ⟨rfl, rfl, trivial⟩ T ?_
 obtain ⟨⟨x25_0, x25_1⟩, h25, h⟩ := bS h
 refine RT.callPN .none (whole_build_fr N h25) hN rfl ⟨rfl, rfl, trivial⟩ T <| so rfl rfl rfl <| dn <| ok_ret <| AThen.r ?_
 obtain rfl := O h
 exact RZ (.agg rfl rfl (.cons rfl (.cons rfl (.nil))) rfl (.nil))
 refine cT <| sr <| mv rfl <| mv rfl <| mv rfl <| bE (V h) fun x15 h15 h => RT.callPN .none (whole_addWords_fr N h15) hN rfl ⟨rfl, rfl, trivial⟩ T ?_
 obtain ⟨⟨x16_0, x16_1⟩, h16, h⟩ := bS h
 refine RT.callPN .none (whole_build_fr N h16) hN rfl ⟨rfl, rfl, trivial⟩ T <| so rfl rfl rfl <| dn <| ok_ret <| AThen.r ?_
 obtain rfl := O h
 exact RZ (.agg rfl rfl (.cons rfl (.cons rfl (.nil))) rfl (.nil))
theorem whole_Add_fr {x0 : Zr} {x1 : Zr} (N : Nat) {r : Zr} (h : whole_Add_m x0 x1 = some r) : PureN Tryz.prog 103 N [.agg (eZ x0), .agg (eZ x1)] (.agg ((fZ N) r)) := by
 obtain ⟨x0_0, x0_1⟩ := x0
 obtain ⟨x1_0, x1_1⟩ := x1
 refine pureN_of_ok Tryz.func103 rfl (Nat.le_of_ble_eq_true rfl) (fun wld M vs hN hvs => ?_)
 unfold whole_Add_m at h
 refine sr <| bx rfl <| bx rfl <| al (cs := [.v (.bool false), nw N (slc 1 (List.map eU32 []))]) (by exact ⟨SV.imp_refl _, imp_nilF, trivial⟩) rfl <| dn <| sr <| ld rfl rfl (.cons rfl (.cons rfl (.nil))) ?_
 obtain ⟨⟨x12a, x12b⟩, h12, h⟩ := bS h
 refine cl (whole_Int64_ok h12) ⟨rfl, trivial⟩ <| mv rfl <| ex rfl rfl <| ex rfl rfl <| ag rfl <| ag rfl <| dn <| sr <| ld rfl rfl (.cons rfl (.cons rfl (.nil))) ?_
 obtain ⟨⟨x17a, x17b⟩, h17, h⟩ := bS h
 refine cl (whole_Int64_ok h17) ⟨rfl, trivial⟩ <| mv rfl <| ex rfl rfl <| ex rfl rfl <| ag rfl <| ag rfl <| dn <| qq <| qq ?_
 refine ok_tailJ h (fun j3 => AS.mkL 48 [(2, .ptr 2 0), (3, .ptr 3 0), (4, .ptr 4 0), (5, .sv (.v (.int .i64 x12a))), (7, .sv (.v (.int .i64 x17a))), (23, .sv (.v (.bool j3)))] [(4, ⟨40, [.sv (.v (.bool false)), .sv (nw N (slc 1 (List.map eU32 [])))]⟩), (3, ⟨40, [.sv (.v (.bool x1_0)), .sv (slc 1 (List.map eU32 x1_1))]⟩), (2, ⟨40, [.sv (.v (.bool x0_0)), .sv (slc 1 (List.map eU32 x0_1))]⟩)] []) (fun h => ?_) (fun y23j2 h => ?_)
 refine ok_region <| mv rfl <| mv rfl <| bE h fun c23_6 hg6 h => ?_
 cases x12b
 obtain rfl := O (F hg6)
 exact ww <| pF rfl <| dn <| ⟨false, h, wR []⟩
 refine gm rfl ?_
 obtain rfl := O (V hg6)
 exact pT rfl <| dn <| ⟨x17b, h, wR []⟩
 try dsimp only
 refine AThen.n ?_
 refine ok_tailJ h (fun j5 => AS.mkL 48 [(2, .ptr 2 0), (3, .ptr 3 0), (4, .ptr 4 0)] [(4, ⟨40, [.sv (.v (.bool false)), .sv (nw N (slc 1 (List.map eU32 [])))]⟩), (3, ⟨40, [.sv (.v (.bool x1_0)), .sv (slc 1 (List.map eU32 x1_1))]⟩), (2, ⟨40, [.sv (.v (.bool x0_0)), .sv (slc 1 (List.map eU32 x0_1))]⟩)] []) (fun h => ?_) (fun j5 h => ?_)
 cases y23j2
 exact fs <| ⟨(), (F h), wR []⟩
 refine cT <| sr <| mv rfl <| mv rfl <| lE (V h) fun x26 h26 h => ad _ rfl rfl h26 <| ag rfl <| dn <| sr <| mv rfl <| mv rfl <| lE h fun x29 h29 h => RT.xor .none _ rfl rfl T h29 <| mv rfl <| mv rfl <| lE h fun x32 h32 h => RT.xor .none _ rfl rfl T h32 <| lE h fun x33 h33 h => RT.and .none _ rfl rfl T h33 <| lE h fun x34 h34 h => ge _ rfl rfl h34 <| dn ?_
 cases x34
 exact fs <| ⟨(), (F h), wR []⟩
 refine cT <| sr <| mv rfl ?_
 obtain ⟨⟨x36_0, x36_1⟩, h36, h⟩ := bS (V h)
 refine RT.callPN .none (whole_FromInt64_fr N h36) hN rfl ⟨rfl, trivial⟩ T <| so rfl rfl rfl <| dn <| ok_ret <| AThen.r <| AThen.r ?_
 obtain rfl := O h
 exact RZ (.agg rfl rfl (.cons rfl (.cons rfl (.nil))) rfl (.nil))
 try dsimp only
 refine AThen.n <| qq <| ok_region_draw mixed <| fa rfl rfl <| lV rfl rfl rfl <| fa rfl rfl <| lV rfl rfl rfl <| bE h fun x41 h41 h => cl (whole_trim_ok h41) ⟨rfl, trivial⟩ <| fa rfl rfl <| lV rfl rfl rfl <| fa rfl rfl <| lV rfl rfl rfl <| bE h fun x46 h46 h => cl (whole_trim_ok h46) ⟨rfl, trivial⟩ ?_
 obtain ⟨⟨x47_0, x47_1⟩, h47, h⟩ := bS h
 refine RT.callPN .none (whole_signedSum_fr N h47) hN rfl ⟨rfl, rfl, rfl, rfl, trivial⟩ T <| so rfl rfl rfl ?_
 refine RT.done ⟨by kernel_rfl, ?_⟩
 refine AThen.n <| ok_ret ?_
 obtain rfl := O h
 exact RZ (.agg rfl rfl (.cons rfl (.cons rfl (.nil))) rfl (.nil))
theorem whole_Sub_fr {x0 : Zr} {x1 : Zr} (N : Nat) {r : Zr} (h : whole_Sub_m x0 x1 = some r) : PureN Tryz.prog 105 N [.agg (eZ x0), .agg (eZ x1)] (.agg ((fZ N) r)) := by
 obtain ⟨x0_0, x0_1⟩ := x0
 obtain ⟨x1_0, x1_1⟩ := x1
 refine pureN_of_ok Tryz.func105 rfl (Nat.le_of_ble_eq_true rfl) (fun wld M vs hN hvs => ?_)
 unfold whole_Sub_m at h
 refine sr <| bx rfl <| bx rfl <| al (cs := [.v (.bool false), nw N (slc 1 (List.map eU32 []))]) (by exact ⟨SV.imp_refl _, imp_nilF, trivial⟩) rfl <| dn <| sr <| ld rfl rfl (.cons rfl (.cons rfl (.nil))) ?_
 obtain ⟨⟨x12a, x12b⟩, h12, h⟩ := bS h
 refine cl (whole_Int64_ok h12) ⟨rfl, trivial⟩ <| mv rfl <| ex rfl rfl <| ex rfl rfl <| ag rfl <| ag rfl <| dn <| sr <| ld rfl rfl (.cons rfl (.cons rfl (.nil))) ?_
 obtain ⟨⟨x17a, x17b⟩, h17, h⟩ := bS h
 refine cl (whole_Int64_ok h17) ⟨rfl, trivial⟩ <| mv rfl <| ex rfl rfl <| ex rfl rfl <| ag rfl <| ag rfl <| dn <| qq <| qq ?_
 refine ok_tailJ h (fun j3 => AS.mkL 49 [(2, .ptr 2 0), (3, .ptr 3 0), (4, .ptr 4 0), (5, .sv (.v (.int .i64 x12a))), (7, .sv (.v (.int .i64 x17a))), (23, .sv (.v (.bool j3)))] [(4, ⟨40, [.sv (.v (.bool false)), .sv (nw N (slc 1 (List.map eU32 [])))]⟩), (3, ⟨40, [.sv (.v (.bool x1_0)), .sv (slc 1 (List.map eU32 x1_1))]⟩), (2, ⟨40, [.sv (.v (.bool x0_0)), .sv (slc 1 (List.map eU32 x0_1))]⟩)] []) (fun h => ?_) (fun y23j2 h => ?_)
 refine ok_region <| mv rfl <| mv rfl <| bE h fun c23_6 hg6 h => ?_
 cases x12b
 obtain rfl := O (F hg6)
 exact ww <| pF rfl <| dn <| ⟨false, h, wR []⟩
 refine gm rfl ?_
 obtain rfl := O (V hg6)
 exact pT rfl <| dn <| ⟨x17b, h, wR []⟩
 try dsimp only
 refine AThen.n ?_
 refine ok_tailJ h (fun j5 => AS.mkL 49 [(2, .ptr 2 0), (3, .ptr 3 0), (4, .ptr 4 0)] [(4, ⟨40, [.sv (.v (.bool false)), .sv (nw N (slc 1 (List.map eU32 [])))]⟩), (3, ⟨40, [.sv (.v (.bool x1_0)), .sv (slc 1 (List.map eU32 x1_1))]⟩), (2, ⟨40, [.sv (.v (.bool x0_0)), .sv (slc 1 (List.map eU32 x0_1))]⟩)] []) (fun h => ?_) (fun j5 h => ?_)
 cases y23j2
 exact fs <| ⟨(), (F h), wR []⟩
 refine cT <| sr <| mv rfl <| mv rfl <| lE (V h) fun x26 h26 h => sb _ rfl rfl h26 <| ag rfl <| dn <| sr <| mv rfl <| mv rfl <| lE h fun x29 h29 h => RT.xor .none _ rfl rfl T h29 <| mv rfl <| mv rfl <| lE h fun x32 h32 h => RT.xor .none _ rfl rfl T h32 <| lE h fun x33 h33 h => RT.and .none _ rfl rfl T h33 <| lE h fun x34 h34 h => ge _ rfl rfl h34 <| dn ?_
 cases x34
 exact fs <| ⟨(), (F h), wR []⟩
 refine cT <| sr <| mv rfl ?_
 obtain ⟨⟨x36_0, x36_1⟩, h36, h⟩ := bS (V h)
 refine RT.callPN .none (whole_FromInt64_fr N h36) hN rfl ⟨rfl, trivial⟩ T <| so rfl rfl rfl <| dn <| ok_ret <| AThen.r <| AThen.r ?_
 obtain rfl := O h
 exact RZ (.agg rfl rfl (.cons rfl (.cons rfl (.nil))) rfl (.nil))
 try dsimp only
 refine AThen.n <| qq <| ok_region_draw mixed <| fa rfl rfl <| lV rfl rfl rfl <| fa rfl rfl <| lV rfl rfl rfl <| bE h fun x41 h41 h => cl (whole_trim_ok h41) ⟨rfl, trivial⟩ <| fa rfl rfl <| lV rfl rfl rfl <| lE h fun x44 h44 h => nt rfl _ h44 <| fa rfl rfl <| lV rfl rfl rfl <| bE h fun x47 h47 h => cl (whole_trim_ok h47) ⟨rfl, trivial⟩ ?_
 obtain ⟨⟨x48_0, x48_1⟩, h48, h⟩ := bS h
 refine RT.callPN .none (whole_signedSum_fr N h48) hN rfl ⟨rfl, rfl, rfl, rfl, trivial⟩ T <| so rfl rfl rfl ?_
 refine RT.done ⟨by kernel_rfl, ?_⟩
 refine AThen.n <| ok_ret ?_
 obtain rfl := O h
 exact RZ (.agg rfl rfl (.cons rfl (.cons rfl (.nil))) rfl (.nil))
theorem whole_Mul_fr {x0 : Zr} {x1 : Zr} (N : Nat) {r : Zr} (h : whole_Mul_m x0 x1 = some r) : PureN Tryz.prog 74 N [.agg (eZ x0), .agg (eZ x1)] (.agg ((fZ N) r)) := by
 obtain ⟨x0_0, x0_1⟩ := x0
 obtain ⟨x1_0, x1_1⟩ := x1
 refine pureN_of_ok Tryz.func74 rfl (Nat.le_of_ble_eq_true rfl) (fun wld M vs hN hvs => ?_)
 unfold whole_Mul_m at h
 refine sr <| bx rfl <| bx rfl <| al (cs := [.v (.bool false), nw N (slc 1 (List.map eU32 []))]) (by exact ⟨SV.imp_refl _, imp_nilF, trivial⟩) rfl <| dn <| qq <| ok_region_draw mixed <| fa rfl rfl <| lV rfl rfl rfl <| bE h fun x9 h9 h => cl (whole_trim_ok h9) ⟨rfl, trivial⟩ <| fa rfl rfl <| lV rfl rfl rfl <| bE h fun x12 h12 h => cl (whole_trim_ok h12) ⟨rfl, trivial⟩ <| ag rfl <| ag rfl ?_
 refine RT.done ⟨by kernel_rfl, ?_⟩
 refine AThen.n <| qq <| qq ?_
 refine ok_tailJ h (fun j3 => AS.mkL 41 [(2, .ptr 2 0), (3, .ptr 3 0), (4, .ptr 4 0), (5, .sv (slc 1 (List.map eU32 x9))), (6, .sv (slc 1 (List.map eU32 x12))), (20, .sv (.v (.bool j3)))] [(4, ⟨40, [.sv (.v (.bool false)), .sv (nw N (slc 1 (List.map eU32 [])))]⟩), (3, ⟨40, [.sv (.v (.bool x1_0)), .sv (slc 1 (List.map eU32 x1_1))]⟩), (2, ⟨40, [.sv (.v (.bool x0_0)), .sv (slc 1 (List.map eU32 x0_1))]⟩)] []) (fun h => ?_) (fun y20j2 h => ?_)
 refine ok_region <| mv rfl <| lE h fun x14 h14 h => ln rfl h14 <| lE h fun x15 h15 h => RT.leq .none _ rfl rfl T h15 <| mv rfl <| bE h fun c20_4 hg4 h => ?_
 cases x15
 obtain rfl := O (F hg4)
 exact ww <| ww <| ww <| pF rfl <| dn <| ⟨false, h, wR []⟩
 refine gm rfl <| lE (V hg4) fun x18 h18 hg4 => gn rfl h18 <| lE hg4 fun x19 h19 hg4 => RT.leq (.some rfl rfl) _ rfl rfl T h19 ?_
 obtain rfl := O hg4
 exact pT rfl <| dn <| ⟨x19, h, wR []⟩
 try dsimp only
 refine AThen.n ?_
 cases y20j2
 refine fs <| qq <| ok_region_draw mixed <| fa rfl rfl <| lV rfl rfl rfl <| fa rfl rfl <| lV rfl rfl rfl <| lE (F h) fun x36 h36 h => RT.bneq .none _ rfl rfl T h36 <| mv rfl <| mv rfl <| bE h fun x39 h39 h => RT.callPN .none (whole_mulWords_fr N h39) hN rfl ⟨rfl, rfl, trivial⟩ T ?_
 obtain ⟨⟨x40_0, x40_1⟩, h40, h⟩ := bS h
 refine RT.callPN .none (whole_build_fr N h40) hN rfl ⟨rfl, rfl, trivial⟩ T <| so rfl rfl rfl ?_
 refine RT.done ⟨by kernel_rfl, ?_⟩
 refine AThen.n <| ok_ret ?_
 obtain rfl := O h
 exact RZ (.agg rfl rfl (.cons rfl (.cons rfl (.nil))) rfl (.nil))
 refine cT <| qq <| ok_region_draw mixed <| fa rfl rfl <| lV rfl rfl rfl <| fa rfl rfl <| lV rfl rfl rfl <| lE (V h) fun x25 h25 h => RT.bneq .none _ rfl rfl T h25 <| mv rfl <| bE h fun x27 h27 h => cl (whole_low_ok h27) ⟨rfl, trivial⟩ <| mv rfl <| bE h fun x29 h29 h => cl (whole_low_ok h29) ⟨rfl, trivial⟩ <| lE h fun x30 h30 h => RT.mul .none _ rfl rfl T (UK.mul (a := x27) (b := x29) h30) ?_
 obtain ⟨⟨x31_0, x31_1⟩, h31, h⟩ := bS h
 refine RT.callPN .none (whole_small_fr N h31) hN rfl ⟨rfl, rfl, trivial⟩ T <| so rfl rfl rfl ?_
 refine RT.done ⟨by kernel_rfl, ?_⟩
 refine AThen.n <| ok_ret <| AThen.r ?_
 obtain rfl := O h
 exact RZ (.agg rfl rfl (.cons rfl (.cons rfl (.nil))) rfl (.nil))
theorem whole_Neg_fr {x0 : Zr} (N : Nat) {r : Zr} (h : whole_Neg_m x0 = some r) : PureN Tryz.prog 57 N [.agg (eZ x0)] (.agg ((fZ N) r)) := by
 obtain ⟨x0_0, x0_1⟩ := x0
 refine pureN_of_ok Tryz.func57 rfl (Nat.le_of_ble_eq_true rfl) (fun wld M vs hN hvs => ?_)
 unfold whole_Neg_m at h
 refine sr <| bx rfl <| al (cs := [.v (.bool false), nw N (slc 1 (List.map eU32 []))]) (by exact ⟨SV.imp_refl _, imp_nilF, trivial⟩) rfl <| dn <| qq <| ok_region_draw mixed <| fa rfl rfl <| lV rfl rfl rfl <| lE h fun x5 h5 h => nt rfl _ h5 <| fa rfl rfl <| lV rfl rfl rfl <| bE h fun x8 h8 h => cl (whole_trim_ok h8) ⟨rfl, trivial⟩ <| bE h fun x9 h9 h => RT.callPN .none (slices_Clone_fr N h9) hN rfl ⟨rfl, trivial⟩ T ?_
 obtain ⟨⟨x10_0, x10_1⟩, h10, h⟩ := bS h
 refine RT.callPN .none (whole_build_fr N h10) hN rfl ⟨rfl, rfl, trivial⟩ T <| so rfl rfl rfl ?_
 refine RT.done ⟨by kernel_rfl, ?_⟩
 refine AThen.n <| ok_ret ?_
 obtain rfl := O h
 exact RZ (.agg rfl rfl (.cons rfl (.cons rfl (.nil))) rfl (.nil))
theorem whole_DivMod_fr {x0 : Zr} {x1 : Zr} (N : Nat) {r : Zr × Zr × Int} (h : whole_DivMod_m x0 x1 = some r) : PureN Tryz.prog 97 N [.agg (eZ x0), .agg (eZ x1)] (.tup [.agg ((fZ N) r.1), .agg ((fZ N) r.2.1), .v (.int .i64 r.2.2)]) := by
 obtain ⟨x0_0, x0_1⟩ := x0
 obtain ⟨x1_0, x1_1⟩ := x1
 refine pureN_of_ok Tryz.func97 rfl (Nat.le_of_ble_eq_true rfl) (fun wld M vs hN hvs => ?_)
 unfold whole_DivMod_m at h
 refine sr <| bx rfl <| bx rfl <| al (cs := [.v (.bool false), nw N (slc 1 (List.map eU32 []))]) (by exact ⟨SV.imp_refl _, imp_nilF, trivial⟩) rfl <| al (cs := [.v (.bool false), nw N (slc 1 (List.map eU32 []))]) (by exact ⟨SV.imp_refl _, imp_nilF, trivial⟩) rfl <| ag rfl <| dn <| qq <| ok_region_draw mixed <| fa rfl rfl <| lV rfl rfl rfl <| bE h fun x13 h13 h => cl (whole_trim_ok h13) ⟨rfl, trivial⟩ <| fa rfl rfl ?_
 refine lV rfl rfl rfl <| bE h fun x16 h16 h => cl (whole_trim_ok h16) ⟨rfl, trivial⟩ <| ag rfl <| ag rfl ?_
 refine RT.done ⟨by kernel_rfl, ?_⟩
 refine AThen.n <| qq <| sr <| mv rfl <| lE h fun x18 h18 h => ln rfl h18 <| lE h fun x19 h19 h => eq _ rfl rfl (eqI (p := x18) (q := 0) h19) <| dn ?_
 cases x19
 refine fs <| sr <| mv rfl <| mv rfl ?_
 obtain ⟨⟨x25a, x25b⟩, h25, h⟩ := bS (F h)
 refine RT.callPN .none (whole_divWords_fr N h25) hN rfl ⟨rfl, rfl, trivial⟩ T <| mv rfl <| ex rfl rfl <| ex rfl rfl <| ag rfl <| ag rfl <| dn <| sr <| mv rfl <| bE h fun x29 h29 h => RT.callPN .none (whole_trim_fr N h29) hN rfl ⟨rfl, trivial⟩ T <| ag rfl <| dn <| qq <| qq ?_
 refine ok_tailJ h (fun j3 => AS.mkL 52 [(2, .ptr 2 0), (3, .ptr 3 0), (4, .ptr 4 0), (5, .ptr 5 0), (8, .sv (slc 1 (List.map eU32 x16))), (9, .sv (nw N (slc 1 (List.map eU32 x25a)))), (10, .sv (nw N (slc 1 (List.map eU32 x29)))), (36, .sv (.v (.bool j3.1)))] [(5, ⟨40, [.sv (.v (.bool false)), .sv (nw N (slc 1 (List.map eU32 [])))]⟩), (4, ⟨40, [.sv (.v (.bool false)), .sv (nw N (slc 1 (List.map eU32 [])))]⟩), (3, ⟨40, [.sv (.v (.bool x1_0)), .sv (slc 1 (List.map eU32 x1_1))]⟩), (2, ⟨40, [.sv (.v (.bool j3.2)), .sv (slc 1 (List.map eU32 x0_1))]⟩)] []) (fun h => ?_) (fun j3 h => ?_)
 refine ok_region <| fa rfl rfl <| lV rfl rfl rfl <| mv rfl <| bE h fun c36_6 hg6 h => ?_
 cases x0_0
 obtain rfl := O (F hg6)
 exact ww <| ww <| ww <| pF rfl <| dn <| ⟨(false, false), h, wR []⟩
 refine gm rfl <| lE (V hg6) fun x34 h34 hg6 => RT.lenMF (.some rfl rfl) rfl T h34 <| lE hg6 fun x35 h35 hg6 => gg _ rfl rfl h35 ?_
 obtain rfl := O hg6
 exact pT rfl <| dn <| ⟨(x35, true), h, wR []⟩
 obtain ⟨y36j2, b2_0j2⟩ := j3
 try dsimp only
 refine AThen.n ?_
 refine ok_tailJ h (fun j5 => AS.mkL 52 [(2, .ptr 2 0), (3, .ptr 3 0), (4, .ptr 4 0), (5, .ptr 5 0), (9, .sv (nw N (slc 1 (List.map eU32 j5.1)))), (10, .sv (nw N (slc 1 (List.map eU32 j5.2))))] [(5, ⟨40, [.sv (.v (.bool false)), .sv (nw N (slc 1 (List.map eU32 [])))]⟩), (4, ⟨40, [.sv (.v (.bool false)), .sv (nw N (slc 1 (List.map eU32 [])))]⟩), (3, ⟨40, [.sv (.v (.bool x1_0)), .sv (slc 1 (List.map eU32 x1_1))]⟩), (2, ⟨40, [.sv (.v (.bool b2_0j2)), .sv (slc 1 (List.map eU32 x0_1))]⟩)] []) (fun h => ?_) (fun j5 h => ?_)
 cases y36j2
 exact fs <| ⟨(x25a, x29), (F h), wR []⟩
 exact cT <| sr <| mv rfl <| RT.buildSlF (l := [1]) (e := eU32) .none hN (.one rfl (.nil)) T rfl rfl rfl rfl rfl rfl <| bE (V h) fun x39 h39 h => RT.callPN .none ((whole_addWords_fr N h39).w (args' := [_, _]) ⟨nw_imp, nw_imp, trivial⟩) hN rfl ⟨rfl, rfl, trivial⟩ T <| ag rfl <| dn <| ok_region <| mv rfl <| mv rfl <| bE h fun x42 h42 h => RT.callPN .none ((whole_subWords_fr N h42).w (args' := [_, _]) ⟨(SV.imp_refl _), nw_imp, trivial⟩) hN rfl ⟨rfl, rfl, trivial⟩ T <| ag rfl <| dn <| ⟨(x39, x42), h, wR []⟩
 obtain ⟨y9j4, y10j4⟩ := j5
 try dsimp only
 refine AThen.n <| sr <| fa rfl rfl <| lV rfl rfl rfl <| fa rfl rfl <| lV rfl rfl rfl <| lE h fun x47 h47 h => RT.bneq .none _ rfl rfl T h47 <| mv rfl ?_
 obtain ⟨⟨x49_0, x49_1⟩, h49, h⟩ := bS h
 refine RT.callPN .none (whole_build_fr N h49) hN rfl ⟨rfl, rfl, trivial⟩ T <| mv rfl ?_
 obtain ⟨⟨x51_0, x51_1⟩, h51, h⟩ := bS h
 refine RT.callPN .none (whole_build_fr N h51) hN rfl ⟨rfl, rfl, trivial⟩ T <| so rfl rfl rfl <| so rfl rfl rfl <| ag rfl <| dn <| ok_ret ?_
 obtain rfl := O h
 exact RZ (.agg rfl rfl (.cons rfl (.cons rfl (.nil))) rfl (.agg rfl rfl (.cons rfl (.cons rfl (.nil))) rfl (.tmp rfl (.nil))))
 refine cT <| sr <| bI (cs := [_, _]) (cs' := [.v (.bool false), nw N (slc 1 (List.map eU32 []))]) (.nil) ⟨SV.imp_refl _, imp_nilF, trivial⟩ <| bI (cs := [_, _]) (cs' := [.v (.bool false), nw N (slc 1 (List.map eU32 []))]) (.nil) ⟨SV.imp_refl _, imp_nilF, trivial⟩ <| so rfl rfl rfl <| so rfl rfl rfl <| ag rfl <| dn <| ok_ret <| AThen.r ?_
 obtain rfl := O (V h)
 exact RZ (.agg rfl rfl (.cons rfl (.cons rfl (.nil))) rfl (.agg rfl rfl (.cons rfl (.cons rfl (.nil))) rfl (.tmp rfl (.nil))))
theorem whole_GCD_fr {x0 : Zr} {x1 : Zr} (N : Nat) {r : Zr} (h : whole_GCD_m x0 x1 = some r) : PureN Tryz.prog 96 N [.agg (eZ x0), .agg (eZ x1)] (.agg ((fZ N) r)) := by
 obtain ⟨x0_0, x0_1⟩ := x0
 obtain ⟨x1_0, x1_1⟩ := x1
 refine pureN_of_ok Tryz.func96 rfl (Nat.le_of_ble_eq_true rfl) (fun wld M vs hN hvs => ?_)
 unfold whole_GCD_m at h
 refine sr <| bx rfl <| bx rfl <| al (cs := [.v (.bool false), nw N (slc 1 (List.map eU32 []))]) (by exact ⟨SV.imp_refl _, imp_nilF, trivial⟩) rfl <| dn <| qq <| ok_region_draw mixed <| fa rfl rfl <| lV rfl rfl rfl <| bE h fun x13 h13 h => cl (whole_trim_ok h13) ⟨rfl, trivial⟩ <| fa rfl rfl <| lV rfl rfl rfl <| bE h fun x16 h16 h => cl (whole_trim_ok h16) ⟨rfl, trivial⟩ <| ag rfl <| ag rfl ?_
 refine RT.done ⟨by kernel_rfl, ?_⟩
 refine AThen.n <| qq <| bE h fun e12 hl12 ho12 => ?_
 refine ok_tailP (fun (xe12 : (List Nat) × (List Nat)) => AS.mkL 57 [(4, .ptr 4 0), (5, .sv (slc 1 (List.map eU32 xe12.1))), (6, .sv (slc 1 (List.map eU32 xe12.2)))] [(4, ⟨40, [.sv (.v (.bool false)), .sv (nw N (slc 1 (List.map eU32 [])))]⟩)] []) (fun xe12 => xe12 = e12) ?_ (fun xe12 hx12 => ?_)
 refine ok_block ?_
 refine ok_loopM hl12 (fun s12 => AS.mkL 57 [(4, .ptr 4 0), (5, .sv (slc 1 (List.map eU32 s12.1))), (6, .sv (slc 1 (List.map eU32 s12.2)))] [(4, ⟨40, [.sv (.v (.bool false)), .sv (nw N (slc 1 (List.map eU32 [])))]⟩)] []) (wR []) (fun s12 y12 G12 h hG12 hE12 => ?_)
 obtain ⟨y5l6, y6l6⟩ := s12
 try dsimp only
 refine qq <| qq ?_
 refine ok_tailJ h (fun j16 => AS.mkL 57 [(4, .ptr 4 0), (5, .sv (slc 1 (List.map eU32 y5l6))), (6, .sv (slc 1 (List.map eU32 y6l6))), (29, .sv (.v (.bool j16)))] [(4, ⟨40, [.sv (.v (.bool false)), .sv (nw N (slc 1 (List.map eU32 [])))]⟩)] []) (fun h => ?_) (fun y29j15 h => ?_)
 refine ok_region <| mv rfl <| lE h fun x18 h18 h => ln rfl h18 <| lE h fun x19 h19 h => gt _ rfl rfl h19 <| mv rfl <| bE h fun c29_17 hg17 h => ?_
 cases x19
 obtain rfl := O (F hg17)
 exact ww <| ww <| ww <| ww <| wu <| wu <| wu <| ww <| pF rfl <| dn <| ⟨false, h, wR []⟩
 refine gm rfl <| lE (V hg17) fun x22 h22 hg17 => gn rfl h22 <| lE hg17 fun x23 h23 hg17 => gg _ rfl rfl h23 <| gm rfl <| bE hg17 fun c28_18 hg18 hg17 => ?_
 cases x23
 refine gm rfl <| lE (F hg18) fun x26 h26 hg18 => gn rfl h26 <| lE hg18 fun x27 h27 hg18 => gg _ rfl rfl h27 ?_
 obtain rfl := O hg18
 refine gF rfl ?_
 obtain rfl := O hg17
 exact pT rfl <| dn <| ⟨x27, h, wR []⟩
 obtain rfl := O (V hg18)
 refine ww <| ww <| ww <| gT rfl ?_
 obtain rfl := O hg17
 exact pT rfl <| dn <| ⟨true, h, wR []⟩
 try dsimp only
 refine AThen.n ?_
 cases y29j15
 refine cF <| ok_exit <| AThen.x <| AThen.x <| AInB.x <| AThen.n ?_
 obtain rfl := O (F h)
 exact ⟨(y5l6, y6l6), hE12 _ rfl, wR []⟩
 refine cT <| ok_skip <| AThen.n <| ok_block <| sr <| mv rfl <| mv rfl ?_
 obtain ⟨⟨x33a, x33b⟩, h33, h⟩ := bS (V h)
 refine RT.callPN .none (whole_divWords_fr N h33) hN rfl ⟨rfl, rfl, trivial⟩ T <| mv rfl <| ex rfl rfl <| ex rfl rfl <| ag rfl <| ag rfl <| dn <| ok_region <| mv rfl <| mv rfl <| bE h fun x38 h38 h => RT.callPN .none (whole_trim_fr N h38) hN rfl ⟨rfl, trivial⟩ T <| ag rfl <| ag rfl <| RT.done <| AInB.n ?_
 obtain rfl := O h
 exact AThen.n ⟨(y6l6, x38), hG12 _ rfl, weakL id rfl rfl rfl rfl rfl ⟨.ptr, .sv (SV.imp_refl _), .sv nw_imp, trivial⟩ ⟨⟨_, rfl, ⟨.sv (SV.imp_refl _), .sv (SV.imp_refl _), trivial⟩⟩, trivial⟩ trivial (fun _ _ => rfl)⟩
 subst hx12
 obtain ⟨y5e11, y6e11⟩ := xe12
 try dsimp only
 refine AThen.n <| qq <| sr <| mv rfl <| lE ho12 fun x40 h40 ho12 => ln rfl h40 <| lE ho12 fun x41 h41 ho12 => eq _ rfl rfl (eqI (p := x40) (q := 0) h41) <| dn ?_
 cases x41
 refine fs <| sr <| mv rfl <| bE (F ho12) fun x46 h46 ho12 => cl (whole_low_ok h46) ⟨rfl, trivial⟩ <| mv rfl <| bE ho12 fun x48 h48 ho12 => cl (whole_low_ok h48) ⟨rfl, trivial⟩ <| ag rfl <| ag rfl <| dn <| qq <| bE ho12 fun e24 hl24 ho24 => ?_
 refine ok_tailP (fun (y9e23 : Nat) => AS.mkL 57 [(4, .ptr 4 0), (9, .sv (.v (.int .u64 ((y9e23 : Nat) : Int))))] [(4, ⟨40, [.sv (.v (.bool false)), .sv (nw N (slc 1 (List.map eU32 [])))]⟩)] []) (fun y9e23 => y9e23 = e24) ?_ (fun y9e23 hx24 => ?_)
 refine ok_block ?_
 refine ok_loopM hl24 (fun s24 => AS.mkL 57 [(4, .ptr 4 0), (9, .sv (.v (.int .u64 ((s24.1 : Nat) : Int)))), (10, .sv (.v (.int .u64 ((s24.2 : Nat) : Int))))] [(4, ⟨40, [.sv (.v (.bool false)), .sv (nw N (slc 1 (List.map eU32 [])))]⟩)] []) (wR []) (fun s24 y24 G24 h hG24 hE24 => ?_)
 obtain ⟨y9l21, y10l21⟩ := s24
 try dsimp only
 refine qq <| sr <| mv rfl <| lE h fun x50 h50 h => gt _ rfl rfl (ltN (p := 0) (q := y10l21) h50) <| dn ?_
 cases x50
 refine cF <| ok_exit <| AThen.x <| AThen.x <| AInB.x <| AThen.n ?_
 obtain rfl := O (F h)
 exact ⟨y9l21, hE24 _ rfl, wR []⟩
 refine cT <| ok_skip <| AThen.n <| ok_block <| ok_region_draw mixed <| mv rfl <| mv rfl <| mv rfl <| bE (V h) fun x54 h54 h => RT.rem .none _ rfl rfl T (nzR h54) (remU h54) <| ag rfl <| ag rfl ?_
 refine RT.done ⟨by kernel_rfl, ?_⟩
 refine AInB.n ?_
 obtain rfl := O h
 exact AThen.n ⟨(y10l21, x54), hG24 _ rfl, wR []⟩
 subst hx24
 try dsimp only
 refine AThen.n <| sr <| mv rfl ?_
 obtain ⟨⟨x56_0, x56_1⟩, h56, ho24⟩ := bS ho24
 refine RT.callPN .none (whole_small_fr N h56) hN rfl ⟨rfl, rfl, trivial⟩ T <| so rfl rfl rfl <| dn <| ok_ret ?_
 obtain rfl := O ho24
 exact RZ (.agg rfl rfl (.cons rfl (.cons rfl (.nil))) rfl (.nil))
 refine cT <| sr <| mv rfl <| bE (V ho12) fun x43 h43 ho12 => RT.callPN .none (slices_Clone_fr N h43) hN rfl ⟨rfl, trivial⟩ T ?_
 obtain ⟨⟨x44_0, x44_1⟩, h44, ho12⟩ := bS ho12
 refine RT.callPN .none (whole_build_fr N h44) hN rfl ⟨rfl, rfl, trivial⟩ T <| so rfl rfl rfl <| dn <| ok_ret <| AThen.r ?_
 obtain rfl := O ho12
 exact RZ (.agg rfl rfl (.cons rfl (.cons rfl (.nil))) rfl (.nil))
end Go.Proofs.YthgkgjogdgdcgaaGreat
