/- A part of the proof: the framework, the plain functions, the followed functions, the plain laws. -/
import Derived.Test.YtfoldppidpmchaaGreatPPC4
set_option linter.unusedVariables false
set_option linter.unusedSimpArgs false
namespace Go.Proofs.YtfoldppidpmchaaGreat
open Go.Fw Go.Fw.Z Go.RowKit
theorem law03_Long_ok {x0 : List (List Qr)} {r : Bool} (h : law03_Long_m x0 = some r) : Pure Tryz.prog 18 [slc 1 (List.map (eS 4 eQ) x0)] (.v (.bool r)) := by
 refine pure_of_ok Tryz.func18 rfl (Nat.le_of_ble_eq_true rfl) (fun wld M vs hvs => ?_)
 unfold law03_Long_m at h
 refine sr <| ag rfl <| dn <| qq <| sr <| ag rfl <| dn <| bE h fun e10 hl10 ho10 => ?_
 refine ok_tailP (fun (xe10 : Unit) => AS.mkL 23 [] [] []) (fun xe10 => .inl xe10 = e10) ?_ (fun xe10 hx10 => ?_)
 refine ok_block ?_
 refine ok_loopM hl10 (fun s10 => AS.mkL 23 [(0, .sv (slc 1 (List.map (eS 4 eQ) x0))), (3, .sv (.v (.int .i64 s10)))] [] []) (wR []) (fun y3l5 y10 G10 h hG10 hE10 => ?_)
 try dsimp only
 refine qq <| sr <| mv rfl <| mv rfl <| lE h fun x6 h6 h => ln rfl h6 <| lE h fun x7 h7 h => ls _ rfl rfl h7 <| dn ?_
 cases x7
 refine cF <| ok_exit <| AThen.x <| AThen.x <| AInB.x <| AThen.n ?_
 obtain rfl := O (F h)
 exact ⟨(), hE10 _ rfl, wR []⟩
 refine cT <| ok_skip <| AThen.n <| qq <| ok_block <| qq ?_
 refine ok_tailJ (V h) (fun j13 => AS.mkL 23 [(0, .sv (slc 1 (List.map (eS 4 eQ) x0))), (3, .sv (.v (.int .i64 y3l5))), (22, .sv (.v (.bool j13)))] [] []) (fun h => ?_) (fun y22j12 h => ?_)
 refine ok_region <| mv rfl <| mv rfl <| bE h fun x12 h12 h => ix rfl rfl h12 <| lr rfl rfl <| lE h fun x14 h14 h => ln rfl h14 <| lE h fun x15 h15 h => gt _ rfl rfl h15 <| mv rfl <| bE h fun c22_14 hg14 h => ?_
 cases x15
 refine gm rfl <| gm rfl <| bE (F hg14) fun x19 h19 hg14 => RT.ixM (.some rfl rfl) rfl rfl T h19 <| gr rfl rfl <| bE hg14 fun x21 h21 hg14 => gc (law02_Long_ok h21) ⟨rfl, trivial⟩ ?_
 obtain rfl := O hg14
 exact pF rfl <| dn <| ⟨x21, h, wR []⟩
 obtain rfl := O (V hg14)
 exact ww <| ww <| ww <| ww <| ww <| pT rfl <| dn <| ⟨true, h, wR []⟩
 try dsimp only
 refine AThen.n ?_
 cases y22j12
 refine cF <| ok_skip <| AInB.n <| AThen.n <| ok_region <| mv rfl <| lE (F h) fun x9 h9 h => ad _ rfl rfl h9 <| ag rfl <| RT.done ?_
 obtain rfl := O h
 exact AThen.n ⟨x9, hG10 _ rfl, wR []⟩
 refine cT <| sr <| ag rfl <| dn <| ok_ret <| AInB.r <| AThen.r ?_
 obtain rfl := O (V h)
 have he10 := hE10 _ rfl
 subst he10
 refine AThen.r <| AInB.r <| AThen.r <| AThen.r ?_
 obtain rfl := O ho10
 exact R1 rfl
 subst hx10
 try dsimp only
 refine AThen.n <| sr <| ag rfl <| dn <| ok_ret ?_
 obtain rfl := O ho10
 exact R1 rfl
theorem law04_Long_ok {x0 : List (List (List Qr))} {r : Bool} (h : law04_Long_m x0 = some r) : Pure Tryz.prog 45 [slc 1 (List.map (eS 1 (eS 4 eQ)) x0)] (.v (.bool r)) := by
 refine pure_of_ok Tryz.func45 rfl (Nat.le_of_ble_eq_true rfl) (fun wld M vs hvs => ?_)
 unfold law04_Long_m at h
 refine sr <| ag rfl <| dn <| qq <| sr <| ag rfl <| dn <| bE h fun e16 hl16 ho16 => ?_
 refine ok_tailP (fun (xe16 : Unit) => AS.mkL 31 [] [] []) (fun xe16 => .inl xe16 = e16) ?_ (fun xe16 hx16 => ?_)
 refine ok_block ?_
 refine ok_loopM hl16 (fun s16 => AS.mkL 31 [(0, .sv (slc 1 (List.map (eS 1 (eS 4 eQ)) x0))), (3, .sv (.v (.int .i64 s16)))] [] []) (wR []) (fun y3l8 y16 G16 h hG16 hE16 => ?_)
 try dsimp only
 refine qq <| sr <| mv rfl <| mv rfl <| lE h fun x6 h6 h => ln rfl h6 <| lE h fun x7 h7 h => ls _ rfl rfl h7 <| dn ?_
 cases x7
 refine cF <| ok_exit <| AThen.x <| AThen.x <| AInB.x <| AThen.n ?_
 obtain rfl := O (F h)
 exact ⟨(), hE16 _ rfl, wR []⟩
 refine cT <| ok_skip <| AThen.n <| qq <| ok_block <| qq ?_
 refine ok_tailJ (V h) (fun j22 => AS.mkL 31 [(0, .sv (slc 1 (List.map (eS 1 (eS 4 eQ)) x0))), (3, .sv (.v (.int .i64 y3l8))), (30, .sv (.v (.bool j22)))] [] []) (fun h => ?_) (fun y30j21 h => ?_)
 refine ok_region <| mv rfl <| mv rfl <| bE h fun x12 h12 h => ix rfl rfl h12 <| lr rfl rfl <| lE h fun x14 h14 h => ln rfl h14 <| lE h fun x15 h15 h => gt _ rfl rfl h15 <| mv rfl <| bE h fun c23_23 hg23 h => ?_
 cases x15
 refine gm rfl <| gm rfl <| bE (F hg23) fun x19 h19 hg23 => RT.ixM (.some rfl rfl) rfl rfl T h19 <| gr rfl rfl <| bE hg23 fun x21 h21 hg23 => gc (ref04_Cols_ok h21) ⟨rfl, trivial⟩ <| lE hg23 fun x22 h22 hg23 => gg _ rfl rfl h22 ?_
 obtain rfl := O hg23
 refine pF rfl <| mv rfl <| bE h fun c30_24 hg24 h => ?_
 cases x22
 refine gm rfl <| gm rfl <| bE (F hg24) fun x27 h27 hg24 => RT.ixM (.some rfl rfl) rfl rfl T h27 <| gr rfl rfl <| bE hg24 fun x29 h29 hg24 => gc (law03_Long_ok h29) ⟨rfl, trivial⟩ ?_
 obtain rfl := O hg24
 exact pF rfl <| dn <| ⟨x29, h, wR []⟩
 obtain rfl := O (V hg24)
 exact ww <| ww <| ww <| ww <| ww <| pT rfl <| dn <| ⟨true, h, wR []⟩
 obtain rfl := O (V hg23)
 refine ww <| ww <| ww <| ww <| ww <| ww <| pT rfl <| mv rfl <| bE h fun c30_25 hg25 h => ?_
 obtain rfl := O (V hg25)
 exact ww <| ww <| ww <| ww <| ww <| pT rfl <| dn <| ⟨true, h, wR []⟩
 try dsimp only
 refine AThen.n ?_
 cases y30j21
 refine cF <| ok_skip <| AInB.n <| AThen.n <| ok_region <| mv rfl <| lE (F h) fun x9 h9 h => ad _ rfl rfl h9 <| ag rfl <| RT.done ?_
 obtain rfl := O h
 exact AThen.n ⟨x9, hG16 _ rfl, wR []⟩
 refine cT <| sr <| ag rfl <| dn <| ok_ret <| AInB.r <| AThen.r ?_
 obtain rfl := O (V h)
 have he16 := hE16 _ rfl
 subst he16
 refine AThen.r <| AInB.r <| AThen.r <| AThen.r ?_
 obtain rfl := O ho16
 exact R1 rfl
 subst hx16
 try dsimp only
 refine AThen.n <| sr <| ag rfl <| dn <| ok_ret ?_
 obtain rfl := O ho16
 exact R1 rfl
theorem law06_Small_ok  {r : Lr} (h : law06_Small_m = some r) : Pure Tryz.prog 40 [] (.agg (eLr r)) := by
 refine pure_of_ok Tryz.func40 rfl (Nat.le_of_ble_eq_true rfl) (fun wld M vs hvs => ?_)
 unfold law06_Small_m at h
 refine sr <| al (cs := [.v (.int .i64 0), slc 1 (List.map (eS 4 eQ) []), slc 1 (List.map (eS 4 eQ) []), slc 4 (List.map eQ [])]) (by exact ⟨SV.imp_refl _, imp_nil, imp_nil, imp_nil, trivial⟩) rfl <| dn <| sr <| bl (l := [3, 5]) (e := eI64) (.one rfl (.one rfl (.nil))) rfl rfl rfl rfl rfl rfl <| bl (l := [[3, 5]]) (e := (eS 1 eI64)) (.one rfl (.nil)) rfl rfl rfl rfl rfl rfl <| bE h fun x3 h3 h => cl (mat_FromInts_ok h3) ⟨rfl, trivial⟩ <| bl (l := [1, 0]) (e := eI64) (.one rfl (.one rfl (.nil))) rfl rfl rfl rfl rfl rfl ?_
 refine bl (l := [0, 2]) (e := eI64) (.one rfl (.one rfl (.nil))) rfl rfl rfl rfl rfl rfl <| bl (l := [3, 2]) (e := eI64) (.one rfl (.one rfl (.nil))) rfl rfl rfl rfl rfl rfl <| bl (l := [[1, 0], [0, 2], [3, 2]]) (e := (eS 1 eI64)) (.one rfl (.one rfl (.one rfl (.nil)))) rfl rfl rfl rfl rfl rfl <| bE h fun x8 h8 h => cl (mat_FromInts_ok h8) ⟨rfl, trivial⟩ <| bl (l := [4, 12, 18]) (e := eI64) (.one rfl (.one rfl (.one rfl (.nil)))) rfl rfl rfl rfl rfl rfl <| bE h fun x10 h10 h => cl (vec_FromInts_ok h10) ⟨rfl, trivial⟩ ?_
 refine bI (cs := [_, _, _, _]) (cs' := [.v (.int .i64 2), slc 1 (List.map (eS 4 eQ) x3), slc 1 (List.map (eS 4 eQ) x8), slc 4 (List.map eQ x10)]) (.one rfl (.one rfl (.one rfl (.one rfl (.nil))))) ⟨SV.imp_refl _, SV.imp_refl _, SV.imp_refl _, SV.imp_refl _, trivial⟩ <| so rfl rfl rfl <| dn <| ok_ret ?_
 obtain rfl := O h
 exact RZ (.agg rfl rfl (.cons rfl (.cons rfl (.cons rfl (.cons rfl (.nil))))) rfl (.nil))
set_option maxHeartbeats 4000000 in
theorem law06_alive_ok  {r : Bool} (h : law06_alive_m = some r) : Pure Tryz.prog 9 [] (.v (.bool r)) := by
 refine pure_of_ok Tryz.func9 rfl (Nat.le_of_ble_eq_true rfl) (fun wld M vs hvs => ?_)
 unfold law06_alive_m at h
 refine sr <| ag rfl <| dn <| sr ?_
 obtain ⟨⟨x7_0, x7_1, x7_2, x7_3⟩, h7, h⟩ := bS h
 refine cl (law06_Small_ok h7) trivial <| al (cs := [.v (.int .i64 0), slc 1 (List.map (eS 4 eQ) []), slc 1 (List.map (eS 4 eQ) []), slc 4 (List.map eQ [])]) (by exact ⟨SV.imp_refl _, imp_nil, imp_nil, imp_nil, trivial⟩) rfl <| so rfl rfl rfl <| dn <| sr <| ld rfl rfl (.cons rfl (.cons rfl (.cons rfl (.cons rfl (.nil))))) ?_
 obtain ⟨⟨⟨x10a_0, x10a_1, x10a_2, x10a_3⟩, x10b⟩, h10, h⟩ := bS h
 refine cl (lp_Dual_ok h10) ⟨rfl, trivial⟩ <| mv rfl <| ex rfl rfl <| ex rfl rfl <| al (cs := [.v (.int .i64 0), slc 1 (List.map (eS 4 eQ) []), slc 1 (List.map (eS 4 eQ) []), slc 4 (List.map eQ [])]) (by exact ⟨SV.imp_refl _, imp_nil, imp_nil, imp_nil, trivial⟩) rfl <| so rfl rfl rfl <| ag rfl <| dn <| sr <| bl (l := [(-4), (-12), (-18)]) (e := eI64) (.one rfl (.one rfl (.one rfl (.nil)))) rfl rfl rfl rfl rfl rfl <| bl (l := [[(-4), (-12), (-18)]]) (e := (eS 1 eI64)) (.one rfl (.nil)) rfl rfl rfl rfl rfl rfl ?_
 refine bE h fun x15 h15 h => cl (mat_FromInts_ok h15) ⟨rfl, trivial⟩ <| bl (l := [(-1), 0, (-3)]) (e := eI64) (.one rfl (.one rfl (.one rfl (.nil)))) rfl rfl rfl rfl rfl rfl <| bl (l := [0, (-2), (-2)]) (e := eI64) (.one rfl (.one rfl (.one rfl (.nil)))) rfl rfl rfl rfl rfl rfl <| bl (l := [[(-1), 0, (-3)], [0, (-2), (-2)]]) (e := (eS 1 eI64)) (.one rfl (.one rfl (.nil))) rfl rfl rfl rfl rfl rfl <| bE h fun x19 h19 h => cl (mat_FromInts_ok h19) ⟨rfl, trivial⟩ <| bl (l := [(-3), (-5)]) (e := eI64) (.one rfl (.one rfl (.nil))) rfl rfl rfl rfl rfl rfl ?_
 refine bE h fun x21 h21 h => cl (vec_FromInts_ok h21) ⟨rfl, trivial⟩ <| bI (cs := [_, _, _, _]) (cs' := [.v (.int .i64 3), slc 1 (List.map (eS 4 eQ) x15), slc 1 (List.map (eS 4 eQ) x19), slc 4 (List.map eQ x21)]) (.one rfl (.one rfl (.one rfl (.one rfl (.nil))))) ⟨SV.imp_refl _, SV.imp_refl _, SV.imp_refl _, SV.imp_refl _, trivial⟩ <| al (cs := [.v (.int .i64 0), slc 1 (List.map (eS 4 eQ) []), slc 1 (List.map (eS 4 eQ) []), slc 4 (List.map eQ [])]) (by exact ⟨SV.imp_refl _, imp_nil, imp_nil, imp_nil, trivial⟩) rfl <| so rfl rfl rfl ?_
 refine dn <| sr <| bl (l := [2, 6]) (e := eI64) (.one rfl (.one rfl (.nil))) rfl rfl rfl rfl rfl rfl <| bE h fun x24 h24 h => cl (vec_FromInts_ok h24) ⟨rfl, trivial⟩ <| bI (cs := [_, _, _, _]) (cs' := [.v (.bool false), slc 1 (List.map eU32 []), .v (.bool false), slc 1 (List.map eU32 [])]) (.nil) ⟨SV.imp_refl _, imp_nil, SV.imp_refl _, imp_nil, trivial⟩ ?_
 obtain ⟨⟨⟨x26_0, x26_1⟩, ⟨x26_2, x26_3⟩⟩, h26, h⟩ := bS h
 refine cl (ref02_Of_ok h26) ⟨rfl, rfl, trivial⟩ ?_
 obtain ⟨⟨⟨x27_0, x27_1⟩, ⟨x27_2, x27_3⟩⟩, h27, h⟩ := bS h
 refine cl (ref02_Int_ok h27) ⟨rfl, trivial⟩ <| bl (l := [⟨⟨false, []⟩, ⟨false, []⟩⟩, ⟨⟨x26_0, x26_1⟩, ⟨x26_2, x26_3⟩⟩, ⟨⟨x27_0, x27_1⟩, ⟨x27_2, x27_3⟩⟩]) (e := eQ) (.agg rfl (.agg rfl (.agg rfl (.nil)))) rfl rfl rfl rfl rfl rfl <| ag rfl <| ag rfl <| dn <| qq ?_
 refine ok_tailJ h (fun j36 => AS.mkL 74 [(0, .sv (.v (.bool j36)))] [] []) (fun h => ?_) (fun y0j35 h => ?_)
 refine ok_region <| ld rfl rfl (.cons rfl (.cons rfl (.cons rfl (.cons rfl (.nil))))) <| bE h fun x30 h30 h => cl (lp_Valid_ok h30) ⟨rfl, trivial⟩ <| mv rfl <| bE h fun c35_37 hg37 h => ?_
 cases x30
 obtain rfl := O (F hg37)
 refine ww <| ww <| ww <| pF rfl <| mv rfl <| bE h fun c43_59 hg59 h => ?_
 obtain rfl := O (F hg59)
 refine ww <| ww <| ww <| ww <| ww <| ww <| pF rfl <| mv rfl <| bE h fun c51_60 hg60 h => ?_
 obtain rfl := O (F hg60)
 refine ww <| ww <| ww <| ww <| ww <| ww <| pF rfl <| mv rfl <| bE h fun c55_61 hg61 h => ?_
 obtain rfl := O (F hg61)
 refine ww <| ww <| pF rfl <| mv rfl <| bE h fun c60_62 hg62 h => ?_
 obtain rfl := O (F hg62)
 refine ww <| ww <| ww <| pF rfl <| mv rfl <| bE h fun c65_63 hg63 h => ?_
 obtain rfl := O (F hg63)
 refine ww <| ww <| ww <| pF rfl <| mv rfl <| bE h fun c73_64 hg64 h => ?_
 obtain rfl := O (F hg64)
 exact ww <| ww <| ww <| ww <| ww <| ww <| pF rfl <| ag rfl <| dn <| ⟨false, h, wR []⟩
 refine gl rfl rfl (.cons rfl (.cons rfl (.cons rfl (.cons rfl (.nil))))) <| gm rfl <| bE (V hg37) fun x34 h34 hg37 => gc (lp_Feasible_ok h34) ⟨rfl, rfl, trivial⟩ ?_
 obtain rfl := O hg37
 refine pT rfl <| mv rfl <| bE h fun c43_38 hg38 h => ?_
 cases x34
 obtain rfl := O (F hg38)
 refine ww <| ww <| ww <| ww <| ww <| ww <| pF rfl <| mv rfl <| bE h fun c51_54 hg54 h => ?_
 obtain rfl := O (F hg54)
 refine ww <| ww <| ww <| ww <| ww <| ww <| pF rfl <| mv rfl <| bE h fun c55_55 hg55 h => ?_
 obtain rfl := O (F hg55)
 refine ww <| ww <| pF rfl <| mv rfl <| bE h fun c60_56 hg56 h => ?_
 obtain rfl := O (F hg56)
 refine ww <| ww <| ww <| pF rfl <| mv rfl <| bE h fun c65_57 hg57 h => ?_
 obtain rfl := O (F hg57)
 refine ww <| ww <| ww <| pF rfl <| mv rfl <| bE h fun c73_58 hg58 h => ?_
 obtain rfl := O (F hg58)
 exact ww <| ww <| ww <| ww <| ww <| ww <| pF rfl <| ag rfl <| dn <| ⟨false, h, wR []⟩
 refine gl rfl rfl (.cons rfl (.cons rfl (.cons rfl (.cons rfl (.nil))))) <| gm rfl <| bE (V hg38) fun x39 h39 hg38 => gc (lp_Evaluate_ok h39) ⟨rfl, rfl, trivial⟩ <| RT.buildSl (l := [36]) (e := eI64) (.some rfl rfl) (.one rfl (.nil)) T rfl rfl rfl rfl rfl rfl <| bE hg38 fun x41 h41 hg38 => gc (vec_FromInts_ok h41) ⟨rfl, trivial⟩ <| bE hg38 fun x42 h42 hg38 => gc (vec_Equal_ok h42) ⟨rfl, rfl, trivial⟩ ?_
 obtain rfl := O hg38
 refine pT rfl <| mv rfl <| bE h fun c51_39 hg39 h => ?_
 cases x42
 obtain rfl := O (F hg39)
 refine ww <| ww <| ww <| ww <| ww <| ww <| pF rfl <| mv rfl <| bE h fun c55_50 hg50 h => ?_
 obtain rfl := O (F hg50)
 refine ww <| ww <| pF rfl <| mv rfl <| bE h fun c60_51 hg51 h => ?_
 obtain rfl := O (F hg51)
 refine ww <| ww <| ww <| pF rfl <| mv rfl <| bE h fun c65_52 hg52 h => ?_
 obtain rfl := O (F hg52)
 refine ww <| ww <| ww <| pF rfl <| mv rfl <| bE h fun c73_53 hg53 h => ?_
 obtain rfl := O (F hg53)
 exact ww <| ww <| ww <| ww <| ww <| ww <| pF rfl <| ag rfl <| dn <| ⟨false, h, wR []⟩
 refine gl rfl rfl (.cons rfl (.cons rfl (.cons rfl (.cons rfl (.nil))))) <| gm rfl <| bE (V hg39) fun x47 h47 hg39 => gc (lp_Slack_ok h47) ⟨rfl, rfl, trivial⟩ <| RT.buildSl (l := [2, 0, 0]) (e := eI64) (.some rfl rfl) (.one rfl (.one rfl (.one rfl (.nil)))) T rfl rfl rfl rfl rfl rfl <| bE hg39 fun x49 h49 hg39 => gc (vec_FromInts_ok h49) ⟨rfl, trivial⟩ <| bE hg39 fun x50 h50 hg39 => gc (vec_Equal_ok h50) ⟨rfl, rfl, trivial⟩ ?_
 obtain rfl := O hg39
 refine pT rfl <| mv rfl <| bE h fun c55_40 hg40 h => ?_
 cases x50
 obtain rfl := O (F hg40)
 refine ww <| ww <| pF rfl <| mv rfl <| bE h fun c60_47 hg47 h => ?_
 obtain rfl := O (F hg47)
 refine ww <| ww <| ww <| pF rfl <| mv rfl <| bE h fun c65_48 hg48 h => ?_
 obtain rfl := O (F hg48)
 refine ww <| ww <| ww <| pF rfl <| mv rfl <| bE h fun c73_49 hg49 h => ?_
 obtain rfl := O (F hg49)
 exact ww <| ww <| ww <| ww <| ww <| ww <| pF rfl <| ag rfl <| dn <| ⟨false, h, wR []⟩
 refine gm rfl <| lE (V hg40) fun x54 h54 hg40 => ge_ _ rfl rfl (eqI (p := x10b) (q := 0) h54) ?_
 obtain rfl := O hg40
 refine pT rfl <| mv rfl <| bE h fun c60_41 hg41 h => ?_
 cases x54
 obtain rfl := O (F hg41)
 refine ww <| ww <| ww <| pF rfl <| mv rfl <| bE h fun c65_45 hg45 h => ?_
 obtain rfl := O (F hg45)
 refine ww <| ww <| ww <| pF rfl <| mv rfl <| bE h fun c73_46 hg46 h => ?_
 obtain rfl := O (F hg46)
 exact ww <| ww <| ww <| ww <| ww <| ww <| pF rfl <| ag rfl <| dn <| ⟨false, h, wR []⟩
 refine gl rfl rfl (.cons rfl (.cons rfl (.cons rfl (.cons rfl (.nil))))) <| gl rfl rfl (.cons rfl (.cons rfl (.cons rfl (.cons rfl (.nil))))) <| bE (V hg41) fun x59 h59 hg41 => gc (lp_Equal_ok h59) ⟨rfl, rfl, trivial⟩ ?_
 obtain rfl := O hg41
 refine pT rfl <| mv rfl <| bE h fun c65_42 hg42 h => ?_
 cases x59
 obtain rfl := O (F hg42)
 refine ww <| ww <| ww <| pF rfl <| mv rfl <| bE h fun c73_44 hg44 h => ?_
 obtain rfl := O (F hg44)
 exact ww <| ww <| ww <| ww <| ww <| ww <| pF rfl <| ag rfl <| dn <| ⟨false, h, wR []⟩
 refine gl rfl rfl (.cons rfl (.cons rfl (.cons rfl (.cons rfl (.nil))))) <| gm rfl <| bE (V hg42) fun x64 h64 hg42 => gc (lp_Feasible_ok h64) ⟨rfl, rfl, trivial⟩ ?_
 obtain rfl := O hg42
 refine pT rfl <| mv rfl <| bE h fun c73_43 hg43 h => ?_
 cases x64
 obtain rfl := O (F hg43)
 exact ww <| ww <| ww <| ww <| ww <| ww <| pF rfl <| ag rfl <| dn <| ⟨false, h, wR []⟩
 refine gl rfl rfl (.cons rfl (.cons rfl (.cons rfl (.cons rfl (.nil))))) <| gm rfl <| bE (V hg43) fun x69 h69 hg43 => gc (lp_Evaluate_ok h69) ⟨rfl, rfl, trivial⟩ <| RT.buildSl (l := [(-36)]) (e := eI64) (.some rfl rfl) (.one rfl (.nil)) T rfl rfl rfl rfl rfl rfl <| bE hg43 fun x71 h71 hg43 => gc (vec_FromInts_ok h71) ⟨rfl, trivial⟩ <| bE hg43 fun x72 h72 hg43 => gc (vec_Equal_ok h72) ⟨rfl, rfl, trivial⟩ ?_
 obtain rfl := O hg43
 exact pT rfl <| ag rfl <| dn <| ⟨x72, h, wR []⟩
 try dsimp only
 refine AThen.n <| ok_ret ?_
 obtain rfl := O h
 exact R1 rfl
theorem law06_bare_ok {x0 : List (List Qr)} {r : Bool} (h : law06_bare_m x0 = some r) : Pure Tryz.prog 44 [slc 1 (List.map (eS 4 eQ) x0)] (.v (.bool r)) := by
 refine pure_of_ok Tryz.func44 rfl (Nat.le_of_ble_eq_true rfl) (fun wld M vs hvs => ?_)
 unfold law06_bare_m at h
 refine sr <| ag rfl <| dn <| qq <| sr <| ag rfl <| dn <| bE h fun e6 hl6 ho6 => ?_
 refine ok_tailP (fun (xe6 : Unit) => AS.mkL 16 [] [] []) (fun xe6 => .inl xe6 = e6) ?_ (fun xe6 hx6 => ?_)
 refine ok_block ?_
 refine ok_loopM hl6 (fun s6 => AS.mkL 16 [(0, .sv (slc 1 (List.map (eS 4 eQ) x0))), (3, .sv (.v (.int .i64 s6)))] [] []) (wR []) (fun y3l3 y6 G6 h hG6 hE6 => ?_)
 try dsimp only
 refine qq <| sr <| mv rfl <| mv rfl <| lE h fun x6 h6 h => ln rfl h6 <| lE h fun x7 h7 h => ls _ rfl rfl h7 <| dn ?_
 cases x7
 refine cF <| ok_exit <| AThen.x <| AThen.x <| AInB.x <| AThen.n ?_
 obtain rfl := O (F h)
 exact ⟨(), hE6 _ rfl, wR []⟩
 refine cT <| ok_skip <| AThen.n <| qq <| ok_block <| sr <| mv rfl <| mv rfl <| bE (V h) fun x12 h12 h => ix rfl rfl h12 <| lr rfl rfl <| lE h fun x14 h14 h => ln rfl h14 <| lE h fun x15 h15 h => gt _ rfl rfl h15 <| dn ?_
 cases x15
 refine cF <| ok_skip <| AInB.n <| AThen.n <| ok_region <| mv rfl <| lE (F h) fun x9 h9 h => ad _ rfl rfl h9 <| ag rfl <| RT.done ?_
 obtain rfl := O h
 exact AThen.n ⟨x9, hG6 _ rfl, wR []⟩
 refine cT <| sr <| ag rfl <| dn <| ok_ret <| AInB.r <| AThen.r ?_
 obtain rfl := O (V h)
 have he6 := hE6 _ rfl
 subst he6
 refine AThen.r <| AInB.r <| AThen.r <| AThen.r ?_
 obtain rfl := O ho6
 exact R1 rfl
 subst hx6
 try dsimp only
 refine AThen.n <| sr <| ag rfl <| dn <| ok_ret ?_
 obtain rfl := O ho6
 exact R1 rfl
theorem law06_cut_ok {x0 : List Qr} {r : List Qr} (h : law06_cut_m x0 = some r) : Pure Tryz.prog 46 [slc 4 (List.map eQ x0)] (slc 4 (List.map eQ r)) := by
 refine pure_of_ok Tryz.func46 rfl (Nat.le_of_ble_eq_true rfl) (fun wld M vs hvs => ?_)
 unfold law06_cut_m at h
 refine sr <| aI rfl (imp_nil (n := 4) (e := eQ)) <| dn <| sr <| mv rfl <| mv rfl <| lE h fun x5 h5 h => ln rfl h5 <| lE h fun x6 h6 h => RT.min .none _ rfl rfl T (minI (p := x5) (q := 20) h6) <| bE h fun x7 h7 h => RT.sliceM .none 0 x6 rfl rfl ⟨_, rfl⟩ T h7 <| ag rfl <| dn <| ok_ret ?_
 obtain rfl := O h
 exact R1 rfl
set_option maxHeartbeats 4000000 in
theorem law06_Long_ok {x0 : Lr} {r : Bool} (h : law06_Long_m x0 = some r) : Pure Tryz.prog 10 [.agg (eLr x0)] (.v (.bool r)) := by
 obtain ⟨x0_0, x0_1, x0_2, x0_3⟩ := x0
 refine pure_of_ok Tryz.func10 rfl (Nat.le_of_ble_eq_true rfl) (fun wld M vs hvs => ?_)
 unfold law06_Long_m at h
 refine sr <| bx rfl <| ag rfl <| dn <| qq ?_
 refine ok_tailJ h (fun j59 => AS.mkL 56 [(2, .sv (.v (.bool j59)))] [] []) (fun h => ?_) (fun y2j58 h => ?_)
 refine ok_region <| fa rfl rfl <| lV rfl rfl rfl <| lE h fun x5 h5 h => ln rfl h5 <| lE h fun x6 h6 h => gt _ rfl rfl h6 <| mv rfl <| bE h fun c12_60 hg60 h => ?_
 cases x6
 refine RT.fieldAddr (.some rfl rfl) rfl T rfl <| RT.ldV (.some rfl rfl) rfl rfl rfl T <| lE (F hg60) fun x10 h10 hg60 => gn rfl h10 <| lE hg60 fun x11 h11 hg60 => gg _ rfl rfl h11 ?_
 obtain rfl := O hg60
 refine pF rfl <| mv rfl <| bE h fun c18_61 hg61 h => ?_
 cases x11
 refine RT.fieldAddr (.some rfl rfl) rfl T rfl <| RT.ldV (.some rfl rfl) rfl rfl rfl T <| lE (F hg61) fun x16 h16 hg61 => gn rfl h16 <| lE hg61 fun x17 h17 hg61 => gg _ rfl rfl h17 ?_
 obtain rfl := O hg61
 refine pF rfl <| mv rfl <| bE h fun c30_62 hg62 h => ?_
 cases x17
 refine RT.fieldAddr (.some rfl rfl) rfl T rfl <| RT.ldV (.some rfl rfl) rfl rfl rfl T <| lE (F hg62) fun x22 h22 hg62 => gn rfl h22 <| lE hg62 fun x23 h23 hg62 => gg _ rfl rfl h23 <| gm rfl <| bE hg62 fun c29_63 hg63 hg62 => ?_
 cases x23
 obtain rfl := O (F hg63)
 refine ww <| ww <| ww <| ww <| gF rfl ?_
 obtain rfl := O hg62
 refine pF rfl <| mv rfl <| bE h fun c42_76 hg76 h => RT.fieldAddr (.some rfl rfl) rfl T rfl <| RT.ldV (.some rfl rfl) rfl rfl rfl T <| lE (F hg76) fun x34 h34 hg76 => gn rfl h34 <| lE hg76 fun x35 h35 hg76 => RT.leq (.some rfl rfl) _ rfl rfl T h35 <| gm rfl <| bE hg76 fun c41_77 hg77 hg76 => ?_
 cases x35
 obtain rfl := O (F hg77)
 refine ww <| ww <| ww <| ww <| gF rfl ?_
 obtain rfl := O hg76
 refine pF rfl <| mv rfl <| bE h fun c48_81 hg81 h => RT.fieldAddr (.some rfl rfl) rfl T rfl <| RT.ldV (.some rfl rfl) rfl rfl rfl T <| RT.buildSl (l := [x0_1]) (e := (eS 1 (eS 4 eQ))) (.some rfl rfl) (.one rfl (.nil)) T rfl rfl rfl rfl rfl rfl <| bE (F hg81) fun x47 h47 hg81 => gc (law04_Long_ok h47) ⟨rfl, trivial⟩ ?_
 obtain rfl := O hg81
 refine pF rfl <| mv rfl <| bE h fun c55_82 hg82 h => ?_
 cases x47
 refine RT.fieldAddr (.some rfl rfl) rfl T rfl <| RT.ldV (.some rfl rfl) rfl rfl rfl T <| bE (F hg82) fun x52 h52 hg82 => gc (law06_cut_ok h52) ⟨rfl, trivial⟩ <| RT.buildSl (l := [x52]) (e := (eS 4 eQ)) (.some rfl rfl) (.one rfl (.nil)) T rfl rfl rfl rfl rfl rfl <| bE hg82 fun x54 h54 hg82 => gc (law03_Long_ok h54) ⟨rfl, trivial⟩ ?_
 obtain rfl := O hg82
 exact pF rfl <| ag rfl <| dn <| ⟨x54, h, wR []⟩
 obtain rfl := O (V hg82)
 exact ww <| ww <| ww <| ww <| ww <| pT rfl <| ag rfl <| dn <| ⟨true, h, wR []⟩
 refine RT.fieldAddr (.some rfl rfl) rfl T rfl <| RT.ldV (.some rfl rfl) rfl rfl rfl T <| RT.buildSl (l := [x0_2]) (e := (eS 1 (eS 4 eQ))) (.some rfl rfl) (.one rfl (.nil)) T rfl rfl rfl rfl rfl rfl <| bE (V hg77) fun x40 h40 hg77 => gc (law04_Long_ok h40) ⟨rfl, trivial⟩ ?_
 obtain rfl := O hg77
 refine gT rfl ?_
 obtain rfl := O hg76
 refine pF rfl <| mv rfl <| bE h fun c48_78 hg78 h => ?_
 cases x40
 refine RT.fieldAddr (.some rfl rfl) rfl T rfl <| RT.ldV (.some rfl rfl) rfl rfl rfl T <| RT.buildSl (l := [x0_1]) (e := (eS 1 (eS 4 eQ))) (.some rfl rfl) (.one rfl (.nil)) T rfl rfl rfl rfl rfl rfl <| bE (F hg78) fun x47 h47 hg78 => gc (law04_Long_ok h47) ⟨rfl, trivial⟩ ?_
 obtain rfl := O hg78
 refine pF rfl <| mv rfl <| bE h fun c55_79 hg79 h => ?_
 cases x47
 refine RT.fieldAddr (.some rfl rfl) rfl T rfl <| RT.ldV (.some rfl rfl) rfl rfl rfl T <| bE (F hg79) fun x52 h52 hg79 => gc (law06_cut_ok h52) ⟨rfl, trivial⟩ <| RT.buildSl (l := [x52]) (e := (eS 4 eQ)) (.some rfl rfl) (.one rfl (.nil)) T rfl rfl rfl rfl rfl rfl <| bE hg79 fun x54 h54 hg79 => gc (law03_Long_ok h54) ⟨rfl, trivial⟩ ?_
 obtain rfl := O hg79
 exact pF rfl <| ag rfl <| dn <| ⟨x54, h, wR []⟩
 obtain rfl := O (V hg79)
 exact ww <| ww <| ww <| ww <| ww <| pT rfl <| ag rfl <| dn <| ⟨true, h, wR []⟩
 obtain rfl := O (V hg78)
 refine ww <| ww <| ww <| ww <| pT rfl <| mv rfl <| bE h fun c55_80 hg80 h => ?_
 obtain rfl := O (V hg80)
 exact ww <| ww <| ww <| ww <| ww <| pT rfl <| ag rfl <| dn <| ⟨true, h, wR []⟩
 refine RT.fieldAddr (.some rfl rfl) rfl T rfl <| RT.ldV (.some rfl rfl) rfl rfl rfl T <| bE (V hg63) fun x27 h27 hg63 => gc (law06_bare_ok h27) ⟨rfl, trivial⟩ <| lE hg63 fun x28 h28 hg63 => gt_ rfl _ h28 ?_
 obtain rfl := O hg63
 refine gT rfl ?_
 obtain rfl := O hg62
 refine pF rfl <| mv rfl <| bE h fun c42_64 hg64 h => ?_
 cases x28
 refine RT.fieldAddr (.some rfl rfl) rfl T rfl <| RT.ldV (.some rfl rfl) rfl rfl rfl T <| lE (F hg64) fun x34 h34 hg64 => gn rfl h34 <| lE hg64 fun x35 h35 hg64 => RT.leq (.some rfl rfl) _ rfl rfl T h35 <| gm rfl <| bE hg64 fun c41_65 hg65 hg64 => ?_
 cases x35
 obtain rfl := O (F hg65)
 refine ww <| ww <| ww <| ww <| gF rfl ?_
 obtain rfl := O hg64
 refine pF rfl <| mv rfl <| bE h fun c48_69 hg69 h => RT.fieldAddr (.some rfl rfl) rfl T rfl <| RT.ldV (.some rfl rfl) rfl rfl rfl T <| RT.buildSl (l := [x0_1]) (e := (eS 1 (eS 4 eQ))) (.some rfl rfl) (.one rfl (.nil)) T rfl rfl rfl rfl rfl rfl <| bE (F hg69) fun x47 h47 hg69 => gc (law04_Long_ok h47) ⟨rfl, trivial⟩ ?_
 obtain rfl := O hg69
 refine pF rfl <| mv rfl <| bE h fun c55_70 hg70 h => ?_
 cases x47
 refine RT.fieldAddr (.some rfl rfl) rfl T rfl <| RT.ldV (.some rfl rfl) rfl rfl rfl T <| bE (F hg70) fun x52 h52 hg70 => gc (law06_cut_ok h52) ⟨rfl, trivial⟩ <| RT.buildSl (l := [x52]) (e := (eS 4 eQ)) (.some rfl rfl) (.one rfl (.nil)) T rfl rfl rfl rfl rfl rfl <| bE hg70 fun x54 h54 hg70 => gc (law03_Long_ok h54) ⟨rfl, trivial⟩ ?_
 obtain rfl := O hg70
 exact pF rfl <| ag rfl <| dn <| ⟨x54, h, wR []⟩
 obtain rfl := O (V hg70)
 exact ww <| ww <| ww <| ww <| ww <| pT rfl <| ag rfl <| dn <| ⟨true, h, wR []⟩
 refine RT.fieldAddr (.some rfl rfl) rfl T rfl <| RT.ldV (.some rfl rfl) rfl rfl rfl T <| RT.buildSl (l := [x0_2]) (e := (eS 1 (eS 4 eQ))) (.some rfl rfl) (.one rfl (.nil)) T rfl rfl rfl rfl rfl rfl <| bE (V hg65) fun x40 h40 hg65 => gc (law04_Long_ok h40) ⟨rfl, trivial⟩ ?_
 obtain rfl := O hg65
 refine gT rfl ?_
 obtain rfl := O hg64
 refine pF rfl <| mv rfl <| bE h fun c48_66 hg66 h => ?_
 cases x40
 refine RT.fieldAddr (.some rfl rfl) rfl T rfl <| RT.ldV (.some rfl rfl) rfl rfl rfl T <| RT.buildSl (l := [x0_1]) (e := (eS 1 (eS 4 eQ))) (.some rfl rfl) (.one rfl (.nil)) T rfl rfl rfl rfl rfl rfl <| bE (F hg66) fun x47 h47 hg66 => gc (law04_Long_ok h47) ⟨rfl, trivial⟩ ?_
 obtain rfl := O hg66
 refine pF rfl <| mv rfl <| bE h fun c55_67 hg67 h => ?_
 cases x47
 refine RT.fieldAddr (.some rfl rfl) rfl T rfl <| RT.ldV (.some rfl rfl) rfl rfl rfl T <| bE (F hg67) fun x52 h52 hg67 => gc (law06_cut_ok h52) ⟨rfl, trivial⟩ <| RT.buildSl (l := [x52]) (e := (eS 4 eQ)) (.some rfl rfl) (.one rfl (.nil)) T rfl rfl rfl rfl rfl rfl <| bE hg67 fun x54 h54 hg67 => gc (law03_Long_ok h54) ⟨rfl, trivial⟩ ?_
 obtain rfl := O hg67
 exact pF rfl <| ag rfl <| dn <| ⟨x54, h, wR []⟩
 obtain rfl := O (V hg67)
 exact ww <| ww <| ww <| ww <| ww <| pT rfl <| ag rfl <| dn <| ⟨true, h, wR []⟩
 obtain rfl := O (V hg66)
 refine ww <| ww <| ww <| ww <| pT rfl <| mv rfl <| bE h fun c55_68 hg68 h => ?_
 obtain rfl := O (V hg68)
 exact ww <| ww <| ww <| ww <| ww <| pT rfl <| ag rfl <| dn <| ⟨true, h, wR []⟩
 obtain rfl := O (V hg64)
 refine ww <| ww <| ww <| ww <| ww <| wu <| wu <| wu <| wu <| ww <| pT rfl <| mv rfl <| bE h fun c48_74 hg74 h => ?_
 obtain rfl := O (V hg74)
 refine ww <| ww <| ww <| ww <| pT rfl <| mv rfl <| bE h fun c55_75 hg75 h => ?_
 obtain rfl := O (V hg75)
 exact ww <| ww <| ww <| ww <| ww <| pT rfl <| ag rfl <| dn <| ⟨true, h, wR []⟩
 obtain rfl := O (V hg62)
 refine ww <| ww <| ww <| ww <| ww <| wu <| wu <| wu <| wu <| ww <| pT rfl <| mv rfl <| bE h fun c42_98 hg98 h => ?_
 obtain rfl := O (V hg98)
 refine ww <| ww <| ww <| ww <| ww <| wu <| wu <| wu <| wu <| ww <| pT rfl <| mv rfl <| bE h fun c48_99 hg99 h => ?_
 obtain rfl := O (V hg99)
 refine ww <| ww <| ww <| ww <| pT rfl <| mv rfl <| bE h fun c55_100 hg100 h => ?_
 obtain rfl := O (V hg100)
 exact ww <| ww <| ww <| ww <| ww <| pT rfl <| ag rfl <| dn <| ⟨true, h, wR []⟩
 obtain rfl := O (V hg61)
 refine ww <| ww <| ww <| ww <| pT rfl <| mv rfl <| bE h fun c30_101 hg101 h => ?_
 obtain rfl := O (V hg101)
 refine ww <| ww <| ww <| ww <| ww <| wu <| wu <| wu <| wu <| ww <| pT rfl <| mv rfl <| bE h fun c42_102 hg102 h => ?_
 obtain rfl := O (V hg102)
 refine ww <| ww <| ww <| ww <| ww <| wu <| wu <| wu <| wu <| ww <| pT rfl <| mv rfl <| bE h fun c48_103 hg103 h => ?_
 obtain rfl := O (V hg103)
 refine ww <| ww <| ww <| ww <| pT rfl <| mv rfl <| bE h fun c55_104 hg104 h => ?_
 obtain rfl := O (V hg104)
 exact ww <| ww <| ww <| ww <| ww <| pT rfl <| ag rfl <| dn <| ⟨true, h, wR []⟩
 obtain rfl := O (V hg60)
 refine ww <| ww <| ww <| ww <| pT rfl <| mv rfl <| bE h fun c18_105 hg105 h => ?_
 obtain rfl := O (V hg105)
 refine ww <| ww <| ww <| ww <| pT rfl <| mv rfl <| bE h fun c30_106 hg106 h => ?_
 obtain rfl := O (V hg106)
 refine ww <| ww <| ww <| ww <| ww <| wu <| wu <| wu <| wu <| ww <| pT rfl <| mv rfl <| bE h fun c42_107 hg107 h => ?_
 obtain rfl := O (V hg107)
 refine ww <| ww <| ww <| ww <| ww <| wu <| wu <| wu <| wu <| ww <| pT rfl <| mv rfl <| bE h fun c48_108 hg108 h => ?_
 obtain rfl := O (V hg108)
 refine ww <| ww <| ww <| ww <| pT rfl <| mv rfl <| bE h fun c55_109 hg109 h => ?_
 obtain rfl := O (V hg109)
 exact ww <| ww <| ww <| ww <| ww <| pT rfl <| ag rfl <| dn <| ⟨true, h, wR []⟩
 try dsimp only
 refine AThen.n <| ok_ret ?_
 obtain rfl := O h
 exact R1 rfl
end Go.Proofs.YtfoldppidpmchaaGreat
namespace Go.Proofs.YtfoldppidpmchaaGreat
open Go.Fw Go.Fw.Z Go.RowKit
set_option maxHeartbeats 4000000 in
theorem law06_LpConstraints_ok {x0 : Lr} {x1 : List Qr} {x2 : List Qr} {x3 : List Qr} {x4 : Qr} {r : Bool} (h : law06_LpConstraints_m x0 x1 x2 x3 x4 = some r) : Pure Tryz.prog 8 [.agg (eLr x0), slc 4 (List.map eQ x1), slc 4 (List.map eQ x2), slc 4 (List.map eQ x3), .agg (eQ x4)] (.v (.bool r)) := by
 obtain ⟨x0_0, x0_1, x0_2, x0_3⟩ := x0
 obtain ⟨⟨x4_0, x4_1⟩, ⟨x4_2, x4_3⟩⟩ := x4
 refine pure_of_ok Tryz.func8 rfl (Nat.le_of_ble_eq_true rfl) (fun wld M vs hvs => ?_)
 unfold law06_LpConstraints_m at h
 refine sr <| bx rfl <| bx rfl <| ag rfl <| dn <| qq <| qq ?_
 refine ok_tailJ h (fun j6 => AS.mkL 159 [(1, .sv (slc 4 (List.map eQ x1))), (2, .sv (slc 4 (List.map eQ x2))), (3, .sv (slc 4 (List.map eQ x3))), (5, .ptr 5 0), (9, .ptr 9 0), (33, .sv (.v (.bool j6)))] [(9, ⟨36, [.sv (.v (.bool x4_0)), .sv (slc 1 (List.map eU32 x4_1)), .sv (.v (.bool x4_2)), .sv (slc 1 (List.map eU32 x4_3))]⟩), (5, ⟨26, [.sv (.v (.int .i64 x0_0)), .sv (slc 1 (List.map (eS 4 eQ) x0_1)), .sv (slc 1 (List.map (eS 4 eQ) x0_2)), .sv (slc 4 (List.map eQ x0_3))]⟩)] []) (fun h => ?_) (fun y33j5 h => ?_)
 refine ok_region <| ld rfl rfl (.cons rfl (.cons rfl (.cons rfl (.cons rfl (.nil))))) <| bE h fun x21 h21 h => cl (law06_Long_ok h21) ⟨rfl, trivial⟩ <| mv rfl <| bE h fun c28_177 hg177 h => ?_
 cases x21
 refine gm rfl <| gm rfl <| gm rfl <| RT.buildSl (l := [x1, x2, x3]) (e := (eS 4 eQ)) (.some rfl rfl) (.one rfl (.one rfl (.one rfl (.nil)))) T rfl rfl rfl rfl rfl rfl <| bE (F hg177) fun x27 h27 hg177 => gc (law03_Long_ok h27) ⟨rfl, trivial⟩ ?_
 obtain rfl := O hg177
 refine pF rfl <| mv rfl <| bE h fun c33_178 hg178 h => ?_
 cases x27
 refine gl rfl rfl (.cons rfl (.cons rfl (.cons rfl (.cons rfl (.nil))))) <| RT.buildSl (l := [⟨⟨x4_0, x4_1⟩, ⟨x4_2, x4_3⟩⟩]) (e := eQ) (.some rfl rfl) (.agg rfl (.nil)) T rfl rfl rfl rfl rfl rfl <| bE (F hg178) fun x32 h32 hg178 => gc (law02_Long_ok h32) ⟨rfl, trivial⟩ ?_
 obtain rfl := O hg178
 exact pF rfl <| dn <| ⟨x32, h, wR []⟩
 obtain rfl := O (V hg178)
 exact ww <| ww <| ww <| pT rfl <| dn <| ⟨true, h, wR []⟩
 obtain rfl := O (V hg177)
 refine ww <| ww <| ww <| ww <| ww <| pT rfl <| mv rfl <| bE h fun c33_179 hg179 h => ?_
 obtain rfl := O (V hg179)
 exact ww <| ww <| ww <| pT rfl <| dn <| ⟨true, h, wR []⟩
 try dsimp only
 refine AThen.n ?_
 cases y33j5
 refine fs <| sr <| ld rfl rfl (.cons rfl (.cons rfl (.cons rfl (.cons rfl (.nil))))) <| mv rfl <| ld rfl rfl (.cons rfl (.cons rfl (.cons rfl (.cons rfl (.nil))))) ?_
 obtain ⟨⟨⟨x39a_0, x39a_1, x39a_2, x39a_3⟩, x39b⟩, h39, h⟩ := bS (F h)
 refine cl (lp_AddConstraint_ok h39) ⟨rfl, rfl, rfl, trivial⟩ <| mv rfl <| ex rfl rfl <| ex rfl rfl <| al (cs := [.v (.int .i64 0), slc 1 (List.map (eS 4 eQ) []), slc 1 (List.map (eS 4 eQ) []), slc 4 (List.map eQ [])]) (by exact ⟨SV.imp_refl _, imp_nil, imp_nil, imp_nil, trivial⟩) rfl <| so rfl rfl rfl <| ag rfl <| dn <| sr <| ld rfl rfl (.cons rfl (.cons rfl (.cons rfl (.cons rfl (.nil))))) <| mv rfl <| ld rfl rfl (.cons rfl (.cons rfl (.cons rfl (.cons rfl (.nil))))) ?_
 obtain ⟨⟨⟨x46a_0, x46a_1, x46a_2, x46a_3⟩, x46b⟩, h46, h⟩ := bS h
 refine cl (lp_AddEquation_ok h46) ⟨rfl, rfl, rfl, trivial⟩ <| mv rfl <| ex rfl rfl <| ex rfl rfl <| al (cs := [.v (.int .i64 0), slc 1 (List.map (eS 4 eQ) []), slc 1 (List.map (eS 4 eQ) []), slc 4 (List.map eQ [])]) (by exact ⟨SV.imp_refl _, imp_nil, imp_nil, imp_nil, trivial⟩) rfl <| so rfl rfl rfl <| ag rfl <| dn <| sr <| mv rfl <| mv rfl ?_
 obtain ⟨⟨⟨x51_0, x51_1⟩, ⟨x51_2, x51_3⟩⟩, h51, h⟩ := bS h
 refine cl (vec_Dot_ok h51) ⟨rfl, rfl, trivial⟩ <| al (cs := [.v (.bool false), slc 1 (List.map eU32 []), .v (.bool false), slc 1 (List.map eU32 [])]) (by exact ⟨SV.imp_refl _, imp_nil, SV.imp_refl _, imp_nil, trivial⟩) rfl <| so rfl rfl rfl <| dn <| qq <| qq ?_
 refine ok_tailJ h (fun j70 => AS.mkL 159 [(1, .sv (slc 4 (List.map eQ x1))), (2, .sv (slc 4 (List.map eQ x2))), (5, .ptr 5 0), (94, .sv (.v (.bool j70)))] [(5, ⟨26, [.sv (.v (.int .i64 x0_0)), .sv (slc 1 (List.map (eS 4 eQ) x0_1)), .sv (slc 1 (List.map (eS 4 eQ) x0_2)), .sv (slc 4 (List.map eQ x0_3))]⟩)] []) (fun h => ?_) (fun y94j69 h => ?_)
 refine ok_region_draw mixed <| mv rfl <| lE h fun x53 h53 h => eq _ rfl rfl (eqI (p := x39b) (q := 0) h53) <| mv rfl <| bE h fun c68_115 hg115 h => ?_
 cases x53
 obtain rfl := O (F hg115)
 refine ww <| ww <| ww <| ww <| ww <| ww <| ww <| wu <| wu <| wu <| wu <| ww <| ww <| pF rfl <| mv rfl <| bE h fun c86_159 hg159 h => gm rfl <| lE (F hg159) fun x71 h71 hg159 => ge_ _ rfl rfl (eqI (p := x46b) (q := 0) h71) ?_
 refine gm rfl <| bE hg159 fun c85_160 hg160 hg159 => ?_
 cases x71
 obtain rfl := O (F hg160)
 refine ww <| ww <| ww <| ww <| ww <| ww <| ww <| wu <| wu <| wu <| ww <| ww <| gF rfl ?_
 obtain rfl := O hg159
 refine pF rfl <| mv rfl <| bE h fun c94_168 hg168 h => gm rfl <| lE (F hg168) fun x89 h89 hg168 => ge_ _ rfl rfl (eqI (p := x46b) (q := 0) h89) <| gm rfl <| bE hg168 fun c93_169 hg169 hg168 => ?_
 cases x89
 obtain rfl := O (F hg169)
 refine ww <| ww <| gF rfl ?_
 obtain rfl := O hg168
 refine pF rfl ?_
 refine RT.done ⟨by kernel_rfl, ?_⟩
 exact AThen.n <| ⟨false, h, wR []⟩
 refine gm rfl <| lE (V hg169) fun x92 h92 hg169 => gq _ rfl rfl (neI (p := x39b) (q := 0) h92) ?_
 obtain rfl := O hg169
 refine gT rfl ?_
 obtain rfl := O hg168
 refine pF rfl ?_
 refine RT.done ⟨by kernel_rfl, ?_⟩
 exact AThen.n <| ⟨x92, h, wR []⟩
 refine gl rfl rfl (.cons rfl (.cons rfl (.cons rfl (.cons rfl (.nil))))) <| gm rfl <| bE (V hg160) fun x75 h75 hg160 => gc (lp_Feasible_ok h75) ⟨rfl, rfl, trivial⟩ <| gl rfl rfl (.cons rfl (.cons rfl (.cons rfl (.cons rfl (.nil))))) <| gm rfl <| bE hg160 fun x78 h78 hg160 => gc (lp_Feasible_ok h78) ⟨rfl, rfl, trivial⟩ <| gm rfl <| bE hg160 fun c83_161 hg161 hg160 => ?_
 cases x78
 obtain rfl := O (F hg161)
 refine ww <| ww <| ww <| gF rfl <| lE hg160 fun x84 h84 hg160 => RT.bneq (.some rfl rfl) _ rfl rfl T h84 ?_
 obtain rfl := O hg160
 refine gT rfl ?_
 obtain rfl := O hg159
 refine pF rfl <| mv rfl <| bE h fun c94_164 hg164 h => ?_
 cases x84
 refine gm rfl <| lE (F hg164) fun x89 h89 hg164 => ge_ _ rfl rfl (eqI (p := x46b) (q := 0) h89) <| gm rfl <| bE hg164 fun c93_165 hg165 hg164 => ?_
 cases x89
 obtain rfl := O (F hg165)
 refine ww <| ww <| gF rfl ?_
 obtain rfl := O hg164
 refine pF rfl ?_
 refine RT.done ⟨by kernel_rfl, ?_⟩
 exact AThen.n <| ⟨false, h, wR []⟩
 refine gm rfl <| lE (V hg165) fun x92 h92 hg165 => gq _ rfl rfl (neI (p := x39b) (q := 0) h92) ?_
 obtain rfl := O hg165
 refine gT rfl ?_
 obtain rfl := O hg164
 refine pF rfl ?_
 refine RT.done ⟨by kernel_rfl, ?_⟩
 exact AThen.n <| ⟨x92, h, wR []⟩
 obtain rfl := O (V hg164)
 refine ww <| ww <| ww <| wu <| wu <| ww <| pT rfl ?_
 refine RT.done ⟨by kernel_rfl, ?_⟩
 exact AThen.n <| ⟨true, h, wR []⟩
 refine gl rfl rfl (.cons rfl (.cons rfl (.cons rfl (.cons rfl (.nil))))) <| gl rfl rfl (.cons rfl (.cons rfl (.cons rfl (.cons rfl (.nil))))) <| bE (V hg161) fun x82 h82 hg161 => gc (frac_Equal_ok h82) ⟨rfl, rfl, trivial⟩ ?_
 obtain rfl := O hg161
 refine gT rfl <| lE hg160 fun x84 h84 hg160 => RT.bneq (.some rfl rfl) _ rfl rfl T h84 ?_
 obtain rfl := O hg160
 refine gT rfl ?_
 obtain rfl := O hg159
 refine pF rfl <| mv rfl <| bE h fun c94_162 hg162 h => ?_
 cases x84
 refine gm rfl <| lE (F hg162) fun x89 h89 hg162 => ge_ _ rfl rfl (eqI (p := x46b) (q := 0) h89) <| gm rfl <| bE hg162 fun c93_163 hg163 hg162 => ?_
 cases x89
 obtain rfl := O (F hg163)
 refine ww <| ww <| gF rfl ?_
 obtain rfl := O hg162
 refine pF rfl ?_
 refine RT.done ⟨by kernel_rfl, ?_⟩
 exact AThen.n <| ⟨false, h, wR []⟩
 refine gm rfl <| lE (V hg163) fun x92 h92 hg163 => gq _ rfl rfl (neI (p := x39b) (q := 0) h92) ?_
 obtain rfl := O hg163
 refine gT rfl ?_
 obtain rfl := O hg162
 refine pF rfl ?_
 refine RT.done ⟨by kernel_rfl, ?_⟩
 exact AThen.n <| ⟨x92, h, wR []⟩
 obtain rfl := O (V hg162)
 refine ww <| ww <| ww <| wu <| wu <| ww <| pT rfl ?_
 refine RT.done ⟨by kernel_rfl, ?_⟩
 exact AThen.n <| ⟨true, h, wR []⟩
 refine gl rfl rfl (.cons rfl (.cons rfl (.cons rfl (.cons rfl (.nil))))) <| gm rfl <| bE (V hg115) fun x57 h57 hg115 => gc (lp_Feasible_ok h57) ⟨rfl, rfl, trivial⟩ <| gl rfl rfl (.cons rfl (.cons rfl (.cons rfl (.cons rfl (.nil))))) <| gm rfl <| bE hg115 fun x60 h60 hg115 => gc (lp_Feasible_ok h60) ⟨rfl, rfl, trivial⟩ <| gm rfl <| bE hg115 fun c66_116 hg116 hg115 => ?_
 cases x60
 obtain rfl := O (F hg116)
 refine ww <| ww <| ww <| ww <| gF rfl <| lE hg115 fun x67 h67 hg115 => RT.bneq (.some rfl rfl) _ rfl rfl T h67 ?_
 obtain rfl := O hg115
 refine pT rfl <| mv rfl <| bE h fun c86_131 hg131 h => ?_
 cases x67
 refine gm rfl <| lE (F hg131) fun x71 h71 hg131 => ge_ _ rfl rfl (eqI (p := x46b) (q := 0) h71) <| gm rfl <| bE hg131 fun c85_132 hg132 hg131 => ?_
 cases x71
 obtain rfl := O (F hg132)
 refine ww <| ww <| ww <| ww <| ww <| ww <| ww <| wu <| wu <| wu <| ww <| ww <| gF rfl ?_
 obtain rfl := O hg131
 refine pF rfl <| mv rfl <| bE h fun c94_140 hg140 h => gm rfl <| lE (F hg140) fun x89 h89 hg140 => ge_ _ rfl rfl (eqI (p := x46b) (q := 0) h89) <| gm rfl <| bE hg140 fun c93_141 hg141 hg140 => ?_
 cases x89
 obtain rfl := O (F hg141)
 refine ww <| ww <| gF rfl ?_
 obtain rfl := O hg140
 refine pF rfl ?_
 refine RT.done ⟨by kernel_rfl, ?_⟩
 exact AThen.n <| ⟨false, h, wR []⟩
 refine gm rfl <| lE (V hg141) fun x92 h92 hg141 => gq _ rfl rfl (neI (p := x39b) (q := 0) h92) ?_
 obtain rfl := O hg141
 refine gT rfl ?_
 obtain rfl := O hg140
 refine pF rfl ?_
 refine RT.done ⟨by kernel_rfl, ?_⟩
 exact AThen.n <| ⟨x92, h, wR []⟩
 refine gl rfl rfl (.cons rfl (.cons rfl (.cons rfl (.cons rfl (.nil))))) <| gm rfl <| bE (V hg132) fun x75 h75 hg132 => gc (lp_Feasible_ok h75) ⟨rfl, rfl, trivial⟩ <| gl rfl rfl (.cons rfl (.cons rfl (.cons rfl (.cons rfl (.nil))))) <| gm rfl <| bE hg132 fun x78 h78 hg132 => gc (lp_Feasible_ok h78) ⟨rfl, rfl, trivial⟩ <| gm rfl <| bE hg132 fun c83_133 hg133 hg132 => ?_
 cases x78
 obtain rfl := O (F hg133)
 refine ww <| ww <| ww <| gF rfl <| lE hg132 fun x84 h84 hg132 => RT.bneq (.some rfl rfl) _ rfl rfl T h84 ?_
 obtain rfl := O hg132
 refine gT rfl ?_
 obtain rfl := O hg131
 refine pF rfl <| mv rfl <| bE h fun c94_136 hg136 h => ?_
 cases x84
 refine gm rfl <| lE (F hg136) fun x89 h89 hg136 => ge_ _ rfl rfl (eqI (p := x46b) (q := 0) h89) <| gm rfl <| bE hg136 fun c93_137 hg137 hg136 => ?_
 cases x89
 obtain rfl := O (F hg137)
 refine ww <| ww <| gF rfl ?_
 obtain rfl := O hg136
 refine pF rfl ?_
 refine RT.done ⟨by kernel_rfl, ?_⟩
 exact AThen.n <| ⟨false, h, wR []⟩
 refine gm rfl <| lE (V hg137) fun x92 h92 hg137 => gq _ rfl rfl (neI (p := x39b) (q := 0) h92) ?_
 obtain rfl := O hg137
 refine gT rfl ?_
 obtain rfl := O hg136
 refine pF rfl ?_
 refine RT.done ⟨by kernel_rfl, ?_⟩
 exact AThen.n <| ⟨x92, h, wR []⟩
 obtain rfl := O (V hg136)
 refine ww <| ww <| ww <| wu <| wu <| ww <| pT rfl ?_
 refine RT.done ⟨by kernel_rfl, ?_⟩
 exact AThen.n <| ⟨true, h, wR []⟩
 refine gl rfl rfl (.cons rfl (.cons rfl (.cons rfl (.cons rfl (.nil))))) <| gl rfl rfl (.cons rfl (.cons rfl (.cons rfl (.cons rfl (.nil))))) <| bE (V hg133) fun x82 h82 hg133 => gc (frac_Equal_ok h82) ⟨rfl, rfl, trivial⟩ ?_
 obtain rfl := O hg133
 refine gT rfl <| lE hg132 fun x84 h84 hg132 => RT.bneq (.some rfl rfl) _ rfl rfl T h84 ?_
 obtain rfl := O hg132
 refine gT rfl ?_
 obtain rfl := O hg131
 refine pF rfl <| mv rfl <| bE h fun c94_134 hg134 h => ?_
 cases x84
 refine gm rfl <| lE (F hg134) fun x89 h89 hg134 => ge_ _ rfl rfl (eqI (p := x46b) (q := 0) h89) <| gm rfl <| bE hg134 fun c93_135 hg135 hg134 => ?_
 cases x89
 obtain rfl := O (F hg135)
 refine ww <| ww <| gF rfl ?_
 obtain rfl := O hg134
 refine pF rfl ?_
 refine RT.done ⟨by kernel_rfl, ?_⟩
 exact AThen.n <| ⟨false, h, wR []⟩
 refine gm rfl <| lE (V hg135) fun x92 h92 hg135 => gq _ rfl rfl (neI (p := x39b) (q := 0) h92) ?_
 obtain rfl := O hg135
 refine gT rfl ?_
 obtain rfl := O hg134
 refine pF rfl ?_
 refine RT.done ⟨by kernel_rfl, ?_⟩
 exact AThen.n <| ⟨x92, h, wR []⟩
 obtain rfl := O (V hg134)
 refine ww <| ww <| ww <| wu <| wu <| ww <| pT rfl ?_
 refine RT.done ⟨by kernel_rfl, ?_⟩
 exact AThen.n <| ⟨true, h, wR []⟩
 obtain rfl := O (V hg131)
 refine ww <| ww <| ww <| wu <| wu <| wu <| wu <| wu <| wu <| wu <| wu <| wu <| wu <| wu <| wu <| ww <| pT rfl <| mv rfl <| bE h fun c94_144 hg144 h => ?_
 obtain rfl := O (V hg144)
 refine ww <| ww <| ww <| wu <| wu <| ww <| pT rfl ?_
 refine RT.done ⟨by kernel_rfl, ?_⟩
 exact AThen.n <| ⟨true, h, wR []⟩
 refine gl rfl rfl (.cons rfl (.cons rfl (.cons rfl (.cons rfl (.nil))))) <| gl rfl rfl (.cons rfl (.cons rfl (.cons rfl (.cons rfl (.nil))))) <| bE (V hg116) fun x64 h64 hg116 => gc (frac_Cmp_ok h64) ⟨rfl, rfl, trivial⟩ <| lE hg116 fun x65 h65 hg116 => RT.leq (.some rfl rfl) _ rfl rfl T h65 ?_
 obtain rfl := O hg116
 refine gT rfl <| lE hg115 fun x67 h67 hg115 => RT.bneq (.some rfl rfl) _ rfl rfl T h67 ?_
 obtain rfl := O hg115
 refine pT rfl <| mv rfl <| bE h fun c86_117 hg117 h => ?_
 cases x67
 refine gm rfl <| lE (F hg117) fun x71 h71 hg117 => ge_ _ rfl rfl (eqI (p := x46b) (q := 0) h71) <| gm rfl <| bE hg117 fun c85_118 hg118 hg117 => ?_
 cases x71
 obtain rfl := O (F hg118)
 refine ww <| ww <| ww <| ww <| ww <| ww <| ww <| wu <| wu <| wu <| ww <| ww <| gF rfl ?_
 obtain rfl := O hg117
 refine pF rfl <| mv rfl <| bE h fun c94_126 hg126 h => gm rfl <| lE (F hg126) fun x89 h89 hg126 => ge_ _ rfl rfl (eqI (p := x46b) (q := 0) h89) <| gm rfl <| bE hg126 fun c93_127 hg127 hg126 => ?_
 cases x89
 obtain rfl := O (F hg127)
 refine ww <| ww <| gF rfl ?_
 obtain rfl := O hg126
 refine pF rfl ?_
 refine RT.done ⟨by kernel_rfl, ?_⟩
 exact AThen.n <| ⟨false, h, wR []⟩
 refine gm rfl <| lE (V hg127) fun x92 h92 hg127 => gq _ rfl rfl (neI (p := x39b) (q := 0) h92) ?_
 obtain rfl := O hg127
 refine gT rfl ?_
 obtain rfl := O hg126
 refine pF rfl ?_
 refine RT.done ⟨by kernel_rfl, ?_⟩
 exact AThen.n <| ⟨x92, h, wR []⟩
 refine gl rfl rfl (.cons rfl (.cons rfl (.cons rfl (.cons rfl (.nil))))) <| gm rfl <| bE (V hg118) fun x75 h75 hg118 => gc (lp_Feasible_ok h75) ⟨rfl, rfl, trivial⟩ <| gl rfl rfl (.cons rfl (.cons rfl (.cons rfl (.cons rfl (.nil))))) <| gm rfl <| bE hg118 fun x78 h78 hg118 => gc (lp_Feasible_ok h78) ⟨rfl, rfl, trivial⟩ <| gm rfl <| bE hg118 fun c83_119 hg119 hg118 => ?_
 cases x78
 obtain rfl := O (F hg119)
 refine ww <| ww <| ww <| gF rfl <| lE hg118 fun x84 h84 hg118 => RT.bneq (.some rfl rfl) _ rfl rfl T h84 ?_
 obtain rfl := O hg118
 refine gT rfl ?_
 obtain rfl := O hg117
 refine pF rfl <| mv rfl <| bE h fun c94_122 hg122 h => ?_
 cases x84
 refine gm rfl <| lE (F hg122) fun x89 h89 hg122 => ge_ _ rfl rfl (eqI (p := x46b) (q := 0) h89) <| gm rfl <| bE hg122 fun c93_123 hg123 hg122 => ?_
 cases x89
 obtain rfl := O (F hg123)
 refine ww <| ww <| gF rfl ?_
 obtain rfl := O hg122
 refine pF rfl ?_
 refine RT.done ⟨by kernel_rfl, ?_⟩
 exact AThen.n <| ⟨false, h, wR []⟩
 refine gm rfl <| lE (V hg123) fun x92 h92 hg123 => gq _ rfl rfl (neI (p := x39b) (q := 0) h92) ?_
 obtain rfl := O hg123
 refine gT rfl ?_
 obtain rfl := O hg122
 refine pF rfl ?_
 refine RT.done ⟨by kernel_rfl, ?_⟩
 exact AThen.n <| ⟨x92, h, wR []⟩
 obtain rfl := O (V hg122)
 refine ww <| ww <| ww <| wu <| wu <| ww <| pT rfl ?_
 refine RT.done ⟨by kernel_rfl, ?_⟩
 exact AThen.n <| ⟨true, h, wR []⟩
 refine gl rfl rfl (.cons rfl (.cons rfl (.cons rfl (.cons rfl (.nil))))) <| gl rfl rfl (.cons rfl (.cons rfl (.cons rfl (.cons rfl (.nil))))) <| bE (V hg119) fun x82 h82 hg119 => gc (frac_Equal_ok h82) ⟨rfl, rfl, trivial⟩ ?_
 obtain rfl := O hg119
 refine gT rfl <| lE hg118 fun x84 h84 hg118 => RT.bneq (.some rfl rfl) _ rfl rfl T h84 ?_
 obtain rfl := O hg118
 refine gT rfl ?_
 obtain rfl := O hg117
 refine pF rfl <| mv rfl <| bE h fun c94_120 hg120 h => ?_
 cases x84
 refine gm rfl <| lE (F hg120) fun x89 h89 hg120 => ge_ _ rfl rfl (eqI (p := x46b) (q := 0) h89) <| gm rfl <| bE hg120 fun c93_121 hg121 hg120 => ?_
 cases x89
 obtain rfl := O (F hg121)
 refine ww <| ww <| gF rfl ?_
 obtain rfl := O hg120
 refine pF rfl ?_
 refine RT.done ⟨by kernel_rfl, ?_⟩
 exact AThen.n <| ⟨false, h, wR []⟩
 refine gm rfl <| lE (V hg121) fun x92 h92 hg121 => gq _ rfl rfl (neI (p := x39b) (q := 0) h92) ?_
 obtain rfl := O hg121
 refine gT rfl ?_
 obtain rfl := O hg120
 refine pF rfl ?_
 refine RT.done ⟨by kernel_rfl, ?_⟩
 exact AThen.n <| ⟨x92, h, wR []⟩
 obtain rfl := O (V hg120)
 refine ww <| ww <| ww <| wu <| wu <| ww <| pT rfl ?_
 refine RT.done ⟨by kernel_rfl, ?_⟩
 exact AThen.n <| ⟨true, h, wR []⟩
 obtain rfl := O (V hg117)
 refine ww <| ww <| ww <| wu <| wu <| wu <| wu <| wu <| wu <| wu <| wu <| wu <| wu <| wu <| wu <| ww <| pT rfl <| mv rfl <| bE h fun c94_130 hg130 h => ?_
 obtain rfl := O (V hg130)
 refine ww <| ww <| ww <| wu <| wu <| ww <| pT rfl ?_
 refine RT.done ⟨by kernel_rfl, ?_⟩
 exact AThen.n <| ⟨true, h, wR []⟩
 try dsimp only
 refine AThen.n ?_
 cases y94j69
 refine fs <| sr <| ld rfl rfl (.cons rfl (.cons rfl (.cons rfl (.cons rfl (.nil))))) <| mv rfl <| mv rfl <| bE (F h) fun x98 h98 h => cl (lp_Compare_ok h98) ⟨rfl, rfl, rfl, trivial⟩ <| ag rfl <| dn <| qq <| ok_region_draw mixed <| ld rfl rfl (.cons rfl (.cons rfl (.cons rfl (.cons rfl (.nil))))) <| mv rfl <| bE h fun x101 h101 h => cl (lp_Evaluate_ok h101) ⟨rfl, rfl, trivial⟩ <| ld rfl rfl (.cons rfl (.cons rfl (.cons rfl (.cons rfl (.nil))))) ?_
 refine mv rfl <| bE h fun x104 h104 h => cl (lp_Evaluate_ok h104) ⟨rfl, rfl, trivial⟩ <| bE h fun x105 h105 h => cl (vec_Compare_ok h105) ⟨rfl, rfl, trivial⟩ <| ag rfl ?_
 refine RT.done ⟨by kernel_rfl, ?_⟩
 refine AThen.n <| qq <| qq ?_
 refine ok_tailJ h (fun j88 => AS.mkL 159 [(1, .sv (slc 4 (List.map eQ x1))), (5, .ptr 5 0), (140, .sv (.v (.bool j88)))] [(5, ⟨26, [.sv (.v (.int .i64 x0_0)), .sv (slc 1 (List.map (eS 4 eQ) x0_1)), .sv (slc 1 (List.map (eS 4 eQ) x0_2)), .sv (slc 4 (List.map eQ x0_3))]⟩)] []) (fun h => ?_) (fun y140j87 h => ?_)
 refine ok_region <| mv rfl <| ld rfl rfl (.cons rfl (.cons rfl (.cons rfl (.cons rfl (.nil))))) <| mv rfl <| mv rfl <| bE h fun x110 h110 h => cl (lp_Compare_ok h110) ⟨rfl, rfl, rfl, trivial⟩ <| lE h fun x111 h111 h => RT.neg .none _ rfl T h111 <| lE h fun x112 h112 h => ne _ rfl rfl (neI (p := x98) (q := x111) h112) <| mv rfl <| bE h fun c120_99 hg99 h => ?_
 cases x112
 refine gm rfl <| lE (F hg99) fun x115 h115 hg99 => ge_ _ rfl rfl (eqI (p := x98) (q := 0) h115) <| gm rfl <| gm rfl <| bE hg99 fun x118 h118 hg99 => gc (vec_Equal_ok h118) ⟨rfl, rfl, trivial⟩ <| lE hg99 fun x119 h119 hg99 => RT.bneq (.some rfl rfl) _ rfl rfl T h119 ?_
 obtain rfl := O hg99
 refine pF rfl <| mv rfl <| bE h fun c129_100 hg100 h => ?_
 cases x119
 refine gm rfl <| lE (F hg100) fun x123 h123 hg100 => gq _ rfl rfl (neI (p := x105) (q := 0) h123) <| gm rfl <| bE hg100 fun c128_101 hg101 hg100 => ?_
 cases x123
 obtain rfl := O (F hg101)
 refine ww <| ww <| ww <| gF rfl ?_
 obtain rfl := O hg100
 refine pF rfl <| mv rfl <| bE h fun c140_104 hg104 h => gm rfl <| lE (F hg104) fun x132 h132 hg104 => ge_ _ rfl rfl (eqI (p := x105) (q := 0) h132) <| gm rfl <| bE hg104 fun c139_105 hg105 hg104 => ?_
 cases x132
 obtain rfl := O (F hg105)
 refine ww <| ww <| ww <| ww <| ww <| gF rfl ?_
 obtain rfl := O hg104
 exact pF rfl <| dn <| ⟨false, h, wR []⟩
 refine gm rfl <| gm rfl <| gm rfl <| bE (V hg105) fun x137 h137 hg105 => gc (vec_Compare_ok h137) ⟨rfl, rfl, trivial⟩ <| lE hg105 fun x138 h138 hg105 => gq _ rfl rfl (neI (p := x98) (q := x137) h138) ?_
 obtain rfl := O hg105
 refine gT rfl ?_
 obtain rfl := O hg104
 exact pF rfl <| dn <| ⟨x138, h, wR []⟩
 refine gm rfl <| gm rfl <| lE (V hg101) fun x127 h127 hg101 => gq _ rfl rfl (neI (p := x98) (q := x105) h127) ?_
 obtain rfl := O hg101
 refine gT rfl ?_
 obtain rfl := O hg100
 refine pF rfl <| mv rfl <| bE h fun c140_102 hg102 h => ?_
 cases x127
 refine gm rfl <| lE (F hg102) fun x132 h132 hg102 => ge_ _ rfl rfl (eqI (p := x105) (q := 0) h132) <| gm rfl <| bE hg102 fun c139_103 hg103 hg102 => ?_
 cases x132
 obtain rfl := O (F hg103)
 refine ww <| ww <| ww <| ww <| ww <| gF rfl ?_
 obtain rfl := O hg102
 exact pF rfl <| dn <| ⟨false, h, wR []⟩
 refine gm rfl <| gm rfl <| gm rfl <| bE (V hg103) fun x137 h137 hg103 => gc (vec_Compare_ok h137) ⟨rfl, rfl, trivial⟩ <| lE hg103 fun x138 h138 hg103 => gq _ rfl rfl (neI (p := x98) (q := x137) h138) ?_
 obtain rfl := O hg103
 refine gT rfl ?_
 obtain rfl := O hg102
 exact pF rfl <| dn <| ⟨x138, h, wR []⟩
 obtain rfl := O (V hg102)
 exact ww <| ww <| ww <| wu <| wu <| wu <| wu <| wu <| ww <| pT rfl <| dn <| ⟨true, h, wR []⟩
 obtain rfl := O (V hg100)
 refine ww <| ww <| ww <| wu <| wu <| wu <| ww <| pT rfl <| mv rfl <| bE h fun c140_108 hg108 h => ?_
 obtain rfl := O (V hg108)
 exact ww <| ww <| ww <| wu <| wu <| wu <| wu <| wu <| ww <| pT rfl <| dn <| ⟨true, h, wR []⟩
 obtain rfl := O (V hg99)
 refine ww <| ww <| ww <| ww <| ww <| ww <| pT rfl <| mv rfl <| bE h fun c129_109 hg109 h => ?_
 obtain rfl := O (V hg109)
 refine ww <| ww <| ww <| wu <| wu <| wu <| ww <| pT rfl <| mv rfl <| bE h fun c140_110 hg110 h => ?_
 obtain rfl := O (V hg110)
 exact ww <| ww <| ww <| wu <| wu <| wu <| wu <| wu <| ww <| pT rfl <| dn <| ⟨true, h, wR []⟩
 try dsimp only
 refine AThen.n ?_
 cases y140j87
 refine fs <| sr <| ld rfl rfl (.cons rfl (.cons rfl (.cons rfl (.cons rfl (.nil))))) <| mv rfl <| bE (F h) fun x144 h144 h => cl (lp_Slack_ok h144) ⟨rfl, rfl, trivial⟩ ?_
 obtain ⟨⟨x145a, x145b⟩, h145, h⟩ := bS h
 refine cl ((vec_FirstGreater_ok h145).w (args' := [_, _]) ⟨imp_nil, (SV.imp_refl _), trivial⟩) ⟨rfl, rfl, trivial⟩ <| mv rfl <| ex rfl rfl <| ex rfl rfl <| ag rfl <| ag rfl <| dn <| qq ?_
 refine ok_tailJ h (fun j94 => AS.mkL 159 [(10, .sv (.v (.bool j94)))] [] []) (fun h => ?_) (fun y10j93 h => ?_)
 refine ok_region <| ld rfl rfl (.cons rfl (.cons rfl (.cons rfl (.cons rfl (.nil))))) <| mv rfl <| bE h fun x150 h150 h => cl (lp_Feasible_ok h150) ⟨rfl, rfl, trivial⟩ <| lE h fun x151 h151 h => nt rfl _ h151 <| mv rfl <| bE h fun c155_95 hg95 h => ?_
 cases x151
 refine gm rfl <| lE (F hg95) fun x154 h154 hg95 => gt_ rfl _ h154 ?_
 obtain rfl := O hg95
 refine pF rfl <| mv rfl <| bE h fun c158_96 hg96 h => ?_
 cases x154
 obtain rfl := O (F hg96)
 exact ww <| pF rfl <| ag rfl <| dn <| ⟨false, h, wR []⟩
 refine bE (V hg96) fun x157 h157 hg96 => gc (law06_alive_ok h157) trivial ?_
 obtain rfl := O hg96
 exact pT rfl <| ag rfl <| dn <| ⟨x157, h, wR []⟩
 obtain rfl := O (V hg95)
 refine ww <| ww <| pT rfl <| mv rfl <| bE h fun c158_97 hg97 h => bE (V hg97) fun x157 h157 hg97 => gc (law06_alive_ok h157) trivial ?_
 obtain rfl := O hg97
 exact pT rfl <| ag rfl <| dn <| ⟨x157, h, wR []⟩
 try dsimp only
 refine AThen.n <| ok_ret ?_
 obtain rfl := O h
 exact R1 rfl
 refine cT <| sr <| ag rfl <| dn <| ok_ret <| AThen.r ?_
 obtain rfl := O (V h)
 exact R1 rfl
 refine cT <| sr <| ag rfl <| dn <| ok_ret <| AThen.r ?_
 obtain rfl := O (V h)
 exact R1 rfl
 refine cT <| sr <| bE (V h) fun x34 h34 h => cl (law06_alive_ok h34) trivial <| ag rfl <| dn <| ok_ret <| AThen.r ?_
 obtain rfl := O h
 exact R1 rfl
end Go.Proofs.YtfoldppidpmchaaGreat
namespace Go.Fw
theorem w64_nat {n : Nat} (h : n ≤ 9223372036854775807) : IntKind.i64.wrap (n : Int) = n := nw_i64 (by omega)
theorem w64_id {x : Int} (h : -9223372036854775808 ≤ x) (h' : x ≤ 9223372036854775807) : IntKind.i64.wrap x = x := nw_i64 ⟨h, h'⟩
theorem w64_succ {n : Nat} (h : n < 9223372036854775807) : IntKind.i64.wrap ((n : Int) + 1) = ((n + 1 : Nat) : Int) := by rw [nw_i64 (by omega)]; simp
theorem w64_add {n m : Nat} (h : n + m ≤ 9223372036854775807) : IntKind.i64.wrap ((n : Int) + (m : Int)) = ((n + m : Nat) : Int) := by rw [nw_i64 (by omega)]; simp
theorem w64_pred {n : Nat} (h : n ≤ 9223372036854775807) : IntKind.i64.wrap (((n + 1 : Nat) : Int) - 1) = (n : Int) := by rw [nw_i64 (by omega)]; omega
theorem geti_nat {α : Type} {l : List α} {i : Nat} {a : α} (h : l[i]? = some a) : geti l (i : Int) = some a := by simp [geti, h]
theorem geti_zero {α : Type} {l : List α} {a : α} (h : l[0]? = some a) : geti l 0 = some a := by simp [geti, h]
theorem geti_one {α : Type} {l : List α} {a : α} (h : l[1]? = some a) : geti l 1 = some a := by simp [geti, h]
theorem cki_nat {α : Type} {l : List α} {i : Nat} (h : i < l.length) : cki l (i : Int) = some i := by simp [cki, h]
theorem stM_of {α : Type} {l : List α} {i : Nat} {y : α} (h : i < l.length) : stM l i y = some (l.set i y) := by simp [stM, h]
theorem apM_of {α : Type} {b : Nat} {l k : List α} (h : (l.length + k.length) * b ≤ 140737488355328) (h' : l.length + k.length ≤ 140737488355328) : apM b l k = some (l ++ k) := by simp [apM, h, h']
theorem apM1 {α : Type} {b : Nat} {l : List α} {x : α} (hb : b ≤ 100) (h : l.length ≤ 1000000000000) : apM b l [x] = some (l ++ [x]) := by
  apply apM_of
  · have : (l.length + [x].length) * b ≤ 1000000000001 * 100 := Nat.mul_le_mul (by simp; omega) hb
    omega
  · simp; omega
theorem apMl {α : Type} {b : Nat} {l k : List α} (hb : b ≤ 100) (h : l.length + k.length ≤ 1000000000000) : apM b l k = some (l ++ k) := by
  apply apM_of
  · have : (l.length + k.length) * b ≤ 1000000000000 * 100 := Nat.mul_le_mul h hb
    omega
  · omega
theorem mkE_of {α : Type} {b : Nat} {n : Nat} (hb : b ≤ 100) (h : n ≤ 1000000000000) : mkE (α := α) b (n : Int) = some [] := by
  have : b * n ≤ 100 * 1000000000000 := Nat.mul_le_mul hb h
  have h2 : (b : Int) * (n : Int) = ((b * n : Nat) : Int) := by simp
  unfold mkE
  rw [h2, if_pos ⟨by omega, by omega, by omega⟩]
theorem mkM_of {α : Type} {b : Nat} {n : Nat} {z : α} (hb : b ≤ 100) (h : n ≤ 1000000000000) : mkM b (n : Int) z = some (List.replicate n z) := by
  have : b * n ≤ 100 * 1000000000000 := Nat.mul_le_mul hb h
  have h2 : (b : Int) * (n : Int) = ((b * n : Nat) : Int) := by simp
  unfold mkM
  rw [h2, if_pos ⟨by omega, by omega, by omega⟩, Int.toNat_natCast]
theorem subM_nat {α : Type} {l : List α} {i j : Nat} (h : i ≤ j) (h' : j ≤ l.length) : subM l (i : Int) (j : Int) = some (cut l i j) := by
  unfold subM; rw [if_pos ⟨by omega, by omega, by omega⟩]; simp
theorem subM_zero {α : Type} {l : List α} {j : Nat} (h' : j ≤ l.length) : subM l 0 (j : Int) = some (l.take j) := by
  have := subM_nat (l := l) (i := 0) (j := j) (by omega) h'
  simpa [cut] using this
theorem usub_of {M a b : Nat} (h : b ≤ a) (h' : a < M) : usub M a b = a - b := by
  unfold usub; rw [show (a : Int) - (b : Int) = ((a - b : Nat) : Int) by omega, ← Int.natCast_emod, Int.toNat_natCast, Nat.mod_eq_of_lt (by omega)]
theorem usub_lt {M a b : Nat} (h : a < b) (h' : b ≤ M) : usub M a b = M + a - b := by
  unfold usub
  have : ((a : Int) - (b : Int)) % (M : Int) = ((M + a - b : Nat) : Int) := by
    rw [← Int.add_emod_right (a := (a : Int) - b), show (a : Int) - (b : Int) + (M : Int) = ((M + a - b : Nat) : Int) by omega, ← Int.natCast_emod, Nat.mod_eq_of_lt (by omega)]
  rw [this, Int.toNat_natCast]
theorem ckR_nat {o n i : Nat} (h : i < n) : ckR o n (i : Int) = some (o + i) := by simp [ckR, h]
theorem eqLen_of {α : Type} {l l' : List α} (h : l'.length = l.length) : eqLen l l' = some () := by simp [eqLen, h]
theorem uquo_of {M a b : Nat} (h : b ≠ 0) (h' : a < M) : uquo M a b = some (a / b) := by
  unfold uquo; rw [if_neg h, Nat.mod_eq_of_lt (Nat.lt_of_le_of_lt (Nat.div_le_self _ _) h')]
theorem urem_of {a b : Nat} (h : b ≠ 0) : urem a b = some (a % b) := by unfold urem; rw [if_neg h]
theorem bsm {α β : Type} {a : α} {f : α → Option β} : Option.bind (some a) f = f a := by
  have h : ∀ o, o = some a → Option.bind o f = f a := by intro o ho; rw [ho]; rfl
  exact h _ rfl
theorem ctm {α : Type} {x y : α} : (bif true then x else y) = x := by
  have h : ∀ b, b = true → (bif b then x else y) = x := by intro b hb; rw [hb]; rfl
  exact h _ rfl
theorem cfm {α : Type} {x y : α} : (bif false then x else y) = y := by
  have h : ∀ b, b = false → (bif b then x else y) = y := by intro b hb; rw [hb]; rfl
  exact h _ rfl
theorem bind_loop {S E R : Type} {body : S → Option (S ⊕ E)} {s : S} {f : E → Option R} {r : R} (I : S → Prop) (Post : E → Prop) (μ : S → Nat)
    (step : ∀ s, I s → (∃ s', body s = some (.inl s') ∧ I s' ∧ μ s' < μ s) ∨ (∃ e, body s = some (.inr e) ∧ Post e)) (h : I s) (hf : ∀ e, Post e → f e = some r) : (loopM body s).bind f = some r := by
  obtain ⟨e, h1, h2⟩ := loopM_inv I Post μ step h
  rw [h1]; exact hf e h2
theorem bind_loop_ex {S E R : Type} {body : S → Option (S ⊕ E)} {s : S} {f : E → Option R} {Q : R → Prop} (I : S → Prop) (Post : E → Prop) (μ : S → Nat)
    (step : ∀ s, I s → (∃ s', body s = some (.inl s') ∧ I s' ∧ μ s' < μ s) ∨ (∃ e, body s = some (.inr e) ∧ Post e)) (h : I s) (hf : ∀ e, Post e → ∃ r, f e = some r ∧ Q r) : ∃ r, (loopM body s).bind f = some r ∧ Q r := by
  obtain ⟨e, h1, h2⟩ := loopM_inv I Post μ step h
  rw [h1]; exact hf e h2
theorem bind_loop_to {S E R : Type} {body : S → Option (S ⊕ E)} {s : S} {f : E → Option R} {r : R} (st : Nat → S) (n : Nat) (e : E) (h0 : s = st 0) (hs : ∀ k, k < n → body (st k) = some (.inl (st (k + 1)))) (he : body (st n) = some (.inr e)) (hf : f e = some r) : (loopM body s).bind f = some r := by
  rw [h0, loopM_to st n hs he]; exact hf
theorem bind_range {S R : Type} {body : Nat → S → Option S} {s : S} {f : S → Option R} {r : R} (st : Nat → S) {n : Nat} (h0 : s = st 0) (hs : ∀ k, k < n → body k (st k) = some (st (k + 1))) (hf : f (st n) = some r) : (rangeM body n s).bind f = some r := by
  rw [h0, rangeM_to st n hs]; exact hf
theorem bind_eq {α β : Type} {x : Option α} {a : α} {f : α → Option β} {r : Option β} (h : x = some a) (hf : f a = r) : x.bind f = r := by rw [h]; exact hf
theorem bif_t {α : Type} {b : Bool} {x y r : α} (hb : b = true) (h : x = r) : (bif b then x else y) = r := by rw [hb]; exact h
theorem bif_f {α : Type} {b : Bool} {x y r : α} (hb : b = false) (h : y = r) : (bif b then x else y) = r := by rw [hb]; exact h
end Go.Fw
namespace Go.Fw
def val (B : Nat) : List Nat → Nat
  | [] => 0
  | x :: l => x + B * val B l
def dig (B : Nat) : Nat → Nat → List Nat
  | 0, _ => []
  | n + 1, v => v % B :: dig B n (v / B)
def trimW (ws : List Nat) : List Nat := (ws.reverse.dropWhile (· == 0)).reverse
def can (B v : Nat) : List Nat := trimW (dig B v v)
theorem dig_len (B : Nat) : ∀ n v, (dig B n v).length = n
  | 0, _ => rfl
  | n + 1, v => by simp [dig, dig_len B n]
theorem val_dig (B : Nat) : ∀ n v, val B (dig B n v) = v % B ^ n
  | 0, v => by simp [dig, val, Nat.mod_one]
  | n + 1, v => by
    rw [dig, val, val_dig B n, Nat.pow_succ, Nat.mul_comm (B ^ n) B, Nat.mod_mul]
theorem dig_lt {B : Nat} (hB : 0 < B) : ∀ (n v x : Nat), x ∈ dig B n v → x < B
  | n + 1, v, x, h => by
    rcases List.mem_cons.1 h with rfl | h
    · exact Nat.mod_lt _ hB
    · exact dig_lt hB n _ x h
theorem val_lt {B : Nat} : ∀ (l : List Nat), (∀ x ∈ l, x < B) → val B l < B ^ l.length
  | [], _ => by simp [val]
  | x :: l, h => by
    have h1 := val_lt l (fun y hy => h y (List.mem_cons_of_mem _ hy))
    have h2 := h x (by simp)
    rw [val, List.length_cons, Nat.pow_succ]
    calc x + B * val B l < B + B * val B l := by omega
      _ = B * (val B l + 1) := by rw [Nat.mul_add]; omega
      _ ≤ B * B ^ l.length := Nat.mul_le_mul_left _ h1
      _ = B ^ l.length * B := Nat.mul_comm _ _
theorem dig_val {B : Nat} : ∀ (l : List Nat), (∀ x ∈ l, x < B) → dig B l.length (val B l) = l
  | [], _ => rfl
  | x :: l, h => by
    have h2 := h x (by simp)
    have hB : 0 < B := by omega
    rw [List.length_cons, dig, val, Nat.add_mul_mod_self_left, Nat.mod_eq_of_lt h2, Nat.add_mul_div_left _ _ hB, Nat.div_eq_of_lt h2, Nat.zero_add, dig_val l (fun y hy => h y (List.mem_cons_of_mem _ hy))]
theorem dig_get {B : Nat} : ∀ (n v j : Nat), j < n → (dig B n v)[j]? = some (v / B ^ j % B)
  | n + 1, v, 0, _ => by simp [dig]
  | n + 1, v, j + 1, h => by
    rw [dig, List.getElem?_cons_succ, dig_get n _ j (by omega), Nat.div_div_eq_div_mul, Nat.pow_succ, Nat.mul_comm B]
theorem val_app {B : Nat} : ∀ (a b : List Nat), val B (a ++ b) = val B a + B ^ a.length * val B b
  | [], b => by simp [val]
  | x :: a, b => by
    rw [List.cons_append, val, val, val_app a b, List.length_cons, Nat.pow_succ, Nat.mul_add, Nat.add_assoc, Nat.mul_comm (B ^ a.length) B, Nat.mul_assoc]
theorem dig_succ {B : Nat} : ∀ (n v : Nat), dig B (n + 1) v = dig B n v ++ [v / B ^ n % B]
  | 0, v => by simp [dig]
  | n + 1, v => by
    rw [dig, dig_succ n, dig, List.cons_append, Nat.div_div_eq_div_mul, Nat.pow_succ, Nat.mul_comm B]
theorem dig_zero (B : Nat) : ∀ k, dig B k 0 = List.replicate k 0
  | 0 => rfl
  | k + 1 => by rw [dig, Nat.zero_mod, Nat.zero_div, dig_zero B k]; rfl
theorem dig_more {B : Nat} (hB : 0 < B) : ∀ (n k v : Nat), v < B ^ n → dig B (n + k) v = dig B n v ++ List.replicate k 0
  | 0, k, v, h => by
    have : v = 0 := by simpa using h
    subst this; rw [Nat.zero_add, dig_zero]; rfl
  | n + 1, k, v, h => by
    rw [show n + 1 + k = n + k + 1 by omega, dig, dig, List.cons_append, dig_more hB n k (v / B) (by rw [Nat.div_lt_iff_lt_mul hB]; rwa [Nat.pow_succ] at h)]
theorem lt_pow_self' {B : Nat} (hB : 2 ≤ B) : ∀ v, v < B ^ v
  | 0 => by simp
  | v + 1 => by
    have := lt_pow_self' hB v
    rw [Nat.pow_succ]
    have h2 : B ^ v * 2 ≤ B ^ v * B := Nat.mul_le_mul_left _ hB
    omega
theorem trimW_zero (l : List Nat) : trimW (l ++ [0]) = trimW l := by simp [trimW]
theorem trimW_zeros (l : List Nat) : ∀ k, trimW (l ++ List.replicate k 0) = trimW l
  | 0 => by simp
  | k + 1 => by rw [List.replicate_succ', ← List.append_assoc, trimW_zero, trimW_zeros l k]
theorem trimW_last (l : List Nat) {x : Nat} (h : x ≠ 0) : trimW (l ++ [x]) = l ++ [x] := by simp [trimW, h]
theorem trim_cases (xs : List Nat) : xs = [] ∨ (∃ ys, xs = ys ++ [0]) ∨ (∃ ys y, y ≠ 0 ∧ xs = ys ++ [y]) := by
  rcases List.eq_nil_or_concat xs with rfl | ⟨ys, y, rfl⟩
  · exact .inl rfl
  · by_cases hy : y = 0
    · subst hy; exact .inr (.inl ⟨ys, by simp⟩)
    · exact .inr (.inr ⟨ys, y, hy, by simp⟩)
theorem trimW_pre : ∀ (n : Nat) (l : List Nat), l.length = n → ∃ k, l = trimW l ++ List.replicate k 0 := by
  intro n
  induction n with
  | zero => intro l h; obtain rfl := List.length_eq_zero_iff.1 h; exact ⟨0, rfl⟩
  | succ n ih =>
    intro l h
    rcases trim_cases l with rfl | ⟨ys, rfl⟩ | ⟨ys, y, hy, rfl⟩
    · simp at h
    · obtain ⟨k, hk⟩ := ih ys (by simpa using h)
      refine ⟨k + 1, ?_⟩
      rw [trimW_zero, List.replicate_succ', ← List.append_assoc, ← hk]
    · exact ⟨0, by rw [trimW_last _ hy]; simp⟩
theorem trimW_mem {l : List Nat} {x : Nat} (h : x ∈ trimW l) : x ∈ l := by
  obtain ⟨k, hk⟩ := trimW_pre _ l rfl
  rw [hk]; exact List.mem_append_left _ h
theorem trimW_len (l : List Nat) : (trimW l).length ≤ l.length := by
  obtain ⟨k, hk⟩ := trimW_pre _ l rfl
  have := congrArg List.length hk
  rw [List.length_append] at this; omega
theorem val_zeros (B : Nat) : ∀ k, val B (List.replicate k 0) = 0
  | 0 => rfl
  | k + 1 => by rw [List.replicate_succ, val, val_zeros B k]; simp
theorem val_trim (B : Nat) (l : List Nat) : val B (trimW l) = val B l := by
  obtain ⟨k, hk⟩ := trimW_pre _ l rfl
  conv => rhs; rw [hk, val_app, val_zeros]
  simp
theorem trim_dig {B : Nat} (hB : 2 ≤ B) {n v : Nat} (h : v < B ^ n) : trimW (dig B n v) = can B v := by
  have hv := lt_pow_self' hB v
  rcases Nat.le_total n v with hn | hn
  · obtain ⟨k, rfl⟩ := Nat.exists_eq_add_of_le hn
    rw [can, dig_more (by omega) n k _ h, trimW_zeros]
  · obtain ⟨k, rfl⟩ := Nat.exists_eq_add_of_le hn
    rw [can, dig_more (by omega) v k _ hv, trimW_zeros]
theorem trim_can {B : Nat} (hB : 2 ≤ B) {l : List Nat} (h : ∀ x ∈ l, x < B) : trimW l = can B (val B l) := by
  conv => lhs; rw [← dig_val l h]
  exact trim_dig hB (val_lt l h)
theorem val_can {B : Nat} (hB : 2 ≤ B) (v : Nat) : val B (can B v) = v := by
  rw [can, val_trim, val_dig, Nat.mod_eq_of_lt (lt_pow_self' hB v)]
theorem can_lt {B : Nat} (hB : 2 ≤ B) {v x : Nat} (h : x ∈ can B v) : x < B := dig_lt (by omega) v v x (trimW_mem h)
theorem can_zero (B : Nat) : can B 0 = [] := rfl
theorem can_nil {B : Nat} (hB : 2 ≤ B) {v : Nat} (h : can B v = []) : v = 0 := by have := val_can hB v; rw [h] at this; exact this.symm
theorem can_len {B : Nat} (hB : 2 ≤ B) {v n : Nat} (h : v < B ^ n) : (can B v).length ≤ n := by
  rw [← trim_dig hB h]
  have := trimW_len (dig B n v)
  rwa [dig_len] at this
theorem can_can {B : Nat} (hB : 2 ≤ B) (v : Nat) : trimW (can B v) = can B v := by
  rw [trim_can hB (fun x hx => can_lt hB hx), val_can hB]
theorem can_dig {B : Nat} (hB : 2 ≤ B) (v : Nat) : can B v = dig B (can B v).length v := by
  have := dig_val (can B v) (fun x hx => can_lt hB hx)
  rw [val_can hB] at this; exact this.symm
theorem lt_can_len {B : Nat} (hB : 2 ≤ B) (v : Nat) : v < B ^ (can B v).length := by
  have := val_lt (can B v) (fun x hx => can_lt hB hx)
  rwa [val_can hB] at this
theorem can_get {B : Nat} (hB : 2 ≤ B) {v j : Nat} (h : j < (can B v).length) : (can B v)[j]? = some (v / B ^ j % B) := by
  rw [can_dig hB v] at h ⊢
  rw [dig_len] at h
  exact dig_get _ _ _ h
theorem can_beyond {B : Nat} (hB : 2 ≤ B) {v j : Nat} (h : (can B v).length ≤ j) : v / B ^ j = 0 := by
  refine Nat.div_eq_of_lt (Nat.lt_of_lt_of_le (lt_can_len hB v) ?_)
  exact Nat.pow_le_pow_right (by omega) h
theorem can_last {B : Nat} (hB : 2 ≤ B) {v : Nat} (h : v ≠ 0) : ∃ l x, x ≠ 0 ∧ can B v = l ++ [x] := by
  rcases trim_cases (can B v) with e | ⟨ys, e⟩ | ⟨ys, y, hy, e⟩
  · exact absurd (can_nil hB e) h
  · exfalso
    have h1 := can_can hB v
    rw [e, trimW_zero] at h1
    have h2 := trimW_len ys
    rw [h1] at h2; simp at h2; omega
  · exact ⟨ys, y, hy, e⟩
theorem pow_le_of_can {B : Nat} (hB : 2 ≤ B) {v n : Nat} (h : n < (can B v).length) : B ^ n ≤ v := by
  by_cases h0 : v = 0
  · subst h0; simp [can_zero] at h
  obtain ⟨l, x, hx, e⟩ := can_last hB h0
  have h1 := val_can hB v
  rw [e, val_app] at h1
  have hl : n ≤ l.length := by rw [e] at h; simp at h; omega
  have h2 : B ^ n ≤ B ^ l.length := Nat.pow_le_pow_right (by omega) hl
  have h3 : B ^ l.length ≤ B ^ l.length * val B [x] := Nat.le_mul_of_pos_right _ (by simp [val]; omega)
  omega
theorem can_len_iff {B : Nat} (hB : 2 ≤ B) {v n : Nat} : (can B v).length ≤ n ↔ v < B ^ n := by
  refine ⟨fun h => ?_, can_len hB⟩
  exact Nat.lt_of_lt_of_le (lt_can_len hB v) (Nat.pow_le_pow_right (by omega) h)
theorem can_of {B : Nat} (hB : 2 ≤ B) {l : List Nat} {x : Nat} (hx : x ≠ 0) (h : ∀ y ∈ l ++ [x], y < B) : l ++ [x] = can B (val B (l ++ [x])) := by
  rw [← trim_can hB h, trimW_last _ hx]
theorem val_getD {B : Nat} : ∀ (l : List Nat), (∀ x ∈ l, x < B) → ∀ k, l.getD k 0 = val B l / B ^ k % B
  | [], _, k => by simp [val]
  | x :: l, h, 0 => by
    have h2 := h x (by simp)
    simp [val, Nat.add_mul_mod_self_left, Nat.mod_eq_of_lt h2]
  | x :: l, h, k + 1 => by
    have h2 := h x (by simp)
    have hB : 0 < B := by omega
    rw [List.getD_cons_succ, val_getD l (fun y hy => h y (List.mem_cons_of_mem _ hy)) k, val, Nat.pow_succ, Nat.mul_comm (B ^ k) B, ← Nat.div_div_eq_div_mul, Nat.add_mul_div_left _ _ hB, Nat.div_eq_of_lt h2, Nat.zero_add]
theorem mod_pow_step (B V k : Nat) : V % B ^ (k + 1) = V % B ^ k + B ^ k * (V / B ^ k % B) := by
  rw [Nat.pow_succ, Nat.mod_mul]
def cry (B V W k : Nat) : Nat := (V % B ^ k + W % B ^ k) / B ^ k
theorem cry_le {B : Nat} (hB : 0 < B) (V W k : Nat) : cry B V W k ≤ 1 := by
  have hP : 0 < B ^ k := Nat.pow_pos hB
  have h1 := Nat.mod_lt V hP
  have h2 := Nat.mod_lt W hP
  have : cry B V W k < 2 := by rw [cry, Nat.div_lt_iff_lt_mul hP]; omega
  omega
theorem cry_step {B : Nat} (hB : 0 < B) (V W k : Nat) : (V / B ^ k % B + W / B ^ k % B + cry B V W k) / B = cry B V W (k + 1) := by
  have hP : 0 < B ^ k := Nat.pow_pos hB
  rw [cry, cry, mod_pow_step, mod_pow_step, Nat.pow_succ, ← Nat.div_div_eq_div_mul]
  congr 1
  rw [show V % B ^ k + B ^ k * (V / B ^ k % B) + (W % B ^ k + B ^ k * (W / B ^ k % B)) = (V % B ^ k + W % B ^ k) + B ^ k * (V / B ^ k % B + W / B ^ k % B) by rw [Nat.mul_add]; omega, Nat.add_mul_div_left _ _ hP]
  omega
theorem cry_dig {B : Nat} (hB : 0 < B) (V W k : Nat) : (V / B ^ k % B + W / B ^ k % B + cry B V W k) % B = (V + W) / B ^ k % B := by
  have hP : 0 < B ^ k := Nat.pow_pos hB
  have h : (V + W) / B ^ k = V / B ^ k + W / B ^ k + cry B V W k := by
    have e1 := Nat.div_add_mod V (B ^ k)
    have e2 := Nat.div_add_mod W (B ^ k)
    rw [cry]
    conv => lhs; rw [← e1, ← e2]
    rw [show B ^ k * (V / B ^ k) + V % B ^ k + (B ^ k * (W / B ^ k) + W % B ^ k) = (V % B ^ k + W % B ^ k) + B ^ k * (V / B ^ k + W / B ^ k) by rw [Nat.mul_add]; omega, Nat.add_mul_div_left _ _ hP]
    omega
  rw [h]
  simp [Nat.add_mod]
theorem cry_end {B : Nat} {V W k : Nat} (hV : V < B ^ k) (hW : W < B ^ k) : cry B V W k = (V + W) / B ^ k := by
  rw [cry, Nat.mod_eq_of_lt hV, Nat.mod_eq_of_lt hW]
theorem cry_zero (B V W : Nat) : cry B V W 0 = 0 := by simp [cry, Nat.mod_one]
def lnd (B V W k : Nat) : Nat := (V % B ^ k + B ^ k - W % B ^ k) / B ^ k
theorem lnd_zero (B V W : Nat) : lnd B V W 0 = 1 := by simp [lnd, Nat.mod_one]
theorem lnd_le {B : Nat} (hB : 0 < B) (V W k : Nat) : lnd B V W k ≤ 1 := by
  have hP : 0 < B ^ k := Nat.pow_pos hB
  have h1 := Nat.mod_lt V hP
  have : lnd B V W k < 2 := by
    rw [lnd, Nat.div_lt_iff_lt_mul hP]
    generalize W % B ^ k = y at *
    generalize V % B ^ k = x at *
    omega
  omega
theorem lnd_num {B : Nat} (hB : 0 < B) (V W k : Nat) : V % B ^ (k + 1) + B ^ (k + 1) - W % B ^ (k + 1) = (V % B ^ k + B ^ k - W % B ^ k) + B ^ k * (V / B ^ k % B + (B - 1 - W / B ^ k % B)) := by
  have hP : 0 < B ^ k := Nat.pow_pos hB
  have h1 := Nat.mod_lt V hP
  have h2 := Nat.mod_lt W hP
  have h3 := Nat.mod_lt (W / B ^ k) hB
  rw [mod_pow_step, mod_pow_step, Nat.pow_succ]
  generalize B ^ k = p at *
  generalize V / p % B = x at *
  generalize W / p % B = y at *
  obtain ⟨z, rfl⟩ : ∃ z, B = y + 1 + z := ⟨B - y - 1, by omega⟩
  have e1 : y + 1 + z - 1 - y = z := by omega
  rw [e1, Nat.mul_add p x z, Nat.mul_add p (y + 1) z, Nat.mul_add p y 1]
  omega
theorem lnd_step {B : Nat} (hB : 0 < B) (V W k : Nat) : (V / B ^ k % B + (B - 1 - W / B ^ k % B) + lnd B V W k) / B = lnd B V W (k + 1) := by
  have hP : 0 < B ^ k := Nat.pow_pos hB
  rw [lnd, lnd, lnd_num hB, Nat.pow_succ, ← Nat.div_div_eq_div_mul, Nat.add_mul_div_left _ _ hP]
  congr 1
  omega
theorem sub_mod_eq {Q V W : Nat} (hQ : 0 < Q) (h : W ≤ V) : (V % Q + Q - W % Q) % Q = (V - W) % Q := by
  have e1 := Nat.div_add_mod V Q
  have e2 := Nat.div_add_mod W Q
  have h1 := Nat.mod_lt V hQ
  have h2 := Nat.mod_lt W hQ
  have hq : W / Q ≤ V / Q := Nat.div_le_div_right h
  generalize V % Q = r at *
  generalize W % Q = s at *
  generalize V / Q = a at *
  generalize W / Q = b at *
  obtain ⟨c, rfl⟩ := Nat.exists_eq_add_of_le hq
  rw [Nat.mul_add] at e1
  rcases Nat.lt_or_ge r s with hrs | hrs
  · cases c with
    | zero => simp at e1; omega
    | succ c =>
      rw [Nat.mul_add, Nat.mul_one] at e1
      rw [show V - W = Q * c + (r + Q - s) by omega, Nat.mul_add_mod]
  · rw [show V - W = Q * c + (r - s) by omega, Nat.mul_add_mod, show r + Q - s = r - s + Q by omega, Nat.add_mod_right]
theorem lnd_dig {B : Nat} (hB : 0 < B) {V W : Nat} (h : W ≤ V) (k : Nat) : (V / B ^ k % B + (B - 1 - W / B ^ k % B) + lnd B V W k) % B = (V - W) / B ^ k % B := by
  have hP : 0 < B ^ k := Nat.pow_pos hB
  have hQ : 0 < B ^ (k + 1) := Nat.pow_pos hB
  have e := sub_mod_eq hQ h
  have e2 : V / B ^ k % B + (B - 1 - W / B ^ k % B) + lnd B V W k = (V % B ^ (k + 1) + B ^ (k + 1) - W % B ^ (k + 1)) / B ^ k := by
    rw [lnd_num hB, Nat.add_mul_div_left _ _ hP, lnd]; omega
  rw [e2, ← Nat.mod_mul_right_div_self, ← Nat.mod_mul_right_div_self, ← Nat.pow_succ, e]
end Go.Fw
namespace Go.Fw
theorem dig_set {B : Nat} (hB : 0 < B) : ∀ (j N lo p d hi : Nat), lo < B ^ j → p < B → d < B → j < N → (dig B N (lo + B ^ j * (p + B * hi))).set j d = dig B N (lo + B ^ j * (d + B * hi))
  | 0, N + 1, lo, p, d, hi, hlo, hp, hd, _ => by
    have : lo = 0 := by simpa using hlo
    subst this
    simp only [Nat.pow_zero, Nat.zero_add, Nat.one_mul, dig, List.set_cons_zero, Nat.add_mul_mod_self_left, Nat.mod_eq_of_lt hd]
    rw [Nat.add_mul_div_left _ _ hB, Nat.add_mul_div_left _ _ hB, Nat.div_eq_of_lt hp, Nat.div_eq_of_lt hd]
  | j + 1, N + 1, lo, p, d, hi, hlo, hp, hd, hN => by
    have e : ∀ q, (lo + B ^ (j + 1) * (q + B * hi)) % B = lo % B := fun q => by
      rw [Nat.pow_succ, Nat.mul_comm (B ^ j) B, Nat.mul_assoc, Nat.add_mul_mod_self_left]
    have e2 : ∀ q, (lo + B ^ (j + 1) * (q + B * hi)) / B = lo / B + B ^ j * (q + B * hi) := fun q => by
      rw [Nat.pow_succ, Nat.mul_comm (B ^ j) B, Nat.mul_assoc, Nat.add_mul_div_left _ _ hB]
    have hlo' : lo / B < B ^ j := by rw [Nat.div_lt_iff_lt_mul hB]; rwa [Nat.pow_succ] at hlo
    rw [dig, dig, List.set_cons_succ, e, e, e2, e2, dig_set hB j N (lo / B) p d hi hlo' hp hd (by omega)]
theorem dig_put {B : Nat} (hB : 0 < B) {N j u u' d : Nat} (hj : j < N) (hd : d < B) (hlo : u' % B ^ j = u % B ^ j) (hdig : u' / B ^ j % B = d) (hhi : u' / B ^ (j + 1) = u / B ^ (j + 1)) : (dig B N u).set j d = dig B N u' := by
  have hP : 0 < B ^ j := Nat.pow_pos hB
  have f : ∀ u, u = u % B ^ j + B ^ j * (u / B ^ j % B + B * (u / B ^ (j + 1))) := fun u => by
    have e1 := Nat.mod_add_div u (B ^ j)
    have e2 := div_step' B u j
    rw [Nat.add_comm] at e2
    rw [← e2, e1]
  rw [f u, dig_set hB j N _ _ d _ (Nat.mod_lt _ hP) (Nat.mod_lt _ hB) hd hj]
  conv => rhs; rw [f u', hlo, hdig, hhi]
where
  div_step' (B v m : Nat) : v / B ^ m = B * (v / B ^ (m + 1)) + v / B ^ m % B := by
    rw [Nat.pow_succ, ← Nat.div_div_eq_div_mul, Nat.div_add_mod]
def mT (B V W i k : Nat) : Nat := ((V % B ^ i) * W) % B ^ (i + k) + B ^ i * (V / B ^ i % B) * (W % B ^ k)
def mC (B V W i k : Nat) : Nat := mT B V W i k / B ^ (i + k)
def mV (B V W i k : Nat) : Nat := mT B V W i k % B ^ (i + k) + B ^ (i + k) * (((V % B ^ i) * W) / B ^ (i + k))
theorem mT_lt {B : Nat} (hB : 0 < B) (V W i k : Nat) : mT B V W i k < B ^ (i + k) * B := by
  have h1 : ((V % B ^ i) * W) % B ^ (i + k) < B ^ (i + k) := Nat.mod_lt _ (Nat.pow_pos hB)
  have h2 : V / B ^ i % B < B := Nat.mod_lt _ hB
  have h3 : W % B ^ k < B ^ k := Nat.mod_lt _ (Nat.pow_pos hB)
  have h4 : B ^ i * (V / B ^ i % B) * (W % B ^ k) ≤ B ^ i * (B - 1) * B ^ k := Nat.mul_le_mul (Nat.mul_le_mul_left _ (by omega)) (Nat.le_of_lt h3)
  have h5 : B ^ i * (B - 1) * B ^ k = B ^ (i + k) * (B - 1) := by rw [Nat.pow_add, Nat.mul_assoc, Nat.mul_assoc, Nat.mul_comm (B - 1)]
  have h6 : B ^ (i + k) * B = B ^ (i + k) * (B - 1) + B ^ (i + k) := by
    obtain ⟨b, rfl⟩ : ∃ b, B = b + 1 := ⟨B - 1, by omega⟩
    rw [Nat.add_sub_cancel, Nat.mul_add, Nat.mul_one]
  unfold mT
  omega
theorem mC_lt {B : Nat} (hB : 0 < B) (V W i k : Nat) : mC B V W i k < B := by
  rw [mC, Nat.div_lt_iff_lt_mul (Nat.pow_pos hB), Nat.mul_comm]; exact mT_lt hB V W i k
theorem mT_step {B : Nat} (V W i k : Nat) : mT B V W i (k + 1) = mT B V W i k + B ^ (i + k) * (((V % B ^ i) * W) / B ^ (i + k) % B + (V / B ^ i % B) * (W / B ^ k % B)) := by
  have e1 : ((V % B ^ i) * W) % B ^ (i + (k + 1)) = ((V % B ^ i) * W) % B ^ (i + k) + B ^ (i + k) * (((V % B ^ i) * W) / B ^ (i + k) % B) := by rw [← Nat.add_assoc, mod_pow_step]
  have e2 : W % B ^ (k + 1) = W % B ^ k + B ^ k * (W / B ^ k % B) := mod_pow_step B W k
  unfold mT
  rw [e1, e2, Nat.mul_add, Nat.mul_add (B ^ (i + k))]
  have e3 : B ^ i * (V / B ^ i % B) * (B ^ k * (W / B ^ k % B)) = B ^ (i + k) * ((V / B ^ i % B) * (W / B ^ k % B)) := by
    rw [Nat.pow_add, Nat.mul_assoc, Nat.mul_assoc, Nat.mul_left_comm (V / B ^ i % B)]
  omega
theorem mC_step {B : Nat} (hB : 0 < B) (V W i k : Nat) : (((V % B ^ i) * W) / B ^ (i + k) % B + (V / B ^ i % B) * (W / B ^ k % B) + mC B V W i k) / B = mC B V W i (k + 1) := by
  have hP : 0 < B ^ (i + k) := Nat.pow_pos hB
  rw [mC, mC, mT_step, ← Nat.add_assoc, Nat.pow_succ, ← Nat.div_div_eq_div_mul, Nat.add_mul_div_left _ _ hP]
  congr 1; omega
theorem mV_lo {B : Nat} (V W i k : Nat) : mV B V W i k % B ^ (i + k) = mT B V W i k % B ^ (i + k) := by
  rw [mV, Nat.add_mul_mod_self_left, Nat.mod_mod]
theorem mV_hi {B : Nat} (hB : 0 < B) (V W i k : Nat) : mV B V W i k / B ^ (i + k) = ((V % B ^ i) * W) / B ^ (i + k) := by
  have hP : 0 < B ^ (i + k) := Nat.pow_pos hB
  rw [mV, Nat.add_mul_div_left _ _ hP, Nat.div_eq_of_lt (Nat.mod_lt _ hP), Nat.zero_add]
theorem mV_dig {B : Nat} (hB : 0 < B) {V W i k N : Nat} (h : i + k < N) : (dig B N (mV B V W i k))[i + k]? = some (((V % B ^ i) * W) / B ^ (i + k) % B) := by
  rw [dig_get _ _ _ h, mV_hi hB]
theorem mV_step {B : Nat} (hB : 0 < B) {V W i k N : Nat} (h : i + k < N) :
    (dig B N (mV B V W i k)).set (i + k) ((((V % B ^ i) * W) / B ^ (i + k) % B + (V / B ^ i % B) * (W / B ^ k % B) + mC B V W i k) % B) = dig B N (mV B V W i (k + 1)) := by
  have hP : 0 < B ^ (i + k) := Nat.pow_pos hB
  have hPB : B ^ (i + (k + 1)) = B ^ (i + k) * B := by rw [← Nat.add_assoc, Nat.pow_succ]
  have hs : mT B V W i (k + 1) / B ^ (i + k) = ((V % B ^ i) * W) / B ^ (i + k) % B + (V / B ^ i % B) * (W / B ^ k % B) + mC B V W i k := by
    rw [mT_step, Nat.add_mul_div_left _ _ hP, mC]; omega
  have ht : mT B V W i (k + 1) % B ^ (i + k) = mT B V W i k % B ^ (i + k) := by rw [mT_step, Nat.add_mul_mod_self_left]
  refine dig_put hB h (Nat.mod_lt _ hB) ?_ ?_ ?_
  · rw [mV_lo, ← ht, mV, hPB, Nat.mul_assoc, Nat.add_mul_mod_self_left, Nat.mod_mul_right_mod]
  · rw [mV, hPB, Nat.mul_assoc, Nat.add_mul_div_left _ _ hP, Nat.add_mul_mod_self_left, Nat.mod_mul_right_div_self, Nat.mod_mod, hs]
  · rw [show i + k + 1 = i + (k + 1) by omega, mV_hi hB, show i + (k + 1) = i + k + 1 by omega, Nat.pow_succ, ← Nat.div_div_eq_div_mul, ← Nat.div_div_eq_div_mul, mV_hi hB]
theorem mV_zero {B : Nat} (V W i : Nat) : mV B V W i 0 = (V % B ^ i) * W := by
  rw [mV, mT, Nat.pow_zero, Nat.mod_one, Nat.mul_zero, Nat.add_zero, Nat.add_zero, Nat.mod_mod, Nat.mod_add_div]
theorem mC_zero {B : Nat} (hB : 0 < B) (V W i : Nat) : mC B V W i 0 = 0 := by
  rw [mC, mT, Nat.pow_zero, Nat.mod_one, Nat.mul_zero, Nat.add_zero, Nat.add_zero]
  exact Nat.div_eq_of_lt (Nat.mod_lt _ (Nat.pow_pos hB))
theorem mV_end {B : Nat} (hB : 0 < B) {V W i n N : Nat} (hW : W < B ^ n) (h : i + n < N) : (dig B N (mV B V W i n)).set (i + n) ((0 + mC B V W i n) % B) = dig B N ((V % B ^ (i + 1)) * W) := by
  have hP : 0 < B ^ (i + n) := Nat.pow_pos hB
  have hp : (V % B ^ i) * W < B ^ (i + n) := by
    have h1 : V % B ^ i < B ^ i := Nat.mod_lt _ (Nat.pow_pos hB)
    rw [Nat.pow_add]
    by_cases h0 : W = 0
    · subst h0; rw [Nat.mul_zero]; exact Nat.mul_pos (Nat.pow_pos hB) (Nat.pow_pos hB)
    · calc (V % B ^ i) * W < B ^ i * W := Nat.mul_lt_mul_of_pos_right h1 (by omega)
        _ ≤ B ^ i * B ^ n := Nat.mul_le_mul_left _ (Nat.le_of_lt hW)
  have hT : mT B V W i n = (V % B ^ (i + 1)) * W := by
    rw [mT, Nat.mod_eq_of_lt hp, Nat.mod_eq_of_lt hW, mod_pow_step, Nat.add_mul]
  have hlt := mT_lt hB V W i n
  rw [hT] at hlt
  refine dig_put hB h (Nat.mod_lt _ hB) ?_ ?_ ?_
  · rw [mV_lo, hT]
  · rw [Nat.zero_add, mC, hT]
  · rw [Nat.pow_succ B (i + n), Nat.div_eq_of_lt hlt, ← Nat.div_div_eq_div_mul, mV_hi hB, Nat.div_eq_of_lt hp, Nat.zero_div]
def sT (B V f e i : Nat) : Nat := V % B ^ i * f + e
def sC (B V f e i : Nat) : Nat := sT B V f e i / B ^ i
theorem sC_zero (B V f e : Nat) : sC B V f e 0 = e := by simp [sC, sT, Nat.mod_one]
theorem sT_step (B V f e i : Nat) : sT B V f e (i + 1) = sT B V f e i + B ^ i * (V / B ^ i % B * f) := by
  unfold sT
  rw [mod_pow_step, Nat.add_mul, Nat.mul_assoc]; omega
theorem sC_step {B : Nat} (hB : 0 < B) (V f e i : Nat) : (V / B ^ i % B * f + sC B V f e i) / B = sC B V f e (i + 1) := by
  have hP : 0 < B ^ i := Nat.pow_pos hB
  rw [sC, sC, sT_step, Nat.pow_succ, ← Nat.div_div_eq_div_mul, Nat.add_mul_div_left _ _ hP]
  congr 1; omega
theorem sC_dig {B : Nat} (hB : 0 < B) (V f e i : Nat) : (V / B ^ i % B * f + sC B V f e i) % B = (V * f + e) / B ^ i % B := by
  have hP : 0 < B ^ i := Nat.pow_pos hB
  have h1 : V * f + e = sT B V f e (i + 1) + B ^ i * (B * (V / B ^ (i + 1) * f)) := by
    have e1 := Nat.mod_add_div V (B ^ (i + 1))
    unfold sT
    conv => lhs; rw [← e1, Nat.add_mul]
    rw [Nat.pow_succ, Nat.mul_assoc, Nat.mul_assoc]; omega
  rw [h1, Nat.add_mul_div_left _ _ hP, Nat.add_mul_mod_self_left, sT_step, Nat.add_mul_div_left _ _ hP, sC, Nat.add_comm]
theorem sC_lt {B : Nat} (hB : 0 < B) {V f e : Nat} (hf : f < B) (he : e < B) (i : Nat) : sC B V f e i < B := by
  have hP : 0 < B ^ i := Nat.pow_pos hB
  rw [sC, Nat.div_lt_iff_lt_mul hP]
  have h1 : V % B ^ i ≤ B ^ i - 1 := by have := Nat.mod_lt V hP; omega
  have h2 : V % B ^ i * f ≤ (B ^ i - 1) * (B - 1) := Nat.mul_le_mul h1 (by omega)
  obtain ⟨p, hp⟩ : ∃ p, B ^ i = p + 1 := ⟨B ^ i - 1, by omega⟩
  obtain ⟨b, rfl⟩ : ∃ b, B = b + 1 := ⟨B - 1, by omega⟩
  unfold sT
  rw [hp] at h2 ⊢
  rw [Nat.add_sub_cancel, Nat.add_sub_cancel] at h2
  have h3 : (b + 1) * (p + 1) = p * b + b + p + 1 := by rw [Nat.add_mul, Nat.mul_add, Nat.mul_comm b p]; omega
  omega
theorem sC_end {B V f e i : Nat} (h : V < B ^ i) : sC B V f e i = (V * f + e) / B ^ i := by rw [sC, sT, Nat.mod_eq_of_lt h]
def sU (B V f e i : Nat) : Nat := sT B V f e i % B ^ i + B ^ i * (V / B ^ i)
def qU (B V d n : Nat) : Nat := V % B ^ n + B ^ n * (V / B ^ n / d)
theorem qU_zero (B V d : Nat) : qU B V d 0 = V / d := by simp [qU, Nat.mod_one]
theorem qU_top {B V d n : Nat} (h : V < B ^ n) : qU B V d n = V := by simp [qU, Nat.mod_eq_of_lt h, Nat.div_eq_of_lt h]
theorem q_split (B V m : Nat) : V / B ^ m = B * (V / B ^ (m + 1)) + V / B ^ m % B := by rw [Nat.pow_succ, ← Nat.div_div_eq_div_mul, Nat.div_add_mod]
theorem q_num {B d : Nat} (V m : Nat) : V / B ^ m = (V / B ^ (m + 1) % d * B + V / B ^ m % B) + d * (B * (V / B ^ (m + 1) / d)) := by
  have h1 := q_split B V m
  have h2 := Nat.mod_add_div (V / B ^ (m + 1)) d
  generalize V / B ^ (m + 1) = q at *
  generalize V / B ^ m % B = y at *
  rw [h1]
  conv => lhs; rw [← h2]
  rw [Nat.mul_add, Nat.mul_left_comm B d, Nat.mul_comm B (q % d)]; omega
theorem q_div {B d : Nat} (hd : 0 < d) (V m : Nat) : V / B ^ m / d = B * (V / B ^ (m + 1) / d) + (V / B ^ (m + 1) % d * B + V / B ^ m % B) / d := by
  conv => lhs; rw [q_num (B := B) (d := d) V m]
  rw [Nat.add_mul_div_left _ _ hd, Nat.add_comm]
theorem q_mod {B d : Nat} (V m : Nat) : V / B ^ m % d = (V / B ^ (m + 1) % d * B + V / B ^ m % B) % d := by
  conv => lhs; rw [q_num (B := B) (d := d) V m]
  rw [Nat.add_mul_mod_self_left]
theorem q_lt {B d : Nat} (hB : 0 < B) (hd : 0 < d) (V m : Nat) : V / B ^ (m + 1) % d * B + V / B ^ m % B < d * B := by
  have h1 := Nat.mod_lt (V / B ^ (m + 1)) hd
  have h2 := Nat.mod_lt (V / B ^ m) hB
  have h3 : (V / B ^ (m + 1) % d + 1) * B ≤ d * B := Nat.mul_le_mul_right _ h1
  rw [Nat.add_mul] at h3; omega
theorem qU_hi {B : Nat} (hB : 0 < B) (V d n : Nat) : qU B V d n / B ^ n = V / B ^ n / d := by
  have hP : 0 < B ^ n := Nat.pow_pos hB
  rw [qU, Nat.add_mul_div_left _ _ hP, Nat.div_eq_of_lt (Nat.mod_lt _ hP), Nat.zero_add]
theorem qU_lo (B V d n : Nat) : qU B V d n % B ^ n = V % B ^ n := by rw [qU, Nat.add_mul_mod_self_left, Nat.mod_mod]
theorem qU_low1 {B : Nat} (V d m : Nat) : qU B V d (m + 1) % B ^ m = V % B ^ m := by
  rw [qU, Nat.pow_succ, Nat.mul_assoc, Nat.add_mul_mod_self_left, Nat.mod_mul_right_mod]
theorem qU_dig {B : Nat} (hB : 0 < B) {V d m N : Nat} (h : m < N) : (dig B N (qU B V d (m + 1)))[m]? = some (V / B ^ m % B) := by
  have hP : 0 < B ^ m := Nat.pow_pos hB
  rw [dig_get _ _ _ h, qU, Nat.pow_succ, Nat.mul_assoc, Nat.add_mul_div_left _ _ hP, Nat.add_mul_mod_self_left, Nat.mod_mul_right_div_self, Nat.mod_mod]
theorem qU_step {B : Nat} (hB : 0 < B) {V d m N : Nat} (hd : 0 < d) (h : m < N) : (dig B N (qU B V d (m + 1))).set m ((V / B ^ (m + 1) % d * B + V / B ^ m % B) / d) = dig B N (qU B V d m) := by
  have hx : (V / B ^ (m + 1) % d * B + V / B ^ m % B) / d < B := by rw [Nat.div_lt_iff_lt_mul hd, Nat.mul_comm B d]; exact q_lt hB hd V m
  have hq := q_div (B := B) hd V m
  refine dig_put hB h hx ?_ ?_ ?_
  · rw [qU_lo, qU_low1]
  · rw [qU_hi hB, hq, Nat.mul_add_mod, Nat.mod_eq_of_lt hx]
  · rw [qU_hi hB, Nat.pow_succ, ← Nat.div_div_eq_div_mul, qU_hi hB, hq, Nat.mul_add_div hB, Nat.div_eq_of_lt hx, ← Nat.pow_succ]; rfl
end Go.Fw
namespace Go.Fw
theorem can_one {B v : Nat} (hB : 2 ≤ B) (h0 : v ≠ 0) (h : v < B) : can B v = [v] := by
  have := can_of hB (l := []) h0 (by simpa using h)
  simpa [val] using this.symm
theorem can_two {B v : Nat} (hB : 2 ≤ B) (h0 : v / B ≠ 0) (h : v < B * B) : can B v = [v % B, v / B] := by
  have h1 : v / B < B := by rw [Nat.div_lt_iff_lt_mul (by omega)]; exact h
  have h2 : v % B < B := Nat.mod_lt _ (by omega)
  have := can_of hB (l := [v % B]) h0 (by simp; exact ⟨h2, h1⟩)
  simp only [List.cons_append, List.nil_append, val, Nat.mul_zero, Nat.add_zero] at this
  rw [Nat.mod_add_div] at this
  exact this.symm
theorem get_val {B : Nat} {l : List Nat} (h : ∀ x ∈ l, x < B) {i : Nat} (hi : i < l.length) : l[i]? = some (val B l / B ^ i % B) := by
  rw [← val_getD l h i]; simp [List.getD, hi]
def cmpN (v w : Nat) : Int := if v < w then -1 else if v = w then 0 else 1
theorem cmpN_lt {v w : Nat} (h : v < w) : cmpN v w = -1 := by simp [cmpN, h]
theorem cmpN_eq (v : Nat) : cmpN v v = 0 := by simp [cmpN]
theorem cmpN_gt {v w : Nat} (h : w < v) : cmpN v w = 1 := by
  have h1 : ¬ v < w := by omega
  have h2 : ¬ v = w := by omega
  simp [cmpN, h1, h2]
theorem can_lt_len {B v w : Nat} (hB : 2 ≤ B) (h : (can B v).length < (can B w).length) : v < w :=
  Nat.lt_of_lt_of_le (lt_can_len hB v) (pow_le_of_can hB h)
theorem div_step (B v m : Nat) : v / B ^ m = B * (v / B ^ (m + 1)) + v / B ^ m % B := by
  rw [Nat.pow_succ, ← Nat.div_div_eq_div_mul, Nat.div_add_mod]
theorem lt_of_div {B v w m : Nat} (h : v / B ^ m < w / B ^ m) : v < w := by
  rcases Nat.lt_or_ge v w with h1 | h1
  · exact h1
  · have := Nat.div_le_div_right (c := B ^ m) h1; omega
theorem dig_cases {B v w m : Nat} (h : v / B ^ (m + 1) = w / B ^ (m + 1)) : (v / B ^ m % B = w / B ^ m % B ∧ v / B ^ m = w / B ^ m) ∨ (v / B ^ m % B < w / B ^ m % B ∧ v < w) ∨ (w / B ^ m % B < v / B ^ m % B ∧ w < v) := by
  have h1 := div_step B v m
  have h2 := div_step B w m
  rw [← h] at h2
  rcases Nat.lt_trichotomy (v / B ^ m % B) (w / B ^ m % B) with h3 | h3 | h3
  · exact .inr (.inl ⟨h3, lt_of_div (B := B) (m := m) (by omega)⟩)
  · exact .inl ⟨h3, by omega⟩
  · exact .inr (.inr ⟨h3, lt_of_div (B := B) (m := m) (by omega)⟩)
end Go.Fw
namespace Go.Proofs.YtfoldppidpmchaaGreat
open Go.Fw
theorem trim_eq (l : List Nat) (hl : l.length ≤ 1000000000000) : whole_trim_m l = some (trimW l) := by
  unfold whole_trim_m
  refine bind_loop (fun y => y.length ≤ 1000000000000 ∧ trimW y = trimW l) (fun e => e = trimW l) (fun y => y.length) ?_ ⟨hl, rfl⟩ (fun e he => by rw [he])
  rintro y ⟨hy, ht⟩
  rcases trim_cases y with rfl | ⟨ys, rfl⟩ | ⟨ys, x, hx, rfl⟩
  · right; exact ⟨[], by simp [letJ], ht⟩
  · left
    have h1 : ((ys ++ [0]).length : Int) = ((ys.length + 1 : Nat) : Int) := by simp
    have h2 : ys.length ≤ 9223372036854775807 := by simp at hy; omega
    refine ⟨ys, ?_, ⟨by simp at hy ⊢; omega, by rw [← ht, trimW_zero]⟩, by simp⟩
    simp only [letJ, Option.bind_some, h1, w64_pred h2]
    rw [geti_nat (a := 0) (by simp), subM_zero (by simp)]
    simp
  · right
    have h1 : ((ys ++ [x]).length : Int) = ((ys.length + 1 : Nat) : Int) := by simp
    have h2 : ys.length ≤ 9223372036854775807 := by simp at hy; omega
    refine ⟨ys ++ [x], ?_, by rw [← ht, trimW_last _ hx]⟩
    simp only [letJ, Option.bind_some, h1, w64_pred h2]
    rw [geti_nat (a := x) (by simp)]
    simp [hx]
def zc (n : Bool) (v : Nat) : Zr := ⟨n && v != 0, can 4294967296 v⟩
theorem zc_zero (n : Bool) : zc n 0 = ⟨false, []⟩ := by simp [zc, can_zero]
theorem zc_pos (n : Bool) {v : Nat} (h : v ≠ 0) : zc n v = ⟨n, can 4294967296 v⟩ := by simp [zc, h]
def W32 (l : List Nat) : Prop := (∀ x ∈ l, x < 4294967296) ∧ l.length ≤ 100000000000
abbrev vl (l : List Nat) : Nat := val 4294967296 l
theorem build_eq (n : Bool) (l : List Nat) (h : W32 l) : whole_build_m n l = some (zc n (vl l)) := by
  unfold whole_build_m
  rw [trim_eq l (by have := h.2; omega), trim_can (by decide) h.1]
  show _ = some (zc n (val 4294967296 l))
  by_cases hz : val 4294967296 l = 0
  · rw [hz, zc_zero]; simp [can_zero]
  · have : can 4294967296 (val 4294967296 l) ≠ [] := fun e => hz (can_nil (by decide) e)
    rw [zc_pos _ hz]; simp [this]
theorem small_eq (n : Bool) (v : Nat) (h : v < 18446744073709551616) : whole_small_m n v = some (zc n v) := by
  unfold whole_small_m
  by_cases hz : v = 0
  · subst hz; simp [zc_zero]
  · rw [zc_pos _ hz]
    by_cases h1 : v / 2 ^ 32 = 0
    · rw [can_one (by decide) hz (by omega)]
      simp only [Option.bind_some, hz, h1, decide_false, decide_true, cond_false, cond_true]
      rw [Nat.mod_eq_of_lt (by omega)]
    · rw [can_two (by decide) (by omega) (by omega)]
      simp only [Option.bind_some, hz, h1, decide_false, cond_false]
      rw [Nat.mod_eq_of_lt (a := v / 2 ^ 32) (by omega)]
theorem or_add {a b s : Nat} (h : a < 2 ^ s) : a ||| b * 2 ^ s = a + b * 2 ^ s := by
  rw [Nat.or_comm, Nat.mul_comm b, ← Nat.two_pow_add_eq_or_of_lt h, Nat.add_comm]
theorem low_eq (l : List Nat) (h : ∀ x ∈ l, x < 4294967296) (hl : l.length ≤ 2) : whole_low_m l = some (vl l) := by
  rcases l with _ | ⟨x, _ | ⟨y, _ | ⟨z, l⟩⟩⟩
  · simp [whole_low_m, vl, val]
  · have hx := h x (by simp)
    simp only [whole_low_m, geti_zero (l := [x]) (a := x) rfl]
    simp [vl, val]; omega
  · have hx := h x (by simp)
    have hy := h y (by simp)
    simp only [whole_low_m, geti_zero (l := [x, y]) (a := x) rfl, geti_one (l := [x, y]) (a := y) rfl, Option.bind_some]
    rw [Nat.mod_eq_of_lt (a := x) (by omega), Nat.mod_eq_of_lt (a := y) (by omega), Nat.mod_eq_of_lt (a := y * 2 ^ 32) (by omega), or_add (by omega), Nat.mod_eq_of_lt (by omega)]
    simp [vl, val]; omega
  · simp at hl
theorem carrier_eq (x c : Nat) (h : x + c < 18446744073709551616) : whole_carrier_1_m x c = some ((x + c) % 4294967296, (x + c) / 4294967296) := by
  simp [whole_carrier_1_m, Nat.mod_eq_of_lt h]
theorem compareWords_eq (v w : Nat) (hv : (can 4294967296 v).length ≤ 100000000000) (hw : (can 4294967296 w).length ≤ 100000000000) : whole_compareWords_m (can 4294967296 v) (can 4294967296 w) = some (cmpN v w) := by
  unfold whole_compareWords_m
  rcases Nat.lt_trichotomy (can 4294967296 v).length (can 4294967296 w).length with hl | hl | hl
  · rw [cmpN_lt (can_lt_len (by decide) hl)]
    simp only [Option.bind_some]
    rw [show decide (((can 4294967296 v).length : Int) ≠ ((can 4294967296 w).length : Int)) = true by simp; omega, show decide (((can 4294967296 v).length : Int) < ((can 4294967296 w).length : Int)) = true by simp; omega]; rfl
  · simp only [Option.bind_some]
    rw [show decide (((can 4294967296 v).length : Int) ≠ ((can 4294967296 w).length : Int)) = false by simp; omega, cond_false]
    refine bind_loop (fun y => ∃ n : Nat, y = (n : Int) - 1 ∧ n ≤ (can 4294967296 v).length ∧ v / 4294967296 ^ n = w / 4294967296 ^ n) (fun e => e = (if v = w then .inl () else .inr (cmpN v w))) (fun y => (y + 1).toNat) ?_ ⟨(can 4294967296 v).length, ?_, Nat.le_refl _, ?_⟩ ?_
    · rintro y ⟨n, rfl, hn, he⟩
      cases n with
      | zero =>
        right
        have : v = w := by simpa using he
        subst this
        exact ⟨_, by simp, rfl⟩
      | succ m =>
        have hgv := can_get (B := 4294967296) (by decide) (v := v) (j := m) (by omega)
        have hgw := can_get (B := 4294967296) (by decide) (v := w) (j := m) (by omega)
        have e0 : ((m + 1 : Nat) : Int) - 1 = (m : Int) := by omega
        rw [e0]
        rcases dig_cases he with ⟨h1, h2⟩ | ⟨h1, h2⟩ | ⟨h1, h2⟩
        · left
          refine ⟨(m : Int) - 1, ?_, ⟨m, rfl, by omega, h2⟩, by omega⟩
          simp only [Option.bind_some, geti_nat hgv, geti_nat hgw, h1]
          rw [w64_id (by omega) (by omega)]
          simp
        · right
          refine ⟨.inr (-1), ?_, by rw [if_neg (by omega), cmpN_lt h2]⟩
          simp only [Option.bind_some, geti_nat hgv, geti_nat hgw]
          simp [h1, Nat.ne_of_lt h1]
        · right
          refine ⟨.inr 1, ?_, by rw [if_neg (by omega), cmpN_gt h2]⟩
          simp only [Option.bind_some, geti_nat hgv, geti_nat hgw]
          simp [Nat.not_lt_of_lt h1, Nat.ne_of_gt h1]
    · rw [w64_id (by omega) (by omega)]
    · rw [can_beyond (by decide) (Nat.le_refl _), can_beyond (by decide) (by omega)]
    · rintro e rfl
      by_cases h : v = w
      · subst h; simp [cmpN_eq]
      · simp [h]
  · rw [cmpN_gt (can_lt_len (by decide) hl)]
    simp only [Option.bind_some]
    rw [show decide (((can 4294967296 v).length : Int) ≠ ((can 4294967296 w).length : Int)) = true by simp; omega, show decide (((can 4294967296 v).length : Int) < ((can 4294967296 w).length : Int)) = false by simp; omega]; rfl
theorem getD_lt {l : List Nat} (h : ∀ x ∈ l, x < 4294967296) (i : Nat) : l.getD i 0 < 4294967296 := by
  rcases Nat.lt_or_ge i l.length with hi | hi
  · exact h _ (List.mem_of_getElem? (get_getD hi))
  · rw [getD_of_le hi]; decide
theorem addWords_eq (a b : List Nat) (ha : W32 a) (hb : W32 b) : whole_addWords_m a b = some (dig 4294967296 (max a.length b.length + 1) (vl a + vl b)) := by
  obtain ⟨hA, hla⟩ := ha
  obtain ⟨hB, hlb⟩ := hb
  have hV : val 4294967296 a < 4294967296 ^ (max a.length b.length) := Nat.lt_of_lt_of_le (val_lt a hA) (Nat.pow_le_pow_right (by decide) (by omega))
  have hW : val 4294967296 b < 4294967296 ^ (max a.length b.length) := Nat.lt_of_lt_of_le (val_lt b hB) (Nat.pow_le_pow_right (by decide) (by omega))
  unfold whole_addWords_m
  simp only [Option.bind_some]
  rw [show max (a.length : Int) (b.length : Int) = ((max a.length b.length : Nat) : Int) by omega, w64_succ (by omega), mkE_of (by decide) (by omega), Option.bind_some]
  refine bind_range (fun k => (cry 4294967296 (vl a) (vl b) k, dig 4294967296 k (vl a + vl b))) (by simp [cry_zero, dig]) (fun k hk => ?_) ?_
  · have hx := getD_lt hA k
    have hy := getD_lt hB k
    have hc := cry_le (B := 4294967296) (by decide) (vl a) (vl b) k
    have hxe := val_getD a hA k
    have hye := val_getD b hB k
    simp only [Option.bind_some]
    rw [Nat.mod_eq_of_lt (a := a.getD k 0) (by omega), Nat.mod_eq_of_lt (a := b.getD k 0) (by omega), Nat.mod_eq_of_lt (a := a.getD k 0 + b.getD k 0) (by omega), carrier_eq _ _ (by omega)]
    simp only [Option.bind_some]
    rw [apM1 (by decide) (by rw [dig_len]; omega), Option.bind_some, hxe, hye, cry_step (by decide), cry_dig (by decide), ← dig_succ]
  · have hc := cry_le (B := 4294967296) (by decide) (vl a) (vl b) (max a.length b.length)
    simp only
    rw [carrier_eq _ _ (by omega)]
    simp only [Option.bind_some]
    rw [apM1 (by decide) (by rw [dig_len]; omega), Option.bind_some, Nat.zero_add, cry_end hV hW, ← dig_succ]
theorem subWords_eq (a b : List Nat) (ha : W32 a) (hb : W32 b) (hl : b.length ≤ a.length) (hle : vl b ≤ vl a) : whole_subWords_m a b = some (dig 4294967296 a.length (vl a - vl b)) := by
  obtain ⟨hA, hla⟩ := ha
  obtain ⟨hB, hlb⟩ := hb
  have hmx : max a.length b.length = a.length := by omega
  unfold whole_subWords_m
  simp only [Option.bind_some]
  rw [mkE_of (by decide) (by omega), Option.bind_some, hmx]
  refine bind_range (fun k => (lnd 4294967296 (vl a) (vl b) k, dig 4294967296 k (vl a - vl b))) (by simp [lnd_zero, dig]) (fun k hk => ?_) rfl
  have hx := getD_lt hA k
  have hy := getD_lt hB k
  have hc := lnd_le (B := 4294967296) (by decide) (vl a) (vl b) k
  have hxe := val_getD a hA k
  have hye := val_getD b hB k
  simp only [Option.bind_some]
  rw [Nat.mod_eq_of_lt (a := a.getD k 0) (by omega), Nat.mod_eq_of_lt (a := b.getD k 0) (by omega), usub_of (by omega) (by omega), Nat.mod_eq_of_lt (a := a.getD k 0 + (4294967295 - b.getD k 0)) (by omega), carrier_eq _ _ (by omega)]
  simp only [Option.bind_some]
  rw [apM1 (by decide) (by rw [dig_len]; omega), Option.bind_some, hxe, hye, lnd_step (B := 4294967296) (by decide), lnd_dig (B := 4294967296) (by decide) hle, ← dig_succ]
theorem mulWords_eq (a b : List Nat) (ha : W32 a) (hb : W32 b) : whole_mulWords_m a b = some (dig 4294967296 (a.length + b.length) (vl a * vl b)) := by
  obtain ⟨hA, hla⟩ := ha
  obtain ⟨hB, hlb⟩ := hb
  unfold whole_mulWords_m
  simp only [Option.bind_some]
  rw [w64_add (by omega), mkM_of (by decide) (by omega), Option.bind_some]
  refine bind_loop_to (fun i => ((i : Int), dig 4294967296 (a.length + b.length) (vl a % 4294967296 ^ i * vl b))) a.length (dig 4294967296 (a.length + b.length) (vl a % 4294967296 ^ a.length * vl b)) (by simp [Nat.mod_one, dig_zero]) (fun i hi => ?_) (by simp) (by rw [Nat.mod_eq_of_lt (val_lt a hA)])
  have hgx := get_val hA hi
  have hx : val 4294967296 a / 4294967296 ^ i % 4294967296 < 4294967296 := Nat.mod_lt _ (by decide)
  simp only [Option.bind_some, show decide ((i : Int) < (a.length : Int)) = true by simp; omega, cond_true]
  rw [geti_nat hgx, Option.bind_some]
  refine bind_loop_to (fun k => ((k : Int), mC 4294967296 (vl a) (vl b) i k, dig 4294967296 (a.length + b.length) (mV 4294967296 (vl a) (vl b) i k))) b.length (mC 4294967296 (vl a) (vl b) i b.length, dig 4294967296 (a.length + b.length) (mV 4294967296 (vl a) (vl b) i b.length)) (by simp [mC_zero, mV_zero]) (fun k hk => ?_) (by simp) ?_
  · have hgy := get_val hB hk
    have hgp := mV_dig (B := 4294967296) (by decide) (V := vl a) (W := vl b) (i := i) (k := k) (N := a.length + b.length) (by omega)
    have hy : val 4294967296 b / 4294967296 ^ k % 4294967296 < 4294967296 := Nat.mod_lt _ (by decide)
    have hp : vl a % 4294967296 ^ i * vl b / 4294967296 ^ (i + k) % 4294967296 < 4294967296 := Nat.mod_lt _ (by decide)
    have hc := mC_lt (B := 4294967296) (by decide) (vl a) (vl b) i k
    have hxy : val 4294967296 a / 4294967296 ^ i % 4294967296 * (val 4294967296 b / 4294967296 ^ k % 4294967296) ≤ 4294967295 * 4294967295 := Nat.mul_le_mul (by omega) (by omega)
    simp only [Option.bind_some, show decide ((k : Int) < (b.length : Int)) = true by simp; omega, cond_true]
    rw [geti_nat hgy, Option.bind_some, w64_add (by omega), cki_nat (by rw [dig_len]; omega), Option.bind_some, hgp, Option.bind_some]
    rw [Nat.mod_eq_of_lt (a := vl a % 4294967296 ^ i * vl b / 4294967296 ^ (i + k) % 4294967296) (by omega), Nat.mod_eq_of_lt (a := val 4294967296 a / 4294967296 ^ i % 4294967296) (b := 18446744073709551616) (by omega), Nat.mod_eq_of_lt (a := val 4294967296 b / 4294967296 ^ k % 4294967296) (b := 18446744073709551616) (by omega), Nat.mod_eq_of_lt (a := val 4294967296 a / 4294967296 ^ i % 4294967296 * (val 4294967296 b / 4294967296 ^ k % 4294967296)) (by omega), Nat.mod_eq_of_lt (a := vl a % 4294967296 ^ i * vl b / 4294967296 ^ (i + k) % 4294967296 + _) (by omega), carrier_eq _ _ (by omega)]
    simp only [Option.bind_some]
    rw [stM_of (by rw [dig_len]; omega), Option.bind_some, mC_step (B := 4294967296) (by decide), mV_step (B := 4294967296) (by decide) (by omega), w64_succ (by omega)]
  · have hc := mC_lt (B := 4294967296) (by decide) (vl a) (vl b) i b.length
    simp only [Option.bind_some]
    rw [w64_add (by omega), carrier_eq _ _ (by omega)]
    simp only [Option.bind_some]
    rw [cki_nat (by rw [dig_len]; omega), Option.bind_some, stM_of (by rw [dig_len]; omega), Option.bind_some, mV_end (B := 4294967296) (by decide) (val_lt b hB) (by omega), w64_succ (by omega)]
end Go.Proofs.YtfoldppidpmchaaGreat
namespace Go.Proofs.YtfoldppidpmchaaGreat
open Go.Fw
theorem or_add' {a b s : Nat} (h : a < 2 ^ s) : b * 2 ^ s ||| a = b * 2 ^ s + a := by rw [Nat.or_comm, or_add h, Nat.add_comm]
theorem or32' {a b : Nat} (h : a < 4294967296) : b * 4294967296 ||| a = b * 4294967296 + a := or_add' (s := 32) h
theorem shortDiv_eq (a : List Nat) (d : Nat) (ha : W32 a) (hd : 0 < d) (hd2 : d ≤ 4294967296) : whole_shortDiv_m a d = some (vl a % d, dig 4294967296 a.length (vl a / d)) := by
  obtain ⟨hA, hla⟩ := ha
  unfold whole_shortDiv_m
  simp only [Option.bind_some]
  rw [w64_id (by omega) (by omega)]
  refine bind_loop_to (fun i => (vl a / 4294967296 ^ (a.length - i) % d, ((a.length - i : Nat) : Int) - 1, dig 4294967296 a.length (qU 4294967296 (vl a) d (a.length - i)))) a.length (vl a % d, dig 4294967296 a.length (vl a / d)) ?_ (fun i hi => ?_) (by simp [qU_zero]) ?_
  · simp only [Nat.sub_zero]
    rw [qU_top (val_lt a hA), dig_val a hA, Nat.div_eq_of_lt (val_lt a hA), Nat.zero_mod]
  · obtain ⟨m, hm⟩ : ∃ m, a.length - i = m + 1 := ⟨a.length - i - 1, by omega⟩
    have hm' : a.length - (i + 1) = m := by omega
    have hml : m < a.length := by omega
    rw [hm, hm']
    have hy : vl a / 4294967296 ^ m % 4294967296 < 4294967296 := Nat.mod_lt _ (by decide)
    have hr : vl a / 4294967296 ^ (m + 1) % d < d := Nat.mod_lt _ hd
    have hq := q_lt (B := 4294967296) (by decide) hd (vl a) m
    have hqd : (vl a / 4294967296 ^ (m + 1) % d * 4294967296 + vl a / 4294967296 ^ m % 4294967296) / d < 4294967296 := by rw [Nat.div_lt_iff_lt_mul hd, Nat.mul_comm 4294967296 d]; exact hq
    have hg := qU_dig (B := 4294967296) (by decide) (V := vl a) (d := d) (m := m) (N := a.length) hml
    have hlt : vl a / 4294967296 ^ (m + 1) % d * 4294967296 + vl a / 4294967296 ^ m % 4294967296 < 18446744073709551616 := by omega
    have hs1 : vl a / 4294967296 ^ (m + 1) % d * 4294967296 < 18446744073709551616 := Nat.lt_of_le_of_lt (Nat.le_add_right _ _) hlt
    have hs2 : vl a / 4294967296 ^ m % 4294967296 < 18446744073709551616 := Nat.lt_of_le_of_lt (Nat.le_add_left _ _) hlt
    have hi1 : ((m + 1 : Nat) : Int) - 1 = (m : Int) := by omega
    simp only [hi1, show decide ((0 : Int) ≤ (m : Int)) = true by simp, cond_true, Option.bind_some]
    rw [cki_nat (by rw [dig_len]; omega), Option.bind_some, hg]
    simp only [Option.bind_some]
    rw [show (2 : Nat) ^ 32 = 4294967296 from rfl]
    rw [Nat.mod_eq_of_lt (a := vl a / 4294967296 ^ (m + 1) % d * 4294967296) hs1, Nat.mod_eq_of_lt (a := vl a / 4294967296 ^ m % 4294967296) (b := 18446744073709551616) hs2, or32' hy, Nat.mod_eq_of_lt (a := vl a / 4294967296 ^ (m + 1) % d * 4294967296 + vl a / 4294967296 ^ m % 4294967296) hlt, uquo_of (by omega) hlt, urem_of (by omega)]
    simp only [Option.bind_some]
    rw [Nat.mod_eq_of_lt (b := 4294967296) (a := (vl a / 4294967296 ^ (m + 1) % d * 4294967296 + vl a / 4294967296 ^ m % 4294967296) / d) hqd, stM_of (by rw [dig_len]; omega), Option.bind_some, w64_id (by omega) (by omega)]
    rw [qU_step (B := 4294967296) (by decide) hd hml, ← q_mod (B := 4294967296) (d := d) (vl a) m]
  · simp only
    rw [eqLen_of (by rw [dig_len]), Option.bind_some]
theorem shiftLeft_eq (a : List Nat) (s : Nat) (ha : W32 a) (hs : s < 32) : whole_shiftLeft_m a s = some (dig 4294967296 (a.length + 1) (vl a * 2 ^ s)) := by
  obtain ⟨hA, hla⟩ := ha
  have hf : 2 ^ s < 4294967296 := by
    have : 2 ^ s < 2 ^ 32 := Nat.pow_lt_pow_right (by decide) hs
    omega
  unfold whole_shiftLeft_m
  simp only [Option.bind_some]
  rw [w64_succ (by omega), mkE_of (by decide) (by omega), Option.bind_some]
  refine bind_loop_to (fun i => ((i : Int), sC 4294967296 (vl a) (2 ^ s) 0 i, dig 4294967296 i (vl a * 2 ^ s + 0))) a.length (sC 4294967296 (vl a) (2 ^ s) 0 a.length, dig 4294967296 a.length (vl a * 2 ^ s + 0)) (by simp [sC_zero, dig]) (fun i hi => ?_) (by simp) ?_
  · have hx : vl a / 4294967296 ^ i % 4294967296 < 4294967296 := Nat.mod_lt _ (by decide)
    have hc := sC_lt (B := 4294967296) (by decide) (V := vl a) hf (show (0 : Nat) < 4294967296 by decide) i
    have hxf : vl a / 4294967296 ^ i % 4294967296 * 2 ^ s ≤ 4294967295 * 4294967295 := Nat.mul_le_mul (by omega) (by omega)
    have hg : a[i]? = some (vl a / 4294967296 ^ i % 4294967296) := get_val hA hi
    simp only [show decide ((i : Int) < (a.length : Int)) = true by simp; omega, cond_true]
    rw [geti_nat hg]
    simp only [Option.bind_some]
    rw [show min s 64 = s by omega, Nat.mod_eq_of_lt (a := vl a / 4294967296 ^ i % 4294967296) (b := 18446744073709551616) (by omega), Nat.mod_eq_of_lt (b := 18446744073709551616) (by omega), carrier_eq _ _ (by omega)]
    simp only [Option.bind_some]
    rw [apM1 (by decide) (by rw [dig_len]; omega), Option.bind_some, sC_step (B := 4294967296) (by decide), sC_dig (B := 4294967296) (by decide), w64_succ (by omega), ← dig_succ]
  · have hc := sC_lt (B := 4294967296) (by decide) (V := vl a) hf (show (0 : Nat) < 4294967296 by decide) a.length
    simp only
    rw [carrier_eq _ _ (by omega)]
    simp only [Option.bind_some]
    rw [apM1 (by decide) (by rw [dig_len]; omega), Option.bind_some, Nat.zero_add, sC_end (val_lt a hA), ← dig_succ]
    simp
theorem shiftLeftN_eq (a : List Nat) (s : Nat) : whole_shiftLeftN_m a s = whole_shiftLeft_m a s := rfl
def lenTab : Str := [0, 1, 2, 2, 3, 3, 3, 3, 4, 4, 4, 4, 4, 4, 4, 4, 5, 5, 5, 5, 5, 5, 5, 5, 5, 5, 5, 5, 5, 5, 5, 5] ++ List.replicate 32 6 ++ List.replicate 64 7 ++ List.replicate 128 8
theorem tab_ok : ∀ y : Nat, y < 256 → sgeti lenTab (y : Int) = some ((sgeti lenTab (y : Int)).getD 0) ∧ (sgeti lenTab (y : Int)).getD 0 ≤ 8 ∧ y < 2 ^ (sgeti lenTab (y : Int)).getD 0 ∧ (y = 0 ∨ 2 ^ (sgeti lenTab (y : Int)).getD 0 ≤ 2 * y) := by decide +kernel
set_option maxRecDepth 20000 in
theorem len32_eq (x : Nat) (h : x < 4294967296) : ∃ n : Nat, math_bits_Len32_m x = some (n : Int) ∧ n ≤ 32 ∧ x < 2 ^ n ∧ (x = 0 ∨ 2 ^ n ≤ 2 * x) := by
  have key : ∀ (y k : Nat), y < 256 → y = x / 2 ^ k → k ≤ 24 → (x ≠ 0 → y ≠ 0) → ∃ n : Nat, (((sgeti lenTab ((y % 256 : Nat) : Int)).bind fun x16 => (some (IntKind.i64.wrap (x16 : Int))).bind fun x17 => (some (IntKind.i64.wrap ((k : Int) + x17))).bind fun x18 => some x18) = some (n : Int)) ∧ n ≤ 32 ∧ x < 2 ^ n ∧ (x = 0 ∨ 2 ^ n ≤ 2 * x) := by
    intro y k hy hyx hk hnz
    obtain ⟨h1, h2, h3, h4⟩ := tab_ok y hy
    rw [Nat.mod_eq_of_lt hy, h1]
    generalize (sgeti lenTab (y : Int)).getD 0 = t at *
    have hp : 0 < 2 ^ k := Nat.two_pow_pos _
    have e1 : 2 ^ (k + t) = 2 ^ k * 2 ^ t := Nat.pow_add ..
    have e2 := Nat.div_add_mod x (2 ^ k)
    have e3 := Nat.mod_lt x hp
    rw [← hyx] at e2
    refine ⟨k + t, ?_, by omega, ?_, ?_⟩
    · simp only [Option.bind_some]
      rw [w64_nat (by omega), w64_add (by omega)]
    · rw [e1]
      have : 2 ^ k * (y + 1) ≤ 2 ^ k * 2 ^ t := Nat.mul_le_mul_left _ h3
      rw [Nat.mul_add] at this
      omega
    · rcases h4 with h4 | h4
      · left
        cases Nat.eq_zero_or_pos x with
        | inl h => exact h
        | inr h => exact absurd h4 (hnz (by omega))
      · right
        rw [e1]
        have : 2 ^ k * 2 ^ t ≤ 2 ^ k * (2 * y) := Nat.mul_le_mul_left _ h4
        rw [show 2 ^ k * (2 * y) = 2 * (2 ^ k * y) by rw [Nat.mul_left_comm]] at this
        omega
  unfold math_bits_Len32_m
  simp only [letJ, Option.bind_some]
  by_cases c1 : 65536 ≤ x
  · rw [show decide (65536 ≤ x) = true by simpa using c1]
    simp only [cond_true]
    by_cases c2 : 256 ≤ x / 2 ^ 16
    · rw [show decide (256 ≤ x / 2 ^ 16) = true by simpa using c2]
      simp only [cond_true]
      rw [show IntKind.i64.wrap (16 + 8) = ((24 : Nat) : Int) by decide]
      exact key (x / 2 ^ 16 / 2 ^ 8) 24 (by omega) (by omega) (by omega) (by omega)
    · rw [show decide (256 ≤ x / 2 ^ 16) = false by simpa using c2]
      simp only [cond_false]
      exact key (x / 2 ^ 16) 16 (by omega) rfl (by omega) (by omega)
  · rw [show decide (65536 ≤ x) = false by simpa using c1]
    simp only [cond_false]
    by_cases c2 : 256 ≤ x
    · rw [show decide (256 ≤ x) = true by simpa using c2]
      simp only [cond_true]
      rw [show IntKind.i64.wrap (0 + 8) = ((8 : Nat) : Int) by decide]
      exact key (x / 2 ^ 8) 8 (by omega) rfl (by omega) (by omega)
    · rw [show decide (256 ≤ x) = false by simpa using c2]
      simp only [cond_false]
      exact key x 0 (by omega) (by simp) (by omega) (fun h => h)
theorem lz_eq (x : Nat) (h : x < 4294967296) (h0 : x ≠ 0) : ∃ s : Nat, math_bits_LeadingZeros32_m x = some (s : Int) ∧ s < 32 ∧ 2147483648 ≤ x * 2 ^ s ∧ x * 2 ^ s < 4294967296 := by
  obtain ⟨n, h1, h2, h3, h4⟩ := len32_eq x h
  have h4 : 2 ^ n ≤ 2 * x := h4.resolve_left h0
  have hn : n ≠ 0 := by rintro rfl; simp at h3; omega
  refine ⟨32 - n, ?_, by omega, ?_, ?_⟩
  · unfold math_bits_LeadingZeros32_m
    rw [h1]
    simp only [Option.bind_some]
    rw [w64_id (by omega) (by omega)]
    congr 1; omega
  · have : 2 ^ n * 2 ^ (32 - n) ≤ 2 * x * 2 ^ (32 - n) := Nat.mul_le_mul_right _ h4
    rw [← Nat.pow_add, show n + (32 - n) = 32 by omega, Nat.mul_assoc] at this
    omega
  · have : x * 2 ^ (32 - n) < 2 ^ n * 2 ^ (32 - n) := Nat.mul_lt_mul_of_pos_right h3 (Nat.two_pow_pos _)
    rw [← Nat.pow_add, show n + (32 - n) = 32 by omega] at this
    omega
end Go.Proofs.YtfoldppidpmchaaGreat
namespace Go.Fw
section knuth
variable {B V U W : Nat}
theorem est_ge {P F T : Nat} (hP : 0 < P) (hF : 0 < F) (hV : F * P ≤ V) (hU : U < (T + 1) * P) : U / V ≤ T / F := by
  have hV0 : 0 < V := Nat.lt_of_lt_of_le (Nat.mul_pos hF hP) hV
  rw [Nat.le_div_iff_mul_le hF]
  rcases Nat.lt_or_ge T (U / V * F) with h | h
  · exfalso
    have h1 : U / V * V ≤ U := Nat.div_mul_le_self U V
    have h2 : U / V * (F * P) ≤ U / V * V := Nat.mul_le_mul_left _ hV
    have h3 : (T + 1) * P ≤ U / V * F * P := Nat.mul_le_mul_right _ h
    rw [Nat.mul_assoc] at h3
    omega
  · exact h
theorem est_dec {P F S T u g r : Nat} (hV : (F * B + S) * P ≤ V) (hU : U < (T * B + u + 1) * P) (hgr : g * F + r = T) (h : r * B + u < g * S) : U < g * V := by
  have h1 : g * ((F * B + S) * P) ≤ g * V := Nat.mul_le_mul_left _ hV
  have h2 : (T * B + u + 1) * P ≤ g * (F * B + S) * P := by
    apply Nat.mul_le_mul_right
    rw [Nat.mul_add, ← Nat.mul_assoc, ← hgr, Nat.add_mul]
    omega
  rw [Nat.mul_assoc] at h2
  omega
theorem est_le {P V2 U2 g : Nat} (hV : V < (V2 + 1) * P) (hU : U2 * P ≤ U) (hq : U / V < B) (hB : B ≤ V2) (hV0 : 0 < V) (h : g * V2 ≤ U2) : g ≤ U / V + 1 := by
  rcases Nat.lt_or_ge (U / V + 1) g with h' | h'
  · exfalso
    have h1 : U < (U / V + 1) * V := by have := Nat.lt_div_mul_add (a := U) hV0; rw [Nat.add_mul, Nat.one_mul]; exact this
    have h2 : (U / V + 1) * V ≤ (U / V + 1) * ((V2 + 1) * P) := Nat.mul_le_mul_left _ (Nat.le_of_lt hV)
    have h3 : g * V2 * P ≤ U2 * P := Nat.mul_le_mul_right _ h
    have h4 : (U / V + 2) * V2 ≤ g * V2 := Nat.mul_le_mul_right _ h'
    have h5 : (U / V + 2) * V2 * P ≤ g * V2 * P := Nat.mul_le_mul_right _ h4
    have h6 : (U / V + 1) * ((V2 + 1) * P) ≤ (U / V + 2) * V2 * P := by
      rw [← Nat.mul_assoc]
      apply Nat.mul_le_mul_right
      rw [Nat.mul_add, Nat.add_mul (U / V) 2 V2, Nat.add_mul (U / V) 1 V2]
      omega
    omega
  · exact h'
end knuth
def mix (B o i X U A : Nat) : Nat := A % B ^ o + B ^ o * (X % B ^ i + B ^ i * (U / B ^ i))
theorem mix_low (B o i X U A : Nat) : mix B o i X U A % B ^ o = A % B ^ o := by rw [mix, Nat.add_mul_mod_self_left, Nat.mod_mod]
section mix
variable {B : Nat} (hB : 0 < B) (o i X U A : Nat)
include hB
theorem mix_high : mix B o i X U A / B ^ o = X % B ^ i + B ^ i * (U / B ^ i) := by
  rw [mix, Nat.add_mul_div_left _ _ (Nat.pow_pos hB), Nat.div_eq_of_lt (Nat.mod_lt _ (Nat.pow_pos hB)), Nat.zero_add]
theorem mix_get : mix B o i X U A / B ^ (o + i) = U / B ^ i := by
  rw [Nat.pow_add, ← Nat.div_div_eq_div_mul, mix_high hB, Nat.add_mul_div_left _ _ (Nat.pow_pos hB), Nat.div_eq_of_lt (Nat.mod_lt _ (Nat.pow_pos hB)), Nat.zero_add]
theorem mix_lo2 : mix B o i X U A % B ^ (o + i) = A % B ^ o + B ^ o * (X % B ^ i) := by
  rw [Nat.pow_add, Nat.mod_mul, mix_low, mix_high hB, Nat.add_mul_mod_self_left, Nat.mod_mod]
theorem mix_put {N : Nat} (h : o + i < N) : (dig B N (mix B o i X U A)).set (o + i) (X / B ^ i % B) = dig B N (mix B o (i + 1) X U A) := by
  apply dig_put hB h (Nat.mod_lt _ hB)
  · rw [mix_lo2 hB, Nat.pow_add, Nat.mod_mul, mix_low, mix_high hB, Nat.pow_succ B i, Nat.mul_assoc, Nat.add_mul_mod_self_left, Nat.mod_mul, Nat.add_mul_mod_self_left, Nat.mod_mod]
  · rw [Nat.pow_add, ← Nat.div_div_eq_div_mul, mix_high hB, Nat.pow_succ B i, Nat.mod_mul, Nat.mul_assoc, Nat.add_assoc, ← Nat.mul_add, Nat.add_mul_div_left _ _ (Nat.pow_pos hB), Nat.div_eq_of_lt (Nat.mod_lt _ (Nat.pow_pos hB)), Nat.zero_add, Nat.add_mul_mod_self_left, Nat.mod_mod]
  · have h1 := mix_get hB o (i + 1) X U A
    have h2 := mix_get hB o i X U A
    rw [show o + i + 1 = o + (i + 1) by omega, h1, show o + (i + 1) = (o + i) + 1 by omega, Nat.pow_succ B (o + i), ← Nat.div_div_eq_div_mul, h2, Nat.pow_succ, ← Nat.div_div_eq_div_mul]
end mix
theorem mix_full {B o m X U A : Nat} (hU : U < B ^ m) : mix B o m X U A = A % B ^ o + B ^ o * (X % B ^ m) := by rw [mix, Nat.div_eq_of_lt hU]; simp
theorem mix_self {B : Nat} (o X A : Nat) : mix B o 0 X (A / B ^ o) A = A := by
  simp only [mix, Nat.pow_zero, Nat.mod_one, Nat.zero_add, Nat.one_mul, Nat.div_one]
  exact Nat.mod_add_div A (B ^ o)
theorem lnd_congr {B U U' T i : Nat} (h : U % B ^ i = U' % B ^ i) : lnd B U T i = lnd B U' T i := by rw [lnd, lnd, h]
theorem lnd_dig' {B : Nat} (hB : 0 < B) {U T m i : Nat} (hi : i < m) (hT : T ≤ U + B ^ m) : (U / B ^ i % B + (B - 1 - T / B ^ i % B) + lnd B U T i) % B = (U + B ^ m - T) / B ^ i % B := by
  have e : B ^ m = B ^ i * (B * B ^ (m - i - 1)) := by rw [← Nat.pow_succ', ← Nat.pow_add]; congr 1; omega
  have h1 : (U + B ^ m) % B ^ i = U % B ^ i := by rw [e, Nat.add_mul_mod_self_left]
  have h2 : (U + B ^ m) / B ^ i % B = U / B ^ i % B := by rw [e, Nat.add_mul_div_left _ _ (Nat.pow_pos hB), Nat.add_mul_mod_self_left]
  rw [← h2, lnd_congr (U' := U + B ^ m) h1.symm, lnd_dig hB hT]
theorem lnd_end {B m U T : Nat} (hB : 0 < B) (hU : U < B ^ m) (hT : T < B ^ m) : lnd B U T m = if U < T then 0 else 1 := by
  rw [lnd, Nat.mod_eq_of_lt hU, Nat.mod_eq_of_lt hT]
  have hp : 0 < B ^ m := Nat.pow_pos hB
  split
  · exact Nat.div_eq_of_lt (by omega)
  · rw [show U + B ^ m - T = (U - T) + B ^ m by omega, Nat.add_div_right _ hp, Nat.div_eq_of_lt (by omega)]
end Go.Fw
namespace Go.Proofs.YtfoldppidpmchaaGreat
open Go.Fw
theorem digN_get {N A j : Nat} (h : j < N) : (dig 4294967296 N A)[j]? = some (A / 4294967296 ^ j % 4294967296) := dig_get N A j h
theorem two32 : (2 : Nat) ^ 32 = 4294967296 := rfl
theorem two63 : (2 : Nat) ^ 63 = 9223372036854775808 := rfl
theorem win_div (A o j : Nat) : A / 4294967296 ^ (o + j) = A / 4294967296 ^ o / 4294967296 ^ j := by rw [Nat.pow_add, Nat.div_div_eq_div_mul]
theorem estimate_eq {N A o n : Nat} {v : List Nat} (hv : W32 v) (hn : v.length = n + 2) (hN : N ≤ 100000000001) (ho : o + (n + 2) < N)
    (hU : A / 4294967296 ^ o < 4294967296 * vl v) (hnorm : 2147483648 * 4294967296 ^ (n + 1) ≤ vl v) :
    ∃ r, whole_estimate_m (dig 4294967296 N A) o (n + 3) v = some r ∧ r.2 = dig 4294967296 N A ∧ A / 4294967296 ^ o / vl v ≤ r.1 ∧ r.1 ≤ A / 4294967296 ^ o / vl v + 1 := by
  obtain ⟨hV, hlv⟩ := hv
  obtain ⟨U, hUe⟩ : ∃ U, A / 4294967296 ^ o = U := ⟨_, rfl⟩
  obtain ⟨V, hVe⟩ : ∃ V, vl v = V := ⟨_, rfl⟩
  have hVlt : V < 4294967296 ^ (n + 2) := by rw [← hVe, ← hn]; exact val_lt v hV
  have hP1 : 0 < 4294967296 ^ (n + 1) := Nat.pow_pos (by decide)
  have hP : 0 < 4294967296 ^ n := Nat.pow_pos (by decide)
  have hpw1 : 4294967296 ^ (n + 1) = 4294967296 ^ n * 4294967296 := Nat.pow_succ ..
  have hpw2 : 4294967296 ^ (n + 2) = 4294967296 ^ (n + 1) * 4294967296 := Nat.pow_succ ..
  rw [hUe, hVe] at hU ⊢
  rw [hVe] at hnorm
  have hUlt : U < 4294967296 ^ (n + 1) * 4294967296 * 4294967296 := by
    have : 4294967296 * V < 4294967296 * 4294967296 ^ (n + 2) := Nat.mul_lt_mul_of_pos_left hVlt (by decide)
    rw [hpw2] at this
    omega
  obtain ⟨F, hF⟩ : ∃ F, V / 4294967296 ^ (n + 1) = F := ⟨_, rfl⟩
  obtain ⟨S, hS⟩ : ∃ S, V / 4294967296 ^ n % 4294967296 = S := ⟨_, rfl⟩
  obtain ⟨T, hT⟩ : ∃ T, U / 4294967296 ^ (n + 1) = T := ⟨_, rfl⟩
  obtain ⟨u, hu⟩ : ∃ u, U / 4294967296 ^ n % 4294967296 = u := ⟨_, rfl⟩
  have hFlt : F < 4294967296 := by rw [← hF, Nat.div_lt_iff_lt_mul hP1]; rw [hpw2, Nat.mul_comm] at hVlt; exact hVlt
  have hFge : 2147483648 ≤ F := by rw [← hF, Nat.le_div_iff_mul_le hP1]; exact hnorm
  have hSlt : S < 4294967296 := by rw [← hS]; exact Nat.mod_lt _ (by decide)
  have hult : u < 4294967296 := by rw [← hu]; exact Nat.mod_lt _ (by decide)
  have hTlt : T < 4294967296 * 4294967296 := by rw [← hT, Nat.div_lt_iff_lt_mul hP1]; rw [Nat.mul_comm, ← Nat.mul_assoc]; exact hUlt
  have hV2 : V / 4294967296 ^ n = F * 4294967296 + S := by rw [← hF, ← hS, hpw1, ← Nat.div_div_eq_div_mul, Nat.mul_comm, Nat.div_add_mod]
  have hU2 : U / 4294967296 ^ n = T * 4294967296 + u := by rw [← hT, ← hu, hpw1, ← Nat.div_div_eq_div_mul, Nat.mul_comm, Nat.div_add_mod]
  have hq : U / V < 4294967296 := by rw [Nat.div_lt_iff_lt_mul (by omega)]; exact hU
  have hVle : (F * 4294967296 + S) * 4294967296 ^ n ≤ V := by rw [← hV2]; exact Nat.div_mul_le_self _ _
  have hVgt : V < (F * 4294967296 + S + 1) * 4294967296 ^ n := by rw [← hV2, Nat.add_mul, Nat.one_mul]; exact Nat.lt_div_mul_add hP
  have hUle : (T * 4294967296 + u) * 4294967296 ^ n ≤ U := by rw [← hU2]; exact Nat.div_mul_le_self _ _
  have hUgt : U < (T * 4294967296 + u + 1) * 4294967296 ^ n := by rw [← hU2, Nat.add_mul, Nat.one_mul]; exact Nat.lt_div_mul_add hP
  have hVle1 : F * 4294967296 ^ (n + 1) ≤ V := by rw [← hF]; exact Nat.div_mul_le_self _ _
  have hUgt1 : U < (T + 1) * 4294967296 ^ (n + 1) := by rw [← hT, Nat.add_mul, Nat.one_mul]; exact Nat.lt_div_mul_add hP1
  have hVgt1 : V < (F + 1) * 4294967296 ^ (n + 1) := by rw [← hF, Nat.add_mul, Nat.one_mul]; exact Nat.lt_div_mul_add hP1
  have hTF : T < 4294967296 * (F + 1) := by
    rw [← hT, Nat.div_lt_iff_lt_mul hP1]
    have : 4294967296 * V < 4294967296 * ((F + 1) * 4294967296 ^ (n + 1)) := Nat.mul_lt_mul_of_pos_left hVgt1 (by decide)
    rw [Nat.mul_assoc]
    omega
  have g1 : (dig 4294967296 N A)[o + (n + 2)]? = some (U / 4294967296 ^ (n + 2) % 4294967296) := by rw [digN_get (by omega), win_div, hUe]
  have g2 : (dig 4294967296 N A)[o + (n + 1)]? = some (U / 4294967296 ^ (n + 1) % 4294967296) := by rw [digN_get (by omega), win_div, hUe]
  have g3 : (dig 4294967296 N A)[o + n]? = some u := by rw [digN_get (by omega), win_div, hUe, hu]
  have g4 : v[n + 1]? = some F := by rw [get_val hV (by omega), show val 4294967296 v = V from hVe, hF, Nat.mod_eq_of_lt hFlt]
  have g5 : v[n]? = some S := by rw [get_val hV (by omega), show val 4294967296 v = V from hVe, hS]
  have hun : U / 4294967296 ^ (n + 2) < 4294967296 := by rw [hpw2, ← Nat.div_div_eq_div_mul, hT, Nat.div_lt_iff_lt_mul (by decide)]; exact hTlt
  have htop : U / 4294967296 ^ (n + 2) % 4294967296 * 4294967296 + U / 4294967296 ^ (n + 1) % 4294967296 = T := by
    rw [Nat.mod_eq_of_lt hun, hpw2, ← Nat.div_div_eq_div_mul, hT, Nat.mul_comm, Nat.div_add_mod]
  obtain ⟨t1, ht1⟩ : ∃ t, U / 4294967296 ^ (n + 2) % 4294967296 = t := ⟨_, rfl⟩
  obtain ⟨t2, ht2⟩ : ∃ t, U / 4294967296 ^ (n + 1) % 4294967296 = t := ⟨_, rfl⟩
  have l1 : t1 < 4294967296 := by rw [← ht1]; exact Nat.mod_lt _ (by decide)
  have l2 : t2 < 4294967296 := by rw [← ht2]; exact Nat.mod_lt _ (by decide)
  rw [ht1] at g1 htop
  rw [ht2] at g2 htop
  clear ht1 ht2 hU2 hV2
  have c1 : ((n + 2 : Nat) : Int) - 1 = ((n + 1 : Nat) : Int) := by omega
  have c2 : ((n + 2 : Nat) : Int) - 2 = (n : Int) := by omega
  unfold whole_estimate_m
  simp only [Option.bind_some, hn, c1, c2]
  rw [w64_nat (by omega), w64_nat (by omega), ckR_nat (by omega), ckR_nat (by omega), ckR_nat (by omega)]
  simp only [Option.bind_some]
  rw [g1, g2, geti_nat g4, geti_nat g5]
  simp only [Option.bind_some, two32]
  rw [Nat.mod_eq_of_lt (a := t1) (by omega), Nat.mod_eq_of_lt (a := t2) (by omega), Nat.mod_eq_of_lt (a := t1 * 4294967296) (by omega), or32' l2, htop, Nat.mod_eq_of_lt (a := T) (by omega), Nat.mod_eq_of_lt (a := F) (by omega), Nat.mod_eq_of_lt (a := S) (by omega), uquo_of (by omega) (by omega), urem_of (by omega)]
  simp only [Option.bind_some]
  have hge0 := est_ge (V := V) (U := U) hP1 (show 0 < F by omega) hVle1 hUgt1
  have hle : ∀ g, g * (F * 4294967296 + S) ≤ T * 4294967296 + u → g ≤ U / V + 1 := fun g h => est_le (B := 4294967296) hVgt hUle hq (by omega) (by omega) h
  have hdec : ∀ g r, g * F + r = T → r * 4294967296 + u < g * S → U / V < g := fun g r i1 ht => (Nat.div_lt_iff_lt_mul (by omega)).2 (est_dec hVle hUgt i1 ht)
  have hg0 : T / F ≤ 4294967297 := by
    have : T / F < 4294967298 := by
      rw [Nat.div_lt_iff_lt_mul (by omega)]
      omega
    omega
  generalize U / V = q at *
  clear hVle hVgt hUle hUgt hVle1 hUgt1 hVgt1 hTF hUlt hnorm hVlt hpw1 hpw2 hP hP1 hF hS hT hu hUe hVe hU
  have hdm := Nat.div_add_mod T F
  have hml := Nat.mod_lt T (show 0 < F by omega)
  have hdm' : T / F * F + T % F = T := by rw [Nat.mul_comm]; exact hdm
  clear hdm
  refine bind_loop_ex (fun x => x.1 * F + x.2 = T ∧ q ≤ x.1 ∧ x.2 < 4294967296 ∧ x.1 ≤ 4294967297) (fun e => q ≤ e ∧ e ≤ q + 1) (fun x => x.1) ?_ ⟨hdm', hge0, by show T % F < _; omega, hg0⟩ ?_
  · rintro ⟨g, r⟩ ⟨i1, i2, i3, i4⟩
    simp only at i1 i2 i3 i4
    have down : q < g → (∃ s', (bif decide ((r + F) % 18446744073709551616 / 4294967296 ≠ 0) then some (.inr (usub 18446744073709551616 g 1)) else some (.inl (usub 18446744073709551616 g 1, (r + F) % 18446744073709551616)) : Option ((Nat × Nat) ⊕ Nat)) = some (.inl s') ∧ (s'.1 * F + s'.2 = T ∧ q ≤ s'.1 ∧ s'.2 < 4294967296 ∧ s'.1 ≤ 4294967297) ∧ s'.1 < g) ∨
        (∃ e, (bif decide ((r + F) % 18446744073709551616 / 4294967296 ≠ 0) then some (.inr (usub 18446744073709551616 g 1)) else some (.inl (usub 18446744073709551616 g 1, (r + F) % 18446744073709551616)) : Option ((Nat × Nat) ⊕ Nat)) = some (.inr e) ∧ q ≤ e ∧ e ≤ q + 1) := by
      intro hlt
      have e1 : (g - 1) * F + (r + F) = T := by
        obtain ⟨k, rfl⟩ : ∃ k, g = k + 1 := ⟨g - 1, by omega⟩
        rw [Nat.add_sub_cancel]; rw [Nat.add_mul] at i1; omega
      rw [usub_of (by omega) (by omega), Nat.mod_eq_of_lt (a := r + F) (by omega)]
      by_cases hb : r + F < 4294967296
      · left
        refine ⟨(g - 1, r + F), by simp [Nat.div_eq_of_lt hb], ⟨e1, by simp only; omega, hb, by simp only; omega⟩, by simp only; omega⟩
      · right
        have hne : (r + F) / 4294967296 ≠ 0 := by omega
        refine ⟨g - 1, by simp [hne], by omega, ?_⟩
        refine hle _ ?_
        have m1 : (g - 1) * S ≤ 4294967296 * 4294967295 := Nat.mul_le_mul (by omega) (by omega)
        rw [Nat.mul_add, ← Nat.mul_assoc]
        have m2 : ((g - 1) * F + (r + F)) * 4294967296 = T * 4294967296 := by rw [e1]
        rw [Nat.add_mul] at m2
        omega
    simp only [letJ, bsm]
    by_cases hg : g < 4294967296
    · rw [show decide (g / 4294967296 ≠ 0) = false by simp; omega]
      have hgS : g * S ≤ 4294967295 * 4294967295 := Nat.mul_le_mul (by omega) (by omega)
      simp only [cfm]
      rw [g3]
      simp only [bsm]
      rw [Nat.mod_eq_of_lt (a := g * S) (by omega), Nat.mod_eq_of_lt (a := r * 4294967296) (by omega), Nat.mod_eq_of_lt (a := u) (by omega), or32' hult, Nat.mod_eq_of_lt (a := r * 4294967296 + u) (by omega)]
      by_cases ht : r * 4294967296 + u < g * S
      · rw [show decide (r * 4294967296 + u < g * S) = true by simpa using ht]
        simp only [bsm, ctm]
        exact down (hdec _ _ i1 ht)
      · rw [show decide (r * 4294967296 + u < g * S) = false by simpa using ht]
        right
        refine ⟨g, by simp, i2, ?_⟩
        refine hle _ ?_
        rw [Nat.mul_add, ← Nat.mul_assoc, ← i1, Nat.add_mul]
        omega
    · rw [show decide (g / 4294967296 ≠ 0) = true by simp; omega]
      simp only [bsm, ctm]
      exact down (by omega)
  · rintro e ⟨h2, h3⟩
    exact ⟨(e, dig 4294967296 N A), by rw [eqLen_of rfl, Option.bind_some], rfl, h2, h3⟩
end Go.Proofs.YtfoldppidpmchaaGreat
namespace Go.Proofs.YtfoldppidpmchaaGreat
open Go.Fw
theorem subtractMultiple_eq {N A o n f : Nat} {v : List Nat} (hv : W32 v) (hn : v.length = n) (hN : N ≤ 100000000001) (ho : o + n < N) (hf : f ≤ 4294967296)
    (hU : A / 4294967296 ^ o < 4294967296 ^ (n + 1)) :
    whole_subtractMultiple_m (dig 4294967296 N A) o (n + 1) v f = some (decide (A / 4294967296 ^ o < vl v * f), dig 4294967296 N (A % 4294967296 ^ o + 4294967296 ^ o * ((A / 4294967296 ^ o + 4294967296 ^ (n + 1) - vl v * f) % 4294967296 ^ (n + 1)))) := by
  obtain ⟨hV, hlv⟩ := hv
  obtain ⟨U, hUe⟩ : ∃ U, A / 4294967296 ^ o = U := ⟨_, rfl⟩
  obtain ⟨V, hVe⟩ : ∃ V, vl v = V := ⟨_, rfl⟩
  have hVlt : V < 4294967296 ^ n := by rw [← hVe, ← hn]; exact val_lt v hV
  have hpn : 4294967296 ^ (n + 1) = 4294967296 ^ n * 4294967296 := Nat.pow_succ ..
  have hT : V * f < 4294967296 ^ (n + 1) := by
    rw [hpn]
    calc V * f ≤ V * 4294967296 := Nat.mul_le_mul_left _ hf
      _ < 4294967296 ^ n * 4294967296 := Nat.mul_lt_mul_of_pos_right hVlt (by decide)
  rw [hUe] at hU ⊢
  rw [hVe]
  obtain ⟨X, hX⟩ : ∃ X, U + 4294967296 ^ (n + 1) - V * f = X := ⟨_, rfl⟩
  rw [hX]
  unfold whole_subtractMultiple_m
  simp only [bsm]
  have hlndle : ∀ i, lnd 4294967296 U (V * f) i ≤ 1 := fun i => lnd_le (by decide) _ _ _
  refine bind_loop_to (fun i => (1 - lnd 4294967296 U (V * f) i, (i : Int), sC 4294967296 V f 0 i, dig 4294967296 N (mix 4294967296 o i X U A))) (n + 1) (1 - lnd 4294967296 U (V * f) (n + 1), dig 4294967296 N (mix 4294967296 o (n + 1) X U A)) ?_ (fun i hi => ?_) ?_ ?_
  · rw [lnd_zero, sC_zero, ← hUe, mix_self]; rfl
  ·
    obtain ⟨t, ht⟩ : ∃ t, V * f / 4294967296 ^ i % 4294967296 = t := ⟨_, rfl⟩
    obtain ⟨c, hc⟩ : ∃ c, sC 4294967296 V f 0 i = c := ⟨_, rfl⟩
    obtain ⟨p, hp⟩ : ∃ p, V / 4294967296 ^ i % 4294967296 * f = p := ⟨_, rfl⟩
    have hclt : c < 4294967296 := by
      rw [← hc, sC, sT, Nat.add_zero, Nat.div_lt_iff_lt_mul (Nat.pow_pos (by decide))]
      calc V % 4294967296 ^ i * f ≤ V % 4294967296 ^ i * 4294967296 := Nat.mul_le_mul_left _ hf
        _ < 4294967296 * 4294967296 ^ i := by rw [Nat.mul_comm]; exact Nat.mul_lt_mul_of_pos_left (Nat.mod_lt _ (Nat.pow_pos (by decide))) (by decide)
    have hple : p ≤ 4294967295 * 4294967296 := by
      rw [← hp]; exact Nat.mul_le_mul (by have := Nat.mod_lt (V / 4294967296 ^ i) (show 0 < 4294967296 by decide); omega) hf
    have hdig : (p + c) % 4294967296 = t := by rw [← hp, ← hc, sC_dig (B := 4294967296) (by decide), Nat.add_zero, ht]
    have hstep : (p + c) / 4294967296 = sC 4294967296 V f 0 (i + 1) := by rw [← hp, ← hc, sC_step (B := 4294967296) (by decide)]
    have htlt : t < 4294967296 := by rw [← ht]; exact Nat.mod_lt _ (by decide)
    obtain ⟨u, hu⟩ : ∃ u, U / 4294967296 ^ i % 4294967296 = u := ⟨_, rfl⟩
    have hult : u < 4294967296 := by rw [← hu]; exact Nat.mod_lt _ (by decide)
    have hg : (dig 4294967296 N (mix 4294967296 o i X U A))[o + i]? = some u := by rw [digN_get (by omega), mix_get (by decide), hu]
    have hl := hlndle i
    obtain ⟨l, hle⟩ : ∃ l, lnd 4294967296 U (V * f) i = l := ⟨_, rfl⟩
    have hxd : (u + (4294967296 - 1 - t) + l) % 4294967296 = X / 4294967296 ^ i % 4294967296 := by rw [← hu, ← ht, ← hle, lnd_dig' (B := 4294967296) (by decide) hi (by omega), hX]
    have hls : (u + (4294967296 - 1 - t) + l) / 4294967296 = lnd 4294967296 U (V * f) (i + 1) := by rw [← hu, ← ht, ← hle, lnd_step (B := 4294967296) (by decide)]
    rw [hle] at hl
    have hput := mix_put (B := 4294967296) (by decide) o i X U A (N := N) (by omega)
    rw [hle, hc, ← hls]
    simp only [show decide ((i : Int) < ((n + 1 : Nat) : Int)) = true by simp; omega, ctm, bsm, letJ]
    rw [ckR_nat (by omega)]
    simp only [bsm, hg]
    have way : ∀ k : Nat → Option ((Nat × Int × Nat × List Nat) ⊕ (Nat × List Nat)), (bif decide ((i : Int) < (v.length : Int)) then (geti v (i : Int)).bind fun x24 => k (x24 % 18446744073709551616 * f % 18446744073709551616) else k 0) = k p := by
      intro k
      by_cases hin : i < v.length
      · rw [show decide ((i : Int) < (v.length : Int)) = true by simp; omega, ctm]
        have hgv : v[i]? = some (V / 4294967296 ^ i % 4294967296) := by rw [← hVe]; exact get_val hV hin
        rw [geti_nat hgv, bsm, Nat.mod_eq_of_lt (a := V / 4294967296 ^ i % 4294967296) (b := 18446744073709551616) (by have := Nat.mod_lt (V / 4294967296 ^ i) (show 0 < 4294967296 by decide); omega), hp, Nat.mod_eq_of_lt (a := p) (by omega)]
      · rw [show decide ((i : Int) < (v.length : Int)) = false by simp; omega, cfm]
        have : V / 4294967296 ^ i = 0 := Nat.div_eq_of_lt (Nat.lt_of_lt_of_le hVlt (Nat.pow_le_pow_right (by decide) (by omega)))
        rw [← hp, this]; simp
    refine (way (fun y => (whole_carrier_1_m y c).bind _)).trans ?_
    rw [carrier_eq _ _ (by omega)]
    simp only [bsm]
    rw [hdig, hstep, Nat.mod_eq_of_lt (a := u) (by omega), Nat.mod_eq_of_lt (a := t) (by omega)]
    rw [stM_of (by rw [dig_len]; omega), bsm, w64_succ (by omega), two63]
    by_cases hbor : u < t + (1 - l)
    · have e1 : usub 18446744073709551616 (usub 18446744073709551616 u t) (1 - l) = 18446744073709551616 + u - t - (1 - l) := by
        by_cases h1 : u < t
        · rw [usub_lt h1 (by omega), usub_of (by omega) (by omega)]
        · rw [usub_of (a := u) (b := t) (by omega) (by omega), usub_lt (by omega) (by omega)]; omega
      rw [e1]
      have e2 : (18446744073709551616 + u - t - (1 - l)) % 4294967296 = X / 4294967296 ^ i % 4294967296 := by rw [← hxd]; omega
      have e3 : (18446744073709551616 + u - t - (1 - l)) / 9223372036854775808 = 1 - (u + (4294967296 - 1 - t) + l) / 4294967296 := by omega
      rw [e2, e3, hput]
    · have e1 : usub 18446744073709551616 (usub 18446744073709551616 u t) (1 - l) = u - t - (1 - l) := by
        rw [usub_of (a := u) (b := t) (by omega) (by omega), usub_of (by omega) (by omega)]
      rw [e1]
      have e2 : (u - t - (1 - l)) % 4294967296 = X / 4294967296 ^ i % 4294967296 := by rw [← hxd]; omega
      have e3 : (u - t - (1 - l)) / 9223372036854775808 = 1 - (u + (4294967296 - 1 - t) + l) / 4294967296 := by omega
      rw [e2, e3, hput]
  · simp
  · simp only [bsm]
    rw [eqLen_of (by rw [dig_len, dig_len]), bsm, mix_full hU, lnd_end (by decide) hU hT]
    congr 2
    by_cases h : U < V * f <;> simp [h]
end Go.Proofs.YtfoldppidpmchaaGreat
namespace Go.Proofs.YtfoldppidpmchaaGreat
open Go.Fw
theorem ld_lt {B V : Nat} (hB : 0 < B) (hV : 0 < V) (A k : Nat) : A % (V * B ^ (k + 1)) / B ^ k < B * V := by
  rw [Nat.div_lt_iff_lt_mul (Nat.pow_pos hB)]
  have : V * B ^ (k + 1) = B * V * B ^ k := by rw [Nat.pow_succ, Nat.mul_comm (B ^ k), ← Nat.mul_assoc, Nat.mul_comm V]
  rw [← this]
  exact Nat.mod_lt _ (Nat.mul_pos hV (Nat.pow_pos hB))
theorem ld_rem {B V : Nat} (A k : Nat) : A % (V * B ^ (k + 1)) % B ^ k + B ^ k * (A % (V * B ^ (k + 1)) / B ^ k % V) = A % (V * B ^ k) := by
  rw [← Nat.mod_mul, Nat.mul_comm (B ^ k), Nat.mod_mod_of_dvd]
  rw [Nat.pow_succ, ← Nat.mul_assoc]; exact Nat.dvd_mul_right _ _
theorem ld_dig {B V : Nat} (A k : Nat) : A % (V * B ^ (k + 1)) / B ^ k / V = A / V / B ^ k % B := by
  rw [Nat.div_div_eq_div_mul, Nat.mul_comm (B ^ k), Nat.pow_succ, ← Nat.mul_assoc, Nat.mod_mul_right_div_self, Nat.div_div_eq_div_mul]
theorem ld_put {B : Nat} (hB : 0 < B) {N k : Nat} (h : k < N) (Q : Nat) : (dig B N (Q / B ^ (k + 1) * B ^ (k + 1))).set k (Q / B ^ k % B) = dig B N (Q / B ^ k * B ^ k) := by
  have hP : 0 < B ^ k := Nat.pow_pos hB
  refine dig_put hB h (Nat.mod_lt _ hB) ?_ ?_ ?_
  · rw [Nat.mul_mod_left, Nat.pow_succ, Nat.mul_comm (B ^ k), ← Nat.mul_assoc, Nat.mul_mod_left]
  · rw [Nat.mul_div_cancel _ hP]
  · rw [Nat.mul_div_cancel _ (Nat.pow_pos hB), Nat.pow_succ, ← Nat.div_div_eq_div_mul, Nat.mul_div_cancel _ hP, Nat.div_div_eq_div_mul]
theorem ckS_nat {α : Type} {l : List α} {o n : Nat} (h : o < l.length) (h' : o + n ≤ l.length) : ckS l (o : Int) ((o + n : Nat) : Int) = some (o, n) := by
  unfold ckS
  rw [if_pos (by omega)]
  congr 2
  omega
theorem ld_case {U V g M : Nat} (hV : 0 < V) (h1 : U / V ≤ g) (h2 : g ≤ U / V + 1) (hM : U < M) (hVM : V ≤ M) :
    (V * g ≤ U ∧ g = U / V ∧ (U + M - V * g) % M = U % V) ∨ (U < V * g ∧ g = U / V + 1 ∧ U + M - V * g < M ∧ (U + M - V * g + V) % M = U % V) := by
  have hd := Nat.div_add_mod U V
  have hm := Nat.mod_lt U hV
  revert h1 h2 hd hm
  generalize U / V = q
  generalize U % V = r
  intro h1 h2 hd hm
  rcases Nat.lt_or_ge q g with h | h
  · obtain rfl : g = q + 1 := by omega
    have e : V * (q + 1) = V * q + V := Nat.mul_succ ..
    right
    refine ⟨by omega, rfl, by omega, ?_⟩
    rw [show U + M - V * (q + 1) + V = r + M by omega, Nat.add_mod_right, Nat.mod_eq_of_lt (by omega)]
  · obtain rfl : g = q := by omega
    left
    refine ⟨by omega, rfl, ?_⟩
    rw [show U + M - V * g = r + M by omega, Nat.add_mod_right, Nat.mod_eq_of_lt (by omega)]
theorem ld_back {R D e i : Nat} (hD : 0 < D) (he : 4294967296 = D * e) : (R * D / 4294967296 ^ (i + 1) % 4294967296 * 4294967296 + R * D / 4294967296 ^ i % 4294967296) / D % 4294967296 = R / 4294967296 ^ i % 4294967296 := by
  have h1 : R * D / 4294967296 ^ (i + 1) % 4294967296 * 4294967296 + R * D / 4294967296 ^ i % 4294967296 = R * D / 4294967296 ^ i % (4294967296 * 4294967296) := by
    rw [Nat.mod_mul, Nat.div_div_eq_div_mul, show 4294967296 ^ i * 4294967296 = 4294967296 ^ (i + 1) from (Nat.pow_succ ..).symm, Nat.add_comm, Nat.mul_comm 4294967296]
  have h2 : (4294967296 * 4294967296 : Nat) = D * (e * 4294967296) := by
    rw [← Nat.mul_assoc, ← he]
  rw [h1, h2, Nat.mod_mul_right_div_self, Nat.mod_mul_left_mod, Nat.div_div_eq_div_mul, Nat.mul_comm (4294967296 ^ i) D, ← Nat.div_div_eq_div_mul, Nat.mul_div_cancel _ hD]
theorem ld_one {B : Nat} (hB : 0 < B) {N i R : Nat} (h : i < N) : (dig B N (R % B ^ i)).set i (R / B ^ i % B) = dig B N (R % B ^ (i + 1)) := by
  refine dig_put hB h (Nat.mod_lt _ hB) ?_ ?_ ?_
  · rw [Nat.mod_mod, Nat.mod_mod_of_dvd _ (Nat.pow_dvd_pow _ (Nat.le_succ i))]
  · rw [Nat.pow_succ, Nat.mod_mul_right_div_self, Nat.mod_mod]
  · rw [Nat.div_eq_of_lt (Nat.mod_lt _ (Nat.pow_pos hB)), Nat.div_eq_of_lt]
    exact Nat.lt_of_lt_of_le (Nat.mod_lt _ (Nat.pow_pos hB)) (Nat.pow_le_pow_right hB (Nat.le_succ i))
theorem longDiv_eq (a b : List Nat) (ha : W32 a) (hb : W32 b) {n : Nat} (hn : b.length = n + 2) (hl : b.length ≤ a.length) (htop : b[n + 1]? ≠ some 0) :
    whole_longDiv_m a b = some (dig 4294967296 (a.length - b.length + 1) (vl a / vl b), dig 4294967296 b.length (vl a % vl b)) := by
  obtain ⟨hA, hla⟩ := ha
  obtain ⟨hB, hlb⟩ := hb
  have hP : ∀ k, 0 < 4294967296 ^ k := fun k => Nat.pow_pos (by decide)
  obtain ⟨Va, hVa⟩ : ∃ V, vl a = V := ⟨_, rfl⟩
  obtain ⟨Vb, hVb⟩ : ∃ V, vl b = V := ⟨_, rfl⟩
  have hblt : Vb < 4294967296 ^ (n + 2) := by rw [← hVb, ← hn]; exact val_lt b hB
  have halt : Va < 4294967296 ^ a.length := by rw [← hVa]; exact val_lt a hA
  have hpw2 : 4294967296 ^ (n + 2) = 4294967296 ^ (n + 1) * 4294967296 := Nat.pow_succ ..
  obtain ⟨x, hx⟩ : ∃ x, Vb / 4294967296 ^ (n + 1) = x := ⟨_, rfl⟩
  have hxlt : x < 4294967296 := by rw [← hx, Nat.div_lt_iff_lt_mul (hP _)]; rw [hpw2, Nat.mul_comm] at hblt; exact hblt
  have hgx : b[n + 1]? = some x := by rw [get_val hB (by omega), show val 4294967296 b = Vb from hVb, hx, Nat.mod_eq_of_lt hxlt]
  have hx0 : x ≠ 0 := fun e => htop (by rw [hgx, e])
  obtain ⟨s, hs1, hs2, hs3, hs4⟩ := lz_eq x hxlt hx0
  have hp2 : 0 < 2 ^ s := Nat.two_pow_pos s
  have hp2lt : 2 ^ s < 4294967296 := by
    have : 2 ^ s < 2 ^ 32 := Nat.pow_lt_pow_right (by decide) hs2
    rw [two32] at this; exact this
  obtain ⟨D, hD⟩ : ∃ D, 2 ^ s = D := ⟨_, rfl⟩
  rw [hD] at hs3 hs4 hp2 hp2lt
  obtain ⟨V, hV⟩ : ∃ V, Vb * D = V := ⟨_, rfl⟩
  obtain ⟨A, hAe⟩ : ∃ A, Va * D = A := ⟨_, rfl⟩
  have hVlt : V < 4294967296 ^ (n + 2) := by
    have h1 : Vb < (x + 1) * 4294967296 ^ (n + 1) := by rw [← hx, Nat.add_mul, Nat.one_mul]; exact Nat.lt_div_mul_add (hP _)
    have h2 : (x + 1) * D ≤ 4294967296 := by
      obtain ⟨e, he⟩ : ∃ e, 4294967296 = D * e := ⟨2 ^ (32 - s), by rw [← hD, ← Nat.pow_add, show s + (32 - s) = 32 by omega, two32]⟩
      have h3 : x < e := by
        apply Nat.lt_of_mul_lt_mul_left (a := D)
        rw [← he, Nat.mul_comm]; exact hs4
      calc (x + 1) * D ≤ e * D := Nat.mul_le_mul_right _ h3
        _ = 4294967296 := by rw [Nat.mul_comm, ← he]
    rw [← hV, hpw2]
    calc Vb * D < (x + 1) * 4294967296 ^ (n + 1) * D := Nat.mul_lt_mul_of_pos_right h1 hp2
      _ = 4294967296 ^ (n + 1) * ((x + 1) * D) := by rw [Nat.mul_comm (x + 1), Nat.mul_assoc]
      _ ≤ 4294967296 ^ (n + 1) * 4294967296 := Nat.mul_le_mul_left _ h2
  have hVnorm : 2147483648 * 4294967296 ^ (n + 1) ≤ V := by
    have h1 : x * 4294967296 ^ (n + 1) ≤ Vb := by rw [← hx]; exact Nat.div_mul_le_self _ _
    rw [← hV]
    calc 2147483648 * 4294967296 ^ (n + 1) ≤ x * D * 4294967296 ^ (n + 1) := Nat.mul_le_mul_right _ hs3
      _ = x * 4294967296 ^ (n + 1) * D := by rw [Nat.mul_assoc, Nat.mul_comm D, ← Nat.mul_assoc]
      _ ≤ Vb * D := Nat.mul_le_mul_right _ h1
  have hV0 : 0 < V := Nat.lt_of_lt_of_le (Nat.mul_pos (by decide) (hP _)) hVnorm
  have hb0 : 0 < Vb := by
    rcases Nat.eq_zero_or_pos Vb with h | h
    · rw [← hV, h, Nat.zero_mul] at hV0; omega
    · exact h
  have hAV : A / V = Va / Vb := by rw [← hAe, ← hV, Nat.mul_div_mul_right _ _ hp2]
  have hAmV : A % V = Va % Vb * D := by rw [← hAe, ← hV, Nat.mul_mod_mul_right]
  obtain ⟨K, hK⟩ : ∃ K, a.length = K + (n + 2) := ⟨a.length - (n + 2), by omega⟩
  have hA0 : A < V * 4294967296 ^ (K + 1) := by
    have h1 : 4294967296 ^ (n + 1) ≤ Vb := by
      have : 1 * 4294967296 ^ (n + 1) ≤ x * 4294967296 ^ (n + 1) := Nat.mul_le_mul_right _ (by omega)
      have h2 : x * 4294967296 ^ (n + 1) ≤ Vb := by rw [← hx]; exact Nat.div_mul_le_self _ _
      omega
    rw [← hAe, ← hV]
    calc Va * D < 4294967296 ^ a.length * D := Nat.mul_lt_mul_of_pos_right halt hp2
      _ = 4294967296 ^ (n + 1) * 4294967296 ^ (K + 1) * D := by rw [hK, ← Nat.pow_add]; congr 2; omega
      _ ≤ Vb * 4294967296 ^ (K + 1) * D := Nat.mul_le_mul_right _ (Nat.mul_le_mul_right _ h1)
      _ = Vb * D * 4294967296 ^ (K + 1) := by rw [Nat.mul_assoc, Nat.mul_comm _ D, ← Nat.mul_assoc]
  obtain ⟨v, hve⟩ : ∃ v, dig 4294967296 (n + 2) V = v := ⟨_, rfl⟩
  have hvl : v.length = n + 2 := by rw [← hve, dig_len]
  have hvW : W32 v := ⟨fun y hy => by rw [← hve] at hy; exact dig_lt (by decide) _ _ _ hy, by omega⟩
  have hvv : vl v = V := by rw [← hve]; show val _ _ = _; rw [val_dig, Nat.mod_eq_of_lt hVlt]
  have hcutw : List.take b.length (dig 4294967296 (b.length + 1) (Vb * 2 ^ s)) = v := by
    rw [hD, hV, hn, dig_succ, List.take_append_of_le_length (by rw [dig_len]; omega), List.take_of_length_le (by rw [dig_len]; omega), hve]
  unfold whole_longDiv_m
  simp only [bsm]
  rw [show ((b.length : Nat) : Int) - 1 = ((n + 1 : Nat) : Int) by omega, w64_nat (by omega), geti_nat hgx, bsm, hs1, bsm]
  rw [show ((s : Int) % 18446744073709551616).toNat = s by rw [Int.emod_eq_of_lt (by omega) (by omega)]; simp]
  rw [shiftLeftN_eq, shiftLeft_eq a s ⟨hA, hla⟩ hs2, bsm, shiftLeft_eq b s ⟨hB, hlb⟩ hs2, bsm, subM_zero (by rw [dig_len]; omega), bsm]
  obtain ⟨Q, hQ⟩ : ∃ Q, A / V = Q := ⟨_, rfl⟩
  have hQlt : Q < 4294967296 ^ (K + 1) := by rw [← hQ, Nat.div_lt_iff_lt_mul hV0, Nat.mul_comm]; exact hA0
  rw [hVa, hVb, ← hAV, hQ, hcutw, hD, hAe, hn]
  rw [show a.length - (n + 2) + 1 = K + 1 by omega]
  rw [w64_id (x := (a.length : Int) - ((n + 2 : Nat) : Int)) (by omega) (by omega), w64_id (x := (a.length : Int) - ((n + 2 : Nat) : Int) + 1) (by omega) (by omega), show (a.length : Int) - ((n + 2 : Nat) : Int) + 1 = ((K + 1 : Nat) : Int) by omega, mkM_of (by decide) (by omega), bsm, show (a.length : Int) - ((n + 2 : Nat) : Int) = (K : Int) by omega]
  refine bind_loop_to (fun j => ((K : Int) - (j : Int), dig 4294967296 (K + 1) (Q / 4294967296 ^ (K + 1 - j) * 4294967296 ^ (K + 1 - j)), dig 4294967296 (a.length + 1) (A % (V * 4294967296 ^ (K + 1 - j))))) (K + 1) (dig 4294967296 (K + 1) Q, dig 4294967296 (a.length + 1) (A % V)) ?_ (fun j hj => ?_) ?_ ?_
  · rw [show K + 1 - 0 = K + 1 by omega, Nat.mod_eq_of_lt hA0, Nat.div_eq_of_lt hQlt, Nat.zero_mul, dig_zero]; simp
  ·
    obtain ⟨k, hk⟩ : ∃ k, K = k + j := ⟨K - j, by omega⟩
    rw [show K + 1 - j = k + 1 by omega, show K + 1 - (j + 1) = k by omega, show (K : Int) - (j : Int) = (k : Int) by omega, show (K : Int) - ((j + 1 : Nat) : Int) = (k : Int) - 1 by omega]
    have hU := ld_lt (B := 4294967296) (by decide) hV0 A k
    have hrem := ld_rem (B := 4294967296) (V := V) A k
    have hdg := ld_dig (B := 4294967296) (V := V) A k
    obtain ⟨N, hN⟩ : ∃ N, a.length + 1 = N := ⟨_, rfl⟩
    obtain ⟨A1, hA1⟩ : ∃ A1, A % (V * 4294967296 ^ (k + 1)) = A1 := ⟨_, rfl⟩
    rw [hN]
    rw [hA1] at hU hrem hdg ⊢
    rw [hQ] at hdg
    obtain ⟨⟨g, lg⟩, hge, hgl, hg1, hg2⟩ := estimate_eq (N := N) (A := A1) (o := k) (n := n) (v := v) hvW hvl (by omega) (by omega) (by rw [hvv]; exact hU) (by rw [hvv]; exact hVnorm)
    simp only at hgl hg1 hg2
    rw [hvv] at hg1 hg2
    subst hgl
    have hsub := subtractMultiple_eq (N := N) (A := A1) (o := k) (n := n + 2) (v := v) (f := g) hvW hvl (by omega) (by omega) ?_ ?_
    · rw [hvv] at hsub
      obtain ⟨U, hUe⟩ : ∃ U, A1 / 4294967296 ^ k = U := ⟨_, rfl⟩
      rw [hUe] at hU hrem hdg hg1 hg2 hsub
      have hpw3 : 4294967296 ^ (n + 2 + 1) = 4294967296 ^ (n + 2) * 4294967296 := Nat.pow_succ ..
      have hUM : U < 4294967296 ^ (n + 2 + 1) := by
        have : 4294967296 * V < 4294967296 * 4294967296 ^ (n + 2) := Nat.mul_lt_mul_of_pos_left hVlt (by decide)
        rw [hpw3]; omega
      have hcase := ld_case (M := 4294967296 ^ (n + 2 + 1)) hV0 hg1 hg2 hUM (by rw [hpw3]; omega)
      have hql : U / V < 4294967296 := by rw [hdg]; exact Nat.mod_lt _ (by decide)
      rw [show decide ((0 : Int) ≤ (k : Int)) = true by simp, ctm]
      rw [w64_add (by omega), w64_succ (by omega), show k + (n + 2) + 1 = k + (n + 3) by omega, ckS_nat (by rw [dig_len]; omega) (by rw [dig_len]; omega), bsm, hge, bsm, eqLen_of rfl, bsm, ckS_nat (by rw [dig_len]; omega) (by rw [dig_len]; omega), bsm]
      show (Option.bind (whole_subtractMultiple_m _ k (n + 2 + 1) v g) _) = _
      rw [hsub, bsm, eqLen_of (by rw [dig_len, dig_len]), bsm]
      simp only [letJ]
      rcases hcase with ⟨hc1, hc2, hc3⟩ | ⟨hc1, hc2, hc3, hc4⟩
      · rw [show decide (U < V * g) = false by simp; omega, cfm, hc3, hrem, hc2, Nat.mod_eq_of_lt hql, hdg, cki_nat (by rw [dig_len]; omega), bsm, stM_of (by rw [dig_len]; omega), bsm, ld_put (by decide) (by omega), w64_id (by omega) (by omega)]
      · rw [show decide (U < V * g) = true by simp; omega, ctm, usub_of (by omega) (by omega), show g - 1 = U / V by omega, Nat.mod_eq_of_lt hql, hdg]
        rw [Nat.mod_eq_of_lt hc3]
        obtain ⟨Y, hY⟩ : ∃ Y, U + 4294967296 ^ (n + 2 + 1) - V * g = Y := ⟨_, rfl⟩
        rw [hY] at hc3 hc4 ⊢
        obtain ⟨A2, hA2⟩ : ∃ A2, A1 % 4294967296 ^ k + 4294967296 ^ k * Y = A2 := ⟨_, rfl⟩
        rw [hA2]
        have hw2 : A2 / 4294967296 ^ k = Y := by rw [← hA2, Nat.add_mul_div_left _ _ (hP k), Nat.div_eq_of_lt (Nat.mod_lt _ (hP k)), Nat.zero_add]
        have hm2 : A2 % 4294967296 ^ k = A1 % 4294967296 ^ k := by rw [← hA2, Nat.add_mul_mod_self_left, Nat.mod_mod]
        have hcr : ∀ i, cry 4294967296 Y V i ≤ 1 := fun i => cry_le (by decide) _ _ _
        refine bind_loop_to (fun i => ((i : Int), cry 4294967296 Y V i, dig 4294967296 N (mix 4294967296 k i (Y + V) Y A2))) (n + 2) (cry 4294967296 Y V (n + 2), dig 4294967296 N (mix 4294967296 k (n + 2) (Y + V) Y A2)) ?_ (fun i hi => ?_) ?_ ?_
        · rw [cry_zero, ← hw2, mix_self]; rfl
        · have hgv : v[i]? = some (V / 4294967296 ^ i % 4294967296) := by rw [← hvv]; exact get_val hvW.1 (by omega)
          have hgu : (dig 4294967296 N (mix 4294967296 k i (Y + V) Y A2))[k + i]? = some (Y / 4294967296 ^ i % 4294967296) := by rw [digN_get (by omega), mix_get (by decide)]
          have hs1 := cry_step (B := 4294967296) (by decide) Y V i
          have hs2 := cry_dig (B := 4294967296) (by decide) Y V i
          have hput := mix_put (B := 4294967296) (by decide) k i (Y + V) Y A2 (N := N) (by omega)
          have hci := hcr i
          have hv1 := Nat.mod_lt (V / 4294967296 ^ i) (show 0 < 4294967296 by decide)
          have hy1 := Nat.mod_lt (Y / 4294967296 ^ i) (show 0 < 4294967296 by decide)
          simp only [show decide ((i : Int) < (v.length : Int)) = true by simp; omega, ctm]
          rw [geti_nat hgv, bsm, w64_add (by omega), cki_nat (by rw [dig_len]; omega), bsm, hgu, bsm, Nat.mod_eq_of_lt (a := Y / 4294967296 ^ i % 4294967296) (b := 18446744073709551616) (by omega), Nat.mod_eq_of_lt (a := V / 4294967296 ^ i % 4294967296) (b := 18446744073709551616) (by omega), Nat.mod_eq_of_lt (b := 18446744073709551616) (by omega), carrier_eq _ _ (by omega), bsm, bsm, stM_of (by rw [dig_len]; omega), bsm, w64_succ (by omega)]
          rw [hs1, hs2, hput]
        · simp [hvl]
        · have hgu : (dig 4294967296 N (mix 4294967296 k (n + 2) (Y + V) Y A2))[k + (n + 2)]? = some (Y / 4294967296 ^ (n + 2) % 4294967296) := by rw [digN_get (by omega), mix_get (by decide)]
          have hs2 := cry_dig (B := 4294967296) (by decide) Y V (n + 2)
          have hput := mix_put (B := 4294967296) (by decide) k (n + 2) (Y + V) Y A2 (N := N) (by omega)
          have hci := hcr (n + 2)
          have hy1 := Nat.mod_lt (Y / 4294967296 ^ (n + 2)) (show 0 < 4294967296 by decide)
          rw [Nat.div_eq_of_lt hVlt, Nat.zero_mod, Nat.add_zero] at hs2
          simp only []
          rw [cki_nat (by rw [dig_len]; omega), bsm, hgu, bsm, Nat.mod_eq_of_lt (a := Y / 4294967296 ^ (n + 2) % 4294967296) (b := 18446744073709551616) (by omega), carrier_eq _ _ (by omega), bsm, bsm, stM_of (by rw [dig_len]; omega), bsm, hs2, hput, mix_full hc3, hm2, hc4, hrem, cki_nat (by rw [dig_len]; omega), bsm, stM_of (by rw [dig_len]; omega), bsm, ld_put (by decide) (by omega), w64_id (by omega) (by omega)]
    ·
      have hql : A1 / 4294967296 ^ k / V < 4294967296 := by rw [hdg]; exact Nat.mod_lt _ (by decide)
      omega
    · have hpw3 : 4294967296 ^ (n + 2 + 1) = 4294967296 ^ (n + 2) * 4294967296 := Nat.pow_succ ..
      have : 4294967296 * V < 4294967296 * 4294967296 ^ (n + 2) := Nat.mul_lt_mul_of_pos_left hVlt (by decide)
      rw [hpw3]; omega
  · rw [show K + 1 - (K + 1) = 0 by omega, Nat.pow_zero, Nat.mul_one, Nat.mul_one, Nat.div_one, show decide (0 ≤ (K : Int) - ((K + 1 : Nat) : Int)) = false by simp; omega, cfm]
  ·
    obtain ⟨R, hR⟩ : ∃ R, Va % Vb = R := ⟨_, rfl⟩
    rw [hAmV, hR]
    have hRlt : R < 4294967296 ^ (n + 2) := by rw [← hR]; exact Nat.lt_trans (Nat.mod_lt _ hb0) hblt
    rw [mkM_of (by decide) (by omega), bsm]
    refine bind_loop_to (fun i => ((i : Int), dig 4294967296 (n + 2) (R % 4294967296 ^ i))) (n + 2) (dig 4294967296 (n + 2) R) ?_ (fun i hi => ?_) ?_ rfl
    · rw [Nat.pow_zero, Nat.mod_one, dig_zero]; rfl
    · obtain ⟨e, he⟩ : ∃ e, 4294967296 = D * e := ⟨2 ^ (32 - s), by rw [← hD, ← Nat.pow_add, show s + (32 - s) = 32 by omega, two32]⟩
      have hfin := ld_back (R := R) (i := i) hp2 he
      obtain ⟨u, hu⟩ : ∃ u, R * D / 4294967296 ^ i % 4294967296 = u := ⟨_, rfl⟩
      obtain ⟨w, hw⟩ : ∃ w, R * D / 4294967296 ^ (i + 1) % 4294967296 = w := ⟨_, rfl⟩
      have hu1 : u < 4294967296 := by rw [← hu]; exact Nat.mod_lt _ (by decide)
      have hw1 : w < 4294967296 := by rw [← hw]; exact Nat.mod_lt _ (by decide)
      rw [hu, hw] at hfin
      simp only [show decide ((i : Int) < ((n + 2 : Nat) : Int)) = true by simp; omega, ctm]
      rw [cki_nat (by rw [dig_len]; omega), bsm, digN_get (by omega), bsm, hu, w64_succ (by omega), cki_nat (by rw [dig_len]; omega), bsm, digN_get (by omega), bsm, hw, Nat.mod_eq_of_lt (a := u) (by omega), Nat.mod_eq_of_lt (a := w) (by omega), two32, Nat.mod_eq_of_lt (a := w * 4294967296) (by omega), Nat.or_comm, or32' hu1, Nat.mod_eq_of_lt (a := w * 4294967296 + u) (by omega), show min s 64 = s by omega, hD, hfin, cki_nat (by rw [dig_len]; omega), bsm, stM_of (by rw [dig_len]; omega), bsm]
      rw [ld_one (by decide) hi]
    · rw [Nat.mod_eq_of_lt hRlt]; simp
end Go.Proofs.YtfoldppidpmchaaGreat
namespace Go.Proofs.YtfoldppidpmchaaGreat
open Go.Fw
def sv (n : Bool) (v : Nat) : Int := bif n then -(v : Int) else v
def zi (z : Zr) : Int := sv z.neg (vl z.w)
def zn (i : Int) : Zr := ⟨decide (i < 0), can 4294967296 i.natAbs⟩
def Wl (z : Zr) : Prop := (∀ x ∈ z.w, x < 4294967296) ∧ z.w.length ≤ 10000000000
def Fit (L : Nat) (i : Int) : Prop := i.natAbs < 4294967296 ^ L
theorem sv_abs (n : Bool) (v : Nat) : (sv n v).natAbs = v := by cases n <;> simp [sv]
theorem zi_abs (z : Zr) : (zi z).natAbs = vl z.w := sv_abs _ _
theorem sv_neg (n : Bool) (v : Nat) : decide (sv n v < 0) = (n && v != 0) := by
  cases n
  · have : ¬ ((v : Int) < 0) := by omega
    simp [sv, this]
  · rcases v with _ | v
    · simp [sv]
    · simp [sv]
theorem zc_zn (n : Bool) (v : Nat) : zc n v = zn (sv n v) := by rw [zc, zn, sv_neg, sv_abs]
theorem sv_self (i : Int) : sv (decide (i < 0)) i.natAbs = i := by
  by_cases h : i < 0
  · rw [show decide (i < 0) = true by simp [h]]; simp [sv]; omega
  · rw [show decide (i < 0) = false by simp [h]]; simp [sv]; omega
theorem zi_zn (i : Int) : zi (zn i) = i := by
  show sv (decide (i < 0)) (vl (can 4294967296 i.natAbs)) = i
  rw [show vl (can 4294967296 i.natAbs) = i.natAbs from val_can (by decide) _, sv_self]
theorem sv_not (n : Bool) (v : Nat) : sv (!n) v = -sv n v := by cases n <;> simp [sv]
theorem sv_false (v : Nat) : sv false v = v := rfl
theorem Fit.mono {L M : Nat} {i : Int} (h : Fit L i) (hl : L ≤ M) : Fit M i := Nat.lt_of_lt_of_le h (Nat.pow_le_pow_right (by decide) hl)
theorem Fit.neg {L : Nat} {i : Int} (h : Fit L i) : Fit L (-i) := by unfold Fit at *; rw [Int.natAbs_neg]; exact h
theorem Fit.add {L : Nat} {i j : Int} (h : Fit L i) (h' : Fit L j) : Fit (L + 1) (i + j) := by
  unfold Fit at *
  have := Int.natAbs_add_le i j
  rw [Nat.pow_succ]; omega
theorem Fit.sub {L : Nat} {i j : Int} (h : Fit L i) (h' : Fit L j) : Fit (L + 1) (i - j) := by
  rw [Int.sub_eq_add_neg]; exact h.add h'.neg
theorem Fit.mul {L M : Nat} {i j : Int} (h : Fit L i) (h' : Fit M j) : Fit (L + M) (i * j) := by
  unfold Fit at *
  rw [Int.natAbs_mul, Nat.pow_add]
  exact Nat.mul_lt_mul'' h h'
theorem Fit.i64 {i : Int} (h : -9223372036854775808 ≤ i) (h' : i ≤ 9223372036854775807) : Fit 2 i := by
  unfold Fit; rw [show (4294967296 : Nat) ^ 2 = 18446744073709551616 by decide]; omega
theorem Fit.le {L : Nat} {i j : Int} (h : Fit L i) (h' : j.natAbs ≤ i.natAbs) : Fit L j := Nat.lt_of_le_of_lt h' h
theorem wl_zn {L : Nat} {i : Int} (h : Fit L i) (hL : L ≤ 10000000000) : Wl (zn i) :=
  ⟨fun _ hx => can_lt (by decide) hx, Nat.le_trans ((can_len_iff (by decide)).2 h) hL⟩
theorem Wl.fit {z : Zr} (h : Wl z) : Fit z.w.length (zi z) := by
  unfold Fit; rw [zi_abs]; exact val_lt z.w h.1
theorem Wl.lt {z : Zr} (h : Wl z) : vl z.w < 4294967296 ^ z.w.length := val_lt z.w h.1
theorem Wl.cl {z : Zr} (h : Wl z) : (can 4294967296 (vl z.w)).length ≤ 10000000000 :=
  Nat.le_trans ((can_len_iff (by decide)).2 (Wl.lt h)) h.2
theorem Wl.trim {z : Zr} (h : Wl z) : whole_trim_m z.w = some (can 4294967296 (vl z.w)) := by
  rw [trim_eq _ (by have := h.2; omega), trim_can (by decide) h.1]
theorem can_W32 {v : Nat} (h : (can 4294967296 v).length ≤ 10000000001) : W32 (can 4294967296 v) := ⟨fun _ hx => can_lt (by decide) hx, by omega⟩
theorem vl_can (v : Nat) : vl (can 4294967296 v) = v := val_can (by decide) v
theorem can_len2 {v : Nat} : ((can 4294967296 v).length : Int) ≤ 2 ↔ v < 18446744073709551616 := by
  have := can_len_iff (B := 4294967296) (by decide) (v := v) (n := 2)
  rw [show (4294967296 : Nat) ^ 2 = 18446744073709551616 by decide] at this
  omega
theorem can_len1 {v : Nat} : ((can 4294967296 v).length : Int) ≤ 1 ↔ v < 4294967296 := by
  have := can_len_iff (B := 4294967296) (by decide) (v := v) (n := 1)
  rw [show (4294967296 : Nat) ^ 1 = 4294967296 by decide] at this
  omega
theorem can_len0 {v : Nat} : (can 4294967296 v).length = 0 ↔ v = 0 := by
  constructor
  · intro h; exact can_nil (by decide) (List.length_eq_zero_iff.1 h)
  · intro h; rw [h, can_zero]; rfl
theorem clone_eq (l : List Nat) (h : l.length ≤ 1000000000000) : slices_Clone_m l = some l := by
  unfold slices_Clone_m; rw [apMl (by decide) (by simp; omega)]; simp
end Go.Proofs.YtfoldppidpmchaaGreat
namespace Go.Proofs.YtfoldppidpmchaaGreat
open Go.Fw
theorem cmpN_neg (a b : Nat) : decide (cmpN a b < 0) = decide (a < b) := by
  rcases Nat.lt_trichotomy a b with h | h | h
  · rw [cmpN_lt h]; simp [h]
  · rw [h, cmpN_eq]; simp
  · rw [cmpN_gt h]; simp; omega
theorem divWords_eq (a b : Nat) (ha : (can 4294967296 a).length ≤ 10000000000) (hb : (can 4294967296 b).length ≤ 10000000000) (h0 : b ≠ 0) :
    ∃ q r, whole_divWords_m (can 4294967296 a) (can 4294967296 b) = some (q, r) ∧ W32 q ∧ vl q = a / b ∧ W32 r ∧ vl r = a % b ∧ q.length ≤ 10000000001 ∧ r.length ≤ 10000000001 := by
  unfold whole_divWords_m
  rw [compareWords_eq a b (by omega) (by omega)]
  simp only [bsm]
  by_cases hlt : a < b
  · rw [cmpN_lt hlt]
    simp only [show decide ((-1 : Int) < 0) = true by decide, ctm]
    rw [clone_eq _ (by omega)]
    refine ⟨_, _, rfl, ⟨by simp, by simp⟩, ?_, can_W32 (by omega), ?_, by simp, by omega⟩
    · rw [Nat.div_eq_of_lt hlt]; rfl
    · rw [vl_can, Nat.mod_eq_of_lt hlt]
  · rw [cmpN_neg, show decide (a < b) = false by simp [hlt]]
    simp only [cfm]
    by_cases h2 : a < 18446744073709551616
    · rw [show decide (((can 4294967296 a).length : Int) ≤ 2) = true by rw [decide_eq_true_eq]; exact can_len2.2 h2]
      have hb2 : b < 18446744073709551616 := by omega
      simp only [ctm]
      have l1 := low_eq (can 4294967296 a) (fun _ hx => can_lt (by decide) hx) (by have := can_len2.2 h2; omega)
      have l2 := low_eq (can 4294967296 b) (fun _ hx => can_lt (by decide) hx) (by have := can_len2.2 hb2; omega)
      rw [vl_can] at l1 l2
      rw [l1, bsm, l2, bsm, uquo_of h0 h2, bsm, small_eq _ _ (Nat.lt_of_le_of_lt (Nat.div_le_self _ _) h2), bsm, urem_of h0, bsm, small_eq _ _ (Nat.lt_of_le_of_lt (Nat.mod_le _ _) h2), bsm]
      have hq : a / b < 18446744073709551616 := Nat.lt_of_le_of_lt (Nat.div_le_self _ _) h2
      have hr : a % b < 18446744073709551616 := Nat.lt_of_le_of_lt (Nat.mod_le _ _) h2
      have c1 := can_len2.2 hq
      have c2 := can_len2.2 hr
      exact ⟨_, _, rfl, can_W32 (by omega), vl_can _, can_W32 (by omega), vl_can _, by show (can _ _).length ≤ _; omega, by show (can _ _).length ≤ _; omega⟩
    · rw [show decide (((can 4294967296 a).length : Int) ≤ 2) = false by rw [decide_eq_false_iff_not]; exact fun h => h2 (can_len2.1 h)]
      simp only [cfm]
      have hlen0 : (can 4294967296 b).length ≠ 0 := fun h => h0 (can_len0.1 h)
      by_cases h1 : b < 4294967296
      · have h1' := can_len1.2 h1
        rw [show decide (((can 4294967296 b).length : Int) = 1) = true by simp; omega, ctm]
        have hg : (can 4294967296 b)[0]? = some b := by rw [can_get (by decide) (by omega)]; simp; exact h1
        rw [clone_eq _ (by omega), bsm, geti_zero hg, bsm, Nat.mod_eq_of_lt (b := 18446744073709551616) (by omega), shortDiv_eq _ _ (can_W32 (by omega)) (by omega) (by omega), bsm, vl_can]
        simp only []
        rw [eqLen_of (by rw [dig_len]), bsm]
        have hm : a % b < b := Nat.mod_lt _ (by omega)
        rw [Nat.mod_eq_of_lt (a := a % b) (by omega)]
        refine ⟨_, _, rfl, ⟨fun x hx => dig_lt (by decide) _ _ _ hx, by rw [dig_len]; omega⟩, ?_, ⟨?_, by simp⟩, ?_, by rw [dig_len]; omega, by simp⟩
        · show val _ _ = _
          rw [val_dig, Nat.mod_eq_of_lt (Nat.lt_of_le_of_lt (Nat.div_le_self _ _) (lt_can_len (by decide) a))]
        · intro x hx; simp at hx; omega
        · simp [vl, val]
      · have h1' : ¬ (((can 4294967296 b).length : Int) ≤ 1) := fun h => h1 (can_len1.1 h)
        rw [show decide (((can 4294967296 b).length : Int) = 1) = false by simp; omega, cfm]
        obtain ⟨n, hn⟩ : ∃ n, (can 4294967296 b).length = n + 2 := ⟨(can 4294967296 b).length - 2, by omega⟩
        have hl : (can 4294967296 b).length ≤ (can 4294967296 a).length := (can_len_iff (by decide)).2 (Nat.lt_of_le_of_lt (by omega) (lt_can_len (by decide) a))
        obtain ⟨l, x, hx, he⟩ := can_last (B := 4294967296) (by decide) h0
        have htop : (can 4294967296 b)[n + 1]? ≠ some 0 := by
          have : l.length = n + 1 := by rw [he] at hn; simp at hn; omega
          rw [he, ← this]; simp; exact hx
        rw [longDiv_eq _ _ (can_W32 (by omega)) (can_W32 (by omega)) hn hl htop, bsm, vl_can, vl_can]
        have hbp : 0 < b := by omega
        have e1 : a < 4294967296 ^ (can 4294967296 a).length := lt_can_len (by decide) a
        have e2 : b < 4294967296 ^ (can 4294967296 b).length := lt_can_len (by decide) b
        have e3 : 4294967296 ^ (n + 1) ≤ b := pow_le_of_can (by decide) (by omega)
        refine ⟨_, _, rfl, ⟨fun x hx => dig_lt (by decide) _ _ _ hx, by rw [dig_len]; omega⟩, ?_, ⟨fun x hx => dig_lt (by decide) _ _ _ hx, by rw [dig_len]; omega⟩, ?_, by rw [dig_len]; omega, by rw [dig_len]; omega⟩
        · show val _ _ = _
          rw [val_dig, Nat.mod_eq_of_lt]
          rw [Nat.div_lt_iff_lt_mul hbp]
          have : 4294967296 ^ ((can 4294967296 a).length - (can 4294967296 b).length + 1) * 4294967296 ^ (n + 1) = 4294967296 ^ (can 4294967296 a).length := by rw [← Nat.pow_add]; congr 1; omega
          calc a < 4294967296 ^ ((can 4294967296 a).length - (can 4294967296 b).length + 1) * 4294967296 ^ (n + 1) := by rw [this]; exact e1
            _ ≤ _ := Nat.mul_le_mul_left _ e3
        · show val _ _ = _
          rw [val_dig, Nat.mod_eq_of_lt (Nat.lt_trans (Nat.mod_lt _ hbp) e2)]
end Go.Proofs.YtfoldppidpmchaaGreat
namespace Go.Proofs.YtfoldppidpmchaaGreat
open Go.Fw
theorem fromInt_eq {x : Int} (h1 : -9223372036854775808 ≤ x) (h2 : x ≤ 9223372036854775807) : whole_FromInt64_m x = some (zn x) := by
  unfold whole_FromInt64_m
  simp only [bsm, letJ]
  by_cases hx : x < 0
  · have e : (x % 18446744073709551616).toNat = 18446744073709551616 - x.natAbs := by omega
    rw [show decide (x < 0) = true by simp [hx], ctm, e, usub_lt (by omega) (by omega), show 18446744073709551616 + 0 - (18446744073709551616 - x.natAbs) = x.natAbs by omega, small_eq _ _ (by omega), bsm, zc_zn, show sv true x.natAbs = x by simp [sv]; omega]
  · have e : (x % 18446744073709551616).toNat = x.natAbs := by omega
    rw [show decide (x < 0) = false by simp [hx], cfm, e, small_eq _ _ (by omega), bsm, zc_zn, show sv false x.natAbs = x by simp [sv]; omega]
def i64ok (i : Int) : Prop := -9223372036854775808 ≤ i ∧ i ≤ 9223372036854775807
instance (i : Int) : Decidable (i64ok i) := by unfold i64ok; infer_instance
def i64of (i : Int) : Int × Bool := if i64ok i then (i, true) else (0, false)
theorem int64_eq {z : Zr} (h : Wl z) : whole_Int64_m z = some (i64of (zi z)) := by
  obtain ⟨n, w⟩ := z
  unfold whole_Int64_m
  have ht := h.trim
  have hlow : vl w < 18446744073709551616 → whole_low_m (can 4294967296 (vl w)) = some (vl w) := fun h2 => by
    rw [low_eq _ (fun _ hx => can_lt (by decide) hx) (by have := can_len2.2 h2; omega), vl_can]
  show (whole_trim_m w).bind _ = some (i64of (sv n (vl w)))
  rw [show whole_trim_m w = some (can 4294967296 (vl w)) from ht]
  simp only [bsm]
  generalize vl w = v at *
  by_cases h2 : v < 18446744073709551616
  · have := can_len2.2 h2
    rw [show decide ((2 : Int) < ((can 4294967296 v).length : Int)) = false by simp; omega, cfm, hlow h2, bsm]
    cases n
    · rw [cfm, sv_false]
      by_cases h3 : v < 9223372036854775808
      · rw [show decide (9223372036854775808 ≤ v) = false by simp; omega, cfm, w64_nat (by omega), i64of, if_pos (by unfold i64ok; omega)]
      · rw [show decide (9223372036854775808 ≤ v) = true by simp; omega, ctm, i64of, if_neg (by unfold i64ok; omega)]
    · rw [ctm, show sv true v = -(v : Int) from rfl]
      by_cases h3 : 9223372036854775808 < v
      · rw [show decide (9223372036854775808 < v) = true by simp; omega, ctm, i64of, if_neg (by unfold i64ok; omega)]
      · rw [show decide (9223372036854775808 < v) = false by simp; omega, cfm, i64of, if_pos (by unfold i64ok; omega)]
        by_cases h0 : v = 0
        · subst h0; rfl
        · rw [usub_lt (by omega) (by omega)]
          rw [show IntKind.i64.wrap ((18446744073709551616 + 0 - v : Nat) : Int) = -(v : Int) by
            rw [IntKind.wrap]; simp [IntKind.signed, IntKind.bits]; omega]
  · have : ¬ (((can 4294967296 v).length : Int) ≤ 2) := fun h => h2 (can_len2.1 h)
    rw [show decide ((2 : Int) < ((can 4294967296 v).length : Int)) = true by simp; omega, ctm, i64of, if_neg (by unfold i64ok; cases n <;> simp [sv] <;> omega)]
theorem sign_eq {z : Zr} (h : Wl z) : whole_Sign_m z = some (zi z).sign := by
  obtain ⟨n, w⟩ := z
  unfold whole_Sign_m
  show (whole_trim_m w).bind _ = some (sv n (vl w)).sign
  rw [show whole_trim_m w = some (can 4294967296 (vl w)) from h.trim]
  simp only [bsm]
  generalize vl w = v
  by_cases h0 : v = 0
  · subst h0; cases n <;> rfl
  · have : (can 4294967296 v).length ≠ 0 := fun h => h0 (can_len0.1 h)
    rw [show decide (((can 4294967296 v).length : Int) = 0) = false by simp; intro e; rw [e] at this; exact this rfl, cfm]
    cases n
    · rw [cfm, sv_false, Int.sign_eq_one_of_pos (by omega)]
    · rw [ctm, show sv true v = -(v : Int) from rfl, Int.sign_eq_neg_one_of_neg (by omega)]
def cmpI (i j : Int) : Int := if i < j then -1 else if i = j then 0 else 1
theorem cmpI_lt {i j : Int} (h : i < j) : cmpI i j = -1 := by simp [cmpI, h]
theorem cmpI_gt {i j : Int} (h : j < i) : cmpI i j = 1 := by
  have h1 : ¬ i < j := by omega
  have h2 : ¬ i = j := by omega
  simp [cmpI, h1, h2]
theorem cmpI_self (i : Int) : cmpI i i = 0 := by simp [cmpI]
theorem cmpI_nat (v w : Nat) : cmpN v w = cmpI (v : Int) (w : Int) := by
  rcases Nat.lt_trichotomy v w with h | h | h
  · rw [cmpN_lt h, cmpI_lt (by omega)]
  · rw [h, cmpN_eq, cmpI_self]
  · rw [cmpN_gt h, cmpI_gt (by omega)]
theorem cmpI_neg (i j : Int) : cmpI (-i) (-j) = cmpI j i := by
  rcases Int.lt_trichotomy i j with h | h | h
  · rw [cmpI_gt h, cmpI_gt (by omega)]
  · rw [h, cmpI_self, cmpI_self]
  · rw [cmpI_lt h, cmpI_lt (by omega)]
theorem cmp_eq {x y : Zr} (hx : Wl x) (hy : Wl y) : whole_Cmp_m x y = some (cmpI (zi x) (zi y)) := by
  obtain ⟨n, w⟩ := x
  obtain ⟨m, u⟩ := y
  unfold whole_Cmp_m
  show (whole_Sign_m ⟨n, w⟩).bind _ = _
  rw [sign_eq hx, bsm]
  show (whole_Sign_m ⟨m, u⟩).bind _ = _
  rw [sign_eq hy, bsm, show whole_trim_m w = some (can 4294967296 (vl w)) from hx.trim, show whole_trim_m u = some (can 4294967296 (vl u)) from hy.trim]
  simp only [bsm]
  rw [compareWords_eq _ _ (Nat.le_trans hx.cl (by decide)) (Nat.le_trans hy.cl (by decide)), compareWords_eq _ _ (Nat.le_trans hy.cl (by decide)) (Nat.le_trans hx.cl (by decide))]
  simp only [bsm]
  rw [show zi ⟨n, w⟩ = sv n (vl w) from rfl, show zi ⟨m, u⟩ = sv m (vl u) from rfl]
  generalize vl w = a
  generalize vl u = b
  rw [cmpI_nat, cmpI_nat]
  obtain ⟨i, hi⟩ : ∃ i, sv n a = i := ⟨_, rfl⟩
  obtain ⟨j, hj⟩ : ∃ j, sv m b = j := ⟨_, rfl⟩
  have hia : (i < 0 → i = -(a : Int)) ∧ (0 ≤ i → i = a) := by rw [← hi]; cases n <;> simp [sv] <;> omega
  have hjb : (j < 0 → j = -(b : Int)) ∧ (0 ≤ j → j = b) := by rw [← hj]; cases m <;> simp [sv] <;> omega
  rw [hi, hj]
  rcases Int.lt_trichotomy i 0 with h1 | h1 | h1 <;> rcases Int.lt_trichotomy j 0 with h2 | h2 | h2
  · rw [Int.sign_eq_neg_one_of_neg h1, Int.sign_eq_neg_one_of_neg h2, hia.1 h1, hjb.1 h2, cmpI_neg]; rfl
  · rw [Int.sign_eq_neg_one_of_neg h1, show Int.sign j = 0 by rw [h2]; rfl, show cmpI i j = -1 from cmpI_lt (by omega)]; rfl
  · rw [Int.sign_eq_neg_one_of_neg h1, Int.sign_eq_one_of_pos h2, show cmpI i j = -1 from cmpI_lt (by omega)]; rfl
  · rw [show Int.sign i = 0 by rw [h1]; rfl, Int.sign_eq_neg_one_of_neg h2, show cmpI i j = 1 from cmpI_gt (by omega)]; rfl
  · rw [show Int.sign i = 0 by rw [h1]; rfl, show Int.sign j = 0 by rw [h2]; rfl, ← hia.2 (by omega), ← hjb.2 (by omega)]; rfl
  · rw [show Int.sign i = 0 by rw [h1]; rfl, Int.sign_eq_one_of_pos h2, show cmpI i j = -1 from cmpI_lt (by omega)]; rfl
  · rw [Int.sign_eq_one_of_pos h1, Int.sign_eq_neg_one_of_neg h2, show cmpI i j = 1 from cmpI_gt (by omega)]; rfl
  · rw [Int.sign_eq_one_of_pos h1, show Int.sign j = 0 by rw [h2]; rfl, show cmpI i j = 1 from cmpI_gt (by omega)]; rfl
  · rw [Int.sign_eq_one_of_pos h1, Int.sign_eq_one_of_pos h2, ← hia.2 (by omega), ← hjb.2 (by omega)]; rfl
theorem neg_eq {x : Zr} (hx : Wl x) : whole_Neg_m x = some (zn (-zi x)) := by
  obtain ⟨n, w⟩ := x
  unfold whole_Neg_m
  have hc : (can 4294967296 (vl w)).length ≤ 10000000000 := hx.cl
  simp only [bsm]
  rw [show whole_trim_m w = some (can 4294967296 (vl w)) from hx.trim, bsm, clone_eq _ (by omega), bsm, build_eq _ _ (can_W32 (by omega)), bsm, vl_can, zc_zn, sv_not]
  rfl
end Go.Proofs.YtfoldppidpmchaaGreat
namespace Go.Proofs.YtfoldppidpmchaaGreat
open Go.Fw
theorem signedSum_eq (n m : Bool) (a b : Nat) (ha : (can 4294967296 a).length ≤ 10000000000) (hb : (can 4294967296 b).length ≤ 10000000000) :
    whole_signedSum_m n (can 4294967296 a) m (can 4294967296 b) = some (zn (sv n a + sv m b)) := by
  have la := lt_can_len (B := 4294967296) (by decide) a
  have lb := lt_can_len (B := 4294967296) (by decide) b
  unfold whole_signedSum_m
  simp only [bsm]
  by_cases hnm : n = m
  · subst hnm
    rw [show (n == n) = true by simp, ctm, addWords_eq _ _ (can_W32 (by omega)) (can_W32 (by omega)), bsm, vl_can, vl_can, build_eq _ _ ⟨fun x hx => dig_lt (by decide) _ _ _ hx, by rw [dig_len]; omega⟩, bsm]
    have hv : vl (dig 4294967296 (max (can 4294967296 a).length (can 4294967296 b).length + 1) (a + b)) = a + b := by
      show val _ _ = _
      rw [val_dig, Nat.mod_eq_of_lt]
      have h1 : a < 4294967296 ^ (max (can 4294967296 a).length (can 4294967296 b).length) := Nat.lt_of_lt_of_le la (Nat.pow_le_pow_right (by decide) (by omega))
      have h2 : b < 4294967296 ^ (max (can 4294967296 a).length (can 4294967296 b).length) := Nat.lt_of_lt_of_le lb (Nat.pow_le_pow_right (by decide) (by omega))
      rw [Nat.pow_succ]; omega
    rw [hv, zc_zn, show sv n (a + b) = sv n a + sv n b by cases n <;> simp [sv]; omega]
  · rw [show (n == m) = false by simp [hnm], cfm, compareWords_eq _ _ (by omega) (by omega), bsm, cmpN_neg]
    have hm : m = !n := by cases n <;> cases m <;> simp_all
    subst hm
    have hv : ∀ c d, d ≤ c → (can 4294967296 c).length ≤ 10000000000 → whole_subWords_m (can 4294967296 c) (can 4294967296 d) = some (dig 4294967296 (can 4294967296 c).length (c - d)) ∧ vl (dig 4294967296 (can 4294967296 c).length (c - d)) = c - d := by
      intro c d hdc hcl
      have lc := lt_can_len (B := 4294967296) (by decide) c
      have hdl : (can 4294967296 d).length ≤ (can 4294967296 c).length := (can_len_iff (by decide)).2 (by omega)
      constructor
      · rw [subWords_eq _ _ (can_W32 (by omega)) (can_W32 (by omega)) hdl (by rw [vl_can, vl_can]; exact hdc), vl_can, vl_can]
      · show val _ _ = _
        rw [val_dig, Nat.mod_eq_of_lt (by omega)]
    by_cases hlt : a < b
    · obtain ⟨h1, h2⟩ := hv b a (by omega) hb
      rw [show decide (a < b) = true by simp [hlt], ctm, h1, bsm, build_eq _ _ ⟨fun x hx => dig_lt (by decide) _ _ _ hx, by rw [dig_len]; omega⟩, bsm, h2, zc_zn, show sv (!n) (b - a) = sv n a + sv (!n) b by cases n <;> simp [sv] <;> omega]
    · obtain ⟨h1, h2⟩ := hv a b (by omega) ha
      rw [show decide (a < b) = false by simp [hlt], cfm, h1, bsm, build_eq _ _ ⟨fun x hx => dig_lt (by decide) _ _ _ hx, by rw [dig_len]; omega⟩, bsm, h2, zc_zn, show sv n (a - b) = sv n a + sv (!n) b by cases n <;> simp [sv] <;> omega]
theorem wrap_bv (v : BitVec 64) : IntKind.i64.wrap (v.toNat : Int) = v.toInt := by
  rw [BitVec.toInt_eq_toNat_cond]
  have := v.isLt
  rw [show (2 : Nat) ^ 64 = 18446744073709551616 by decide] at this ⊢
  split
  · rw [w64_nat (by omega)]
  · rw [IntKind.wrap]; simp [IntKind.signed, IntKind.bits]; omega
theorem bv_of (v : BitVec 64) : BitVec.ofInt 64 (IntKind.i64.wrap (v.toNat : Int)) = v := by rw [wrap_bv, BitVec.ofInt_toInt]
theorem msb_of {x : Int} (h : i64ok x) : (BitVec.ofInt 64 x).msb = decide (x < 0) := by
  rw [BitVec.msb_eq_toInt, BitVec.toInt_ofInt]
  unfold i64ok at h
  have : x.bmod (2 ^ 64) = x := by
    rw [Int.bmod_def]
    simp only [show ((2 ^ 64 : Nat) : Int) = 18446744073709551616 by decide]
    split <;> omega
  rw [this]
theorem nonneg_bv (v : BitVec 64) : decide ((0 : Int) ≤ IntKind.i64.wrap (v.toNat : Int)) = !v.msb := by
  rw [wrap_bv, BitVec.msb_eq_toInt]
  by_cases h : v.toInt < 0
  · simp [h]
  · simp [h]; omega
theorem i64_wrap (x : Int) : i64ok (IntKind.i64.wrap x) := by
  unfold i64ok
  rw [IntKind.wrap]; simp [IntKind.signed, IntKind.bits]; split <;> omega
theorem bif_same {α : Type} (b : Bool) (x : α) : (bif b then x else x) = x := by cases b <;> rfl
theorem i64of_ok {i : Int} (h : i64ok i) : i64of i = (i, true) := if_pos h
theorem i64of_no {i : Int} (h : ¬ i64ok i) : i64of i = (0, false) := if_neg h
theorem add_eq {x y : Zr} (hx : Wl x) (hy : Wl y) : whole_Add_m x y = some (zn (zi x + zi y)) := by
  obtain ⟨n, w⟩ := x
  obtain ⟨m, u⟩ := y
  unfold whole_Add_m
  simp only [int64_eq hx, int64_eq hy, bsm, letJ]
  have hK : ((whole_trim_m w).bind fun x41 => (whole_trim_m u).bind fun x46 => (whole_signedSum_m n x41 m x46).bind fun x => some x) = some (zn (zi ⟨n, w⟩ + zi ⟨m, u⟩)) := by
    rw [show whole_trim_m w = some (can 4294967296 (vl w)) from hx.trim, show whole_trim_m u = some (can 4294967296 (vl u)) from hy.trim, bsm, bsm, signedSum_eq _ _ _ _ hx.cl hy.cl, bsm]; rfl
  have hK' : ((whole_trim_m w).bind fun x41 => (whole_trim_m u).bind fun x46 => (whole_signedSum_m n x41 m x46).bind fun x => some ⟨x.neg, x.w⟩) = some (zn (zi ⟨n, w⟩ + zi ⟨m, u⟩)) := hK
  rw [hK']
  generalize zi ⟨n, w⟩ = i
  generalize zi ⟨m, u⟩ = j
  by_cases h1 : i64ok i
  · by_cases h2 : i64ok j
    · rw [i64of_ok h1, i64of_ok h2, ctm, bsm, ctm, bv_of, bv_of, nonneg_bv, BitVec.msb_and, BitVec.msb_xor, BitVec.msb_xor, msb_of h1, msb_of h2, msb_of (i64_wrap _), fromInt_eq (i64_wrap _).1 (i64_wrap _).2, bsm]
      by_cases hr : i64ok (i + j)
      · rw [w64_id hr.1 hr.2]
        exact bif_same _ _
      · have : (!((decide (i < 0) ^^ decide (IntKind.i64.wrap (i + j) < 0)) && (decide (j < 0) ^^ decide (IntKind.i64.wrap (i + j) < 0)))) = false := by
          unfold i64ok at *
          by_cases hs : i < 0
          · have e : IntKind.i64.wrap (i + j) = i + j + 18446744073709551616 := by rw [IntKind.wrap]; simp [IntKind.signed, IntKind.bits]; omega
            rw [e, show decide (i < 0) = true by simp [hs], show decide (j < 0) = true by simp; omega, show decide (i + j + 18446744073709551616 < 0) = false by simp; omega]; rfl
          · have e : IntKind.i64.wrap (i + j) = i + j - 18446744073709551616 := by rw [IntKind.wrap]; simp [IntKind.signed, IntKind.bits]; omega
            rw [e, show decide (i < 0) = false by simp [hs], show decide (j < 0) = false by simp; omega, show decide (i + j - 18446744073709551616 < 0) = true by simp; omega]; rfl
        rw [this, cfm]
    · rw [i64of_ok h1, i64of_no h2, ctm, bsm, cfm]
  · rw [i64of_no h1, cfm, bsm, cfm]
theorem sub_eq {x y : Zr} (hx : Wl x) (hy : Wl y) : whole_Sub_m x y = some (zn (zi x - zi y)) := by
  obtain ⟨n, w⟩ := x
  obtain ⟨m, u⟩ := y
  unfold whole_Sub_m
  simp only [int64_eq hx, int64_eq hy, bsm, letJ]
  have hK' : ((whole_trim_m w).bind fun x41 => (whole_trim_m u).bind fun x46 => (whole_signedSum_m n x41 (!m) x46).bind fun x => some ⟨x.neg, x.w⟩) = some (zn (zi ⟨n, w⟩ - zi ⟨m, u⟩)) := by
    rw [show whole_trim_m w = some (can 4294967296 (vl w)) from hx.trim, show whole_trim_m u = some (can 4294967296 (vl u)) from hy.trim, bsm, bsm, signedSum_eq _ _ _ _ hx.cl hy.cl, bsm, sv_not, ← Int.sub_eq_add_neg]; rfl
  rw [hK']
  generalize zi ⟨n, w⟩ = i
  generalize zi ⟨m, u⟩ = j
  by_cases h1 : i64ok i
  · by_cases h2 : i64ok j
    · rw [i64of_ok h1, i64of_ok h2, ctm, bsm, ctm, bv_of, bv_of, nonneg_bv, BitVec.msb_and, BitVec.msb_xor, BitVec.msb_xor, msb_of h1, msb_of h2, msb_of (i64_wrap _), fromInt_eq (i64_wrap _).1 (i64_wrap _).2, bsm]
      by_cases hr : i64ok (i - j)
      · rw [w64_id hr.1 hr.2]
        exact bif_same _ _
      · have : (!((decide (i < 0) ^^ decide (j < 0)) && (decide (i < 0) ^^ decide (IntKind.i64.wrap (i - j) < 0)))) = false := by
          unfold i64ok at *
          by_cases hs : i < 0
          · have e : IntKind.i64.wrap (i - j) = i - j + 18446744073709551616 := by rw [IntKind.wrap]; simp [IntKind.signed, IntKind.bits]; omega
            rw [e, show decide (i < 0) = true by simp [hs], show decide (j < 0) = false by simp; omega, show decide (i - j + 18446744073709551616 < 0) = false by simp; omega]; rfl
          · have e : IntKind.i64.wrap (i - j) = i - j - 18446744073709551616 := by rw [IntKind.wrap]; simp [IntKind.signed, IntKind.bits]; omega
            rw [e, show decide (i < 0) = false by simp [hs], show decide (j < 0) = true by simp; omega, show decide (i - j - 18446744073709551616 < 0) = true by simp; omega]; rfl
        rw [this, cfm]
    · rw [i64of_ok h1, i64of_no h2, ctm, bsm, cfm]
  · rw [i64of_no h1, cfm, bsm, cfm]
theorem sv_mul (n m : Bool) (a b : Nat) : sv (!(n == m)) (a * b) = sv n a * sv m b := by
  cases n <;> cases m <;> simp [sv, Int.neg_mul, Int.mul_neg]
theorem mul_eq {x y : Zr} (hx : Wl x) (hy : Wl y) : whole_Mul_m x y = some (zn (zi x * zi y)) := by
  obtain ⟨n, w⟩ := x
  obtain ⟨m, u⟩ := y
  unfold whole_Mul_m
  have hcx : (can 4294967296 (vl w)).length ≤ 10000000000 := hx.cl
  have hcy : (can 4294967296 (vl u)).length ≤ 10000000000 := hy.cl
  simp only []
  rw [show whole_trim_m w = some (can 4294967296 (vl w)) from hx.trim, show whole_trim_m u = some (can 4294967296 (vl u)) from hy.trim, bsm, bsm, show zi ⟨n, w⟩ = sv n (vl w) from rfl, show zi ⟨m, u⟩ = sv m (vl u) from rfl]
  simp only [bsm, letJ]
  generalize vl w = a at *
  generalize vl u = b at *
  have la := lt_can_len (B := 4294967296) (by decide) a
  have lb := lt_can_len (B := 4294967296) (by decide) b
  have hK : ((whole_mulWords_m (can 4294967296 a) (can 4294967296 b)).bind fun x39 => (whole_build_m (!(n == m)) x39).bind fun x => some ⟨x.neg, x.w⟩) = some (zn (sv n a * sv m b)) := by
    rw [mulWords_eq _ _ (can_W32 (by omega)) (can_W32 (by omega)), bsm, vl_can, vl_can, build_eq _ _ ⟨fun x hx => dig_lt (by decide) _ _ _ hx, by rw [dig_len]; omega⟩, bsm, zc_zn]
    have hv : vl (dig 4294967296 ((can 4294967296 a).length + (can 4294967296 b).length) (a * b)) = a * b := by
      show val _ _ = _
      rw [val_dig, Nat.mod_eq_of_lt]
      rw [Nat.pow_add]; exact Nat.mul_lt_mul'' la lb
    rw [hv, sv_mul]
  rw [hK]
  by_cases h1 : a < 4294967296
  · by_cases h2 : b < 4294967296
    · have l1 := low_eq (can 4294967296 a) (fun _ hx => can_lt (by decide) hx) (by have := can_len1.2 h1; omega)
      have l2 := low_eq (can 4294967296 b) (fun _ hx => can_lt (by decide) hx) (by have := can_len1.2 h2; omega)
      rw [vl_can] at l1 l2
      have hlt : a * b < 18446744073709551616 := Nat.mul_lt_mul'' h1 h2
      rw [show decide (((can 4294967296 a).length : Int) ≤ 1) = true by rw [decide_eq_true_eq]; exact can_len1.2 h1, ctm, bsm, show decide (((can 4294967296 b).length : Int) ≤ 1) = true by rw [decide_eq_true_eq]; exact can_len1.2 h2, ctm, l1, l2, bsm, bsm, Nat.mod_eq_of_lt hlt, small_eq _ _ hlt, bsm, zc_zn, sv_mul]
    · rw [show decide (((can 4294967296 a).length : Int) ≤ 1) = true by rw [decide_eq_true_eq]; exact can_len1.2 h1, ctm, bsm, show decide (((can 4294967296 b).length : Int) ≤ 1) = false by rw [decide_eq_false_iff_not]; exact fun h => h2 (can_len1.1 h), cfm]
  · rw [show decide (((can 4294967296 a).length : Int) ≤ 1) = false by rw [decide_eq_false_iff_not]; exact fun h => h1 (can_len1.1 h), cfm, bsm, cfm]
end Go.Proofs.YtfoldppidpmchaaGreat
namespace Go.Proofs.YtfoldppidpmchaaGreat
open Go.Fw
theorem sv_div (n m : Bool) {a b : Nat} (hb : 0 < b) :
    sv n a / sv m b = (if n = true ∧ 0 < a % b then sv (!(n == m)) (a / b + 1) else sv (!(n == m)) (a / b)) ∧
    sv n a % sv m b = (if n = true ∧ 0 < a % b then ((b - a % b : Nat) : Int) else ((a % b : Nat) : Int)) := by
  have hd := Nat.div_add_mod a b
  have hm := Nat.mod_lt a hb
  revert hd hm
  generalize a / b = q
  generalize a % b = r
  intro hd hm
  have hd' : (b : Int) * q + r = a := by exact_mod_cast hd
  have pos : ∀ n, sv n a / (b : Int) = (if n = true ∧ 0 < r then sv n (q + 1) else sv n q) ∧ sv n a % (b : Int) = (if n = true ∧ 0 < r then ((b - r : Nat) : Int) else (r : Int)) := by
    intro n
    apply (Int.ediv_emod_unique (by omega)).2
    cases n
    · simp [sv]; omega
    · by_cases hr : 0 < r
      · simp only [hr, and_self, if_true, sv, cond_true]
        have : (b : Int) * -((q + 1 : Nat) : Int) = -((b : Int) * q) - b := by
          rw [Int.mul_neg, Int.natCast_add, Int.mul_add]; simp; omega
        rw [this]; omega
      · have : r = 0 := by omega
        subst this
        simp [sv, Int.mul_neg]; omega
  cases m
  · have := pos n
    rw [sv_false, show (!(n == false)) = n by cases n <;> rfl]
    exact this
  · have := pos n
    rw [show sv true b = -(b : Int) from rfl, Int.ediv_neg, Int.emod_neg, this.1, this.2, show (!(n == true)) = !n by cases n <;> rfl, sv_not, sv_not]
    refine ⟨?_, rfl⟩
    split <;> rfl
theorem canSub {a b : Nat} (hba : b ≤ a) (hcl : (can 4294967296 a).length ≤ 10000000000) : whole_subWords_m (can 4294967296 a) (can 4294967296 b) = some (dig 4294967296 (can 4294967296 a).length (a - b)) ∧ vl (dig 4294967296 (can 4294967296 a).length (a - b)) = a - b := by
  have lc := lt_can_len (B := 4294967296) (by decide) a
  have hdl : (can 4294967296 b).length ≤ (can 4294967296 a).length := (can_len_iff (by decide)).2 (by omega)
  constructor
  · rw [subWords_eq _ _ (can_W32 (by omega)) (can_W32 (by omega)) hdl (by rw [vl_can, vl_can]; exact hba), vl_can, vl_can]
  · show val _ _ = _
    rw [val_dig, Nat.mod_eq_of_lt (by omega)]
def dmOf (i j : Int) : Zr × Zr × Int := if j = 0 then (⟨false, []⟩, ⟨false, []⟩, 7) else (zn (i / j), zn (i % j), 0)
theorem divMod_eq {x y : Zr} (hx : Wl x) (hy : Wl y) : whole_DivMod_m x y = some (dmOf (zi x) (zi y)) := by
  obtain ⟨n, w⟩ := x
  obtain ⟨m, u⟩ := y
  unfold whole_DivMod_m
  have hcx : (can 4294967296 (vl w)).length ≤ 10000000000 := hx.cl
  have hcy : (can 4294967296 (vl u)).length ≤ 10000000000 := hy.cl
  simp only []
  rw [show whole_trim_m w = some (can 4294967296 (vl w)) from hx.trim, show whole_trim_m u = some (can 4294967296 (vl u)) from hy.trim, bsm, bsm, show zi ⟨n, w⟩ = sv n (vl w) from rfl, show zi ⟨m, u⟩ = sv m (vl u) from rfl]
  simp only [bsm, letJ]
  generalize vl w = a at *
  generalize vl u = b at *
  by_cases h0 : b = 0
  · subst h0
    rw [show sv m 0 = 0 by cases m <;> rfl]; rfl
  · have hlen0 : (can 4294967296 b).length ≠ 0 := fun h => h0 (can_len0.1 h)
    rw [show decide (((can 4294967296 b).length : Int) = 0) = false by simp; intro e; rw [e] at hlen0; exact hlen0 rfl, cfm]
    obtain ⟨q, r, hqr, hq1, hq2, hr1, hr2, hq3, hr3⟩ := divWords_eq a b hcx hcy h0
    have hm : a % b < b := Nat.mod_lt _ (by omega)
    obtain ⟨e1, e2⟩ := sv_div n m (a := a) (show 0 < b by omega)
    have hj : sv m b ≠ 0 := by cases m <;> simp [sv] <;> omega
    rw [hqr, bsm]
    simp only []
    rw [trim_eq r (by have := hr1.2; omega), trim_can (by decide) hr1.1, show val 4294967296 r = a % b from hr2, bsm, dmOf, if_neg hj, e1, e2]
    have hrl : (can 4294967296 (a % b)).length ≤ (can 4294967296 b).length := (can_len_iff (by decide)).2 (Nat.lt_trans hm (lt_can_len (by decide) b))
    have hK : ∀ c : Bool, (decide (n = true ∧ 0 < a % b) = c) → (bif c then (whole_addWords_m q [1]).bind fun x39 => (whole_subWords_m (can 4294967296 b) (can 4294967296 (a % b))).bind fun x42 => (whole_build_m (!(n == m)) x39).bind fun x => (whole_build_m false x42).bind fun x_1 => some ((⟨x.neg, x.w⟩ : Zr), (⟨x_1.neg, x_1.w⟩ : Zr), (0 : Int))
        else (whole_build_m (!(n == m)) q).bind fun x => (whole_build_m false (can 4294967296 (a % b))).bind fun x_1 => some ((⟨x.neg, x.w⟩ : Zr), (⟨x_1.neg, x_1.w⟩ : Zr), (0 : Int))) =
        some (zn (if n = true ∧ 0 < a % b then sv (!(n == m)) (a / b + 1) else sv (!(n == m)) (a / b)), zn (if n = true ∧ 0 < a % b then ((b - a % b : Nat) : Int) else ((a % b : Nat) : Int)), 0) := by
      intro c hc
      cases c
      · have hc' := of_decide_eq_false hc
        rw [cfm, if_neg hc', if_neg hc', build_eq _ _ hq1, bsm, build_eq _ _ (can_W32 (by omega)), bsm, vl_can, hq2, zc_zn, zc_zn, sv_false]
      · have hc' := of_decide_eq_true hc
        obtain ⟨s1, s2⟩ := canSub (a := b) (b := a % b) (by omega) hcy
        have w1 : W32 [1] := ⟨by simp, by simp⟩
        rw [ctm, if_pos hc', if_pos hc', addWords_eq _ _ hq1 w1, bsm, s1, bsm, build_eq _ _ ⟨fun x hx => dig_lt (by decide) _ _ _ hx, by rw [dig_len]; simp; omega⟩, bsm, build_eq _ _ ⟨fun x hx => dig_lt (by decide) _ _ _ hx, by rw [dig_len]; omega⟩, bsm, s2, zc_zn, zc_zn, sv_false]
        have : vl (dig 4294967296 (max q.length [1].length + 1) (vl q + vl [1])) = a / b + 1 := by
          show val _ _ = _
          rw [val_dig, show vl [1] = 1 by decide, hq2, Nat.mod_eq_of_lt]
          have h1 : vl q < 4294967296 ^ q.length := val_lt q hq1.1
          rw [hq2] at h1
          have h2 : 4294967296 ^ q.length ≤ 4294967296 ^ (max q.length [1].length) := Nat.pow_le_pow_right (by decide) (by omega)
          have h3 : 0 < 4294967296 ^ (max q.length [1].length) := Nat.pow_pos (by decide)
          rw [Nat.pow_succ]; omega
        rw [this]
    have hz : (0 < (can 4294967296 (a % b)).length) ↔ 0 < a % b := by
      have := can_len0 (v := a % b); omega
    cases n
    · rw [cfm, bsm]
      exact hK false (by simp)
    · rw [ctm, bsm]
      refine hK _ ?_
      simp only [true_and]
      by_cases h : 0 < a % b
      · simp [h, hz.2 h]
      · have h' : ¬ 0 < (can 4294967296 (a % b)).length := fun e => h (hz.1 e)
        have h'' : ¬ ((0 : Int) < ((can 4294967296 (a % b)).length : Int)) := by omega
        simp only [h, h'', decide_false]
theorem gcd_eq {x y : Zr} (hx : Wl x) (hy : Wl y) : whole_GCD_m x y = some (zn (Int.gcd (zi x) (zi y) : Int)) := by
  obtain ⟨n, w⟩ := x
  obtain ⟨m, u⟩ := y
  unfold whole_GCD_m
  have hcx : (can 4294967296 (vl w)).length ≤ 10000000000 := hx.cl
  have hcy : (can 4294967296 (vl u)).length ≤ 10000000000 := hy.cl
  simp only []
  rw [show whole_trim_m w = some (can 4294967296 (vl w)) from hx.trim, show whole_trim_m u = some (can 4294967296 (vl u)) from hy.trim, bsm, bsm, Int.gcd, zi_abs, zi_abs]
  show _ = some (zn ((Nat.gcd (vl w) (vl u) : Nat) : Int))
  generalize vl w = a at *
  generalize vl u = b at *
  refine bind_loop (fun s => ∃ c d, s = (can 4294967296 c, can 4294967296 d) ∧ Nat.gcd c d = Nat.gcd a b ∧ (can 4294967296 c).length ≤ 10000000000 ∧ (can 4294967296 d).length ≤ 10000000000)
    (fun s => ∃ c d, s = (can 4294967296 c, can 4294967296 d) ∧ Nat.gcd c d = Nat.gcd a b ∧ (can 4294967296 c).length ≤ 10000000000 ∧ (d = 0 ∨ (c < 18446744073709551616 ∧ d < 18446744073709551616))) (fun s => vl s.2) ?_ ⟨a, b, rfl, rfl, hcx, hcy⟩ ?_
  · rintro _ ⟨c, d, rfl, hg, hc, hd⟩
    simp only [bsm, letJ]
    by_cases h0 : d = 0
    · right
      subst h0
      exact ⟨_, rfl, c, 0, rfl, hg, hc, .inl rfl⟩
    · have hlen0 : (can 4294967296 d).length ≠ 0 := fun h => h0 (can_len0.1 h)
      rw [show decide ((0 : Int) < ((can 4294967296 d).length : Int)) = true by simp; omega, ctm]
      by_cases h2 : c < 18446744073709551616 ∧ d < 18446744073709551616
      · right
        have c1 := can_len2.2 h2.1
        have c2 := can_len2.2 h2.2
        rw [show decide ((2 : Int) < ((can 4294967296 c).length : Int)) = false by simp; omega, cfm, show decide ((2 : Int) < ((can 4294967296 d).length : Int)) = false by simp; omega]
        exact ⟨_, rfl, c, d, rfl, hg, hc, .inr h2⟩
      · left
        have hm : c % d < d := Nat.mod_lt _ (by omega)
        obtain ⟨q, r, hqr, hq1, hq2, hr1, hr2, -, -⟩ := divWords_eq c d hc hd h0
        have hcond : ((bif decide ((2 : Int) < ((can 4294967296 c).length : Int)) then some true else some (decide ((2 : Int) < ((can 4294967296 d).length : Int)))) : Option Bool) = some true := by
          by_cases hc2 : c < 18446744073709551616
          · have hd2 : ¬ d < 18446744073709551616 := fun h => h2 ⟨hc2, h⟩
            have : ¬ (((can 4294967296 d).length : Int) ≤ 2) := fun h => hd2 (can_len2.1 h)
            rw [show decide ((2 : Int) < ((can 4294967296 d).length : Int)) = true by simp; omega]
            exact bif_same _ _
          · have : ¬ (((can 4294967296 c).length : Int) ≤ 2) := fun h => hc2 (can_len2.1 h)
            rw [show decide ((2 : Int) < ((can 4294967296 c).length : Int)) = true by simp; omega, ctm]
        rw [hcond, bsm, bsm, ctm, hqr, bsm]
        simp only []
        rw [trim_eq r (by have := hr1.2; omega), trim_can (by decide) hr1.1, show val 4294967296 r = c % d from hr2, bsm]
        refine ⟨_, rfl, ⟨d, c % d, rfl, ?_, hd, ?_⟩, ?_⟩
        · rw [← hg, Nat.gcd_comm d, ← Nat.gcd_rec, Nat.gcd_comm]
        · exact Nat.le_trans ((can_len_iff (by decide)).2 (Nat.lt_trans hm (lt_can_len (by decide) d))) hd
        · simp only [vl_can]; exact hm
  · rintro _ ⟨c, d, rfl, hg, hc, hcase⟩
    simp only [bsm]
    by_cases h0 : d = 0
    · subst h0
      rw [show decide (((can 4294967296 0).length : Int) = 0) = true by simp [can_zero], ctm, clone_eq _ (by omega), bsm, build_eq _ _ (can_W32 (by omega)), bsm, vl_can, zc_zn, sv_false, ← hg, Nat.gcd_zero_right]
    · have h2 := hcase.resolve_left h0
      have hlen0 : (can 4294967296 d).length ≠ 0 := fun h => h0 (can_len0.1 h)
      have c1 := can_len2.2 h2.1
      have c2 := can_len2.2 h2.2
      rw [show decide (((can 4294967296 d).length : Int) = 0) = false by simp; intro e; rw [e] at hlen0; exact hlen0 rfl, cfm, low_eq _ (fun _ hx => can_lt (by decide) hx) (by omega), bsm, low_eq _ (fun _ hx => can_lt (by decide) hx) (by omega), bsm, vl_can, vl_can]
      refine bind_loop (fun s => Nat.gcd s.1 s.2 = Nat.gcd a b ∧ s.1 < 18446744073709551616 ∧ s.2 < 18446744073709551616) (fun e => e = Nat.gcd a b ∧ e < 18446744073709551616) (fun s => s.2) ?_ ⟨hg, h2.1, h2.2⟩ ?_
      · rintro ⟨s, t⟩ ⟨i1, i2, i3⟩
        simp only at i1 i2 i3 ⊢
        by_cases ht : 0 < t
        · left
          rw [show decide (0 < t) = true by simp [ht], ctm, urem_of (by omega), bsm]
          refine ⟨_, rfl, ⟨?_, i3, ?_⟩, Nat.mod_lt _ ht⟩
          · rw [← i1, Nat.gcd_comm t, ← Nat.gcd_rec, Nat.gcd_comm]
          · exact Nat.lt_trans (Nat.mod_lt _ ht) i3
        · right
          rw [show decide (0 < t) = false by simp [ht], cfm]
          refine ⟨_, rfl, ?_, i2⟩
          rw [← i1, show t = 0 by omega, Nat.gcd_zero_right]
      · rintro e ⟨rfl, he⟩
        rw [small_eq _ _ he, bsm, zc_zn, sv_false]
end Go.Proofs.YtfoldppidpmchaaGreat
namespace Go.Proofs.YtfoldppidpmchaaGreat
open Go.Fw
def zl (l : List Nat) : List Int := l.map (fun (n : Nat) => (n : Int))
theorem zl_len (l : List Nat) : (zl l).length = l.length := by simp [zl]
theorem zl_get {l : List Nat} {i x : Nat} (h : l[i]? = some x) : (zl l)[i]? = some (x : Int) := by simp [zl, h]
theorem zl_app (l k : List Nat) : zl (l ++ k) = zl l ++ zl k := by simp [zl]
theorem zl_one (x : Nat) : zl [x] = [(x : Int)] := rfl
theorem zl_take (l : List Nat) (n : Nat) : (zl l).take n = zl (l.take n) := by simp [zl, List.map_take]
theorem zl_set (l : List Nat) (i x : Nat) : (zl l).set i (x : Int) = zl (l.set i x) := by simp [zl, List.map_set]
def H16 (l : List Nat) : Prop := (∀ x ∈ l, x < 65536) ∧ l.length ≤ 100000000000
abbrev v16 (l : List Nat) : Nat := val 65536 l
theorem rtrim_eq (l : List Nat) (hl : l.length ≤ 1000000000000) : ref01_trim_m (zl l) = some (zl (trimW l)) := by
  unfold ref01_trim_m
  simp only [bsm]
  refine bind_loop (fun y => ∃ n : Nat, y = (n : Int) ∧ n ≤ l.length ∧ trimW (l.take n) = trimW l) (fun y => ∃ n : Nat, y = (n : Int) ∧ n ≤ l.length ∧ l.take n = trimW l) (fun y => y.toNat) ?_ ⟨l.length, by rw [zl_len], Nat.le_refl _, by rw [List.take_length]⟩ ?_
  · rintro _ ⟨n, rfl, hn, ht⟩
    simp only [letJ]
    rcases n with _ | n
    · right
      refine ⟨_, rfl, 0, rfl, by omega, ?_⟩
      rw [← ht]; rfl
    · have hi : ∃ x, l[n]? = some x := ⟨l[n], by simp⟩
      obtain ⟨x, hx⟩ := hi
      have htk : l.take (n + 1) = l.take n ++ [x] := by
        rw [List.take_add_one, hx]; rfl
      rw [show decide ((0 : Int) < ((n + 1 : Nat) : Int)) = true by rw [decide_eq_true_eq]; omega, ctm, w64_pred (by omega), geti_nat (zl_get hx), bsm]
      by_cases h0 : x = 0
      · left
        subst h0
        rw [show decide (((0 : Nat) : Int) = 0) = true by simp, bsm, ctm]
        refine ⟨_, rfl, ⟨n, rfl, by omega, ?_⟩, by omega⟩
        rw [← ht, htk, trimW_zero]
      · right
        rw [show decide (((x : Nat) : Int) = 0) = false by simp; omega, bsm, cfm]
        refine ⟨_, rfl, n + 1, rfl, hn, ?_⟩
        rw [← ht, htk, trimW_last _ h0]
  · rintro _ ⟨n, rfl, hn, ht⟩
    rw [subM_zero (by rw [zl_len]; exact hn), bsm, zl_take, ht]
theorem at_eq {l : List Nat} (h : ∀ x ∈ l, x < 65536) (i : Nat) : ref01_at_m (zl l) (i : Int) = some ((v16 l / 65536 ^ i % 65536 : Nat) : Int) := by
  unfold ref01_at_m
  simp only [bsm]
  rw [zl_len]
  by_cases hi : i < l.length
  · rw [show decide ((i : Int) < (l.length : Int)) = true by simp [hi], ctm, geti_nat (zl_get (get_val h hi)), bsm]
  · rw [show decide ((i : Int) < (l.length : Int)) = false by simp; omega, cfm]
    have : v16 l / 65536 ^ i = 0 := Nat.div_eq_of_lt (Nat.lt_of_lt_of_le (val_lt l h) (Nat.pow_le_pow_right (by decide) (by omega)))
    rw [this]; rfl
theorem val_halves (V k : Nat) : dig 65536 (2 * k) V ++ [V / 4294967296 ^ k % 4294967296 % 65536, V / 4294967296 ^ k % 4294967296 / 65536] = dig 65536 (2 * (k + 1)) V := by
  have e : 65536 ^ (2 * k) = 4294967296 ^ k := by rw [Nat.pow_mul]
  rw [show 2 * (k + 1) = 2 * k + 1 + 1 by omega, dig_succ, dig_succ, Nat.pow_succ, e, ← Nat.div_div_eq_div_mul, List.append_assoc]
  generalize V / 4294967296 ^ k = x
  rw [show x % 4294967296 % 65536 = x % 65536 by omega, show x % 4294967296 / 65536 = x / 65536 % 65536 by omega]
  rfl
theorem halves_eq (w : List Nat) (hw : W32 w) : ref01_halves_m w = some (zl (can 65536 (vl w))) := by
  obtain ⟨hl, hn⟩ := hw
  unfold ref01_halves_m
  refine bind_loop_to (fun i => ((i : Int), zl (dig 65536 (2 * i) (vl w)))) w.length (zl (dig 65536 (2 * w.length) (vl w))) ?_ (fun k hk => ?_) ?_ ?_
  · rfl
  · have hg := get_val hl hk
    have hlt := Nat.mod_lt (val 4294967296 w / 4294967296 ^ k) (show 0 < 4294967296 by decide)
    have hv := val_halves (vl w) k
    simp only [bsm]
    rw [show decide ((k : Int) < (w.length : Int)) = true by simp [hk], ctm, geti_nat hg, bsm, bsm, w64_nat (by omega), w64_nat (by omega), apMl (by decide) (by rw [zl_len, dig_len]; simp; omega), bsm, w64_succ (by omega)]
    rw [← hv, zl_app]
    rw [show val 4294967296 w / 4294967296 ^ k % 4294967296 / 65536 % 4294967296 = val 4294967296 w / 4294967296 ^ k % 4294967296 / 65536 by omega]
    rfl
  · simp
  · rw [rtrim_eq _ (by rw [dig_len]; omega), bsm, trim_dig (by decide)]
    rw [Nat.pow_mul]; exact val_lt w hl
theorem pow16 (k : Nat) : 65536 ^ (2 * k) = 4294967296 ^ k := by rw [Nat.pow_mul]
theorem can_halves (v : Nat) : can 4294967296 v = dig 4294967296 (((can 65536 v).length + 1) / 2) v := by
  have h1 := lt_can_len (B := 65536) (by decide) v
  obtain ⟨n, hn⟩ : ∃ n, (can 65536 v).length = n := ⟨_, rfl⟩
  rw [hn] at h1 ⊢
  have h2 : v < 4294967296 ^ ((n + 1) / 2) := by
    rw [← pow16]; exact Nat.lt_of_lt_of_le h1 (Nat.pow_le_pow_right (by decide) (by omega))
  rw [can_dig (by decide) v]
  congr 1
  have h3 := (can_len_iff (B := 4294967296) (by decide)).2 h2
  refine Nat.le_antisymm h3 ?_
  rcases n with _ | n
  · simp
  · have h4 : 65536 ^ n ≤ v := pow_le_of_can (by decide) (by omega)
    obtain ⟨m, hm⟩ : ∃ m, (n + 1 + 1) / 2 = m + 1 := ⟨n / 2, by omega⟩
    rw [hm]
    rcases Nat.lt_or_ge m (can 4294967296 v).length with h | h
    · exact h
    · have h5 := (can_len_iff (B := 4294967296) (by decide)).1 h
      rw [← pow16] at h5
      have : 65536 ^ (2 * m) ≤ 65536 ^ n := Nat.pow_le_pow_right (by decide) (by omega)
      omega
theorem of_eq (n : Bool) (l : List Nat) (hl : H16 l) : ref01_of_m n (zl l) = some (zc n (v16 l)) := by
  obtain ⟨h, hn⟩ := hl
  unfold ref01_of_m
  rw [rtrim_eq _ (by omega), bsm, trim_can (by decide) h]
  have hc : (can 65536 (val 65536 l)).length ≤ l.length := (can_len_iff (by decide)).2 (val_lt l h)
  show _ = some (zc n (val 65536 l))
  generalize val 65536 l = v at *
  have hcl : ∀ x ∈ can 65536 v, x < 65536 := fun _ hx => can_lt (by decide) hx
  have hat := fun i => at_eq hcl i
  refine bind_loop_to (fun i => (((2 * i : Nat) : Int), dig 4294967296 i v)) (((can 65536 v).length + 1) / 2) (can 4294967296 v) ?_ (fun k hk => ?_) ?_ ?_
  · rfl
  · have a1 := hat (2 * k)
    have a2 := hat (2 * k + 1)
    rw [show v16 (can 65536 v) = v from val_can (by decide) v] at a1 a2
    rw [pow16] at a1
    rw [Nat.pow_succ, pow16, ← Nat.div_div_eq_div_mul] at a2
    simp only [bsm]
    rw [zl_len, show decide (((2 * k : Nat) : Int) < ((can 65536 v).length : Int)) = true by simp; omega, ctm, a1, bsm, w64_succ (by omega), a2, bsm]
    rw [dig_succ]
    have e : ((((v / 4294967296 ^ k % 65536 : Nat) : Int) % 4294967296).toNat + (((v / 4294967296 ^ k / 65536 % 65536 : Nat) : Int) % 4294967296).toNat * 65536 % 4294967296) % 4294967296 = v / 4294967296 ^ k % 4294967296 := by
      generalize v / 4294967296 ^ k = x
      omega
    rw [e, apM1 (by decide) (by rw [dig_len]; omega), bsm, show ((2 * k : Nat) : Int) + 2 = ((2 * (k + 1) : Nat) : Int) by omega, w64_nat (by omega)]
  · simp only [bsm]
    rw [zl_len, show decide (((2 * (((can 65536 v).length + 1) / 2) : Nat) : Int) < ((can 65536 v).length : Int)) = false by simp; omega, cfm, ← can_halves]
  · simp only [letJ]
    rw [zc]
    have hz := can_len0 (v := v)
    cases n
    · rw [cfm, bsm]; rfl
    · rw [ctm, bsm, bsm, bsm]
      congr 2
      by_cases h0 : v = 0
      · rw [h0]; rfl
      · have : ¬ (can 4294967296 v).length = 0 := fun e => h0 (hz.1 e)
        rw [show decide ((0 : Int) < ((can 4294967296 v).length : Int)) = true by rw [decide_eq_true_eq]; omega, show (true && v != 0) = true by simp [h0]]
theorem of_can (n : Bool) (v : Nat) (hl : (can 65536 v).length ≤ 100000000000) : ref01_of_m n (zl (can 65536 v)) = some (zn (sv n v)) := by
  rw [of_eq n _ ⟨fun _ hx => can_lt (by decide) hx, hl⟩, show v16 (can 65536 v) = v from val_can (by decide) v, zc_zn]
theorem can16_len {w : List Nat} (hw : ∀ x ∈ w, x < 4294967296) : (can 65536 (vl w)).length ≤ 2 * w.length := by
  apply (can_len_iff (by decide)).2
  rw [pow16]; exact val_lt w hw
theorem halves_of {x : Zr} (h : Wl x) : ref01_halves_m x.w = some (zl (can 65536 (zi x).natAbs)) := by
  rw [zi_abs]; exact halves_eq _ ⟨h.1, by have := h.2; omega⟩
theorem Wl.c16 {x : Zr} (h : Wl x) : (can 65536 (zi x).natAbs).length ≤ 20000000000 := by
  rw [zi_abs]; have := can16_len h.1; have := h.2; omega
theorem least_eq {x : Zr} (h : Wl x) : ref01_Least_m x = some (zn (zi x)) := by
  obtain ⟨n, w⟩ := x
  have h1 := halves_of h
  have h2 := h.c16
  unfold ref01_Least_m
  simp only []
  rw [show ref01_halves_m w = _ from h1, bsm, of_can _ _ (by omega), bsm, zi_abs]
  rfl
theorem from_eq {x : Int} (h : i64ok x) : ref01_From_m x = some (zn x) := by
  unfold i64ok at h
  have key : ∀ (v : Nat) (n : Bool), v < 18446744073709551616 → ((ref01_Least_m ⟨n, [v % 4294967296 % 4294967296, v / 4294967296 % 18446744073709551616 % 4294967296]⟩).bind fun x => some (⟨x.neg, x.w⟩ : Zr)) = some (zn (sv n v)) := by
    intro v n hv
    rw [least_eq ⟨by simp; omega, by simp⟩, bsm]
    show some (zn (sv n (vl _))) = _
    congr 3
    simp only [vl, val]
    omega
  unfold ref01_From_m
  simp only [bsm, letJ]
  by_cases hx : x < 0
  · have e : (x % 18446744073709551616).toNat = 18446744073709551616 - x.natAbs := by omega
    rw [show decide (x < 0) = true by simp [hx], ctm, e, usub_lt (by omega) (by omega), show 18446744073709551616 + 0 - (18446744073709551616 - x.natAbs) = x.natAbs by omega, key _ _ (by omega), show sv true x.natAbs = x by simp [sv]; omega]
  · have e : (x % 18446744073709551616).toNat = x.natAbs := by omega
    rw [show decide (x < 0) = false by simp [hx], cfm, e, key _ _ (by omega), show sv false x.natAbs = x by simp [sv]; omega]
end Go.Proofs.YtfoldppidpmchaaGreat
namespace Go.Proofs.YtfoldppidpmchaaGreat
open Go.Fw
theorem p9 (k : Nat) : 10 ^ (9 * (k + 1)) = 10 ^ (9 * k) * 1000000000 := by
  rw [show 9 * (k + 1) = 9 * k + 9 by omega, Nat.pow_add]
end Go.Proofs.YtfoldppidpmchaaGreat
namespace Go.Proofs.YtfoldppidpmchaaGreat
open Go.Fw
def body (s : Str) : Str := if s.head? = some 45 then s.tail else s
def dv (s : Str) : Nat := s.foldl (fun a c => a * 10 + (c.toNat - 48)) 0
def z0 : Zr := ⟨false, []⟩
end Go.Proofs.YtfoldppidpmchaaGreat
namespace Go.Proofs.YtfoldppidpmchaaGreat
open Go.Fw
theorem zeta' (z : Zr) : (⟨z.neg, z.w⟩ : Zr) = z := by cases z; rfl
theorem small_fit {i : Int} (h : i64ok i) : Fit 2 i := Fit.i64 h.1 h.2
theorem wl_small {i : Int} (h : i64ok i) : Wl (zn i) := wl_zn (small_fit h) (by decide)
end Go.Proofs.YtfoldppidpmchaaGreat
namespace Go.Proofs.YtfoldppidpmchaaGreat
open Go.Fw
theorem long_eq (l : List Zr) (hl : l.length ≤ 100) : ∃ b, law01_Long_m l = some b ∧ (b = false → ∀ z ∈ l, z.w.length ≤ 12) := by
  unfold law01_Long_m
  simp only [bsm]
  refine bind_loop_ex (fun y => ∃ i : Nat, y = (i : Int) ∧ i ≤ l.length ∧ ∀ z ∈ l.take i, z.w.length ≤ 12) (fun e => (∃ c, e = .inl c ∧ ∀ z ∈ l, z.w.length ≤ 12) ∨ e = .inr true) (fun y => l.length - y.toNat) ?_ ⟨0, rfl, by omega, by simp⟩ ?_
  · rintro _ ⟨i, rfl, hi, ht⟩
    by_cases hlt : i < l.length
    · have g : l[i]? = some l[i] := by simp
      rw [show decide ((i : Int) < (l.length : Int)) = true by simp [hlt], ctm, geti_nat g, bsm]
      by_cases h12 : l[i].w.length ≤ 12
      · left
        rw [show decide ((12 : Int) < (l[i].w.length : Int)) = false by rw [decide_eq_false_iff_not]; omega, cfm, w64_succ (by omega)]
        refine ⟨_, rfl, ⟨i + 1, rfl, hlt, ?_⟩, by omega⟩
        rw [List.take_add_one, g]
        intro z hz
        rcases List.mem_append.1 hz with h | h
        · exact ht z h
        · simp at h; rw [h]; exact h12
      · right
        rw [show decide ((12 : Int) < (l[i].w.length : Int)) = true by rw [decide_eq_true_eq]; omega, ctm]
        exact ⟨_, rfl, .inr rfl⟩
    · right
      rw [show decide ((i : Int) < (l.length : Int)) = false by simp; omega, cfm]
      rw [List.take_of_length_le (by omega)] at ht
      exact ⟨_, rfl, .inl ⟨_, rfl, ht⟩⟩
  · rintro e (⟨c, rfl, he⟩ | rfl)
    · exact ⟨false, rfl, fun _ => he⟩
    · exact ⟨true, rfl, fun h => by cases h⟩
theorem cmpI_sub (i j : Int) : (i - j).sign = cmpI i j := by
  rcases Int.lt_trichotomy i j with h | h | h
  · rw [cmpI_lt h, Int.sign_eq_neg_one_of_neg (by omega)]
  · rw [h, cmpI_self, Int.sub_self]; rfl
  · rw [cmpI_gt h, Int.sign_eq_one_of_pos (by omega)]
theorem cmpI_flip (i j : Int) : IntKind.i64.wrap (0 - cmpI j i) = cmpI i j := by
  rcases Int.lt_trichotomy i j with h | h | h
  · rw [cmpI_lt h, cmpI_gt h]; rfl
  · rw [h, cmpI_self]; rfl
  · rw [cmpI_gt h, cmpI_lt h]; rfl
abbrev OkZ (z : Zr) : Prop := True ∧ (z.w.length ≤ 9223372036854775807 ∧ ∀ x ∈ z.w, x < 4294967296)
end Go.Proofs.YtfoldppidpmchaaGreat
namespace Go.Proofs.YtfoldppidpmchaaGreat
open Go.Fw
theorem Fit.gcd {L : Nat} {i j : Int} (h : Fit L i) (h' : Fit L j) : Fit L (Int.gcd i j : Int) := by
  by_cases h0 : i = 0
  · subst h0; rw [Int.gcd_zero_left]; exact h'.le (by simp)
  · have : Int.gcd i j ∣ i.natAbs := Nat.gcd_dvd_left _ _
    exact h.le (by have := Nat.le_of_dvd (by omega) this; simpa using this)
end Go.Proofs.YtfoldppidpmchaaGreat
namespace Go.Proofs.YtfoldppidpmchaaGreat
open Go.Fw
def qd (q : Qr) : Int := if zi q.den = 0 then 1 else zi q.den
def qv (q : Qr) : Rat := Rat.divInt (zi q.num) (qd q)
def qn (r : Rat) : Qr := ⟨zn r.num, if r.den = 1 then ⟨false, []⟩ else zn (r.den : Int)⟩
def FQ (L : Nat) (r : Rat) : Prop := Fit L r.num ∧ Fit L (r.den : Int)
structure Rep (L : Nat) (q : Qr) (r : Rat) : Prop where
  n : ∀ x ∈ q.num.w, x < 4294967296
  d : ∀ x ∈ q.den.w, x < 4294967296
  ln : q.num.w.length ≤ L
  ld : q.den.w.length ≤ L
  l1 : 1 ≤ L
  v : qv q = r
theorem qd_ne (q : Qr) : qd q ≠ 0 := by
  unfold qd
  by_cases h : zi q.den = 0
  · rw [if_pos h]; decide
  · rw [if_neg h]; exact h
theorem qv_qn (r : Rat) : qv (qn r) = r := by
  unfold qv qd qn
  by_cases h : r.den = 1
  · rw [if_pos h]
    show Rat.divInt (zi (zn r.num)) (if zi ⟨false, []⟩ = 0 then 1 else zi ⟨false, []⟩) = r
    rw [if_pos (show zi ⟨false, []⟩ = 0 from rfl), zi_zn]
    have := Rat.num_divInt_den r
    rw [h] at this; exact this
  · rw [if_neg h]
    show Rat.divInt (zi (zn r.num)) (if zi (zn (r.den : Int)) = 0 then 1 else zi (zn (r.den : Int))) = r
    have := r.den_nz
    rw [zi_zn, zi_zn, if_neg (by omega), Rat.num_divInt_den]
theorem fit_len {w : List Nat} {n : Bool} {L : Nat} (h : ∀ x ∈ w, x < 4294967296) (hl : w.length ≤ L) : Fit L (zi ⟨n, w⟩) := by
  unfold Fit
  rw [zi_abs]
  exact Nat.lt_of_lt_of_le (val_lt w h) (Nat.pow_le_pow_right (by decide) hl)
theorem fit_one {L : Nat} (h : 1 ≤ L) : Fit L 1 := by
  unfold Fit
  exact Nat.lt_of_lt_of_le (show (1 : Int).natAbs < 4294967296 ^ 1 by decide) (Nat.pow_le_pow_right (by decide) h)
theorem FQ.rep {L : Nat} {r : Rat} (h : FQ L r) (h1 : 1 ≤ L) : Rep L (qn r) r := by
  refine ⟨fun x hx => can_lt (by decide) hx, ?_, (can_len_iff (by decide)).2 h.1, ?_, h1, qv_qn r⟩
  · unfold qn
    by_cases e : r.den = 1
    · rw [if_pos e]; simp
    · rw [if_neg e]; exact fun x hx => can_lt (by decide) hx
  · unfold qn
    by_cases e : r.den = 1
    · rw [if_pos e]; simp
    · rw [if_neg e]; exact (can_len_iff (by decide)).2 h.2
theorem Rep.wn {L : Nat} {q : Qr} {r : Rat} (h : Rep L q r) (hL : L ≤ 10000000000) : Wl q.num := ⟨h.n, Nat.le_trans h.ln hL⟩
theorem Rep.wd {L : Nat} {q : Qr} {r : Rat} (h : Rep L q r) (hL : L ≤ 10000000000) : Wl q.den := ⟨h.d, Nat.le_trans h.ld hL⟩
theorem Rep.fn {L : Nat} {q : Qr} {r : Rat} (h : Rep L q r) : Fit L (zi q.num) := fit_len (n := q.num.neg) h.n h.ln
theorem Rep.fd {L : Nat} {q : Qr} {r : Rat} (h : Rep L q r) : Fit L (zi q.den) := fit_len (n := q.den.neg) h.d h.ld
theorem Rep.fqd {L : Nat} {q : Qr} {r : Rat} (h : Rep L q r) : Fit L (qd q) := by
  unfold qd
  by_cases e : zi q.den = 0
  · rw [if_pos e]; exact fit_one h.l1
  · rw [if_neg e]; exact h.fd
theorem Rep.mono {L M : Nat} {q : Qr} {r : Rat} (h : Rep L q r) (hl : L ≤ M) : Rep M q r := ⟨h.n, h.d, Nat.le_trans h.ln hl, Nat.le_trans h.ld hl, Nat.le_trans h.l1 hl, h.v⟩
theorem FQ.mono {L M : Nat} {r : Rat} (h : FQ L r) (hl : L ≤ M) : FQ M r := ⟨h.1.mono hl, h.2.mono hl⟩
theorem fq_divInt {L : Nat} {a d : Int} (h0 : d ≠ 0) (ha : Fit L a) (hd : Fit L d) : FQ L (Rat.divInt a d) := by
  generalize hr : Rat.divInt a d = r
  obtain ⟨n', d', z', c⟩ := r
  obtain ⟨m, hm, h1, h2⟩ := Rat.divInt_num_den h0 hr
  have hm' : 0 < m.natAbs := Int.natAbs_pos.2 hm
  refine ⟨ha.le ?_, hd.le ?_⟩
  · rw [h1, Int.natAbs_mul]; exact Nat.le_mul_of_pos_right _ hm'
  · rw [h2, Int.natAbs_mul]; exact Nat.le_mul_of_pos_right _ hm'
theorem Rep.fq {L : Nat} {q : Qr} {r : Rat} (h : Rep L q r) : FQ L r := by rw [← h.v]; exact fq_divInt (qd_ne q) h.fn h.fqd
theorem rat_div (r : Rat) : r = Rat.divInt r.num (r.den : Int) := (Rat.num_divInt_den r).symm
theorem den_ne (r : Rat) : (r.den : Int) ≠ 0 := by have := r.den_nz; omega
theorem FQ.add {L M : Nat} {x y : Rat} (hx : FQ L x) (hy : FQ M y) : FQ (L + M + 1) (x + y) := by
  have e : x + y = Rat.divInt (x.num * y.den + y.num * x.den) (x.den * y.den) := by
    conv => lhs; rw [rat_div x, rat_div y, Rat.divInt_add_divInt _ _ (den_ne x) (den_ne y)]
  rw [e]
  refine fq_divInt (Int.mul_ne_zero (den_ne x) (den_ne y)) ?_ ?_
  · exact (hx.1.mul hy.2).add (by rw [Nat.add_comm L M]; exact hy.1.mul hx.2)
  · exact (hx.2.mul hy.2).mono (by omega)
theorem FQ.sub {L M : Nat} {x y : Rat} (hx : FQ L x) (hy : FQ M y) : FQ (L + M + 1) (x - y) := by
  have e : x - y = Rat.divInt (x.num * y.den - y.num * x.den) (x.den * y.den) := by
    conv => lhs; rw [rat_div x, rat_div y, Rat.divInt_sub_divInt _ _ (den_ne x) (den_ne y)]
  rw [e]
  refine fq_divInt (Int.mul_ne_zero (den_ne x) (den_ne y)) ?_ ?_
  · exact (hx.1.mul hy.2).sub (by rw [Nat.add_comm L M]; exact hy.1.mul hx.2)
  · exact (hx.2.mul hy.2).mono (by omega)
theorem FQ.mul {L M : Nat} {x y : Rat} (hx : FQ L x) (hy : FQ M y) : FQ (L + M) (x * y) := by
  have e : x * y = Rat.divInt (x.num * y.num) (x.den * y.den) := by
    conv => lhs; rw [rat_div x, rat_div y, Rat.divInt_mul_divInt]
  rw [e]
  exact fq_divInt (Int.mul_ne_zero (den_ne x) (den_ne y)) (hx.1.mul hy.1) (hx.2.mul hy.2)
theorem FQ.neg {L : Nat} {x : Rat} (hx : FQ L x) : FQ L (-x) := ⟨hx.1.neg, hx.2⟩
theorem FQ.int {L : Nat} {i : Int} (h : Fit L i) (h1 : 1 ≤ L) : FQ L (i : Rat) := ⟨h, fit_one h1⟩
def cmpQ (x y : Rat) : Int := if x < y then -1 else if x = y then 0 else 1
theorem cmpQ_self (x : Rat) : cmpQ x x = 0 := by unfold cmpQ; rw [if_neg Rat.lt_irrefl, if_pos rfl]
theorem cmpQ_lt {x y : Rat} (h : x < y) : cmpQ x y = -1 := if_pos h
theorem cmpQ_gt {x y : Rat} (h : y < x) : cmpQ x y = 1 := by
  unfold cmpQ
  rw [if_neg (fun h' => by grind), if_neg (fun h' => by grind)]
theorem divInt_lt {a b c d : Int} (hb : 0 < b) (hd : 0 < d) : Rat.divInt a b < Rat.divInt c d ↔ a * d < c * b := by
  have hb' : (0 : Rat) < (b : Rat) := Rat.intCast_pos.2 hb
  have hd' : (0 : Rat) < (d : Rat) := Rat.intCast_pos.2 hd
  rw [Rat.divInt_eq_div, Rat.divInt_eq_div, Rat.div_lt_iff hb', Rat.div_def, Rat.mul_assoc, Rat.mul_comm (d : Rat)⁻¹, ← Rat.mul_assoc, ← Rat.div_def, Rat.lt_div_iff hd', ← Rat.intCast_mul, ← Rat.intCast_mul, Rat.intCast_lt_intCast]
theorem cmpQ_int {a b c d : Int} (hb : 0 < b) (hd : 0 < d) : cmpQ (Rat.divInt a b) (Rat.divInt c d) = cmpI (a * d) (c * b) := by
  unfold cmpQ cmpI
  have e1 := divInt_lt (a := a) (c := c) hb hd
  have e2 := Rat.divInt_eq_divInt_iff (n₁ := a) (d₁ := b) (n₂ := c) (d₂ := d) (by omega) (by omega)
  by_cases h1 : a * d < c * b
  · rw [if_pos (e1.2 h1), if_pos h1]
  · rw [if_neg (fun h => h1 (e1.1 h)), if_neg h1]
    by_cases h2 : a * d = c * b
    · rw [if_pos (e2.2 h2), if_pos h2]
    · rw [if_neg (fun h => h2 (e2.1 h)), if_neg h2]
theorem sign_divInt {a b : Int} (hb : 0 < b) : a.sign = cmpQ (Rat.divInt a b) 0 := by
  have : (0 : Rat) = Rat.divInt 0 1 := rfl
  rw [this, cmpQ_int hb (by decide), Int.mul_one, Int.zero_mul, ← cmpI_sub, Int.sub_zero]
theorem qn_divInt {a d : Int} (hd : 0 < d) : qn (Rat.divInt a d) = ⟨zn (a / (Int.gcd a d : Int)), if d / (Int.gcd a d : Int) = 1 then ⟨false, []⟩ else zn (d / (Int.gcd a d : Int))⟩ := by
  have h1 : (Rat.divInt a d).num = a / (Int.gcd a d : Int) := by rw [Rat.num_divInt, Int.sign_eq_one_of_pos hd, Int.one_mul, Int.gcd_comm]
  have h2 : ((Rat.divInt a d).den : Int) = d / (Int.gcd a d : Int) := by
    rw [Rat.den_divInt, if_neg (by omega), Int.gcd_comm]
    have : (d.natAbs : Int) = d := by omega
    rw [Int.natCast_ediv, this]
  unfold qn
  rw [h1, h2]
  by_cases e : (Rat.divInt a d).den = 1
  · rw [if_pos e, if_pos (by omega)]
  · rw [if_neg e, if_neg (by omega)]
theorem i64_one (k : Int) : ((bif (i64of k).2 then some (decide ((i64of k).1 = 1)) else some false) : Option Bool) = some (decide (k = 1)) := by
  by_cases h : i64ok k
  · rw [i64of_ok h]; rfl
  · rw [i64of_no h]
    have : ¬ k = 1 := by rintro rfl; exact h (by decide)
    rw [decide_eq_false this]; rfl
theorem reduce_pos {n d : Zr} (hn : Wl n) (hd : Wl d) (h : 0 < zi d) : ((whole_GCD_m n d).bind fun g => (whole_DivMod_m n g).bind fun a => (whole_DivMod_m d g).bind fun b => (whole_Int64_m b.1).bind fun c =>
    (bif c.2 then some (decide (c.1 = 1)) else some false).bind fun e => bif e then some (⟨a.1, ⟨false, []⟩⟩ : Qr) else some ⟨a.1, b.1⟩) = some (qn (Rat.divInt (zi n) (zi d))) := by
  have g0 : (Int.gcd (zi n) (zi d) : Int) ≠ 0 := by
    have : 0 < Int.gcd (zi n) (zi d) := Int.gcd_pos_of_ne_zero_right _ (by omega)
    omega
  have wg : Wl (zn (Int.gcd (zi n) (zi d) : Int)) := wl_zn ((Wl.fit hd).le (by
    have := Nat.le_of_dvd (Int.natAbs_pos.2 (show zi d ≠ 0 by omega)) (Int.gcd_dvd_natAbs_right (zi n) (zi d))
    simpa using this)) hd.2
  have wq : Wl (zn (zi d / (Int.gcd (zi n) (zi d) : Int))) := wl_zn ((Wl.fit hd).le (Int.natAbs_ediv_le_natAbs _ _)) hd.2
  rw [gcd_eq hn hd, bsm, divMod_eq hn wg, bsm, divMod_eq hd wg, bsm, zi_zn, dmOf, if_neg g0, dmOf, if_neg g0]
  simp only []
  rw [int64_eq wq, bsm, zi_zn, i64_one, bsm, qn_divInt h]
  by_cases e : zi d / (Int.gcd (zi n) (zi d) : Int) = 1
  · rw [decide_eq_true e, ctm, if_pos e]
  · rw [decide_eq_false e, cfm, if_neg e]
theorem reduce_eq {x y : Zr} (hx : Wl x) (hy : Wl y) (h0 : zi y ≠ 0) : frac_reduce_m x y = some (qn (Rat.divInt (zi x) (zi y))) := by
  unfold frac_reduce_m
  simp only [letJ, bsm, zeta', sign_eq hy]
  by_cases h : zi y < 0
  · rw [show decide ((zi y).sign < 0) = true by rw [Int.sign_eq_neg_one_of_neg h]; rfl, ctm, neg_eq hx, bsm, neg_eq hy, bsm]
    have hp := reduce_pos (wl_zn (Wl.fit hx).neg hx.2) (wl_zn (Wl.fit hy).neg hy.2) (by rw [zi_zn]; omega)
    rw [zi_zn, zi_zn, Rat.neg_divInt_neg] at hp
    exact hp
  · rw [show decide ((zi y).sign < 0) = false by rw [Int.sign_eq_one_of_pos (by omega)]; rfl, cfm]
    exact reduce_pos hx hy (by omega)
end Go.Proofs.YtfoldppidpmchaaGreat
namespace Go.Proofs.YtfoldppidpmchaaGreat
open Go.Fw
theorem zetaQ (q : Qr) : (⟨⟨q.num.neg, q.num.w⟩, ⟨q.den.neg, q.den.w⟩⟩ : Qr) = q := by cases q; rfl
theorem zetaP (q : Qr) : (⟨q.num, q.den⟩ : Qr) = q := by cases q; rfl
theorem parts_eq {L : Nat} {q : Qr} {r : Rat} (h : Rep L q r) (hL : L ≤ 10000000000) : ∃ n d : Zr, frac_parts_m q = some (n, d) ∧ Wl n ∧ Wl d ∧ 0 < zi d ∧ Rat.divInt (zi n) (zi d) = r ∧ Fit L (zi n) ∧ Fit L (zi d) := by
  have wn := h.wn hL
  have wd := h.wd hL
  have hv := h.v
  unfold frac_parts_m
  simp only [zeta', bsm, sign_eq wd, fromInt_eq (x := 1) (by decide) (by decide), neg_eq wn, neg_eq wd]
  unfold qv qd at hv
  rcases Int.lt_trichotomy (zi q.den) 0 with h1 | h1 | h1
  · refine ⟨_, _, ?_, wl_zn h.fn.neg hL, wl_zn h.fd.neg hL, by rw [zi_zn]; omega, ?_, by rw [zi_zn]; exact h.fn.neg, by rw [zi_zn]; exact h.fd.neg⟩
    · rw [Int.sign_eq_neg_one_of_neg h1]; rfl
    · rw [zi_zn, zi_zn, Rat.neg_divInt_neg, ← hv, if_neg (by omega)]
  · refine ⟨_, _, ?_, wn, wl_zn (fit_one h.l1) hL, by rw [zi_zn]; decide, ?_, h.fn, by rw [zi_zn]; exact fit_one h.l1⟩
    · rw [h1]; rfl
    · rw [zi_zn, ← hv, if_pos h1]
  · refine ⟨_, _, ?_, wn, wd, h1, ?_, h.fn, h.fd⟩
    · rw [Int.sign_eq_one_of_pos h1]; rfl
    · rw [← hv, if_neg (by omega)]
def Sm (a : Int) : Prop := -2147483648 < a ∧ a < 2147483648
theorem Sm.ok {a : Int} (h : Sm a) : i64ok a := by unfold Sm at h; unfold i64ok; omega
theorem short_eq {L : Nat} {q : Qr} {r : Rat} (h : Rep L q r) (hL : L ≤ 10000000000) : ∃ a b c, frac_short_m q = some (a, b, c) ∧ (c = true → Sm a ∧ 0 < b ∧ Sm b ∧ Rat.divInt a b = r) := by
  have wn := h.wn hL
  have wd := h.wd hL
  have hv := h.v
  unfold frac_short_m
  simp only [zeta', bsm, letJ, int64_eq wn, int64_eq wd]
  unfold qv qd at hv
  generalize zi q.num = n at *
  generalize zi q.den = d at *
  by_cases hs : Sm n ∧ Sm d
  · obtain ⟨h1, h2⟩ := hs
    rw [i64of_ok h1.ok, i64of_ok h2.ok]
    unfold Sm at h1 h2
    simp only []
    rw [decide_eq_false (show ¬ n ≤ -2147483648 by omega), decide_eq_false (show ¬ 2147483648 ≤ n by omega), decide_eq_false (show ¬ d ≤ -2147483648 by omega), decide_eq_false (show ¬ 2147483648 ≤ d by omega)]
    simp only [Bool.not_true, cfm, bsm]
    by_cases h0 : d = 0
    · rw [decide_eq_true h0, ctm]
      refine ⟨_, _, _, rfl, fun _ => ⟨h1, by decide, ⟨by decide, by decide⟩, ?_⟩⟩
      rw [← hv, if_pos h0]
    · rw [decide_eq_false h0, cfm]
      rw [if_neg h0] at hv
      by_cases hneg : d < 0
      · rw [decide_eq_true hneg, ctm, w64_id (by omega) (by omega), w64_id (by omega) (by omega)]
        refine ⟨_, _, _, rfl, fun _ => ⟨⟨by omega, by omega⟩, by omega, ⟨by omega, by omega⟩, ?_⟩⟩
        rw [Int.zero_sub, Int.zero_sub, Rat.neg_divInt_neg, hv]
      · rw [decide_eq_false hneg, cfm]
        exact ⟨_, _, _, rfl, fun _ => ⟨h1, by omega, h2, hv⟩⟩
  · refine ⟨0, 0, false, ?_, fun e => by cases e⟩
    by_cases o1 : i64ok n
    · by_cases o2 : i64ok d
      · rw [i64of_ok o1, i64of_ok o2]
        simp only [Bool.not_true, cfm, bsm]
        unfold Sm at hs
        by_cases c1 : n ≤ -2147483648
        · rw [decide_eq_true c1]; simp only [bsm, ctm]
        · rw [decide_eq_false c1]; simp only [bsm, cfm]
          by_cases c2 : 2147483648 ≤ n
          · rw [decide_eq_true c2]; simp only [bsm, ctm]
          · rw [decide_eq_false c2]; simp only [bsm, cfm]
            by_cases c3 : d ≤ -2147483648
            · rw [decide_eq_true c3]; simp only [bsm, ctm]
            · rw [decide_eq_false c3]; simp only [bsm, cfm]
              rw [decide_eq_true (show 2147483648 ≤ d by omega)]; simp only [ctm]
      · rw [i64of_ok o1, i64of_no o2]; simp only [Bool.not_true, Bool.not_false, cfm, bsm, ctm]
    · rw [i64of_no o1]; simp only [Bool.not_false, bsm, ctm]
theorem tdiv_dvd {a g : Int} (hg : 0 < g) (h : g ∣ a) : Int.tdiv a g = a / g := by
  obtain ⟨k, rfl⟩ := h
  rw [Int.mul_tdiv_cancel_left _ (by omega), Int.mul_ediv_cancel_left _ (by omega)]
theorem ratio_eq {n d : Int} (hd : 0 < d) (hd' : d ≤ 9223372036854775807) (hn : -9223372036854775807 ≤ n) (hn' : n ≤ 9223372036854775807) : frac_ratio_m n d = some (qn (Rat.divInt n d)) := by
  unfold frac_ratio_m
  simp only [bsm, letJ]
  refine bind_loop (fun s => Int.gcd s.1 s.2 = Int.gcd n d ∧ s.1.natAbs ≤ 9223372036854775807 ∧ s.2.natAbs ≤ 9223372036854775807) (fun e => e.natAbs = Int.gcd n d ∧ e.natAbs ≤ 9223372036854775807) (fun s => s.2.natAbs) ?_ ⟨rfl, by simp only []; omega, by simp only []; omega⟩ ?_
  · rintro ⟨a, b⟩ ⟨i1, i2, i3⟩
    simp only at i1 i2 i3 ⊢
    by_cases hb : b = 0
    · right
      subst hb
      refine ⟨a, by simp, ?_, i2⟩
      rw [← i1]; simp [Int.gcd]
    · left
      rw [decide_eq_true hb, ctm, irem, if_neg hb, bsm]
      have hm : (Int.tmod a b).natAbs = a.natAbs % b.natAbs := Int.natAbs_tmod a b
      have hlt := Nat.mod_lt a.natAbs (Int.natAbs_pos.2 hb)
      refine ⟨_, rfl, ⟨?_, i3, by simp only []; omega⟩, by simp only []; omega⟩
      simp only []
      rw [← i1, Int.gcd, Int.gcd, hm, Nat.gcd_comm b.natAbs, ← Nat.gcd_rec, Nat.gcd_comm]
  · rintro e ⟨he, hle⟩
    obtain ⟨g, hg⟩ : ∃ g : Int, (Int.gcd n d : Int) = g := ⟨_, rfl⟩
    have hgp : 0 < g := by have := Int.gcd_pos_of_ne_zero_right n (show d ≠ 0 by omega); omega
    have hgn : g ∣ n := hg ▸ Int.gcd_dvd_left ..
    have hgd : g ∣ d := hg ▸ Int.gcd_dvd_right ..
    have hK : ∀ m : Int, m = g → (bif decide (m = d) then (iquo n m).bind fun x24 => (whole_FromInt64_m x24).bind fun x => some (⟨⟨x.neg, x.w⟩, ⟨false, []⟩⟩ : Qr) else (iquo n m).bind fun x29 => (whole_FromInt64_m x29).bind fun x => (iquo d m).bind fun x33 => (whole_FromInt64_m x33).bind fun y => some ⟨⟨x.neg, x.w⟩, ⟨y.neg, y.w⟩⟩) = some (qn (Rat.divInt n d)) := by
      rintro m rfl
      have b1 : (n / m).natAbs ≤ n.natAbs := Int.natAbs_ediv_le_natAbs _ _
      have b2 : (d / m).natAbs ≤ d.natAbs := Int.natAbs_ediv_le_natAbs _ _
      have q1 : iquo n m = some (n / m) := by
        rw [iquo, if_neg (by omega), tdiv_dvd hgp hgn, w64_id (by omega) (by omega)]
      have q2 : iquo d m = some (d / m) := by
        rw [iquo, if_neg (by omega), tdiv_dvd hgp hgd, w64_id (by omega) (by omega)]
      rw [qn_divInt hd, hg, q1, q2]
      simp only [bsm, fromInt_eq (x := n / m) (by omega) (by omega), fromInt_eq (x := d / m) (by omega) (by omega), zeta']
      by_cases e1 : m = d
      · rw [decide_eq_true e1, ctm, if_pos (by rw [e1]; exact Int.ediv_self (by omega))]
      · rw [decide_eq_false e1, cfm, if_neg]
        intro e2
        have := Int.ediv_mul_cancel hgd
        rw [e2] at this; omega
    by_cases hneg : e < 0
    · rw [decide_eq_true hneg, ctm, w64_id (by omega) (by omega)]
      exact hK _ (by omega)
    · rw [decide_eq_false hneg, cfm]
      exact hK _ (by omega)
theorem calc_help {a b : Int} (ha : Sm a) (hb : Sm b) : -4611686018427387904 < a * b ∧ a * b < 4611686018427387904 := by
  unfold Sm at ha hb
  have h1 : (a * b).natAbs = a.natAbs * b.natAbs := Int.natAbs_mul a b
  have h2 : a.natAbs * b.natAbs ≤ 2147483647 * 2147483647 := Nat.mul_le_mul (by omega) (by omega)
  omega
theorem pos_mul {a b : Int} (ha : 0 < a) (hb : 0 < b) : 0 < a * b := Int.mul_pos ha hb
section ops
variable {L M : Nat} {a b : Qr} {x y : Rat}
theorem Rep.add (ha : Rep L a x) (hb : Rep M b y) (h : L + M ≤ 4000000000) : frac_Add_m a b = some (qn (x + y)) ∧ Rep (L + M + 1) (qn (x + y)) (x + y) := by
  refine ⟨?_, (ha.fq.add hb.fq).rep (by omega)⟩
  obtain ⟨n1, d1, c1, e1, k1⟩ := short_eq ha (by omega)
  obtain ⟨n2, d2, c2, e2, k2⟩ := short_eq hb (by omega)
  obtain ⟨p1, q1, f1, w1, w2, g1, v1, t1, t2⟩ := parts_eq ha (by omega)
  obtain ⟨p2, q2, f2, w3, w4, g2, v2, t3, t4⟩ := parts_eq hb (by omega)
  have hcalc : frac_calcAdd_m a b = some (qn (x + y)) := by
    unfold frac_calcAdd_m frac_operations_1_m
    have u1 := wl_zn (t1.mul t4) (by omega)
    have u2 := wl_zn (t3.mul t2) (by omega)
    have u3 := wl_zn (t2.mul t4) (by omega)
    have u4 := wl_zn ((t1.mul t4).add ((t3.mul t2).mono (by omega))) (by omega)
    simp only [zeta', zetaQ, zetaP, f1, f2, bsm, mul_eq w1 w4, mul_eq w3 w2, add_eq u1 u2, mul_eq w2 w4, zi_zn]
    rw [reduce_eq u4 u3 (by rw [zi_zn]; have := pos_mul g1 g2; omega), bsm, zi_zn, zi_zn, ← v1, ← v2, Rat.divInt_add_divInt _ _ (by omega) (by omega)]
  unfold frac_Add_m
  simp only [zeta', zetaQ, zetaP, e1, e2, bsm, letJ, hcalc]
  cases c1
  · rw [cfm, bsm, cfm]
  · cases c2
    · rw [ctm, bsm, cfm]
    · obtain ⟨s1, s2, s3, s4⟩ := k1 rfl
      obtain ⟨s5, s6, s7, s8⟩ := k2 rfl
      have m1 := calc_help s1 s7
      have m2 := calc_help s5 s3
      have m3 := calc_help s3 s7
      have m4 := pos_mul s2 s6
      rw [ctm, bsm, ctm, w64_id (x := n1 * d2) (by omega) (by omega), w64_id (x := n2 * d1) (by omega) (by omega), w64_id (x := d1 * d2) (by omega) (by omega), w64_id (by omega) (by omega), ratio_eq m4 (by omega) (by omega) (by omega), bsm, ← s4, ← s8, Rat.divInt_add_divInt _ _ (by omega) (by omega)]
theorem Rep.sub (ha : Rep L a x) (hb : Rep M b y) (h : L + M ≤ 4000000000) : frac_Sub_m a b = some (qn (x - y)) ∧ Rep (L + M + 1) (qn (x - y)) (x - y) := by
  refine ⟨?_, (ha.fq.sub hb.fq).rep (by omega)⟩
  obtain ⟨n1, d1, c1, e1, k1⟩ := short_eq ha (by omega)
  obtain ⟨n2, d2, c2, e2, k2⟩ := short_eq hb (by omega)
  obtain ⟨p1, q1, f1, w1, w2, g1, v1, t1, t2⟩ := parts_eq ha (by omega)
  obtain ⟨p2, q2, f2, w3, w4, g2, v2, t3, t4⟩ := parts_eq hb (by omega)
  have hcalc : frac_calcSub_m a b = some (qn (x - y)) := by
    unfold frac_calcSub_m frac_operations_2_m
    have u1 := wl_zn (t1.mul t4) (by omega)
    have u2 := wl_zn (t3.mul t2) (by omega)
    have u3 := wl_zn (t2.mul t4) (by omega)
    have u4 := wl_zn ((t1.mul t4).sub ((t3.mul t2).mono (by omega))) (by omega)
    simp only [zeta', zetaQ, zetaP, f1, f2, bsm, mul_eq w1 w4, mul_eq w3 w2, sub_eq u1 u2, mul_eq w2 w4, zi_zn]
    rw [reduce_eq u4 u3 (by rw [zi_zn]; have := pos_mul g1 g2; omega), bsm, zi_zn, zi_zn, ← v1, ← v2, Rat.divInt_sub_divInt _ _ (by omega) (by omega)]
  unfold frac_Sub_m
  simp only [zeta', zetaQ, zetaP, e1, e2, bsm, letJ, hcalc]
  cases c1
  · rw [cfm, bsm, cfm]
  · cases c2
    · rw [ctm, bsm, cfm]
    · obtain ⟨s1, s2, s3, s4⟩ := k1 rfl
      obtain ⟨s5, s6, s7, s8⟩ := k2 rfl
      have m1 := calc_help s1 s7
      have m2 := calc_help s5 s3
      have m3 := calc_help s3 s7
      have m4 := pos_mul s2 s6
      rw [ctm, bsm, ctm, w64_id (x := n1 * d2) (by omega) (by omega), w64_id (x := n2 * d1) (by omega) (by omega), w64_id (x := d1 * d2) (by omega) (by omega), w64_id (by omega) (by omega), ratio_eq m4 (by omega) (by omega) (by omega), bsm, ← s4, ← s8, Rat.divInt_sub_divInt _ _ (by omega) (by omega)]
theorem Rep.mul (ha : Rep L a x) (hb : Rep M b y) (h : L + M ≤ 4000000000) : frac_Mul_m a b = some (qn (x * y)) ∧ Rep (L + M) (qn (x * y)) (x * y) := by
  have l1 := ha.l1
  refine ⟨?_, (ha.fq.mul hb.fq).rep (by omega)⟩
  obtain ⟨n1, d1, c1, e1, k1⟩ := short_eq ha (by omega)
  obtain ⟨n2, d2, c2, e2, k2⟩ := short_eq hb (by omega)
  obtain ⟨p1, q1, f1, w1, w2, g1, v1, t1, t2⟩ := parts_eq ha (by omega)
  obtain ⟨p2, q2, f2, w3, w4, g2, v2, t3, t4⟩ := parts_eq hb (by omega)
  have hcalc : frac_calcMul_m a b = some (qn (x * y)) := by
    unfold frac_calcMul_m frac_operations_3_m
    have u1 := wl_zn (t1.mul t3) (by omega)
    have u3 := wl_zn (t2.mul t4) (by omega)
    simp only [zeta', zetaQ, zetaP, f1, f2, bsm, mul_eq w1 w3, mul_eq w2 w4]
    rw [reduce_eq u1 u3 (by rw [zi_zn]; have := pos_mul g1 g2; omega), bsm, zi_zn, zi_zn, ← v1, ← v2, Rat.divInt_mul_divInt]
  unfold frac_Mul_m
  simp only [zeta', zetaQ, zetaP, e1, e2, bsm, letJ, hcalc]
  cases c1
  · rw [cfm, bsm, cfm]
  · cases c2
    · rw [ctm, bsm, cfm]
    · obtain ⟨s1, s2, s3, s4⟩ := k1 rfl
      obtain ⟨s5, s6, s7, s8⟩ := k2 rfl
      have m1 := calc_help s1 s5
      have m3 := calc_help s3 s7
      have m4 := pos_mul s2 s6
      rw [ctm, bsm, ctm, w64_id (by omega) (by omega), w64_id (x := d1 * d2) (by omega) (by omega), ratio_eq m4 (by omega) (by omega) (by omega), bsm, ← s4, ← s8, Rat.divInt_mul_divInt]
theorem Rep.sign (ha : Rep L a x) (h : L ≤ 10000000000) : frac_Sign_m a = some (cmpQ x 0) := by
  unfold frac_Sign_m
  have wn := ha.wn h
  have wd := ha.wd h
  have hv := ha.v
  simp only [zeta', bsm, sign_eq wn, sign_eq wd]
  unfold qv qd at hv
  rcases Int.lt_trichotomy (zi a.den) 0 with h1 | h1 | h1
  · rw [Int.sign_eq_neg_one_of_neg h1]
    rw [if_neg (by omega), ← Rat.neg_divInt_neg] at hv
    rw [← hv, ← sign_divInt (by omega), Int.sign_neg]
    show some (IntKind.i64.wrap (0 - (zi a.num).sign)) = _
    have : (zi a.num).sign = -1 ∨ (zi a.num).sign = 0 ∨ (zi a.num).sign = 1 := by
      rcases Int.lt_trichotomy (zi a.num) 0 with e | e | e
      · left; exact Int.sign_eq_neg_one_of_neg e
      · right; left; rw [e]; rfl
      · right; right; exact Int.sign_eq_one_of_pos e
    rw [w64_id (by omega) (by omega), Int.zero_sub]
  · rw [if_pos h1] at hv
    rw [← hv, ← sign_divInt (by omega), h1]; rfl
  · rw [if_neg (by omega)] at hv
    rw [Int.sign_eq_one_of_pos h1, ← hv, ← sign_divInt h1]; rfl
theorem cmpQ_zero {x : Rat} : cmpQ x 0 = 0 ↔ x = 0 := by
  unfold cmpQ
  by_cases h : x < 0
  · rw [if_pos h]
    refine ⟨fun e => absurd e (by decide), fun e => ?_⟩
    rw [e] at h; exact absurd h Rat.lt_irrefl
  · rw [if_neg h]
    by_cases h2 : x = 0
    · rw [if_pos h2]; simp [h2]
    · rw [if_neg h2]; simp [h2]
theorem Rep.canon (ha : Rep L a x) (h : L ≤ 10000000000) : frac_Canonical_m a = some (qn x) ∧ Rep L (qn x) x := by
  refine ⟨?_, ha.fq.rep ha.l1⟩
  obtain ⟨n1, d1, c1, e1, k1⟩ := short_eq ha (by omega)
  obtain ⟨p1, q1, f1, w1, w2, g1, v1, t1, t2⟩ := parts_eq ha (by omega)
  unfold frac_Canonical_m
  simp only [zeta', zetaQ, zetaP, e1, bsm, f1]
  cases c1
  · rw [cfm, reduce_eq w1 w2 (by omega), bsm, v1]
  · obtain ⟨s1, s2, s3, s4⟩ := k1 rfl
    unfold Sm at s1 s3
    rw [ctm, ratio_eq s2 (by omega) (by omega) (by omega), bsm, s4]
end ops
end Go.Proofs.YtfoldppidpmchaaGreat
namespace Go.Proofs.YtfoldppidpmchaaGreat
open Go.Fw
def maxQ (x y : Rat) : Rat := if x < y then y else x
theorem cmpI_sign {p q u v : Int} (hq : 0 < q) (hv : 0 < v) (h : p.sign ≠ u.sign ∨ p.sign = 0) : frac_sign_m (IntKind.i64.wrap (p.sign - u.sign)) = some (cmpI (p * v) (u * q)) := by
  have pv : 0 < p → 0 < p * v := fun h => Int.mul_pos h hv
  have pv' : p < 0 → p * v < 0 := fun h => Int.mul_neg_of_neg_of_pos h hv
  have uq : 0 < u → 0 < u * q := fun h => Int.mul_pos h hq
  have uq' : u < 0 → u * q < 0 := fun h => Int.mul_neg_of_neg_of_pos h hq
  rcases Int.lt_trichotomy p 0 with e1 | e1 | e1 <;> rcases Int.lt_trichotomy u 0 with e2 | e2 | e2
  · rw [Int.sign_eq_neg_one_of_neg e1, Int.sign_eq_neg_one_of_neg e2] at h; simp at h
  · have := pv' e1
    rw [Int.sign_eq_neg_one_of_neg e1, e2, Int.zero_mul, cmpI_lt this]; rfl
  · have := pv' e1
    have := uq e2
    rw [Int.sign_eq_neg_one_of_neg e1, Int.sign_eq_one_of_pos e2, cmpI_lt (by omega)]; rfl
  · have := uq' e2
    rw [Int.sign_eq_neg_one_of_neg e2, e1, Int.zero_mul, cmpI_gt this]; rfl
  · rw [e1, e2, Int.zero_mul, Int.zero_mul]; rfl
  · have := uq e2
    rw [Int.sign_eq_one_of_pos e2, e1, Int.zero_mul, cmpI_lt this]; rfl
  · have := pv e1
    have := uq' e2
    rw [Int.sign_eq_one_of_pos e1, Int.sign_eq_neg_one_of_neg e2, cmpI_gt (by omega)]; rfl
  · have := pv e1
    rw [Int.sign_eq_one_of_pos e1, e2, Int.zero_mul, cmpI_gt this]; rfl
  · rw [Int.sign_eq_one_of_pos e1, Int.sign_eq_one_of_pos e2] at h; simp at h
theorem cmpQ_eq0 {x y : Rat} : cmpQ x y = 0 ↔ x = y := by
  unfold cmpQ
  by_cases h : x < y
  · rw [if_pos h]
    refine ⟨fun e => absurd e (by decide), fun e => ?_⟩
    rw [e] at h; exact absurd h Rat.lt_irrefl
  · rw [if_neg h]
    by_cases h2 : x = y
    · rw [if_pos h2]; simp [h2]
    · rw [if_neg h2]; simp [h2]
theorem cmpQ_neg {x y : Rat} : cmpQ x y < 0 ↔ x < y := by
  unfold cmpQ
  by_cases h : x < y
  · rw [if_pos h]; simp [h]
  · rw [if_neg h]
    by_cases h2 : x = y
    · rw [if_pos h2]; simp [h2, Rat.lt_irrefl]
    · rw [if_neg h2]; simp [h]
theorem cmpQ_pos {x y : Rat} : 0 < cmpQ x y ↔ y < x := by
  unfold cmpQ
  by_cases h : x < y
  · rw [if_pos h]
    have : ¬ y < x := by grind
    simp [this]
  · rw [if_neg h]
    by_cases h2 : x = y
    · rw [if_pos h2]; simp [h2, Rat.lt_irrefl]
    · rw [if_neg h2]
      have : y < x := by grind
      simp [this]
theorem qn_int (i : Int) : qn (i : Rat) = ⟨zn i, ⟨false, []⟩⟩ := by
  unfold qn
  rw [Rat.den_intCast, if_pos rfl, Rat.num_intCast]
section ops
variable {L M : Nat} {a b : Qr} {x y : Rat}
theorem Rep.neg (ha : Rep L a x) (h : L ≤ 10000000000) : frac_Neg_m a = some (qn (-x)) ∧ Rep L (qn (-x)) (-x) := by
  refine ⟨?_, ha.fq.neg.rep ha.l1⟩
  unfold frac_Neg_m
  have r := (ha.canon h).2
  simp only [zeta', zetaQ, zetaP, (ha.canon h).1, bsm, neg_eq (r.wn h)]
  show some (⟨zn (-zi (zn x.num)), _⟩ : Qr) = some (qn (-x))
  rw [zi_zn]; rfl
theorem Rep.cmp (ha : Rep L a x) (hb : Rep M b y) (h : L + M ≤ 4000000000) : frac_Cmp_m a b = some (cmpQ x y) := by
  obtain ⟨p1, q1, f1, w1, w2, g1, v1, t1, t2⟩ := parts_eq ha (by omega)
  obtain ⟨p2, q2, f2, w3, w4, g2, v2, t3, t4⟩ := parts_eq hb (by omega)
  unfold frac_Cmp_m
  have u1 := wl_zn (t1.mul t4) (by omega)
  have u2 := wl_zn (t3.mul t2) (by omega)
  simp only [zeta', zetaQ, zetaP, f1, f2, bsm, letJ, sign_eq w1, sign_eq w3, mul_eq w1 w4, mul_eq w3 w2, cmp_eq u1 u2, zi_zn]
  rw [← v1, ← v2, cmpQ_int g1 g2]
  by_cases e1 : (zi p1).sign = (zi p2).sign
  · rw [show decide ((zi p1).sign ≠ (zi p2).sign) = false by simp [e1], cfm, bsm]
    by_cases e2 : (zi p1).sign = 0
    · rw [decide_eq_true e2, ctm, cmpI_sign g1 g2 (.inr e2), bsm]
    · rw [decide_eq_false e2, cfm]
  · rw [show decide ((zi p1).sign ≠ (zi p2).sign) = true by simp [e1], ctm, bsm, ctm, cmpI_sign g1 g2 (.inl e1), bsm]
theorem Rep.eq (ha : Rep L a x) (hb : Rep M b y) (h : L + M ≤ 4000000000) : frac_Equal_m a b = some (decide (x = y)) := by
  unfold frac_Equal_m
  simp only [zeta', zetaQ, zetaP, ha.cmp hb h, bsm]
  congr 1
  rw [decide_eq_decide]; exact cmpQ_eq0
theorem Rep.max (ha : Rep L a x) (hb : Rep M b y) (h : L + M ≤ 4000000000) : frac_Max_m a b = some (qn (maxQ x y)) ∧ Rep (L + M) (qn (maxQ x y)) (maxQ x y) := by
  have l1 := ha.l1
  have hf : FQ (L + M) (maxQ x y) := by
    unfold maxQ
    split
    · exact hb.fq.mono (by omega)
    · exact ha.fq.mono (by omega)
  refine ⟨?_, hf.rep (by omega)⟩
  unfold frac_Max_m maxQ
  simp only [zeta', zetaQ, zetaP, hb.cmp ha (by omega), bsm, (ha.canon (by omega)).1, (hb.canon (by omega)).1]
  by_cases e : x < y
  · rw [decide_eq_true (cmpQ_pos.2 e), ctm, if_pos e]
  · rw [decide_eq_false (fun q => e (cmpQ_pos.1 q)), cfm, if_neg e]
theorem fromInt64_eq {n : Int} (hn : i64ok n) : frac_FromInt64_m n = some (qn (n : Rat)) ∧ Rep 2 (qn (n : Rat)) (n : Rat) := by
  refine ⟨?_, (FQ.int (small_fit hn) (by decide)).rep (by decide)⟩
  unfold frac_FromInt64_m
  simp only [zeta', bsm, fromInt_eq hn.1 hn.2]
  rw [qn_int]
theorem rep_pair {n d : Int} (h0 : d ≠ 0) (hn : Fit L n) (hd : Fit L d) (h : 1 ≤ L) : Rep L ⟨zn n, zn d⟩ (Rat.divInt n d) := by
  refine ⟨fun x hx => can_lt (by decide) hx, fun x hx => can_lt (by decide) hx, (can_len_iff (by decide)).2 hn, (can_len_iff (by decide)).2 hd, h, ?_⟩
  unfold qv qd
  simp only [zi_zn]
  rw [if_neg h0]
end ops
end Go.Proofs.YtfoldppidpmchaaGreat
namespace Go.Proofs.YtfoldppidpmchaaGreat
open Go.Fw
def vq (n : Nat) (h : Nat → Rat) : List Qr := (List.range n).map fun i => qn (h i)
structure RepV (L : Nat) (v : List Qr) (f : Nat → Rat) : Prop where
  e : ∀ i (h : i < v.length), Rep L v[i] (f i)
  z : ∀ i, v.length ≤ i → f i = 0
  l1 : 1 ≤ L
theorem vq_len (n : Nat) (h : Nat → Rat) : (vq n h).length = n := by simp [vq]
theorem vq_get' {n i : Nat} {h : Nat → Rat} (hi : i < (vq n h).length) : (vq n h)[i] = qn (h i) := by simp [vq]
theorem vq_succ (n : Nat) (h : Nat → Rat) : vq (n + 1) h = vq n h ++ [qn (h n)] := by simp [vq, List.range_succ]
theorem vq_zero (h : Nat → Rat) : vq 0 h = [] := rfl
theorem vq_congr {n : Nat} {h k : Nat → Rat} (e : ∀ i, i < n → h i = k i) : vq n h = vq n k := by
  unfold vq
  apply List.map_congr_left
  intro i hi
  rw [e i (List.mem_range.1 hi)]
theorem vq_rep {L n : Nat} {h : Nat → Rat} (hf : ∀ i, i < n → FQ L (h i)) (hz : ∀ i, n ≤ i → h i = 0) (h1 : 1 ≤ L) : RepV L (vq n h) h := by
  refine ⟨fun i hi => ?_, fun i hi => hz i (by rwa [vq_len] at hi), h1⟩
  rw [vq_get' hi]
  exact (hf i (by rwa [vq_len] at hi)).rep h1
def qz : Qr := ⟨⟨false, []⟩, ⟨false, []⟩⟩
theorem qn_zero : qn 0 = qz := rfl
theorem rep_zero {L : Nat} (h : 1 ≤ L) : Rep L qz 0 := ⟨by simp [qz], by simp [qz], by simp [qz], by simp [qz], h, by decide⟩
theorem fq_zero {L : Nat} (h : 1 ≤ L) : FQ L 0 := (rep_zero h).fq
def qat (v : List Qr) (i : Nat) : Qr := v.getD i qz
theorem RepV.at {L : Nat} {v : List Qr} {f : Nat → Rat} (h : RepV L v f) (i : Nat) : Rep L (qat v i) (f i) := by
  unfold qat
  by_cases hi : i < v.length
  · rw [List.getD_eq_getElem?_getD, List.getElem?_eq_getElem hi]; exact h.e i hi
  · rw [List.getD_eq_getElem?_getD, List.getElem?_eq_none (by omega), h.z i (by omega)]; exact rep_zero h.l1
theorem RepV.fq {L : Nat} {v : List Qr} {f : Nat → Rat} (h : RepV L v f) (i : Nat) : FQ L (f i) := (h.at i).fq
theorem RepV.mono {L M : Nat} {v : List Qr} {f : Nat → Rat} (h : RepV L v f) (hl : L ≤ M) : RepV M v f := ⟨fun i hi => (h.e i hi).mono hl, h.z, Nat.le_trans h.l1 hl⟩
theorem RepV.nil {L : Nat} (h : 1 ≤ L) : RepV L [] (fun _ => 0) := ⟨fun i hi => by simp at hi, fun _ _ => rfl, h⟩
theorem RepV.get {L : Nat} {v : List Qr} {f : Nat → Rat} (h : RepV L v f) {i : Nat} (hi : i < v.length) : ∃ q, v[i]? = some q ∧ Rep L q (f i) := ⟨v[i], by simp, h.e i hi⟩
theorem RepV.congr {L : Nat} {v : List Qr} {f g : Nat → Rat} (h : RepV L v f) (e : ∀ i, f i = g i) : RepV L v g := by
  have : f = g := funext e
  rw [← this]; exact h
def vval (v : List Qr) (i : Nat) : Rat := qv (qat v i)
theorem repv_of {L : Nat} {v : List Qr} (h : ∀ q ∈ v, Rep L q (qv q)) (h1 : 1 ≤ L) : RepV L v (vval v) := by
  refine ⟨fun i hi => ?_, fun i hi => ?_, h1⟩
  · have e : qat v i = v[i] := by unfold qat; rw [List.getD_eq_getElem?_getD, List.getElem?_eq_getElem hi]; rfl
    unfold vval
    rw [e]; exact h _ (List.getElem_mem hi)
  · unfold vval qat
    rw [List.getD_eq_getElem?_getD, List.getElem?_eq_none hi]; decide
def sumQ (h : Nat → Rat) : Nat → Rat
  | 0 => 0
  | n + 1 => sumQ h n + h n
theorem sumQ_congr {h k : Nat → Rat} : ∀ {n : Nat}, (∀ i, i < n → h i = k i) → sumQ h n = sumQ k n
  | 0, _ => rfl
  | n + 1, e => by rw [sumQ, sumQ, sumQ_congr (fun i hi => e i (by omega)), e n (by omega)]
theorem sumQ_mul (c : Rat) (h : Nat → Rat) : ∀ n, sumQ (fun i => c * h i) n = c * sumQ h n
  | 0 => by simp [sumQ]
  | n + 1 => by rw [sumQ, sumQ, sumQ_mul c h n]; grind
theorem sumQ_zero : ∀ n, sumQ (fun _ => 0) n = 0
  | 0 => rfl
  | n + 1 => by rw [sumQ, sumQ_zero n]; grind
theorem sumQ_ext {h : Nat → Rat} {n m : Nat} (hnm : n ≤ m) (hz : ∀ i, n ≤ i → i < m → h i = 0) : sumQ h m = sumQ h n := by
  induction m with
  | zero => rw [show n = 0 by omega]
  | succ m ih =>
    rcases Nat.lt_or_ge m n with q | q
    · rw [show n = m + 1 by omega]
    · rw [sumQ, ih q (fun i h1 h2 => hz i h1 (by omega)), hz m q (by omega)]; grind
theorem sumQ_fq {L : Nat} {h : Nat → Rat} : ∀ {n : Nat}, (∀ i, i < n → FQ L (h i)) → FQ (n * (L + 1) + 1) (sumQ h n)
  | 0, _ => fq_zero (by omega)
  | n + 1, e => by
    rw [sumQ]
    exact ((sumQ_fq (fun i hi => e i (by omega))).add (e n (by omega))).mono (by rw [Nat.add_mul]; omega)
end Go.Proofs.YtfoldppidpmchaaGreat
namespace Go.Proofs.YtfoldppidpmchaaGreat
open Go.Fw
theorem min_len {α β : Type} (a : List α) (b : List β) : min (a.length : Int) (b.length : Int) = ((min a.length b.length : Nat) : Int) := by omega
theorem RepV.gd {L : Nat} {v : List Qr} {f : Nat → Rat} (h : RepV L v f) (k : Nat) : Rep L (v.getD k (⟨⟨false, []⟩, ⟨false, []⟩⟩ : Qr)) (f k) := h.at k
theorem vq_set {n k : Nat} {h : Nat → Rat} (hk : k < n) : (vq k h ++ List.replicate (n - k) qz).set k (qn (h k)) = vq (k + 1) h ++ List.replicate (n - (k + 1)) qz := by
  rw [show n - k = (n - (k + 1)) + 1 by omega, List.replicate_succ, List.set_append_right _ _ (by rw [vq_len]; exact Nat.le_refl _), vq_len, Nat.sub_self, vq_succ, List.append_assoc]; rfl
theorem vq_pad {n c : Nat} {h : Nat → Rat} (hc : c ≤ n) (hz : ∀ i, c ≤ i → i < n → h i = 0) : vq c h ++ List.replicate (n - c) qz = vq n h := by
  induction n with
  | zero => rw [show c = 0 by omega]; rfl
  | succ n ih =>
    rcases Nat.lt_or_ge n c with q | q
    · rw [show c = n + 1 by omega, Nat.sub_self]; simp
    · rw [show n + 1 - c = (n - c) + 1 by omega, List.replicate_succ', ← List.append_assoc, ih q (fun i h1 h2 => hz i h1 (by omega)), vq_succ, hz n q (by omega), qn_zero]
theorem vqz_len {n k : Nat} {h : Nat → Rat} (hk : k ≤ n) : (vq k h ++ List.replicate (n - k) qz).length = n := by rw [List.length_append, vq_len, List.length_replicate]; omega
section ops
variable {K L M : Nat} {c : Qr} {a b : List Qr} {k : Rat} {f g : Nat → Rat}
theorem vscale (hc : Rep K c k) (ha : RepV L a f) (h : K + L ≤ 4000000000) (la : a.length ≤ 1000000) : vec_Scale_m c a = some (vq a.length fun i => k * f i) ∧ RepV (K + L) (vq a.length fun i => k * f i) (fun i => k * f i) := by
  have hl1 := ha.l1
  refine ⟨?_, vq_rep (fun i _ => hc.fq.mul (ha.fq i)) (fun i hi => ?_) (by omega)⟩
  · unfold vec_Scale_m
    obtain ⟨⟨_, _⟩, ⟨_, _⟩⟩ := c
    refine bind_eq rfl <| bind_eq (mkM_of (by omega) (by omega)) <| bind_eq rfl ?_
    refine bind_loop_to (fun j => ((j : Int), vq j (fun i => k * f i) ++ List.replicate (a.length - j) qz)) a.length (vq a.length fun i => k * f i) rfl (fun j hj => ?_) ?_ rfl
    · obtain ⟨q, hq, rq⟩ := ha.get hj
      have e3 := (hc.mul rq h).1
      obtain ⟨q3, h3⟩ : ∃ q, qn (k * f j) = q := ⟨_, rfl⟩
      have h4 := vq_set (h := fun i => k * f i) hj
      rw [h3] at e3 h4
      obtain ⟨⟨_, _⟩, ⟨_, _⟩⟩ := q
      obtain ⟨⟨_, _⟩, ⟨_, _⟩⟩ := q3
      refine bind_eq rfl <| bif_t (decide_eq_true (by omega)) <| bind_eq (geti_nat hq) <| bind_eq e3 <| bind_eq (cki_nat (by rw [vqz_len (by omega)]; exact hj)) <| bind_eq (stM_of (by rw [vqz_len (by omega)]; exact hj)) <| bind_eq rfl ?_
      rw [w64_succ (by omega), h4]
    · refine bind_eq rfl <| bif_f (decide_eq_false (by omega)) ?_
      simp
  · rw [ha.z i hi]; grind
end ops
end Go.Proofs.YtfoldppidpmchaaGreat
namespace Go.Proofs.YtfoldppidpmchaaGreat
open Go.Fw
def lexQ (f g : Nat → Rat) : Nat → Int
  | 0 => 0
  | n + 1 => if lexQ f g n ≠ 0 then lexQ f g n else cmpQ (f n) (g n)
def gtQ (f g : Nat → Rat) : Nat → Option Nat
  | 0 => none
  | n + 1 => match gtQ f g n with | some k => some k | none => if g n < f n then some n else none
theorem lexQ_eq0 {f g : Nat → Rat} : ∀ {n : Nat}, lexQ f g n = 0 ↔ ∀ i, i < n → f i = g i
  | 0 => by simp [lexQ]
  | n + 1 => by
    rw [lexQ]
    by_cases h : lexQ f g n = 0
    · rw [if_neg (by simpa using h), cmpQ_eq0]
      have := lexQ_eq0.1 h
      refine ⟨fun e i hi => ?_, fun e => e n (by omega)⟩
      rcases Nat.lt_or_ge i n with q | q
      · exact this i q
      · obtain rfl : i = n := by omega
        exact e
    · rw [if_pos h]
      refine ⟨fun e => absurd e h, fun e => absurd (lexQ_eq0.2 (fun i hi => e i (by omega))) h⟩
section ops
variable {K L M : Nat} {c : Qr} {a b : List Qr} {k : Rat} {f g : Nat → Rat}
theorem dot1 {x y z : Rat} {p q r : Qr} (hp : Rep K p x) (hq : Rep L q y) (hr : Rep M r z) (hz : r = qn z) (h : K + L + M ≤ 4000000000) : vec_Dot_1_m p q r = some (qn (z + x * y)) := by
  have e1 := hp.mul hq (by omega)
  have e2 := (hr.add e1.2 (by omega)).1
  have s1 := hp.sign (by omega)
  have s2 := hq.sign (by omega)
  replace e1 := e1.1
  obtain ⟨⟨_, _⟩, ⟨_, _⟩⟩ := p
  obtain ⟨⟨_, _⟩, ⟨_, _⟩⟩ := q
  obtain ⟨⟨_, _⟩, ⟨_, _⟩⟩ := r
  generalize qn (x * y) = w at e1 e2
  obtain ⟨⟨_, _⟩, ⟨_, _⟩⟩ := w
  unfold vec_Dot_1_m
  refine bind_eq s1 <| bind_eq rfl ?_
  by_cases h1 : x = 0
  · refine bind_eq (bif_f (decide_eq_false (by rw [h1, cmpQ_self]; simp)) rfl) ?_
    rw [show z + x * y = z by rw [h1]; grind, ← hz]; rfl
  · by_cases h2 : y = 0
    · refine bind_eq (bif_t (decide_eq_true (fun e => h1 (cmpQ_zero.1 e))) (bind_eq s2 (bind_eq rfl rfl))) ?_
      refine bif_f (decide_eq_false (by rw [h2, cmpQ_self]; simp)) ?_
      rw [show z + x * y = z by rw [h2]; grind, ← hz]
    · refine bind_eq (bif_t (decide_eq_true (fun e => h1 (cmpQ_zero.1 e))) (bind_eq s2 (bind_eq rfl rfl))) ?_
      refine bif_t (decide_eq_true (fun e => h2 (cmpQ_zero.1 e))) ?_
      obtain ⟨w3, h3⟩ : ∃ w, qn (z + x * y) = w := ⟨_, rfl⟩
      rw [h3] at e2 ⊢
      obtain ⟨⟨_, _⟩, ⟨_, _⟩⟩ := w3
      exact bind_eq e1 <| bind_eq e2 rfl
theorem take_gd {n i : Nat} (hi : i < n) : (a.take n).getD i (⟨⟨false, []⟩, ⟨false, []⟩⟩ : Qr) = a.getD i (⟨⟨false, []⟩, ⟨false, []⟩⟩ : Qr) := by
  simp [List.getD, List.getElem?_take, hi]
theorem tup (q : Qr) : (⟨⟨(q.num.neg, q.num.w, q.den.neg, q.den.w).1, (q.num.neg, q.num.w, q.den.neg, q.den.w).2.1⟩, ⟨(q.num.neg, q.num.w, q.den.neg, q.den.w).2.2.1, (q.num.neg, q.num.w, q.den.neg, q.den.w).2.2.2⟩⟩ : Qr) = q := by cases q; rfl
theorem vdot (ha : RepV L a f) (hb : RepV M b g) (h : (min a.length b.length + 2) * (L + M + 1) ≤ 4000000000) : vec_Dot_m a b = some (qn (sumQ (fun i => f i * g i) (min a.length b.length))) ∧ Rep (min a.length b.length * (L + M + 1) + 1) (qn (sumQ (fun i => f i * g i) (min a.length b.length))) (sumQ (fun i => f i * g i) (min a.length b.length)) := by
  have hs : ∀ n, FQ (n * (L + M + 1) + 1) (sumQ (fun i => f i * g i) n) := fun n => sumQ_fq (fun i _ => (ha.fq i).mul (hb.fq i))
  refine ⟨?_, (hs _).rep (by omega)⟩
  unfold vec_Dot_m
  have hm : ∀ n : Nat, n ≤ min a.length b.length → n * (L + M + 1) ≤ min a.length b.length * (L + M + 1) := fun n hn => Nat.mul_le_mul_right _ hn
  rw [Nat.add_mul] at h
  refine bind_eq rfl <| bind_eq rfl <| bind_eq (congrArg some (min_len a b)) <| bind_eq (subM_zero (by omega)) <| bind_eq (subM_zero (by omega)) ?_
  rw [show max (a.take (min a.length b.length)).length (b.take (min a.length b.length)).length = min a.length b.length by simp only [List.length_take]; omega]
  refine bind_range (fun j => ((qn (sumQ (fun i => f i * g i) j)).num.neg, (qn (sumQ (fun i => f i * g i) j)).num.w, (qn (sumQ (fun i => f i * g i) j)).den.neg, (qn (sumQ (fun i => f i * g i) j)).den.w)) rfl (fun j hj => ?_) rfl
  have hmj := hm j (by omega)
  have e1 := dot1 (ha.gd j) (hb.gd j) ((hs j).rep (by omega)) rfl (by omega)
  simp only [sumQ]
  generalize hq0 : qn (sumQ (fun i => f i * g i) j) = q0 at e1 ⊢
  generalize hq3 : qn (sumQ (fun i => f i * g i) j + f j * g j) = q3 at e1 ⊢
  rw [← take_gd (a := a) hj, ← take_gd (a := b) hj] at e1
  generalize (a.take (min a.length b.length)).getD j (⟨⟨false, []⟩, ⟨false, []⟩⟩ : Qr) = q1 at e1 ⊢
  generalize (b.take (min a.length b.length)).getD j (⟨⟨false, []⟩, ⟨false, []⟩⟩ : Qr) = q2 at e1 ⊢
  obtain ⟨⟨_, _⟩, ⟨_, _⟩⟩ := q0
  obtain ⟨⟨_, _⟩, ⟨_, _⟩⟩ := q1
  obtain ⟨⟨_, _⟩, ⟨_, _⟩⟩ := q2
  obtain ⟨⟨_, _⟩, ⟨_, _⟩⟩ := q3
  exact bind_eq rfl <| bind_eq rfl <| bind_eq e1 rfl
theorem vcmp (ha : RepV L a f) (hb : RepV M b g) (h : L + M ≤ 4000000000) : vec_Compare_m a b = some (lexQ f g (max a.length b.length)) := by
  unfold vec_Compare_m
  generalize max a.length b.length = n
  refine bind_eq (a := if lexQ f g n ≠ 0 then .inr (lexQ f g n) else .inl ()) ?_ ?_
  · induction n with
    | zero => rfl
    | succ n ih =>
      rw [rangeX]
      refine bind_eq ih ?_
      by_cases h0 : lexQ f g n = 0
      · have hl : lexQ f g (n + 1) = cmpQ (f n) (g n) := by rw [lexQ, if_neg (by simpa using h0)]
        rw [hl, if_neg (show ¬ lexQ f g n ≠ 0 by simpa using h0)]
        have e1 := (ha.gd n).cmp (hb.gd n) h
        generalize a.getD n (⟨⟨false, []⟩, ⟨false, []⟩⟩ : Qr) = q1 at e1 ⊢
        generalize b.getD n (⟨⟨false, []⟩, ⟨false, []⟩⟩ : Qr) = q2 at e1 ⊢
        obtain ⟨⟨_, _⟩, ⟨_, _⟩⟩ := q1
        obtain ⟨⟨_, _⟩, ⟨_, _⟩⟩ := q2
        refine bind_eq rfl <| bind_eq rfl <| bind_eq e1 <| bind_eq rfl ?_
        by_cases h1 : cmpQ (f n) (g n) = 0
        · rw [if_neg (by simpa using h1)]; exact bif_f (decide_eq_false (by simpa using h1)) rfl
        · rw [if_pos h1]; exact bif_t (decide_eq_true h1) rfl
      · have hl : lexQ f g (n + 1) = lexQ f g n := by rw [lexQ, if_pos h0]
        rw [hl, if_pos h0]
  · by_cases h0 : lexQ f g n = 0
    · rw [if_neg (by simpa using h0), h0]
    · rw [if_pos h0]
theorem veq (ha : RepV L a f) (hb : RepV M b g) (h : L + M ≤ 4000000000) : vec_Equal_m a b = some (decide (∀ i, i < max a.length b.length → f i = g i)) := by
  unfold vec_Equal_m
  refine bind_eq (vcmp ha hb h) <| bind_eq rfl ?_
  congr 1
  rw [decide_eq_decide]; exact lexQ_eq0
theorem veqT (ha : RepV L a f) (hb : RepV M b g) (h : L + M ≤ 4000000000) (e : ∀ i, f i = g i) : vec_Equal_m a b = some true := by
  rw [veq ha hb h, decide_eq_true (fun i _ => e i)]
theorem vgt (ha : RepV L a f) (hb : RepV M b g) (h : L + M ≤ 4000000000) (la : a.length ≤ 1000000) (lb : b.length ≤ 1000000) : vec_FirstGreater_m a b = some (match gtQ f g (max a.length b.length) with | some k => ((k : Int), true) | none => (0, false)) := by
  unfold vec_FirstGreater_m
  have hn : max a.length b.length ≤ 1000000 := by omega
  generalize max a.length b.length = n at hn ⊢
  refine bind_eq (a := match gtQ f g n with | some k => .inr ((k : Int), true) | none => .inl (n : Int)) ?_ ?_
  · induction n with
    | zero => rfl
    | succ n ih =>
      rw [rangeX]
      refine bind_eq (ih (by omega)) ?_
      rw [gtQ]
      cases h0 : gtQ f g n with
      | some k => rfl
      | none =>
        have e1 := (ha.gd n).cmp (hb.gd n) h
        generalize a.getD n (⟨⟨false, []⟩, ⟨false, []⟩⟩ : Qr) = q1 at e1 ⊢
        generalize b.getD n (⟨⟨false, []⟩, ⟨false, []⟩⟩ : Qr) = q2 at e1 ⊢
        obtain ⟨⟨_, _⟩, ⟨_, _⟩⟩ := q1
        obtain ⟨⟨_, _⟩, ⟨_, _⟩⟩ := q2
        refine bind_eq rfl <| bind_eq rfl <| bind_eq e1 <| bind_eq rfl ?_
        by_cases h1 : g n < f n
        · rw [if_pos h1]; exact bif_t (decide_eq_true (cmpQ_pos.2 h1)) rfl
        · rw [if_neg h1]; refine bif_f (decide_eq_false (fun e => h1 (cmpQ_pos.1 e))) <| bind_eq rfl ?_
          rw [w64_succ (by omega)]
  · cases gtQ f g n <;> rfl
end ops
end Go.Proofs.YtfoldppidpmchaaGreat
namespace Go.Proofs.YtfoldppidpmchaaGreat
open Go.Fw
theorem v16_lt {l : List Nat} (h : H16 l) : v16 l < 65536 ^ l.length := val_lt l h.1
theorem tm {a : Nat} : Int.tmod (a : Int) 65536 = ((a % 65536 : Nat) : Int) := by
  rw [Int.tmod_eq_emod_of_nonneg (by omega)]; omega
theorem td {a : Nat} : Int.tdiv (a : Int) 65536 = ((a / 65536 : Nat) : Int) := by
  rw [Int.tdiv_eq_ediv_of_nonneg (by omega)]; omega
theorem rcmp_eq (l k : List Nat) (hl : H16 l) (hk : H16 k) : ref01_cmp_m (zl l) (zl k) = some (cmpN (v16 l) (v16 k)) := by
  unfold ref01_cmp_m
  simp only [bsm]
  rw [zl_len, zl_len, show max (l.length : Int) (k.length : Int) = ((max l.length k.length : Nat) : Int) by omega, w64_id (by have := hl.2; have := hk.2; omega) (by have := hl.2; have := hk.2; omega)]
  have h1 : v16 l < 65536 ^ (max l.length k.length) := Nat.lt_of_lt_of_le (v16_lt hl) (Nat.pow_le_pow_right (by decide) (by omega))
  have h2 : v16 k < 65536 ^ (max l.length k.length) := Nat.lt_of_lt_of_le (v16_lt hk) (Nat.pow_le_pow_right (by decide) (by omega))
  have hm : max l.length k.length ≤ 100000000000 := by have := hl.2; have := hk.2; omega
  have a1 := at_eq hl.1
  have a2 := at_eq hk.1
  generalize v16 l = V at *
  generalize v16 k = W at *
  generalize max l.length k.length = n at *
  refine bind_loop (fun y => ∃ m : Nat, y = (m : Int) - 1 ∧ m ≤ n ∧ V / 65536 ^ m = W / 65536 ^ m) (fun e => (∃ c, e = .inl c ∧ V = W) ∨ e = .inr (cmpN V W)) (fun y => (y + 1).toNat) ?_ ⟨n, rfl, Nat.le_refl _, by rw [Nat.div_eq_of_lt h1, Nat.div_eq_of_lt h2]⟩ ?_
  · rintro _ ⟨m, rfl, hmn, he⟩
    rcases m with _ | m
    · right
      refine ⟨_, rfl, .inl ⟨_, rfl, ?_⟩⟩
      simpa using he
    · rw [show ((m + 1 : Nat) : Int) - 1 = (m : Int) by omega, show decide ((0 : Int) ≤ (m : Int)) = true by simp, ctm, a1, bsm, a2, bsm]
      rcases dig_cases he with ⟨hd, hq⟩ | ⟨hd, hlt⟩ | ⟨hd, hlt⟩
      · left
        rw [hd, show decide (((W / 65536 ^ m % 65536 : Nat) : Int) < ((W / 65536 ^ m % 65536 : Nat) : Int)) = false by simp, cfm, bsm, bsm, show decide (((W / 65536 ^ m % 65536 : Nat) : Int) < ((W / 65536 ^ m % 65536 : Nat) : Int)) = false by simp, cfm, w64_id (by omega) (by omega)]
        exact ⟨_, rfl, ⟨m, rfl, by omega, hq⟩, by omega⟩
      · right
        rw [show decide (((V / 65536 ^ m % 65536 : Nat) : Int) < ((W / 65536 ^ m % 65536 : Nat) : Int)) = true by rw [decide_eq_true_eq]; omega, ctm]
        exact ⟨_, rfl, .inr (by rw [cmpN_lt hlt])⟩
      · right
        rw [show decide (((V / 65536 ^ m % 65536 : Nat) : Int) < ((W / 65536 ^ m % 65536 : Nat) : Int)) = false by rw [decide_eq_false_iff_not]; omega, cfm, bsm, bsm, show decide (((W / 65536 ^ m % 65536 : Nat) : Int) < ((V / 65536 ^ m % 65536 : Nat) : Int)) = true by rw [decide_eq_true_eq]; omega, ctm]
        exact ⟨_, rfl, .inr (by rw [cmpN_gt hlt])⟩
  · rintro e (⟨c, rfl, rfl⟩ | rfl)
    · rw [cmpN_eq]
    · rfl
theorem radd_eq (l k : List Nat) (hl : H16 l) (hk : H16 k) : ref01_add_m (zl l) (zl k) = some (zl (can 65536 (v16 l + v16 k))) := by
  unfold ref01_add_m
  have h1 : v16 l < 65536 ^ (max l.length k.length) := Nat.lt_of_lt_of_le (v16_lt hl) (Nat.pow_le_pow_right (by decide) (by omega))
  have h2 : v16 k < 65536 ^ (max l.length k.length) := Nat.lt_of_lt_of_le (v16_lt hk) (Nat.pow_le_pow_right (by decide) (by omega))
  have hm : max l.length k.length ≤ 100000000000 := by have := hl.2; have := hk.2; omega
  have a1 := at_eq hl.1
  have a2 := at_eq hk.1
  rw [zl_len, zl_len]
  generalize v16 l = V at *
  generalize v16 k = W at *
  refine bind_loop (fun s => ∃ i : Nat, s = (((cry 65536 V W i : Nat) : Int), (i : Int), zl (dig 65536 i (V + W))) ∧ i ≤ max l.length k.length + 1) (fun e => ∃ i, e = zl (dig 65536 i (V + W)) ∧ V + W < 65536 ^ i ∧ i ≤ max l.length k.length + 1) (fun s => max l.length k.length + 1 - s.2.1.toNat) ?_ ⟨0, by rw [cry_zero]; rfl, by omega⟩ ?_
  · rintro _ ⟨i, rfl, hi⟩
    have hc := cry_le (B := 65536) (by decide) V W i
    have hs1 := cry_step (B := 65536) (by decide) V W i
    have hs2 := cry_dig (B := 65536) (by decide) V W i
    have d1 := Nat.mod_lt (V / 65536 ^ i) (show 0 < 65536 by decide)
    have d2 := Nat.mod_lt (W / 65536 ^ i) (show 0 < 65536 by decide)
    simp only [bsm, letJ]
    have hcond : ∀ (K : Bool → Option ((Int × Int × List Int) ⊕ List Int)), (((bif decide ((i : Int) < (l.length : Int)) then some true else some (decide ((i : Int) < (k.length : Int)))) : Option Bool).bind fun c => ((bif c then some true else some (decide ((0 : Int) < ((cry 65536 V W i : Nat) : Int)))) : Option Bool).bind K) = K (decide (i < max l.length k.length ∨ 0 < cry 65536 V W i)) := by
      intro K
      by_cases q1 : i < l.length
      · have : i < max l.length k.length := by omega
        simp [q1, this]
      · by_cases q2 : i < k.length
        · have : i < max l.length k.length := by omega
          simp [q1, q2, this]
        · have : ¬ i < max l.length k.length := by omega
          simp [q1, q2, this]
    rw [hcond]
    by_cases hgo : i < max l.length k.length ∨ 0 < cry 65536 V W i
    · left
      have hi' : i < max l.length k.length + 1 := by
        rcases Nat.lt_or_ge i (max l.length k.length + 1) with h | h
        · exact h
        · have hie : i = max l.length k.length + 1 := by omega
          have hp : 65536 ^ i = 65536 ^ (max l.length k.length) * 65536 := by rw [hie, Nat.pow_succ]
          have g3 := cry_end (B := 65536) (V := V) (W := W) (k := i) (by omega) (by omega)
          rw [Nat.div_eq_of_lt (by omega)] at g3
          omega
      rw [show decide (i < max l.length k.length ∨ 0 < cry 65536 V W i) = true by rw [decide_eq_true_eq]; exact hgo, ctm, a1, bsm, a2, bsm, w64_add (by omega), w64_add (by omega), tm, td, hs1, hs2, apM1 (by decide) (by rw [zl_len, dig_len]; omega), bsm, w64_nat (by have := cry_le (B := 65536) (by decide) V W (i + 1); omega), w64_succ (by omega)]
      refine ⟨_, rfl, ⟨i + 1, ?_, by omega⟩, by simp only []; omega⟩
      rw [dig_succ, zl_app, zl_one]
    · right
      rw [show decide (i < max l.length k.length ∨ 0 < cry 65536 V W i) = false by rw [decide_eq_false_iff_not]; exact hgo, cfm]
      refine ⟨_, rfl, i, rfl, ?_, hi⟩
      have g1 : V < 65536 ^ i := Nat.lt_of_lt_of_le h1 (Nat.pow_le_pow_right (by decide) (by omega))
      have g2 : W < 65536 ^ i := Nat.lt_of_lt_of_le h2 (Nat.pow_le_pow_right (by decide) (by omega))
      have g3 := cry_end (B := 65536) g1 g2
      rcases Nat.lt_or_ge (V + W) (65536 ^ i) with h | h
      · exact h
      · have := Nat.div_pos h (Nat.pow_pos (by decide)); omega
  · rintro _ ⟨i, rfl, hlt, hi⟩
    rw [rtrim_eq _ (by rw [dig_len]; omega), bsm, trim_dig (by decide) hlt]
theorem rsub_eq (l k : List Nat) (hl : H16 l) (hk : H16 k) (hle : v16 k ≤ v16 l) : ref01_sub_m (zl l) (zl k) = some (zl (can 65536 (v16 l - v16 k))) := by
  unfold ref01_sub_m
  have h1 := v16_lt hl
  have hm := hl.2
  have a1 := at_eq hl.1
  have a2 := at_eq hk.1
  rw [zl_len]
  generalize v16 l = V at *
  generalize v16 k = W at *
  refine bind_loop_to (fun i => (((1 - lnd 65536 V W i : Nat) : Int), (i : Int), zl (dig 65536 i (V - W)))) l.length (zl (dig 65536 l.length (V - W))) ?_ (fun i hi => ?_) ?_ ?_
  · rw [lnd_zero]; rfl
  · have hc := lnd_le (B := 65536) (by decide) V W i
    have hs1 := lnd_step (B := 65536) (by decide) V W i
    have hs2 := lnd_dig (B := 65536) (by decide) hle i
    have d1 := Nat.mod_lt (V / 65536 ^ i) (show 0 < 65536 by decide)
    have d2 := Nat.mod_lt (W / 65536 ^ i) (show 0 < 65536 by decide)
    simp only [bsm, letJ]
    rw [show decide ((i : Int) < (l.length : Int)) = true by simp [hi], ctm, a1, bsm, a2, bsm]
    rw [← hs1, dig_succ, zl_app, zl_one, ← hs2]
    generalize V / 65536 ^ i % 65536 = a at *
    generalize W / 65536 ^ i % 65536 = b at *
    generalize lnd 65536 V W i = c at *
    rw [w64_id (x := (a : Int) - (b : Int)) (by omega) (by omega), w64_id (x := (a : Int) - (b : Int) - ((1 - c : Nat) : Int)) (by omega) (by omega)]
    by_cases hn : (a : Int) - (b : Int) - ((1 - c : Nat) : Int) < 0
    · rw [show decide ((a : Int) - (b : Int) - ((1 - c : Nat) : Int) < 0) = true by rw [decide_eq_true_eq]; exact hn, ctm, w64_id (by omega) (by omega), apM1 (by decide) (by rw [zl_len, dig_len]; omega), bsm, w64_succ (by omega)]
      rw [show (a : Int) - (b : Int) - ((1 - c : Nat) : Int) + 65536 = (((a + (65536 - 1 - b) + c) % 65536 : Nat) : Int) by omega, show (1 - (a + (65536 - 1 - b) + c) / 65536) = 1 by omega]
      rfl
    · rw [show decide ((a : Int) - (b : Int) - ((1 - c : Nat) : Int) < 0) = false by rw [decide_eq_false_iff_not]; exact hn, cfm, apM1 (by decide) (by rw [zl_len, dig_len]; omega), bsm, w64_succ (by omega)]
      rw [show (a : Int) - (b : Int) - ((1 - c : Nat) : Int) = (((a + (65536 - 1 - b) + c) % 65536 : Nat) : Int) by omega, show (1 - (a + (65536 - 1 - b) + c) / 65536) = 0 by omega]
      rfl
  · simp
  · rw [rtrim_eq _ (by rw [dig_len]; omega), bsm, trim_dig (by decide) (by omega)]
theorem rsmall_eq (l : List Nat) (hl : ∀ x ∈ l, x < 65536) (hn : l.length ≤ 3) : ref01_small_m (zl l) = some ((v16 l : Nat) : Int) := by
  unfold ref01_small_m
  simp only [bsm]
  have hV : v16 l < 65536 ^ l.length := val_lt l hl
  have hp : 65536 ^ l.length ≤ 65536 ^ 3 := Nat.pow_le_pow_right (by decide) hn
  rw [show (65536 : Nat) ^ 3 = 281474976710656 by decide] at hp
  rw [zl_len, w64_id (by omega) (by omega)]
  refine bind_loop_to (fun j => (((v16 l / 65536 ^ (l.length - j) : Nat) : Int), (l.length : Int) - 1 - (j : Int))) l.length ((v16 l : Nat) : Int) ?_ (fun j hj => ?_) ?_ rfl
  · rw [show l.length - 0 = l.length by omega, Nat.div_eq_of_lt hV]; simp
  · obtain ⟨m, hm⟩ : ∃ m, l.length = m + j + 1 := ⟨l.length - j - 1, by omega⟩
    have hg := get_val hl (i := m) (by omega)
    have hst := div_step 65536 (v16 l) m
    have hdl : v16 l / 65536 ^ m ≤ v16 l := Nat.div_le_self _ _
    rw [show l.length - j = m + 1 by omega, show l.length - (j + 1) = m by omega, show (l.length : Int) - 1 - (j : Int) = (m : Int) by omega, show (l.length : Int) - 1 - ((j + 1 : Nat) : Int) = (m : Int) - 1 by omega]
    have hd := Nat.mod_lt (v16 l / 65536 ^ m) (show 0 < 65536 by decide)
    simp only []
    rw [show decide ((0 : Int) ≤ (m : Int)) = true by simp, ctm, geti_nat (zl_get hg), bsm]
    generalize v16 l / 65536 ^ (m + 1) = c at *
    generalize v16 l / 65536 ^ m = d at *
    rw [w64_id (x := (c : Int) * 65536) (by omega) (by omega), w64_id (x := (c : Int) * 65536 + ((d % 65536 : Nat) : Int)) (by omega) (by omega), w64_id (x := (m : Int) - 1) (by omega) (by omega), show (c : Int) * 65536 + ((d % 65536 : Nat) : Int) = (d : Int) by omega]
  · simp only []
    rw [show decide ((0 : Int) ≤ (l.length : Int) - 1 - (l.length : Int)) = false by rw [decide_eq_false_iff_not]; omega, cfm, Nat.sub_self, Nat.pow_zero, Nat.div_one]
theorem rback_eq (x : Nat) (hx : x < 281474976710656) : ref01_back_m (x : Int) = some (zl (can 65536 x)) := by
  unfold ref01_back_m
  simp only [bsm]
  rw [tm, td, w64_nat (by omega), tm, td, w64_nat (by omega)]
  have : [((x % 65536 : Nat) : Int), ((x / 65536 % 65536 : Nat) : Int), ((x / 65536 / 65536 : Nat) : Int)] = zl [x % 65536, x / 65536 % 65536, x / 65536 / 65536] := rfl
  rw [this, rtrim_eq _ (by simp), bsm, trim_can (B := 65536) (by decide) (by intro y hy; simp at hy; omega)]
  congr 3
  simp [val]
  omega
theorem rtimes_eq (l : List Nat) (f : Nat) (hl : H16 l) (hf : f < 65536) : ref01_times_m (zl l) (f : Int) = some (zl (can 65536 (v16 l * f))) := by
  unfold ref01_times_m
  have h1 := v16_lt hl
  have hm := hl.2
  have a1 := at_eq hl.1
  rw [zl_len]
  generalize v16 l = V at *
  have hcl := fun i => sC_lt (B := 65536) (V := V) (f := f) (e := 0) (by decide) hf (by decide) i
  refine bind_loop (fun s => ∃ i : Nat, s = (((sC 65536 V f 0 i : Nat) : Int), (i : Int), zl (dig 65536 i (V * f))) ∧ i ≤ l.length + 1) (fun e => ∃ i, e = zl (dig 65536 i (V * f)) ∧ V * f < 65536 ^ i ∧ i ≤ l.length + 1) (fun s => l.length + 1 - s.2.1.toNat) ?_ ⟨0, by rw [sC_zero]; rfl, by omega⟩ ?_
  · rintro _ ⟨i, rfl, hi⟩
    have hc := hcl i
    have hc1 := hcl (i + 1)
    have hs1 := sC_step (B := 65536) (by decide) V f 0 i
    have hs2 := sC_dig (B := 65536) (by decide) V f 0 i
    have d1 := Nat.mod_lt (V / 65536 ^ i) (show 0 < 65536 by decide)
    have hp : V / 65536 ^ i % 65536 * f ≤ 65535 * 65535 := Nat.mul_le_mul (by omega) (by omega)
    rw [Nat.add_zero] at hs2
    simp only [bsm, letJ]
    have hcond : ∀ (K : Bool → Option ((Int × Int × List Int) ⊕ List Int)), (((bif decide ((i : Int) < (l.length : Int)) then some true else some (decide ((0 : Int) < ((sC 65536 V f 0 i : Nat) : Int)))) : Option Bool).bind K) = K (decide (i < l.length ∨ 0 < sC 65536 V f 0 i)) := by
      intro K
      by_cases q1 : i < l.length
      · simp [q1]
      · simp [q1]
    rw [hcond]
    by_cases hgo : i < l.length ∨ 0 < sC 65536 V f 0 i
    · left
      have hi' : i < l.length + 1 := by
        rcases Nat.lt_or_ge i (l.length + 1) with h | h
        · exact h
        · have hie : i = l.length + 1 := by omega
          have g3 := sC_end (B := 65536) (V := V) (f := f) (e := 0) (i := i) (Nat.lt_of_lt_of_le h1 (Nat.pow_le_pow_right (by decide) (by omega)))
          rw [Nat.add_zero, Nat.div_eq_of_lt] at g3
          · omega
          · rw [hie, Nat.pow_succ]; exact Nat.mul_lt_mul'' h1 hf
      rw [show decide (i < l.length ∨ 0 < sC 65536 V f 0 i) = true by rw [decide_eq_true_eq]; exact hgo, ctm, a1, bsm, ← Int.natCast_mul, w64_nat (by omega), w64_add (by omega), tm, td, hs1, hs2, apM1 (by decide) (by rw [zl_len, dig_len]; omega), bsm, w64_nat (by omega), w64_succ (by omega)]
      refine ⟨_, rfl, ⟨i + 1, ?_, by omega⟩, by simp only []; omega⟩
      rw [dig_succ, zl_app, zl_one]
    · right
      rw [show decide (i < l.length ∨ 0 < sC 65536 V f 0 i) = false by rw [decide_eq_false_iff_not]; exact hgo, cfm]
      refine ⟨_, rfl, i, rfl, ?_, hi⟩
      have g3 := sC_end (B := 65536) (V := V) (f := f) (e := 0) (i := i) (Nat.lt_of_lt_of_le h1 (Nat.pow_le_pow_right (by decide) (by omega)))
      rw [Nat.add_zero] at g3
      rcases Nat.lt_or_ge (V * f) (65536 ^ i) with h | h
      · exact h
      · have := Nat.div_pos h (Nat.pow_pos (by decide)); omega
  · rintro _ ⟨i, rfl, hlt, hi⟩
    rw [rtrim_eq _ (by rw [dig_len]; omega), bsm, trim_dig (by decide) hlt]
end Go.Proofs.YtfoldppidpmchaaGreat
namespace Go.Proofs.YtfoldppidpmchaaGreat
open Go.Fw
theorem v16_can (v : Nat) : v16 (can 65536 v) = v := val_can (by decide) v
theorem h16_can {v n : Nat} (h : v < 65536 ^ n) (hn : n ≤ 100000000000) : H16 (can 65536 v) := ⟨fun _ hx => can_lt (by decide) hx, Nat.le_trans ((can_len_iff (by decide)).2 h) hn⟩
end Go.Proofs.YtfoldppidpmchaaGreat
namespace Go.Proofs.YtfoldppidpmchaaGreat
open Go.Fw
theorem td2 {a : Nat} : Int.tdiv (a : Int) 2 = ((a / 2 : Nat) : Int) := by
  rw [Int.tdiv_eq_ediv_of_nonneg (by omega)]; omega
theorem cmpN_le (a b : Nat) : decide (cmpN a b ≤ 0) = decide (a ≤ b) := by
  rcases Nat.lt_trichotomy a b with h | h | h
  · rw [cmpN_lt h]; simp; omega
  · rw [h, cmpN_eq]; simp
  · rw [cmpN_gt h]; simp; omega
theorem rq_dig {B : Nat} (hB : 0 < B) {d : Nat} (hd : 0 < d) (V m : Nat) : (V / B ^ (m + 1) % d * B + V / B ^ m % B) / d = V / d / B ^ m % B := by
  have h1 := q_div (B := B) hd V m
  have h2 := q_lt (B := B) hB hd V m
  rw [Nat.div_div_eq_div_mul V d, Nat.mul_comm d, ← Nat.div_div_eq_div_mul, h1, Nat.mul_add_mod]
  symm
  apply Nat.mod_eq_of_lt
  rw [Nat.div_lt_iff_lt_mul hd, Nat.mul_comm B d]; exact h2
theorem iquo_nat {a b : Nat} (h : b ≠ 0) (ha : a ≤ 9223372036854775807) : iquo (a : Int) (b : Int) = some ((a / b : Nat) : Int) := by
  unfold iquo
  rw [if_neg (by omega), Int.tdiv_eq_ediv_of_nonneg (by omega), ← Int.natCast_ediv, w64_nat (Nat.le_trans (Nat.div_le_self _ _) ha)]
theorem irem_nat {a b : Nat} (h : b ≠ 0) : irem (a : Int) (b : Int) = some ((a % b : Nat) : Int) := by
  unfold irem
  rw [if_neg (by omega), Int.tmod_eq_emod_of_nonneg (by omega), ← Int.natCast_emod]
theorem zl_zeros (n : Nat) : List.replicate n (0 : Int) = zl (dig 65536 n 0) := by rw [dig_zero, zl, List.map_replicate]; rfl
theorem halve_eq {W X : Nat} (hW : 0 < W) {k : List Nat} (hk : H16 k) (hkv : v16 k = W) {xs : List Nat} (hx : H16 xs) (hxv : v16 xs = X) (H : Nat) (hH : 0 < H) (hH2 : H ≤ 65536) (hXH : X < H * W) {R : Type} (f : Int → Option R) (r : R) (hf : f ((X / W : Nat) : Int) = some r) (hkl : k.length ≤ 90000000000) :
    (loopM (fun (s54 : Int × Int) =>
                              match s54 with
                              | ⟨y11l50, y12l50⟩ =>
                                (show Option ((Int × Int) ⊕ (Int)) from
                                  (bif (decide ((1 : Int) < (IntKind.i64.wrap (y12l50 - y11l50)))) then
                                      (ref01_times_m (zl k) (IntKind.i64.wrap (Int.tdiv (IntKind.i64.wrap (y11l50 + y12l50)) 2))).bind fun x102 =>
                                      (ref01_cmp_m x102 (zl xs)).bind fun x104 =>
                                      (bif (decide ((x104 : Int) ≤ 0)) then
                                          some (.inl (IntKind.i64.wrap (Int.tdiv (IntKind.i64.wrap (y11l50 + y12l50)) 2), y12l50))
                                        else
                                          some (.inl (y11l50, IntKind.i64.wrap (Int.tdiv (IntKind.i64.wrap (y11l50 + y12l50)) 2))))
                                    else
                                      some (.inr y11l50)))) ((0 : Int), (H : Int))).bind f = some r := by
  refine bind_loop (fun s => ∃ lo hi : Nat, s = ((lo : Int), (hi : Int)) ∧ lo < hi ∧ hi ≤ 65536 ∧ lo * W ≤ X ∧ X < hi * W) (fun e => e = ((X / W : Nat) : Int)) (fun s => (s.2 - s.1).toNat) ?_ ⟨0, H, rfl, hH, hH2, by simp, hXH⟩ (fun e he => by rw [he]; exact hf)
  rintro _ ⟨lo, hi, rfl, h1, h2, h3, h4⟩
  simp only []
  rw [w64_id (x := (hi : Int) - (lo : Int)) (by omega) (by omega)]
  by_cases hgo : 1 < hi - lo
  · left
    obtain ⟨mid, hmid⟩ : ∃ mid, (lo + hi) / 2 = mid := ⟨_, rfl⟩
    have hml : v16 k * mid < 65536 ^ (k.length + 1) := by rw [Nat.pow_succ]; exact Nat.mul_lt_mul'' (v16_lt hk) (by omega)
    rw [show decide ((1 : Int) < (hi : Int) - (lo : Int)) = true by rw [decide_eq_true_eq]; omega, ctm, w64_add (by omega), td2, hmid, w64_nat (by omega), rtimes_eq _ _ hk (by omega), bsm, rcmp_eq _ _ (h16_can hml (by omega)) hx, bsm, cmpN_le, v16_can, hkv, hxv]
    by_cases hle : W * mid ≤ X
    · rw [show decide (W * mid ≤ X) = true by simp [hle], ctm]
      exact ⟨_, rfl, ⟨mid, hi, rfl, by omega, h2, by rw [Nat.mul_comm]; exact hle, h4⟩, by simp only []; omega⟩
    · rw [show decide (W * mid ≤ X) = false by simp; omega, cfm]
      exact ⟨_, rfl, ⟨lo, mid, rfl, by omega, by omega, h3, by rw [Nat.mul_comm]; omega⟩, by simp only []; omega⟩
  · right
    rw [show decide ((1 : Int) < (hi : Int) - (lo : Int)) = false by rw [decide_eq_false_iff_not]; omega, cfm]
    refine ⟨_, rfl, ?_⟩
    have : hi = lo + 1 := by omega
    subst this
    have : X / W = lo := by
      rw [Nat.div_eq_iff hW]
      rw [Nat.add_mul, Nat.one_mul] at h4
      omega
    rw [this]
theorem rdiv_eq (V W : Nat) (hW : W ≠ 0) (hV : (can 65536 V).length ≤ 80000000000) (hWl : (can 65536 W).length ≤ 80000000000) : ref01_div_m (zl (can 65536 V)) (zl (can 65536 W)) = some (zl (can 65536 (V / W)), zl (can 65536 (V % W))) := by
  have hl16 : H16 (can 65536 V) := ⟨fun _ hx => can_lt (by decide) hx, by omega⟩
  have hk16 : H16 (can 65536 W) := ⟨fun _ hx => can_lt (by decide) hx, by omega⟩
  have hVl := lt_can_len (B := 65536) (by decide) V
  have hWlt := lt_can_len (B := 65536) (by decide) W
  have hW0 : 0 < W := by omega
  unfold ref01_div_m
  simp only [bsm, letJ, zl_len]
  obtain ⟨n, hn⟩ : ∃ n, (can 65536 V).length = n := ⟨_, rfl⟩
  by_cases h3 : n ≤ 3 ∧ (can 65536 W).length ≤ 3
  · rw [hn, show decide ((n : Int) ≤ 3) = true by rw [decide_eq_true_eq]; omega, ctm, bsm, show decide (((can 65536 W).length : Int) ≤ 3) = true by rw [decide_eq_true_eq]; omega, ctm, rsmall_eq _ hl16.1 (by omega), bsm, rsmall_eq _ hk16.1 (by omega), bsm, v16_can, v16_can]
    have hp : V < 281474976710656 := by
      rw [hn] at hVl
      have h2 : 65536 ^ n ≤ 65536 ^ 3 := Nat.pow_le_pow_right (by decide) h3.1
      rw [show (65536 : Nat) ^ 3 = 281474976710656 by decide] at h2
      omega
    have hq : V / W ≤ V := Nat.div_le_self _ _
    have hr : V % W ≤ V := Nat.mod_le _ _
    rw [iquo_nat hW (by omega), bsm, rback_eq _ (by omega), bsm, bsm, bsm, irem_nat hW, bsm, rback_eq _ (by omega), bsm]
  · have hcond : (((bif decide ((n : Int) ≤ 3) then some (decide (((can 65536 W).length : Int) ≤ 3)) else some false) : Option Bool)) = some false := by
      by_cases q1 : n ≤ 3
      · have q2 : ¬ (can 65536 W).length ≤ 3 := fun h => h3 ⟨q1, h⟩
        rw [show decide (((can 65536 W).length : Int) ≤ 3) = false by rw [decide_eq_false_iff_not]; omega]
        exact bif_same _ _
      · rw [show decide ((n : Int) ≤ 3) = false by rw [decide_eq_false_iff_not]; omega, cfm]
    rw [hn] at hVl hV
    have hQ : V / W < 65536 ^ n := Nat.lt_of_le_of_lt (Nat.div_le_self _ _) hVl
    rw [hn, hcond, bsm, cfm, mkM_of (by decide) (by omega), bsm, zl_zeros]
    have hlen : (can 65536 W).length ≠ 0 := fun e => hW (can_nil (by decide) (List.length_eq_zero_iff.1 e))
    by_cases h1 : (can 65536 W).length = 1
    · have hWs : W < 65536 := by rw [h1] at hWlt; simpa using hWlt
      have hg0 : (can 65536 W)[0]? = some W := by rw [can_get (by decide) (by omega)]; simp; exact hWs
      have hgw := geti_zero (zl_get hg0)
      rw [h1, show decide (((1 : Nat) : Int) = 1) = true by simp, ctm, w64_id (by omega) (by omega)]
      refine bind_loop_to (fun j => (((V / 65536 ^ (n - j) % W : Nat) : Int), (n : Int) - 1 - (j : Int), zl (dig 65536 n (V / W / 65536 ^ (n - j) * 65536 ^ (n - j))))) n (((V % W : Nat) : Int), zl (dig 65536 n (V / W))) ?_ (fun j hj => ?_) ?_ ?_
      · rw [Nat.sub_zero, Nat.div_eq_of_lt hVl, Nat.div_eq_of_lt hQ]; simp
      · obtain ⟨m, hm⟩ : ∃ m, n = m + j + 1 := ⟨n - j - 1, by omega⟩
        have hg : (can 65536 V)[m]? = some (V / 65536 ^ m % 65536) := can_get (by decide) (by omega)
        have hdig := rq_dig (B := 65536) (by decide) hW0 V m
        have hrem := q_mod (B := 65536) (d := W) V m
        have hrl := Nat.mod_lt (V / 65536 ^ (m + 1)) hW0
        have hdl := Nat.mod_lt (V / 65536 ^ m) (show 0 < 65536 by decide)
        have hput := ld_put (B := 65536) (by decide) (N := n) (k := m) (by omega) (V / W)
        rw [show n - j = m + 1 by omega, show n - (j + 1) = m by omega, show (n : Int) - 1 - (j : Int) = (m : Int) by omega, show (n : Int) - 1 - ((j + 1 : Nat) : Int) = (m : Int) - 1 by omega]
        simp only []
        rw [show decide ((0 : Int) ≤ (m : Int)) = true by simp, ctm, geti_nat (zl_get hg), bsm, hgw, bsm]
        rw [← hdig] at hput
        rw [hrem, ← hput]
        generalize V / 65536 ^ (m + 1) % W = r at *
        generalize V / 65536 ^ m % 65536 = d at *
        rw [w64_id (x := (r : Int) * 65536) (by omega) (by omega), w64_id (x := (r : Int) * 65536 + (d : Int)) (by omega) (by omega), show (r : Int) * 65536 + (d : Int) = ((r * 65536 + d : Nat) : Int) by omega, iquo_nat hW (by omega), bsm, bsm, irem_nat hW, bsm, cki_nat (by rw [zl_len, dig_len]; omega), bsm, stM_of (by rw [zl_len, dig_len]; omega), bsm, w64_id (x := (m : Int) - 1) (by omega) (by omega), zl_set]
      · simp only []
        rw [show decide ((0 : Int) ≤ (n : Int) - 1 - (n : Int)) = false by rw [decide_eq_false_iff_not]; omega, cfm, Nat.sub_self, Nat.pow_zero, Nat.mul_one, Nat.div_one, Nat.div_one]
      · simp only []
        rw [rtrim_eq _ (by rw [dig_len]; omega), bsm, trim_dig (by decide) hQ, show [((V % W : Nat) : Int)] = zl [V % W] from rfl, rtrim_eq _ (by simp), bsm]
        have hr := Nat.mod_lt V hW0
        rw [trim_can (B := 65536) (l := [V % W]) (by decide) (by intro y hy; simp at hy; omega)]
        simp [val]
    · rw [show decide (((can 65536 W).length : Int) = 1) = false by rw [decide_eq_false_iff_not]; omega, cfm, w64_id (by omega) (by omega)]
      refine bind_loop_to (fun j => (zl (can 65536 (V / 65536 ^ (n - j) % W)), (n : Int) - 1 - (j : Int), zl (dig 65536 n (V / W / 65536 ^ (n - j) * 65536 ^ (n - j))))) n (zl (can 65536 (V % W)), zl (dig 65536 n (V / W))) ?_ (fun j hj => ?_) ?_ ?_
      · rw [Nat.sub_zero, Nat.div_eq_of_lt hVl, Nat.div_eq_of_lt hQ]; simp [can_zero, zl]
      · obtain ⟨m, hm⟩ : ∃ m, n = m + j + 1 := ⟨n - j - 1, by omega⟩
        have hg : (can 65536 V)[m]? = some (V / 65536 ^ m % 65536) := can_get (by decide) (by omega)
        have hdig := rq_dig (B := 65536) (by decide) hW0 V m
        have hrem := q_mod (B := 65536) (d := W) V m
        have hrl := Nat.mod_lt (V / 65536 ^ (m + 1)) hW0
        have hdl := Nat.mod_lt (V / 65536 ^ m) (show 0 < 65536 by decide)
        have hXW := q_lt (B := 65536) (by decide) hW0 V m
        have hput := ld_put (B := 65536) (by decide) (N := n) (k := m) (by omega) (V / W)
        rw [show n - j = m + 1 by omega, show n - (j + 1) = m by omega, show (n : Int) - 1 - (j : Int) = (m : Int) by omega, show (n : Int) - 1 - ((j + 1 : Nat) : Int) = (m : Int) - 1 by omega]
        simp only []
        rw [← hdig] at hput
        rw [hrem, ← hput, show decide ((0 : Int) ≤ (m : Int)) = true by simp, ctm, geti_nat (zl_get hg), bsm]
        generalize V / 65536 ^ (m + 1) % W = r at *
        generalize V / 65536 ^ m % 65536 = d at *
        obtain ⟨X, hX⟩ : ∃ X, r * 65536 + d = X := ⟨_, rfl⟩
        rw [hX] at hXW ⊢
        have hrc : (can 65536 r).length ≤ (can 65536 W).length := (can_len_iff (by decide)).2 (Nat.lt_trans hrl hWlt)
        have hxl : (can 65536 X).length ≤ (can 65536 W).length + 1 := (can_len_iff (by decide)).2 (by rw [Nat.pow_succ]; exact Nat.lt_trans hXW (Nat.mul_lt_mul_of_pos_right hWlt (by decide)))
        have hval : val 65536 (d :: can 65536 r) = X := by
          show d + 65536 * val 65536 (can 65536 r) = X
          rw [val_can (by decide)]; omega
        have hx16 : H16 (can 65536 X) := ⟨fun _ hx => can_lt (by decide) hx, by omega⟩
        rw [apMl (by decide) (by rw [zl_len]; simp; omega), bsm, show [(d : Int)] ++ zl (can 65536 r) = zl (d :: can 65536 r) from rfl, rtrim_eq _ (by simp; omega), bsm, trim_can (B := 65536) (by decide) (by intro y hy; simp at hy; rcases hy with rfl | hy; exact hdl; exact can_lt (by decide) hy), hval]
        have hqW : W * (X / W) ≤ X := Nat.mul_div_le X W
        have hq16 : X / W < 65536 := by rw [Nat.div_lt_iff_lt_mul hW0, Nat.mul_comm]; exact hXW
        have hfin : ((ref01_times_m (zl (can 65536 W)) ((X / W : Nat) : Int)).bind fun x114 => (ref01_sub_m (zl (can 65536 X)) x114).bind fun x115 => (cki (zl (dig 65536 n (V / W / 65536 ^ (m + 1) * 65536 ^ (m + 1)))) (m : Int)).bind fun x116 => (stM (zl (dig 65536 n (V / W / 65536 ^ (m + 1) * 65536 ^ (m + 1)))) x116 ((X / W : Nat) : Int)).bind fun l58 => (some (.inl (x115, IntKind.i64.wrap ((m : Int) - 1), l58)) : Option ((List Int × Int × List Int) ⊕ (List Int × List Int)))) = some (.inl (zl (can 65536 (X % W)), (m : Int) - 1, zl ((dig 65536 n (V / W / 65536 ^ (m + 1) * 65536 ^ (m + 1))).set m (X / W)))) := by
          rw [rtimes_eq _ _ hk16 hq16, bsm, v16_can, rsub_eq _ _ hx16 (h16_can (Nat.lt_of_le_of_lt hqW (lt_can_len (by decide) X)) (by omega)) (by rw [v16_can, v16_can]; exact hqW), bsm, v16_can, v16_can, cki_nat (by rw [zl_len, dig_len]; omega), bsm, stM_of (by rw [zl_len, dig_len]; omega), bsm, w64_id (x := (m : Int) - 1) (by omega) (by omega), zl_set, ← Nat.mod_eq_sub_mul_div]
        rw [zl_len]
        by_cases hsh : (can 65536 X).length < (can 65536 W).length
        · rw [show decide (((can 65536 X).length : Int) < ((can 65536 W).length : Int)) = true by rw [decide_eq_true_eq]; omega, ctm]
          exact halve_eq hW0 hk16 (v16_can W) hx16 (v16_can X) 1 (by decide) (by decide) (by rw [Nat.one_mul]; exact can_lt_len (by decide) hsh) _ _ hfin (by omega)
        · rw [show decide (((can 65536 X).length : Int) < ((can 65536 W).length : Int)) = false by rw [decide_eq_false_iff_not]; omega, cfm]
          exact halve_eq hW0 hk16 (v16_can W) hx16 (v16_can X) 65536 (by decide) (by decide) (by rw [Nat.mul_comm]; exact hXW) _ _ hfin (by omega)
      · simp only []
        rw [show decide ((0 : Int) ≤ (n : Int) - 1 - (n : Int)) = false by rw [decide_eq_false_iff_not]; omega, cfm, Nat.sub_self, Nat.pow_zero, Nat.mul_one, Nat.div_one, Nat.div_one]
      · simp only []
        rw [rtrim_eq _ (by rw [dig_len]; omega), bsm, trim_dig (by decide) hQ]
end Go.Proofs.YtfoldppidpmchaaGreat
