/- A part of the proof: the framework, the plain functions, the followed functions, the plain laws. -/
import Derived.Test.YtfoldppidpmchaaGreatPPC3
set_option linter.unusedVariables false
set_option linter.unusedSimpArgs false
namespace Go.Proofs.YtfoldppidpmchaaGreat
open Go.Fw Go.Fw.Z Go.RowKit
theorem vec_Dot_1_ok {x0 : Qr} {x1 : Qr} {c0 : Qr} {r : Qr} (h : vec_Dot_1_m x0 x1 c0 = some r) : BoxC Tryz.prog 78 [.agg (eQ x0), .agg (eQ x1)] 36 (eQ c0) (.any) (eQ r) := by
 obtain ⟨⟨x0_0, x0_1⟩, ⟨x0_2, x0_3⟩⟩ := x0
 obtain ⟨⟨x1_0, x1_1⟩, ⟨x1_2, x1_3⟩⟩ := x1
 obtain ⟨⟨c0_0, c0_1⟩, ⟨c0_2, c0_3⟩⟩ := c0
 refine boxC_of_ok Tryz.func78 rfl (Nat.le_of_ble_eq_true rfl) (fun wld M β => ?_)
 unfold vec_Dot_1_m at h
 refine sr <| bx rfl <| bx rfl <| dn <| qq ?_
 refine ok_tailJ h (fun j3 => AS.mkL 18 [(2, .ptr 1000 0), (3, .ptr 3 0), (4, .ptr 4 0), (12, .sv (.v (.bool j3)))] [(4, ⟨36, [.sv (.v (.bool x1_0)), .sv (slc 1 (List.map eU32 x1_1)), .sv (.v (.bool x1_2)), .sv (slc 1 (List.map eU32 x1_3))]⟩), (3, ⟨36, [.sv (.v (.bool x0_0)), .sv (slc 1 (List.map eU32 x0_1)), .sv (.v (.bool x0_2)), .sv (slc 1 (List.map eU32 x0_3))]⟩), (1000, ⟨36, [.sv (.v (.bool c0_0)), .sv (slc 1 (List.map eU32 c0_1)), .sv (.v (.bool c0_2)), .sv (slc 1 (List.map eU32 c0_3))]⟩)] []) (fun h => ?_) (fun y12j2 h => ?_)
 refine ok_region <| ld rfl rfl (.cons rfl (.cons rfl (.cons rfl (.cons rfl (.nil))))) <| bE h fun x6 h6 h => cl (frac_Sign_ok h6) ⟨rfl, trivial⟩ <| lE h fun x7 h7 h => ne _ rfl rfl (neI (p := x6) (q := 0) h7) <| mv rfl <| bE h fun c12_6 hg6 h => ?_
 cases x7
 obtain rfl := O (F hg6)
 exact ww <| ww <| ww <| pF rfl <| dn <| ⟨false, h, wR []⟩
 refine gl rfl rfl (.cons rfl (.cons rfl (.cons rfl (.cons rfl (.nil))))) <| bE (V hg6) fun x10 h10 hg6 => gc (frac_Sign_ok h10) ⟨rfl, trivial⟩ <| lE hg6 fun x11 h11 hg6 => gq _ rfl rfl (neI (p := x10) (q := 0) h11) ?_
 obtain rfl := O hg6
 exact pT rfl <| dn <| ⟨x11, h, wR []⟩
 try dsimp only
 refine AThen.n ?_
 refine ok_tailJ h (fun j5 => AS.mkL 18 [(2, .ptr 1000 0)] [(1000, ⟨36, [.sv (.v (.bool j5.1)), .sv (slc 1 (List.map eU32 j5.2.1)), .sv (.v (.bool j5.2.2.1)), .sv (slc 1 (List.map eU32 j5.2.2.2))]⟩)] []) (fun h => ?_) (fun j5 h => ?_)
 cases y12j2
 exact fs <| ⟨(c0_0, c0_1, c0_2, c0_3), (F h), wR []⟩
 refine cT <| ok_region_draw mixed <| ld rfl rfl (.cons rfl (.cons rfl (.cons rfl (.cons rfl (.nil))))) <| ld rfl rfl (.cons rfl (.cons rfl (.cons rfl (.cons rfl (.nil))))) <| ld rfl rfl (.cons rfl (.cons rfl (.cons rfl (.cons rfl (.nil))))) ?_
 obtain ⟨⟨⟨x16_0, x16_1⟩, ⟨x16_2, x16_3⟩⟩, h16, h⟩ := bS (V h)
 refine cl (frac_Mul_ok h16) ⟨rfl, rfl, trivial⟩ ?_
 obtain ⟨⟨⟨x17_0, x17_1⟩, ⟨x17_2, x17_3⟩⟩, h17, h⟩ := bS h
 refine cl (frac_Add_ok h17) ⟨rfl, rfl, trivial⟩ <| so rfl rfl rfl ?_
 refine RT.done ⟨by kernel_rfl, ?_⟩
 exact AThen.n <| ⟨(x17_0, x17_1, x17_2, x17_3), h, wR []⟩
 obtain ⟨b1000_0j4, b1000_1j4, b1000_2j4, b1000_3j4⟩ := j5
 try dsimp only
 obtain rfl := O h
 exact ⟨.inl rfl, res_imp .nil (fun _ _ _ => trivial), rfl⟩
theorem vec_Scale_ok {x0 : Qr} {x1 : List Qr} {r : List Qr} (h : vec_Scale_m x0 x1 = some r) : Pure Tryz.prog 55 [.agg (eQ x0), slc 4 (List.map eQ x1)] (slc 4 (List.map eQ r)) := by
 obtain ⟨⟨x0_0, x0_1⟩, ⟨x0_2, x0_3⟩⟩ := x0
 refine pure_of_ok Tryz.func55 rfl (Nat.le_of_ble_eq_true rfl) (fun wld M vs hvs => ?_)
 unfold vec_Scale_m at h
 refine sr <| bx rfl <| aI rfl (imp_nil (n := 4) (e := eQ)) <| dn <| sr <| mv rfl <| lE h fun x9 h9 h => ln rfl h9 <| bE h fun x10 h10 h => RT.mkRow (n := 4) (e := eQ) .none rfl rfl T rfl T (by rfl) (by decide) (by exact ⟨SV.imp_refl _, imp_nil, SV.imp_refl _, imp_nil, trivial⟩) h10 <| an (s := .row _) rfl <| dn <| qq <| sr <| mv rfl <| lE h fun x12 h12 h => ln rfl h12 <| mv rfl <| dn <| bE h fun e8 hl8 ho8 => ?_
 refine ok_tailP (fun (r10e7 : (List Qr)) => AS.mkL 26 [(5, .row 10)] [] [(10, TR 36 4 eQ r10e7)]) (fun r10e7 => r10e7 = e8) ?_ (fun r10e7 hx8 => ?_)
 refine ok_block ?_
 refine ok_loopM hl8 (fun s8 => AS.mkL 26 [(2, .ptr 2 0), (5, .row 10), (11, .sv (slc 4 (List.map eQ x1))), (12, .sv (.v (.int .i64 x12))), (13, .sv (.v (.int .i64 s8.1)))] [(2, ⟨36, [.sv (.v (.bool x0_0)), .sv (slc 1 (List.map eU32 x0_1)), .sv (.v (.bool x0_2)), .sv (slc 1 (List.map eU32 x0_3))]⟩)] [(10, TR 36 4 eQ s8.2)]) (wR []) (fun s8 y8 G8 h hG8 hE8 => ?_)
 obtain ⟨y13l4, r10l4⟩ := s8
 try dsimp only
 refine sr <| lE h fun x14 h14 h => ls _ rfl rfl h14 <| dn <| qq ?_
 cases x14
 refine cF <| ok_exit <| AThen.x <| AThen.x <| AInB.x <| AThen.n ?_
 obtain rfl := O (F h)
 exact ⟨r10l4, hE8 _ rfl, wR []⟩
 refine cT <| ok_skip <| AThen.n <| qq <| ok_block <| sr <| mv rfl ?_
 obtain ⟨⟨⟨x16_0, x16_1⟩, ⟨x16_2, x16_3⟩⟩, h16, h⟩ := bS (V h)
 refine ix rfl rfl h16 <| RT.loadR (cs := [_, _, _, _]) .none rfl T rfl rfl <| al (cs := [.v (.bool false), slc 1 (List.map eU32 []), .v (.bool false), slc 1 (List.map eU32 [])]) (by exact ⟨SV.imp_refl _, imp_nil, SV.imp_refl _, imp_nil, trivial⟩) rfl <| ag rfl <| so rfl rfl rfl <| dn <| ok_region <| mo (s := .row _) rfl <| mv rfl <| ld rfl rfl (.cons rfl (.cons rfl (.cons rfl (.cons rfl (.nil))))) <| ld rfl rfl (.cons rfl (.cons rfl (.cons rfl (.cons rfl (.nil))))) ?_
 obtain ⟨⟨⟨x22_0, x22_1⟩, ⟨x22_2, x22_3⟩⟩, h22, h⟩ := bS h
 refine cl (frac_Mul_ok h22) ⟨rfl, rfl, trivial⟩ <| bE h fun x23 h23 h => iR rfl rfl rfl h23 <| bE h fun l10 hl10_ h => sA ⟨⟨x22_0, x22_1⟩, ⟨x22_2, x22_3⟩⟩ rfl rfl rfl hl10_ <| RT.done <| AInB.n <| AThen.n <| ok_region <| lE h fun x24 h24 h => ad _ rfl rfl h24 <| mv rfl <| RT.done ?_
 obtain rfl := O h
 exact AThen.n ⟨(x24, l10), hG8 _ rfl, wR []⟩
 subst hx8
 try dsimp only
 refine AThen.n <| sr <| mo (s := .row _) rfl <| an (s := .row _) rfl <| dn <| ok_weak (weak_frzM (i := 10) (E1 := 36) (n := 4) (e := eQ) (l := r10e7) rfl) <| ok_ret ?_
 obtain rfl := O ho8
 exact R1 rfl
theorem vec_Dot_ok {x0 : List Qr} {x1 : List Qr} {r : Qr} (h : vec_Dot_m x0 x1 = some r) : Pure Tryz.prog 32 [slc 4 (List.map eQ x0), slc 4 (List.map eQ x1)] (.agg (eQ r)) := by
 refine pure_of_ok Tryz.func32 rfl (Nat.le_of_ble_eq_true rfl) (fun wld M vs hvs => ?_)
 unfold vec_Dot_m at h
 refine sr <| al (cs := [.v (.bool false), slc 1 (List.map eU32 []), .v (.bool false), slc 1 (List.map eU32 [])]) (by exact ⟨SV.imp_refl _, imp_nil, SV.imp_refl _, imp_nil, trivial⟩) rfl <| dn <| sr <| al (cs := [.v (.bool false), slc 1 (List.map eU32 []), .v (.bool false), slc 1 (List.map eU32 [])]) (by exact ⟨SV.imp_refl _, imp_nil, SV.imp_refl _, imp_nil, trivial⟩) rfl <| dn <| sr <| RT.makeFunc .none (.box rfl (.nil)) T <| RT.alloc .none T rfl rfl <| RT.storeV (cells := [_]) .none (s := .clo _ _) rfl rfl rfl T rfl ?_
 refine dn <| sr <| mv rfl <| lE h fun x12 h12 h => ln rfl h12 <| mv rfl <| lE h fun x14 h14 h => ln rfl h14 <| lE h fun x15 h15 h => RT.min .none _ rfl rfl T (minI (p := x12) (q := x14) h15) <| ag rfl <| dn <| qq <| qq <| ok_region_draw mixed <| mv rfl <| mv rfl <| bE h fun x18 h18 h => RT.sliceM .none 0 x15 rfl rfl ⟨_, rfl⟩ T h18 <| mv rfl <| mv rfl <| bE h fun x21 h21 h => RT.sliceM .none 0 x15 rfl rfl ⟨_, rfl⟩ T h21 <| cl (vec_pairs_ok x18 x21) ⟨rfl, rfl, trivial⟩ ?_
 refine RT.done ⟨by kernel_rfl, ?_⟩
 refine AThen.n <| ok_block <| bE h fun e7 hl7 ho7 => ?_
 obtain ⟨st7, hs7, ht7, hn7⟩ := rangeM_st hl7
 refine ok_rangeFunc (vec_pairs_it x18 x21) (fun _ _ _ _ _ => trivial) rfl (fun k => AS.mkL 30 [(4, .ptr 4 0), (5, .ptr 5 0), (6, .ptr 6 0), (22, .sv (cloS 112 [ref [slc 4 (List.map eQ x18)], ref [slc 4 (List.map eQ x21)]]))] [(6, ⟨91, [.clo 78 [.box 5]]⟩), (5, ⟨36, [.sv (.v (.bool (st7 k).1)), .sv (slc 1 (List.map eU32 (st7 k).2.1)), .sv (.v (.bool (st7 k).2.2.1)), .sv (slc 1 (List.map eU32 (st7 k).2.2.2))]⟩), (4, ⟨36, [.sv (.v (.bool false)), .sv (slc 1 (List.map eU32 [])), .sv (.v (.bool false)), .sv (slc 1 (List.map eU32 []))]⟩)] []) [6, 5, 4] rfl (fun _ => ⟨rfl, rfl⟩) (rangeT rfl) (fun _ => rfl) (rangeP rfl) (by (try dsimp only); rw [hs7]; (try dsimp only); exact weakL id rfl rfl rfl rfl rfl ⟨.ptr, .ptr, .ptr, .sv (SV.imp_refl _), trivial⟩ ⟨⟨_, rfl, ⟨.clo, trivial⟩⟩, ⟨_, rfl, ⟨.sv (SV.imp_refl _), .sv (SV.imp_refl _), .sv (SV.imp_refl _), .sv (SV.imp_refl _), trivial⟩⟩, ⟨_, rfl, ⟨.sv (SV.imp_refl _), .sv (SV.imp_refl _), .sv (SV.imp_refl _), .sv (SV.imp_refl _), trivial⟩⟩, trivial⟩ trivial (fun _ _ => rfl)) (fun k hk D hD => ?_) ?_
 have h := ht7 k hk
 obtain ⟨sk, hsk⟩ : ∃ q, st7 k = q := ⟨_, rfl⟩
 rw [hsk] at h ⊢
 obtain ⟨b5_0l4, b5_1l4, b5_2l4, b5_3l4⟩ := sk
 dsimp only [AS.inR, setPs]
 try dsimp only at h
 obtain ⟨⟨⟨p23_0, p23_1⟩, ⟨p23_2, p23_3⟩⟩, hp23, h⟩ := bS h
 rw [Option.some.inj hp23]
 obtain ⟨⟨⟨p24_0, p24_1⟩, ⟨p24_2, p24_3⟩⟩, hp24, h⟩ := bS h
 rw [Option.some.inj hp24]
 refine sr <| al (cs := [.v (.bool false), slc 1 (List.map eU32 []), .v (.bool false), slc 1 (List.map eU32 [])]) (by exact ⟨SV.imp_refl _, imp_nil, SV.imp_refl _, imp_nil, trivial⟩) rfl <| so rfl rfl rfl <| dn <| ok_region <| al (cs := [.v (.bool false), slc 1 (List.map eU32 []), .v (.bool false), slc 1 (List.map eU32 [])]) (by exact ⟨SV.imp_refl _, imp_nil, SV.imp_refl _, imp_nil, trivial⟩) rfl <| so rfl rfl rfl <| RT.done ?_
 refine AThen.n ⟨rfl, ?_⟩
 dsimp only [AS.goOn]
 refine ok_block <| ok_region <| RT.loadV .none (s := .clo _ _) rfl rfl rfl T <| ld rfl rfl (.cons rfl (.cons rfl (.cons rfl (.cons rfl (.nil))))) <| ld rfl rfl (.cons rfl (.cons rfl (.cons rfl (.cons rfl (.nil))))) ?_
 obtain ⟨⟨⟨k9_0, k9_1⟩, ⟨k9_2, k9_3⟩⟩, h28, h⟩ := bS h
 refine cB (vec_Dot_1_ok h28) 5 rfl ⟨rfl, rfl, trivial⟩ <| RT.done <| AInB.n ?_
 replace h := Option.some.inj h
 refine ⟨trivial, rfl, rfl, ?_⟩
 try dsimp only
 rw [← h]
 try dsimp only
 exact wR []
 rw [hn7]
 obtain ⟨b5_0l4, b5_1l4, b5_2l4, b5_3l4⟩ := e7
 try dsimp only
 refine AInB.n <| AThen.n <| sr <| ld rfl rfl (.cons rfl (.cons rfl (.cons rfl (.cons rfl (.nil))))) <| so rfl rfl rfl <| dn <| ok_ret ?_
 obtain rfl := O ho7
 exact RZ (.agg rfl rfl (.cons rfl (.cons rfl (.cons rfl (.cons rfl (.nil))))) rfl (.nil))
theorem vec_Compare_ok {x0 : List Qr} {x1 : List Qr} {r : Int} (h : vec_Compare_m x0 x1 = some r) : Pure Tryz.prog 36 [slc 4 (List.map eQ x0), slc 4 (List.map eQ x1)] (.v (.int .i64 r)) := by
 refine pure_of_ok Tryz.func36 rfl (Nat.le_of_ble_eq_true rfl) (fun wld M vs hvs => ?_)
 unfold vec_Compare_m at h
 refine sr <| al (cs := [.v (.int .i64 0)]) (by exact ⟨SV.imp_refl _, trivial⟩) rfl <| dn <| qq <| sr <| mv rfl <| mv rfl <| cl (vec_pairs_ok x0 x1) ⟨rfl, rfl, trivial⟩ <| dn <| ok_block <| bE h fun e3 hl3 ho3 => ?_
 obtain ⟨m3, st3, hs3, ht3, hn3⟩ := rangeX_rd hl3
 refine ok_rangeFuncX (vec_pairs_it x0 x1) (fun _ _ _ _ _ => trivial) rfl (fun k => AS.mkL 19 [(4, .ptr 4 0), (10, .sv (cloS 112 [ref [slc 4 (List.map eQ x0)], ref [slc 4 (List.map eQ x1)]]))] [(4, ⟨3, [.sv (.v (.int .i64 0))]⟩)] []) [4] rfl (fun _ => ⟨rfl, rfl⟩) (rangeT rfl) (fun _ => rfl) (rangeP rfl) (by (try dsimp only); (try dsimp only); exact weakL id rfl rfl rfl rfl rfl ⟨.ptr, .sv (SV.imp_refl _), trivial⟩ ⟨⟨_, rfl, ⟨.sv (SV.imp_refl _), trivial⟩⟩, trivial⟩ trivial (fun _ _ => rfl)) m3 (fun k hk hkm D hD => ?_) (fun hdn => ?_)
 obtain ⟨y3, h, hG3, hE3⟩ := ht3 k hk hkm
 dsimp only [AS.inR, setPs]
 try dsimp only at h
 obtain ⟨⟨⟨p11_0, p11_1⟩, ⟨p11_2, p11_3⟩⟩, hp11, h⟩ := bS h
 rw [Option.some.inj hp11]
 obtain ⟨⟨⟨p12_0, p12_1⟩, ⟨p12_2, p12_3⟩⟩, hp12, h⟩ := bS h
 rw [Option.some.inj hp12]
 refine sr <| al (cs := [.v (.bool false), slc 1 (List.map eU32 []), .v (.bool false), slc 1 (List.map eU32 [])]) (by exact ⟨SV.imp_refl _, imp_nil, SV.imp_refl _, imp_nil, trivial⟩) rfl <| so rfl rfl rfl <| dn <| ok_region <| al (cs := [.v (.bool false), slc 1 (List.map eU32 []), .v (.bool false), slc 1 (List.map eU32 [])]) (by exact ⟨SV.imp_refl _, imp_nil, SV.imp_refl _, imp_nil, trivial⟩) rfl <| so rfl rfl rfl <| RT.done ?_
 refine AThen.n ⟨rfl, ?_⟩
 dsimp only [AS.goOn]
 refine ok_block <| sr <| ld rfl rfl (.cons rfl (.cons rfl (.cons rfl (.cons rfl (.nil))))) <| ld rfl rfl (.cons rfl (.cons rfl (.cons rfl (.cons rfl (.nil))))) <| bE h fun x15 h15 h => cl (frac_Cmp_ok h15) ⟨rfl, rfl, trivial⟩ <| ag rfl <| dn <| sr <| mv rfl <| lE h fun x17 h17 h => ne _ rfl rfl (neI (p := x15) (q := 0) h17) <| dn ?_
 cases x17
 refine cF <| ok_skip <| AInB.n ?_
 obtain rfl := O (F h)
 obtain ⟨hm3, hq3⟩ := hG3 _ rfl
 exact ⟨hm3, rfl, rfl, wR []⟩
 refine cT <| sr <| mv rfl <| RT.storeV (cells := [_]) .none (s := .sv _) rfl rfl rfl T rfl <| dn <| ok_ret <| AInB.r ?_
 obtain rfl := O (V h)
 have he3 := hE3 _ rfl
 subst he3
 refine ⟨rfl, rfl, ?_⟩
 refine AInB.r <| AThen.r ?_
 obtain rfl := O ho3
 exact RZ (.one rfl rfl rfl (.nil))
 have hd3 := hn3 hdn
 subst hd3
 obtain ⟨ee3, hee3⟩ : ∃ q, st3 (max x0.length x1.length) = q := ⟨_, rfl⟩
 rw [hee3] at ho3
 try dsimp only
 refine AInB.n <| AThen.n <| sr <| RT.storeV (cells := [_]) .none (s := .sv _) rfl rfl rfl T rfl <| dn <| ok_ret ?_
 obtain rfl := O ho3
 exact RZ (.one rfl rfl rfl (.nil))
theorem vec_Equal_ok {x0 : List Qr} {x1 : List Qr} {r : Bool} (h : vec_Equal_m x0 x1 = some r) : Pure Tryz.prog 37 [slc 4 (List.map eQ x0), slc 4 (List.map eQ x1)] (.v (.bool r)) := by
 refine pure_of_ok Tryz.func37 rfl (Nat.le_of_ble_eq_true rfl) (fun wld M vs hvs => ?_)
 unfold vec_Equal_m at h
 refine sr <| ag rfl <| dn <| sr <| mv rfl <| mv rfl <| bE h fun x7 h7 h => cl (vec_Compare_ok h7) ⟨rfl, rfl, trivial⟩ <| lE h fun x8 h8 h => eq _ rfl rfl (eqI (p := x7) (q := 0) h8) <| ag rfl <| dn <| ok_ret ?_
 obtain rfl := O h
 exact R1 rfl
theorem vec_Resize_ok {x0 : List Qr} {x1 : Int} {r : List Qr} (h : vec_Resize_m x0 x1 = some r) : Pure Tryz.prog 59 [slc 4 (List.map eQ x0), .v (.int .i64 x1)] (slc 4 (List.map eQ r)) := by
 refine pure_of_ok Tryz.func59 rfl (Nat.le_of_ble_eq_true rfl) (fun wld M vs hvs => ?_)
 unfold vec_Resize_m at h
 refine sr <| aI rfl (imp_nil (n := 4) (e := eQ)) <| dn <| qq <| sr <| mv rfl <| lE h fun x8 h8 h => ls _ rfl rfl h8 <| dn ?_
 cases x8
 refine fs <| sr <| mv rfl <| lE (F h) fun x10 h10 h => RT.min .none _ rfl rfl T (minI (p := x1) (q := 65536) h10) <| bE h fun x11 h11 h => RT.mkRow (n := 4) (e := eQ) .none rfl rfl T rfl T (by rfl) (by decide) (by exact ⟨SV.imp_refl _, imp_nil, SV.imp_refl _, imp_nil, trivial⟩) h11 <| an (s := .row _) rfl <| dn <| qq <| sr <| mv rfl <| lE h fun x13 h13 h => ln rfl h13 <| mo (s := .row _) rfl <| lE h fun x15 h15 h => lL rfl rfl h15 <| lE h fun x16 h16 h => ?_
 refine RT.min .none _ rfl rfl T (minI (p := x13) (q := x15) h16) <| mv rfl <| dn <| bE h fun e8 hl8 ho8 => ?_
 refine ok_tailP (fun (r11e7 : (List Qr)) => AS.mkL 30 [(5, .row 11)] [] [(11, TR 36 4 eQ r11e7)]) (fun r11e7 => r11e7 = e8) ?_ (fun r11e7 hx8 => ?_)
 refine ok_block ?_
 refine ok_loopM hl8 (fun s8 => AS.mkL 30 [(0, .sv (slc 4 (List.map eQ x0))), (5, .row 11), (16, .sv (.v (.int .i64 x16))), (17, .sv (.v (.int .i64 s8.1)))] [] [(11, TR 36 4 eQ s8.2)]) (wR []) (fun s8 y8 G8 h hG8 hE8 => ?_)
 obtain ⟨y17l4, r11l4⟩ := s8
 try dsimp only
 refine sr <| lE h fun x18 h18 h => ls _ rfl rfl h18 <| dn <| qq ?_
 cases x18
 refine cF <| ok_exit <| AThen.x <| AThen.x <| AInB.x <| AThen.n ?_
 obtain rfl := O (F h)
 exact ⟨r11l4, hE8 _ rfl, wR []⟩
 refine cT <| ok_skip <| AThen.n <| qq <| ok_block <| sr <| mv rfl <| ag rfl <| dn <| ok_region <| mo (s := .row _) rfl <| mv rfl <| mv rfl <| mv rfl ?_
 obtain ⟨⟨⟨x24_0, x24_1⟩, ⟨x24_2, x24_3⟩⟩, h24, h⟩ := bS (V h)
 refine ix rfl rfl h24 <| RT.loadR (cs := [_, _, _, _]) .none rfl T rfl rfl ?_
 obtain ⟨⟨⟨x26_0, x26_1⟩, ⟨x26_2, x26_3⟩⟩, h26, h⟩ := bS h
 refine cl (frac_Canonical_ok h26) ⟨rfl, trivial⟩ <| bE h fun x27 h27 h => iR rfl rfl rfl h27 <| bE h fun l10 hl10_ h => sA ⟨⟨x26_0, x26_1⟩, ⟨x26_2, x26_3⟩⟩ rfl rfl rfl hl10_ <| RT.done <| AInB.n <| AThen.n <| ok_region <| lE h fun x28 h28 h => ad _ rfl rfl h28 <| mv rfl <| RT.done ?_
 obtain rfl := O h
 exact AThen.n ⟨(x28, l10), hG8 _ rfl, wR []⟩
 subst hx8
 try dsimp only
 refine AThen.n <| sr <| mo (s := .row _) rfl <| an (s := .row _) rfl <| dn <| ok_weak (weak_frzM (i := 11) (E1 := 36) (n := 4) (e := eQ) (l := r11e7) rfl) <| ok_ret ?_
 obtain rfl := O ho8
 exact R1 rfl
 refine cT <| sr <| aI rfl (imp_nil (n := 4) (e := eQ)) <| dn <| ok_ret <| AThen.r ?_
 obtain rfl := O (V h)
 exact R1 rfl
theorem vec_FromInts_ok {x0 : List Int} {r : List Qr} (h : vec_FromInts_m x0 = some r) : Pure Tryz.prog 42 [slc 1 (List.map eI64 x0)] (slc 4 (List.map eQ r)) := by
 refine pure_of_ok Tryz.func42 rfl (Nat.le_of_ble_eq_true rfl) (fun wld M vs hvs => ?_)
 unfold vec_FromInts_m at h
 refine sr <| aI rfl (imp_nil (n := 4) (e := eQ)) <| dn <| sr <| mv rfl <| lE h fun x7 h7 h => ln rfl h7 <| bE h fun x8 h8 h => RT.mkRow (n := 4) (e := eQ) .none rfl rfl T rfl T (by rfl) (by decide) (by exact ⟨SV.imp_refl _, imp_nil, SV.imp_refl _, imp_nil, trivial⟩) h8 <| an (s := .row _) rfl <| dn <| qq <| sr <| mv rfl <| lE h fun x10 h10 h => ln rfl h10 <| mv rfl <| dn <| bE h fun e8 hl8 ho8 => ?_
 refine ok_tailP (fun (r8e7 : (List Qr)) => AS.mkL 23 [(3, .row 8)] [] [(8, TR 36 4 eQ r8e7)]) (fun r8e7 => r8e7 = e8) ?_ (fun r8e7 hx8 => ?_)
 refine ok_block ?_
 refine ok_loopM hl8 (fun s8 => AS.mkL 23 [(3, .row 8), (9, .sv (slc 1 (List.map eI64 x0))), (10, .sv (.v (.int .i64 x10))), (11, .sv (.v (.int .i64 s8.1)))] [] [(8, TR 36 4 eQ s8.2)]) (wR []) (fun s8 y8 G8 h hG8 hE8 => ?_)
 obtain ⟨y11l4, r8l4⟩ := s8
 try dsimp only
 refine sr <| lE h fun x12 h12 h => ls _ rfl rfl h12 <| dn <| qq ?_
 cases x12
 refine cF <| ok_exit <| AThen.x <| AThen.x <| AInB.x <| AThen.n ?_
 obtain rfl := O (F h)
 exact ⟨r8l4, hE8 _ rfl, wR []⟩
 refine cT <| ok_skip <| AThen.n <| qq <| ok_block <| sr <| mv rfl <| bE (V h) fun x14 h14 h => ix rfl rfl h14 <| lr rfl rfl <| ag rfl <| ag rfl <| dn <| ok_region <| mo (s := .row _) rfl <| mv rfl <| mv rfl ?_
 obtain ⟨⟨⟨x19_0, x19_1⟩, ⟨x19_2, x19_3⟩⟩, h19, h⟩ := bS h
 refine cl (frac_FromInt64_ok h19) ⟨rfl, trivial⟩ <| bE h fun x20 h20 h => iR rfl rfl rfl h20 <| bE h fun l10 hl10_ h => sA ⟨⟨x19_0, x19_1⟩, ⟨x19_2, x19_3⟩⟩ rfl rfl rfl hl10_ <| RT.done <| AInB.n <| AThen.n <| ok_region <| lE h fun x21 h21 h => ad _ rfl rfl h21 <| mv rfl <| RT.done ?_
 obtain rfl := O h
 exact AThen.n ⟨(x21, l10), hG8 _ rfl, wR []⟩
 subst hx8
 try dsimp only
 refine AThen.n <| sr <| mo (s := .row _) rfl <| an (s := .row _) rfl <| dn <| ok_weak (weak_frzM (i := 8) (E1 := 36) (n := 4) (e := eQ) (l := r8e7) rfl) <| ok_ret ?_
 obtain rfl := O ho8
 exact R1 rfl
theorem vec_FirstGreater_ok {x0 : List Qr} {x1 : List Qr} {r : Int × Bool} (h : vec_FirstGreater_m x0 x1 = some r) : Pure Tryz.prog 38 [slc 4 (List.map eQ x0), slc 4 (List.map eQ x1)] (.tup [.v (.int .i64 r.1), .v (.bool r.2)]) := by
 refine pure_of_ok Tryz.func38 rfl (Nat.le_of_ble_eq_true rfl) (fun wld M vs hvs => ?_)
 unfold vec_FirstGreater_m at h
 refine sr <| al (cs := [.v (.int .i64 0)]) (by exact ⟨SV.imp_refl _, trivial⟩) rfl <| al (cs := [.v (.bool false)]) (by exact ⟨SV.imp_refl _, trivial⟩) rfl <| dn <| qq <| sr <| mv rfl <| mv rfl <| cl (vec_pairs_ok x0 x1) ⟨rfl, rfl, trivial⟩ <| dn <| ok_block <| bE h fun e5 hl5 ho5 => ?_
 obtain ⟨m5, st5, hs5, ht5, hn5⟩ := rangeX_rd hl5
 refine ok_rangeFuncX (vec_pairs_it x0 x1) (fun _ _ _ _ _ => trivial) rfl (fun k => AS.mkL 20 [(4, .ptr 4 0), (5, .ptr 5 0), (10, .sv (cloS 112 [ref [slc 4 (List.map eQ x0)], ref [slc 4 (List.map eQ x1)]]))] [(5, ⟨4, [.sv (.v (.bool false))]⟩), (4, ⟨3, [.sv (.v (.int .i64 (st5 k)))]⟩)] []) [5, 4] rfl (fun _ => ⟨rfl, rfl⟩) (rangeT rfl) (fun _ => rfl) (rangeP rfl) (by (try dsimp only); rw [hs5]; (try dsimp only); exact weakL id rfl rfl rfl rfl rfl ⟨.ptr, .ptr, .sv (SV.imp_refl _), trivial⟩ ⟨⟨_, rfl, ⟨.sv (SV.imp_refl _), trivial⟩⟩, ⟨_, rfl, ⟨.sv (SV.imp_refl _), trivial⟩⟩, trivial⟩ trivial (fun _ _ => rfl)) m5 (fun k hk hkm D hD => ?_) (fun hdn => ?_)
 obtain ⟨y5, h, hG5, hE5⟩ := ht5 k hk hkm
 obtain ⟨b4_0l3, hsk⟩ : ∃ q, st5 k = q := ⟨_, rfl⟩
 rw [hsk] at h ⊢
 dsimp only [AS.inR, setPs]
 try dsimp only at h
 obtain ⟨⟨⟨p11_0, p11_1⟩, ⟨p11_2, p11_3⟩⟩, hp11, h⟩ := bS h
 rw [Option.some.inj hp11]
 obtain ⟨⟨⟨p12_0, p12_1⟩, ⟨p12_2, p12_3⟩⟩, hp12, h⟩ := bS h
 rw [Option.some.inj hp12]
 refine sr <| al (cs := [.v (.bool false), slc 1 (List.map eU32 []), .v (.bool false), slc 1 (List.map eU32 [])]) (by exact ⟨SV.imp_refl _, imp_nil, SV.imp_refl _, imp_nil, trivial⟩) rfl <| so rfl rfl rfl <| dn <| ok_region <| al (cs := [.v (.bool false), slc 1 (List.map eU32 []), .v (.bool false), slc 1 (List.map eU32 [])]) (by exact ⟨SV.imp_refl _, imp_nil, SV.imp_refl _, imp_nil, trivial⟩) rfl <| so rfl rfl rfl <| RT.done ?_
 refine AThen.n ⟨rfl, ?_⟩
 dsimp only [AS.goOn]
 refine ok_block <| qq <| sr <| ld rfl rfl (.cons rfl (.cons rfl (.cons rfl (.cons rfl (.nil))))) <| ld rfl rfl (.cons rfl (.cons rfl (.cons rfl (.cons rfl (.nil))))) <| bE h fun x15 h15 h => cl (frac_Cmp_ok h15) ⟨rfl, rfl, trivial⟩ <| lE h fun x16 h16 h => gt _ rfl rfl h16 <| dn ?_
 cases x16
 refine fs <| ok_region <| lV rfl rfl rfl <| lE (F h) fun x19 h19 h => ad _ rfl rfl h19 <| RT.storeV (cells := [_]) .none (s := .sv _) rfl rfl rfl T rfl <| RT.done <| AInB.n ?_
 obtain rfl := O h
 obtain ⟨hm5, hq5⟩ := hG5 _ rfl
 refine ⟨hm5, rfl, rfl, ?_⟩
 try dsimp only
 rw [← hq5]
 try dsimp only
 exact wR []
 refine cT <| sr <| lV rfl rfl rfl <| RT.storeV (cells := [_]) .none (s := .sv _) rfl rfl rfl T rfl <| RT.storeV (cells := [_]) .none (s := .sv _) rfl rfl rfl T rfl <| dn <| ok_ret <| AThen.r <| AInB.r ?_
 obtain rfl := O (V h)
 have he5 := hE5 _ rfl
 subst he5
 refine ⟨rfl, rfl, ?_⟩
 refine AInB.r <| AThen.r ?_
 obtain rfl := O ho5
 exact RZ (.one rfl rfl rfl (.one rfl rfl rfl (.nil)))
 have hd5 := hn5 hdn
 subst hd5
 obtain ⟨b4_0l3, hee5⟩ : ∃ q, st5 (max x0.length x1.length) = q := ⟨_, rfl⟩
 rw [hee5] at ho5 ⊢
 try dsimp only
 refine AInB.n <| AThen.n <| sr <| RT.storeV (cells := [_]) .none (s := .sv _) rfl rfl rfl T rfl <| RT.storeV (cells := [_]) .none (s := .sv _) rfl rfl rfl T rfl <| dn <| ok_ret ?_
 obtain rfl := O ho5
 exact RZ (.one rfl rfl rfl (.one rfl rfl rfl (.nil)))
end Go.Proofs.YtfoldppidpmchaaGreat
namespace Go.Proofs.YtfoldppidpmchaaGreat
open Go.Fw
noncomputable def mat_row_m (x0 : List (List Qr)) (x1 : Int) : Option (List Qr) := letJ (fun (y12j2 : Bool) => (bif y12j2 then some [] else (geti x0 x1).bind fun x15 => some x15)) fun K3 => (some (decide ((x1 : Int) < 0))).bind fun x6 => (bif x6 then some true else (some (x0.length : Int)).bind fun x10 => (some (decide ((x10 : Int) ≤ x1))).bind fun x11 => some x11).bind fun c12_4 => K3 c12_4
noncomputable def mat_Cols_m (x0 : List (List Qr)) : Option (Int) := (some (x0.length : Int)).bind fun x7 => (loopM (fun (s6 : Int × Int) => match s6 with | ⟨y3l3, y8l3⟩ => (show Option ((Int × Int) ⊕ (Int)) from (some (decide ((y8l3 : Int) < x7))).bind fun x9 => (bif x9 then (geti x0 y8l3).bind fun x10 => (some (x10.length : Int)).bind fun x14 => (some (max (y3l3 : Int) x14)).bind fun x15 => (some (IntKind.i64.wrap (y8l3 + 1))).bind fun x16 => some (.inl (x15, x16)) else some (.inr y3l3)))) (0, 0)).bind fun y3e5 => some y3e5
noncomputable def mat_At_m (x0 : List (List Qr)) (x1 : Int) (x2 : Int) : Option (Qr) := (mat_row_m x0 x1).bind fun x10 => letJ (fun (y18j2 : Bool) => (bif y18j2 then some ⟨⟨false, []⟩, ⟨false, []⟩⟩ else (geti x10 x2).bind fun ⟨⟨x22_0, x22_1⟩, ⟨x22_2, x22_3⟩⟩ => (frac_Canonical_m ⟨⟨x22_0, x22_1⟩, ⟨x22_2, x22_3⟩⟩).bind fun ⟨⟨x24_0, x24_1⟩, ⟨x24_2, x24_3⟩⟩ => some ⟨⟨x24_0, x24_1⟩, ⟨x24_2, x24_3⟩⟩)) fun K3 => (some (decide ((x2 : Int) < 0))).bind fun x12 => (bif x12 then some true else (some (x10.length : Int)).bind fun x16 => (some (decide ((x16 : Int) ≤ x2))).bind fun x17 => some x17).bind fun c18_4 => K3 c18_4
noncomputable def mat_MulVec_m (x0 : List (List Qr)) (x1 : List Qr) : Option (List Qr) := (some (x0.length : Int)).bind fun x9 => (mkM 64 x9 (⟨⟨false, []⟩, ⟨false, []⟩⟩ : Qr)).bind fun x10 => (some (x0.length : Int)).bind fun x12 => (loopM (fun (s8 : Int × (List Qr)) => match s8 with | ⟨y13l4, r10l4⟩ => (show Option ((Int × (List Qr)) ⊕ ((List Qr))) from (some (decide ((y13l4 : Int) < x12))).bind fun x14 => (bif x14 then (geti x0 y13l4).bind fun x16 => (vec_Dot_m x16 x1).bind fun ⟨⟨x22_0, x22_1⟩, ⟨x22_2, x22_3⟩⟩ => (cki r10l4 y13l4).bind fun x23 => (stM r10l4 x23 ⟨⟨x22_0, x22_1⟩, ⟨x22_2, x22_3⟩⟩).bind fun l10 => (some (IntKind.i64.wrap (y13l4 + 1))).bind fun x24 => some (.inl (x24, l10)) else some (.inr r10l4)))) (0, x10)).bind fun r10e7 => some r10e7
noncomputable def mat_Scale_m (x0 : Qr) (x1 : List (List Qr)) : Option (List (List Qr)) := match x0 with | ⟨⟨x0_0, x0_1⟩, ⟨x0_2, x0_3⟩⟩ => (some (x1.length : Int)).bind fun x9 => (mkM 24 x9 ([] : List Qr)).bind fun x10 => (some (x1.length : Int)).bind fun x12 => (loopM (fun (s8 : Int × (List (List Qr))) => match s8 with | ⟨y13l4, r10l4⟩ => (show Option ((Int × (List (List Qr))) ⊕ ((List (List Qr)))) from (some (decide ((y13l4 : Int) < x12))).bind fun x14 => (bif x14 then (geti x1 y13l4).bind fun x16 => (vec_Scale_m ⟨⟨x0_0, x0_1⟩, ⟨x0_2, x0_3⟩⟩ x16).bind fun x22 => (cki r10l4 y13l4).bind fun x23 => (stM r10l4 x23 x22).bind fun l10 => (some (IntKind.i64.wrap (y13l4 + 1))).bind fun x24 => some (.inl (x24, l10)) else some (.inr r10l4)))) (0, x10)).bind fun r10e7 => some r10e7
noncomputable def mat_ScaleN_m (x0 : Qr) (x1 : List (List Qr)) : Option (List (List Qr)) := match x0 with | ⟨⟨x0_0, x0_1⟩, ⟨x0_2, x0_3⟩⟩ => (some (x1.length : Int)).bind fun x9 => (mkM 24 x9 ([] : List Qr)).bind fun x10 => (some (x1.length : Int)).bind fun x12 => (loopM (fun (s8 : Int × (List (List Qr))) => match s8 with | ⟨y13l4, r10l4⟩ => (show Option ((Int × (List (List Qr))) ⊕ ((List (List Qr)))) from (some (decide ((y13l4 : Int) < x12))).bind fun x14 => (bif x14 then (geti x1 y13l4).bind fun x16 => (vec_Scale_m ⟨⟨x0_0, x0_1⟩, ⟨x0_2, x0_3⟩⟩ x16).bind fun x22 => (cki r10l4 y13l4).bind fun x23 => (stM r10l4 x23 x22).bind fun l10 => (some (IntKind.i64.wrap (y13l4 + 1))).bind fun x24 => some (.inl (x24, l10)) else some (.inr r10l4)))) (0, x10)).bind fun r10e7 => some r10e7
noncomputable def mat_Equal_m (x0 : List (List Qr)) (x1 : List (List Qr)) : Option (Bool) := (rangeX (fun (k : Nat) (s3 : Unit) => (show Option ((Unit) ⊕ (Bool)) from (some (x0.getD k [])).bind fun p10 => (some (x1.getD k [])).bind fun p11 => (vec_Equal_m p10 p11).bind fun x14 => (some (!x14)).bind fun x15 => (bif x15 then some (.inr false) else some (.inl ())))) (max x0.length x1.length) ()).bind fun e3 => match e3 with | .inr v3 => some v3 | .inl _ => some true
noncomputable def mat_FromInts_m (x0 : List (List Int)) : Option (List (List Qr)) := (some (x0.length : Int)).bind fun x7 => (mkM 24 x7 ([] : List Qr)).bind fun x8 => (some (x0.length : Int)).bind fun x10 => (loopM (fun (s8 : Int × (List (List Qr))) => match s8 with | ⟨y11l4, r8l4⟩ => (show Option ((Int × (List (List Qr))) ⊕ ((List (List Qr)))) from (some (decide ((y11l4 : Int) < x10))).bind fun x12 => (bif x12 then (geti x0 y11l4).bind fun x14 => (vec_FromInts_m x14).bind fun x19 => (cki r8l4 y11l4).bind fun x20 => (stM r8l4 x20 x19).bind fun l10 => (some (IntKind.i64.wrap (y11l4 + 1))).bind fun x21 => some (.inl (x21, l10)) else some (.inr r8l4)))) (0, x8)).bind fun r8e7 => some r8e7
end Go.Proofs.YtfoldppidpmchaaGreat
namespace Go.Proofs.YtfoldppidpmchaaGreat
open Go.Fw Go.Fw.Z Go.RowKit
theorem mat_row_ok {x0 : List (List Qr)} {x1 : Int} {r : List Qr} (h : mat_row_m x0 x1 = some r) : Pure Tryz.prog 96 [slc 1 (List.map (eS 4 eQ) x0), .v (.int .i64 x1)] (slc 4 (List.map eQ r)) := by
 refine pure_of_ok Tryz.func96 rfl (Nat.le_of_ble_eq_true rfl) (fun wld M vs hvs => ?_)
 unfold mat_row_m at h
 refine sr <| aI rfl (imp_nil (n := 4) (e := eQ)) <| dn <| qq <| qq ?_
 refine ok_tailJ h (fun j3 => AS.mkL 17 [(0, .sv (slc 1 (List.map (eS 4 eQ) x0))), (1, .sv (.v (.int .i64 x1))), (12, .sv (.v (.bool j3)))] [] []) (fun h => ?_) (fun y12j2 h => ?_)
 refine ok_region <| mv rfl <| lE h fun x6 h6 h => ls _ rfl rfl h6 <| mv rfl <| bE h fun c12_4 hg4 h => ?_
 cases x6
 refine gm rfl <| gm rfl <| lE (F hg4) fun x10 h10 hg4 => gn rfl h10 <| lE hg4 fun x11 h11 hg4 => RT.geq (.some rfl rfl) _ rfl rfl T h11 ?_
 obtain rfl := O hg4
 exact pF rfl <| dn <| ⟨x11, h, wR []⟩
 obtain rfl := O (V hg4)
 exact ww <| ww <| ww <| ww <| pT rfl <| dn <| ⟨true, h, wR []⟩
 try dsimp only
 refine AThen.n ?_
 cases y12j2
 refine fs <| sr <| mv rfl <| mv rfl <| bE (F h) fun x15 h15 h => ix rfl rfl h15 <| lr rfl rfl <| ag rfl <| dn <| ok_ret ?_
 obtain rfl := O h
 exact R1 rfl
 refine cT <| sr <| aI rfl (imp_nil (n := 4) (e := eQ)) <| dn <| ok_ret <| AThen.r ?_
 obtain rfl := O (V h)
 exact R1 rfl
theorem mat_row_of (a : List (List Qr)) (i : Nat) : mat_row_m a (i : Int) = some (a.getD i []) := by
 unfold mat_row_m
 unfold letJ
 by_cases h : i < a.length
 simp [geti, h, show ¬ ((i : Int) < 0) by omega, show ¬ ((a.length : Int) ≤ (i : Int)) by omega, List.getD]
 simp [h, show ¬ ((i : Int) < 0) by omega, show ((a.length : Int) ≤ (i : Int)) by omega, getD_of_le' (Nat.not_lt.1 h)]
theorem mat_rowPairs_ok (a b : List (List Qr)) : Pure Tryz.prog 90 [(slc 1 (List.map (eS 4 eQ) a)), (slc 1 (List.map (eS 4 eQ) b))] (cloS 120 [ref [(slc 1 (List.map (eS 4 eQ) a))], ref [(slc 1 (List.map (eS 4 eQ) b))]]) := by
 refine pure_of_ok Tryz.func90 rfl (Nat.le_of_ble_eq_true rfl) (fun wld M vs hvs => ?_)
 refine sr <| RT.boxV .none (s := .sv _) rfl T rfl rfl <| RT.boxV .none (s := .sv _) rfl T rfl rfl <| ag rfl <| dn <| sr <| RT.makeFunc .none (.box rfl (.box rfl (.nil))) T <| an (s := .clo _ _) rfl <| dn <| ok_weak (weak_frzB (i := 2) rfl [(slc 1 (List.map (eS 4 eQ) a))] (.cons rfl .nil) .any 0 [(4, .clo 120 [.val (ref [(slc 1 (List.map (eS 4 eQ) a))]), .box 3])] (fun _ _ _ => trivial) (Ones.h (l := [(slc 1 (List.map (eS 4 eQ) a))])) ⟨@FT.clo _ _ _ _ _ 4 120 [.box 2, .box 3] rfl, trivial⟩) ?_
 exact ok_weak (weak_frzB (i := 3) rfl [(slc 1 (List.map (eS 4 eQ) b))] (.cons rfl .nil) .any 0 [(4, .clo 120 [.val (ref [(slc 1 (List.map (eS 4 eQ) a))]), .val (ref [(slc 1 (List.map (eS 4 eQ) b))])])] (fun _ _ _ => trivial) (Ones.h (l := [(slc 1 (List.map (eS 4 eQ) b))])) ⟨@FT.clo _ _ _ _ _ 4 120 [.val (ref [(slc 1 (List.map (eS 4 eQ) a))]), .box 3] rfl, trivial⟩) <| ok_weak (weak_t 4 (cloS 120 [ref [(slc 1 (List.map (eS 4 eQ) a))], ref [(slc 1 (List.map (eS 4 eQ) b))]]) (fun _ _ h => clo_sv h)) <| ok_ret <| ⟨.inr rfl, res_of (.tmp rfl (.nil)) rfl⟩
theorem mat_rowPairs_it (a b : List (List Qr)) : Iter Tryz.prog 120 [ref [(slc 1 (List.map (eS 4 eQ) a))], ref [(slc 1 (List.map (eS 4 eQ) b))]] (max a.length b.length) (fun k => [(slc 4 (List.map eQ (a.getD k []))), (slc 4 (List.map eQ (b.getD k [])))]) := by
  refine iter_of_ok Tryz.func120 rfl rfl (Nat.le_of_ble_eq_true rfl) (fun wld M O l J hJ hcv hr => ?_)
  obtain ⟨cvs, hcv⟩ := hcv
  have hla : a.length ≤ 9223372036854775807 := by cases cvs with | nil => exact hcv.elim | cons _ cvs => exact ref_len hcv.1
  have hlb : b.length ≤ 9223372036854775807 := by cases cvs with | nil => exact hcv.elim | cons _ cvs => cases cvs with | nil => exact hcv.2.elim | cons _ _ => exact ref_len hcv.2.1
  refine ok_seq ?_
  refine ok_region ?_
  refine RT.loadRV .none rfl rfl (tl rfl) ?_
  refine RT.len .none rfl (tl rfl) ?_
  refine RT.loadRV .none rfl rfl (tl rfl) ?_
  refine RT.len .none rfl (tl rfl) ?_
  refine RT.max .none (((max a.length b.length : Nat) : Int)) rfl rfl (tl rfl) (by simp only [List.length_map]; split <;> omega) ?_
  refine RT.mv .none rfl (tl rfl) ?_
  refine RT.done ?_
  refine AThen.n ?_
  refine ok_block ?_
  refine ok_loop (I := fun x : { i : Nat // i ≤ max a.length b.length } => AS.mkL 23 [(0, .sv (.v (.func (.yield l) #[] #[]))), (1, .sv (ref [(slc 1 (List.map (eS 4 eQ) a))])), (2, .sv (ref [(slc 1 (List.map (eS 4 eQ) b))])), (9, .sv (.v (.int .i64 ((max a.length b.length : Nat) : Int)))), (10, .sv (.v (.int .i64 ((x.1 : Nat) : Int))))] [] [] (x.1)) (μ := fun x => max a.length b.length - x.1) ⟨0, by omega⟩ (by (try dsimp only); exact weakL id rfl rfl rfl rfl rfl ⟨.sv (by first | exact SV.imp_refl _ | exact SV.imp_int (by omega) | exact SV.imp_int (by push_cast; omega) | exact SV.imp_int (by dsimp only; omega) | exact SV.imp_eq (by simp)), .sv (by first | exact SV.imp_refl _ | exact SV.imp_int (by omega) | exact SV.imp_int (by push_cast; omega) | exact SV.imp_int (by dsimp only; omega) | exact SV.imp_eq (by simp)), .sv (by first | exact SV.imp_refl _ | exact SV.imp_int (by omega) | exact SV.imp_int (by push_cast; omega) | exact SV.imp_int (by dsimp only; omega) | exact SV.imp_eq (by simp)), .sv (by first | exact SV.imp_refl _ | exact SV.imp_int (by omega) | exact SV.imp_int (by push_cast; omega) | exact SV.imp_int (by dsimp only; omega) | exact SV.imp_eq (by simp)), .sv (by first | exact SV.imp_refl _ | exact SV.imp_int (by omega) | exact SV.imp_int (by push_cast; omega) | exact SV.imp_int (by dsimp only; omega) | exact SV.imp_eq (by simp)), trivial⟩ trivial trivial (fun _ _ => rfl)) ?_
  rintro ⟨i, hi0⟩
  try dsimp only
  rcases Nat.lt_or_eq_of_le hi0 with hi | hi
  ·
    refine ok_seq ?_
    refine ok_region ?_
    refine RT.lss .none (true) rfl rfl (tl rfl) (by simp; omega) ?_
    refine RT.done ?_
    refine AThen.n ?_
    refine ok_seq ?_
    refine ok_condT rfl ?_
    refine ok_skip ?_
    refine AThen.n ?_
    refine ok_seq ?_
    refine ok_block ?_
    refine ok_seq ?_
    refine ok_region ?_
    refine RT.mv .none rfl (tl rfl) ?_
    refine RT.asg .none rfl (tl rfl) ?_
    refine RT.done ?_
    refine AThen.n ?_
    refine ok_seq ?_
    refine ok_region_part 7 mixed ?_
    refine RT.mv .none rfl (tl rfl) ?_
    refine RT.loadRV .none rfl rfl (tl rfl) ?_
    refine RT.mv .none rfl (tl rfl) ?_
    refine RT.call .none (mat_row_ok (mat_row_of a i)) rfl ⟨rfl, rfl, trivial⟩ (tl rfl) ?_
    refine RT.loadRV .none rfl rfl (tl rfl) ?_
    refine RT.mv .none rfl (tl rfl) ?_
    refine RT.call .none (mat_row_ok (mat_row_of b i)) rfl ⟨rfl, rfl, trivial⟩ (tl rfl) ?_
    refine RT.done ⟨by kernel_rfl, ?_⟩
    refine RT.yield .none hr rfl (fun _ h => h) rfl (i) rfl rfl hi (by exact ⟨rfl, rfl, trivial⟩) (tl rfl) (fun yb => ?_)
    cases yb
    ·
      refine RT.not .none rfl (tl rfl) true rfl ?_
      refine RT.done ?_
      refine AThen.n ?_
      refine ok_condT rfl ?_
      refine ok_ret ?_
      refine AInB.r ?_
      refine AThen.r ?_
      refine AThen.r ?_
      refine AInB.r ?_
      exact ⟨.inr rfl, (fun h => by cases h)⟩
    ·
      refine RT.not .none rfl (tl rfl) false rfl ?_
      refine RT.done ?_
      refine AThen.n ?_
      refine ok_condF rfl ?_
      refine ok_skip ?_
      refine AInB.n ?_
      refine AThen.n ?_
      refine ok_region ?_
      refine RT.add .none (((i : Nat) : Int) + 1) rfl rfl (tl rfl) (nw_i64 (by omega)) ?_
      refine RT.mv .none rfl (tl rfl) ?_
      refine RT.done ?_
      refine AThen.n ?_
      refine ⟨⟨i + 1, by omega⟩, (by dsimp only; omega), ?_⟩
      try dsimp only
      exact weakL id rfl rfl rfl rfl rfl ⟨.sv (by first | exact SV.imp_refl _ | exact SV.imp_int (by omega) | exact SV.imp_int (by push_cast; omega) | exact SV.imp_int (by dsimp only; omega) | exact SV.imp_eq (by simp)), .sv (by first | exact SV.imp_refl _ | exact SV.imp_int (by omega) | exact SV.imp_int (by push_cast; omega) | exact SV.imp_int (by dsimp only; omega) | exact SV.imp_eq (by simp)), .sv (by first | exact SV.imp_refl _ | exact SV.imp_int (by omega) | exact SV.imp_int (by push_cast; omega) | exact SV.imp_int (by dsimp only; omega) | exact SV.imp_eq (by simp)), .sv (by first | exact SV.imp_refl _ | exact SV.imp_int (by omega) | exact SV.imp_int (by push_cast; omega) | exact SV.imp_int (by dsimp only; omega) | exact SV.imp_eq (by simp)), .sv (by first | exact SV.imp_refl _ | exact SV.imp_int (by omega) | exact SV.imp_int (by push_cast; omega) | exact SV.imp_int (by dsimp only; omega) | exact SV.imp_eq (by simp)), trivial⟩ trivial trivial (fun _ _ => rfl)
  ·
    subst hi
    refine ok_seq ?_
    refine ok_region ?_
    refine RT.lss .none (false) rfl rfl (tl rfl) (by simp) ?_
    refine RT.done ?_
    refine AThen.n ?_
    refine ok_seq ?_
    refine ok_condF rfl ?_
    refine ok_exit ?_
    refine AThen.x ?_
    refine AThen.x ?_
    refine AInB.x ?_
    exact ⟨.inl rfl, (fun _ => rfl)⟩
theorem mat_Cols_ok {x0 : List (List Qr)} {r : Int} (h : mat_Cols_m x0 = some r) : Pure Tryz.prog 58 [slc 1 (List.map (eS 4 eQ) x0)] (.v (.int .i64 r)) := by
 refine pure_of_ok Tryz.func58 rfl (Nat.le_of_ble_eq_true rfl) (fun wld M vs hvs => ?_)
 unfold mat_Cols_m at h
 refine sr <| ag rfl <| dn <| sr <| ag rfl <| dn <| qq <| sr <| mv rfl <| lE h fun x7 h7 h => ln rfl h7 <| mv rfl <| dn <| bE h fun e6 hl6 ho6 => ?_
 refine ok_tailP (fun (y3e5 : Int) => AS.mkL 18 [(3, .sv (.v (.int .i64 y3e5)))] [] []) (fun y3e5 => y3e5 = e6) ?_ (fun y3e5 hx6 => ?_)
 refine ok_block ?_
 refine ok_loopM hl6 (fun s6 => AS.mkL 18 [(3, .sv (.v (.int .i64 s6.1))), (6, .sv (slc 1 (List.map (eS 4 eQ) x0))), (7, .sv (.v (.int .i64 x7))), (8, .sv (.v (.int .i64 s6.2)))] [] []) (wR []) (fun s6 y6 G6 h hG6 hE6 => ?_)
 obtain ⟨y3l3, y8l3⟩ := s6
 try dsimp only
 refine sr <| lE h fun x9 h9 h => ls _ rfl rfl h9 <| dn <| qq ?_
 cases x9
 refine cF <| ok_exit <| AThen.x <| AThen.x <| AInB.x <| AThen.n ?_
 obtain rfl := O (F h)
 exact ⟨y3l3, hE6 _ rfl, wR []⟩
 refine cT <| ok_skip <| AThen.n <| qq <| ok_block <| sr <| bE (V h) fun x10 h10 h => ix rfl rfl h10 <| lr rfl rfl <| ag rfl <| dn <| ok_region <| mv rfl <| mv rfl <| lE h fun x14 h14 h => ln rfl h14 <| lE h fun x15 h15 h => RT.max .none _ rfl rfl T (maxI (p := y3l3) (q := x14) h15) <| ag rfl <| RT.done <| AInB.n <| AThen.n <| ok_region <| lE h fun x16 h16 h => ad _ rfl rfl h16 <| mv rfl <| RT.done ?_
 obtain rfl := O h
 exact AThen.n ⟨(x15, x16), hG6 _ rfl, wR []⟩
 subst hx6
 try dsimp only
 refine AThen.n <| sr <| mv rfl <| ag rfl <| dn <| ok_ret ?_
 obtain rfl := O ho6
 exact R1 rfl
theorem mat_At_ok {x0 : List (List Qr)} {x1 : Int} {x2 : Int} {r : Qr} (h : mat_At_m x0 x1 x2 = some r) : Pure Tryz.prog 57 [slc 1 (List.map (eS 4 eQ) x0), .v (.int .i64 x1), .v (.int .i64 x2)] (.agg (eQ r)) := by
 refine pure_of_ok Tryz.func57 rfl (Nat.le_of_ble_eq_true rfl) (fun wld M vs hvs => ?_)
 unfold mat_At_m at h
 refine sr <| al (cs := [.v (.bool false), slc 1 (List.map eU32 []), .v (.bool false), slc 1 (List.map eU32 [])]) (by exact ⟨SV.imp_refl _, imp_nil, SV.imp_refl _, imp_nil, trivial⟩) rfl <| dn <| sr <| mv rfl <| mv rfl <| bE h fun x10 h10 h => cl (mat_row_ok h10) ⟨rfl, rfl, trivial⟩ <| ag rfl <| dn <| qq <| qq ?_
 refine ok_tailJ h (fun j3 => AS.mkL 25 [(2, .sv (.v (.int .i64 x2))), (6, .ptr 6 0), (7, .sv (slc 4 (List.map eQ x10))), (18, .sv (.v (.bool j3)))] [(6, ⟨36, [.sv (.v (.bool false)), .sv (slc 1 (List.map eU32 [])), .sv (.v (.bool false)), .sv (slc 1 (List.map eU32 []))]⟩)] []) (fun h => ?_) (fun y18j2 h => ?_)
 refine ok_region <| mv rfl <| lE h fun x12 h12 h => ls _ rfl rfl h12 <| mv rfl <| bE h fun c18_4 hg4 h => ?_
 cases x12
 refine gm rfl <| gm rfl <| lE (F hg4) fun x16 h16 hg4 => gn rfl h16 <| lE hg4 fun x17 h17 hg4 => RT.geq (.some rfl rfl) _ rfl rfl T h17 ?_
 obtain rfl := O hg4
 exact pF rfl <| dn <| ⟨x17, h, wR []⟩
 obtain rfl := O (V hg4)
 exact ww <| ww <| ww <| ww <| pT rfl <| dn <| ⟨true, h, wR []⟩
 try dsimp only
 refine AThen.n ?_
 cases y18j2
 refine fs <| sr <| mv rfl <| mv rfl ?_
 obtain ⟨⟨⟨x22_0, x22_1⟩, ⟨x22_2, x22_3⟩⟩, h22, h⟩ := bS (F h)
 refine ix rfl rfl h22 <| RT.loadR (cs := [_, _, _, _]) .none rfl T rfl rfl ?_
 obtain ⟨⟨⟨x24_0, x24_1⟩, ⟨x24_2, x24_3⟩⟩, h24, h⟩ := bS h
 refine cl (frac_Canonical_ok h24) ⟨rfl, trivial⟩ <| so rfl rfl rfl <| dn <| ok_ret ?_
 obtain rfl := O h
 exact RZ (.agg rfl rfl (.cons rfl (.cons rfl (.cons rfl (.cons rfl (.nil))))) rfl (.nil))
 refine cT <| sr <| bI (cs := [_, _, _, _]) (cs' := [.v (.bool false), slc 1 (List.map eU32 []), .v (.bool false), slc 1 (List.map eU32 [])]) (.nil) ⟨SV.imp_refl _, imp_nil, SV.imp_refl _, imp_nil, trivial⟩ <| so rfl rfl rfl <| dn <| ok_ret <| AThen.r ?_
 obtain rfl := O (V h)
 exact RZ (.agg rfl rfl (.cons rfl (.cons rfl (.cons rfl (.cons rfl (.nil))))) rfl (.nil))
theorem mat_MulVec_ok {x0 : List (List Qr)} {x1 : List Qr} {r : List Qr} (h : mat_MulVec_m x0 x1 = some r) : Pure Tryz.prog 63 [slc 1 (List.map (eS 4 eQ) x0), slc 4 (List.map eQ x1)] (slc 4 (List.map eQ r)) := by
 refine pure_of_ok Tryz.func63 rfl (Nat.le_of_ble_eq_true rfl) (fun wld M vs hvs => ?_)
 unfold mat_MulVec_m at h
 refine sr <| aI rfl (imp_nil (n := 4) (e := eQ)) <| dn <| sr <| mv rfl <| lE h fun x9 h9 h => ln rfl h9 <| bE h fun x10 h10 h => RT.mkRow (n := 4) (e := eQ) .none rfl rfl T rfl T (by rfl) (by decide) (by exact ⟨SV.imp_refl _, imp_nil, SV.imp_refl _, imp_nil, trivial⟩) h10 <| an (s := .row _) rfl <| dn <| qq <| sr <| mv rfl <| lE h fun x12 h12 h => ln rfl h12 <| mv rfl <| dn <| bE h fun e8 hl8 ho8 => ?_
 refine ok_tailP (fun (r10e7 : (List Qr)) => AS.mkL 26 [(5, .row 10)] [] [(10, TR 36 4 eQ r10e7)]) (fun r10e7 => r10e7 = e8) ?_ (fun r10e7 hx8 => ?_)
 refine ok_block ?_
 refine ok_loopM hl8 (fun s8 => AS.mkL 26 [(1, .sv (slc 4 (List.map eQ x1))), (5, .row 10), (11, .sv (slc 1 (List.map (eS 4 eQ) x0))), (12, .sv (.v (.int .i64 x12))), (13, .sv (.v (.int .i64 s8.1)))] [] [(10, TR 36 4 eQ s8.2)]) (wR []) (fun s8 y8 G8 h hG8 hE8 => ?_)
 obtain ⟨y13l4, r10l4⟩ := s8
 try dsimp only
 refine sr <| lE h fun x14 h14 h => ls _ rfl rfl h14 <| dn <| qq ?_
 cases x14
 refine cF <| ok_exit <| AThen.x <| AThen.x <| AInB.x <| AThen.n ?_
 obtain rfl := O (F h)
 exact ⟨r10l4, hE8 _ rfl, wR []⟩
 refine cT <| ok_skip <| AThen.n <| qq <| ok_block <| sr <| mv rfl <| bE (V h) fun x16 h16 h => ix rfl rfl h16 <| lr rfl rfl <| ag rfl <| ag rfl <| dn <| ok_region <| mo (s := .row _) rfl <| mv rfl <| mv rfl <| mv rfl ?_
 obtain ⟨⟨⟨x22_0, x22_1⟩, ⟨x22_2, x22_3⟩⟩, h22, h⟩ := bS h
 refine cl (vec_Dot_ok h22) ⟨rfl, rfl, trivial⟩ <| bE h fun x23 h23 h => iR rfl rfl rfl h23 <| bE h fun l10 hl10_ h => sA ⟨⟨x22_0, x22_1⟩, ⟨x22_2, x22_3⟩⟩ rfl rfl rfl hl10_ <| RT.done <| AInB.n <| AThen.n <| ok_region <| lE h fun x24 h24 h => ad _ rfl rfl h24 <| mv rfl <| RT.done ?_
 obtain rfl := O h
 exact AThen.n ⟨(x24, l10), hG8 _ rfl, wR []⟩
 subst hx8
 try dsimp only
 refine AThen.n <| sr <| mo (s := .row _) rfl <| an (s := .row _) rfl <| dn <| ok_weak (weak_frzM (i := 10) (E1 := 36) (n := 4) (e := eQ) (l := r10e7) rfl) <| ok_ret ?_
 obtain rfl := O ho8
 exact R1 rfl
theorem mat_Scale_ok {x0 : Qr} {x1 : List (List Qr)} {r : List (List Qr)} (h : mat_Scale_m x0 x1 = some r) : Pure Tryz.prog 88 [.agg (eQ x0), slc 1 (List.map (eS 4 eQ) x1)] (slc 1 (List.map (eS 4 eQ) r)) := by
 obtain ⟨⟨x0_0, x0_1⟩, ⟨x0_2, x0_3⟩⟩ := x0
 refine pure_of_ok Tryz.func88 rfl (Nat.le_of_ble_eq_true rfl) (fun wld M vs hvs => ?_)
 unfold mat_Scale_m at h
 refine sr <| bx rfl <| aI rfl (imp_nil (n := 1) (e := (eS 4 eQ))) <| dn <| sr <| mv rfl <| lE h fun x9 h9 h => ln rfl h9 <| bE h fun x10 h10 h => RT.mkRow (n := 1) (e := (eS 4 eQ)) .none rfl rfl T rfl T (by rfl) (by decide) (by exact ⟨imp_nil, trivial⟩) h10 <| an (s := .row _) rfl <| dn <| qq <| sr <| mv rfl <| lE h fun x12 h12 h => ln rfl h12 <| mv rfl <| dn <| bE h fun e8 hl8 ho8 => ?_
 refine ok_tailP (fun (r10e7 : (List (List Qr))) => AS.mkL 26 [(5, .row 10)] [] [(10, TR 24 1 (eS 4 eQ) r10e7)]) (fun r10e7 => r10e7 = e8) ?_ (fun r10e7 hx8 => ?_)
 refine ok_block ?_
 refine ok_loopM hl8 (fun s8 => AS.mkL 26 [(2, .ptr 2 0), (5, .row 10), (11, .sv (slc 1 (List.map (eS 4 eQ) x1))), (12, .sv (.v (.int .i64 x12))), (13, .sv (.v (.int .i64 s8.1)))] [(2, ⟨36, [.sv (.v (.bool x0_0)), .sv (slc 1 (List.map eU32 x0_1)), .sv (.v (.bool x0_2)), .sv (slc 1 (List.map eU32 x0_3))]⟩)] [(10, TR 24 1 (eS 4 eQ) s8.2)]) (wR []) (fun s8 y8 G8 h hG8 hE8 => ?_)
 obtain ⟨y13l4, r10l4⟩ := s8
 try dsimp only
 refine sr <| lE h fun x14 h14 h => ls _ rfl rfl h14 <| dn <| qq ?_
 cases x14
 refine cF <| ok_exit <| AThen.x <| AThen.x <| AInB.x <| AThen.n ?_
 obtain rfl := O (F h)
 exact ⟨r10l4, hE8 _ rfl, wR []⟩
 refine cT <| ok_skip <| AThen.n <| qq <| ok_block <| sr <| mv rfl <| bE (V h) fun x16 h16 h => ix rfl rfl h16 <| lr rfl rfl <| ag rfl <| ag rfl <| dn <| ok_region <| mo (s := .row _) rfl <| mv rfl <| ld rfl rfl (.cons rfl (.cons rfl (.cons rfl (.cons rfl (.nil))))) <| mv rfl <| bE h fun x22 h22 h => cl (vec_Scale_ok h22) ⟨rfl, rfl, trivial⟩ <| bE h fun x23 h23 h => iR rfl rfl rfl h23 <| bE h fun l10 hl10_ h => sR x22 rfl rfl rfl rfl hl10_ ?_
 refine RT.done <| AInB.n <| AThen.n <| ok_region <| lE h fun x24 h24 h => ad _ rfl rfl h24 <| mv rfl <| RT.done ?_
 obtain rfl := O h
 exact AThen.n ⟨(x24, l10), hG8 _ rfl, wR []⟩
 subst hx8
 try dsimp only
 refine AThen.n <| sr <| mo (s := .row _) rfl <| an (s := .row _) rfl <| dn <| ok_weak (weak_frzM (i := 10) (E1 := 24) (n := 1) (e := (eS 4 eQ)) (l := r10e7) rfl) <| ok_ret ?_
 obtain rfl := O ho8
 exact R1 rfl
theorem mat_ScaleN_ok {x0 : Qr} {x1 : List (List Qr)} {r : List (List Qr)} (h : mat_ScaleN_m x0 x1 = some r) : NewC Tryz.prog 88 [.agg (eQ x0), slc 1 (List.map (eS 4 eQ) x1)] (TR 24 1 (eS 4 eQ) r) := by
 obtain ⟨⟨x0_0, x0_1⟩, ⟨x0_2, x0_3⟩⟩ := x0
 refine newC_of_ok Tryz.func88 rfl (Nat.le_of_ble_eq_true rfl) (fun wld M vs hvs => ?_)
 unfold mat_ScaleN_m at h
 refine sr <| bx rfl <| ag rfl <| dn <| ok_weak (weak_nil 4 304 24 1 rfl rfl T) <| sr <| mv rfl <| lE h fun x9 h9 h => ln rfl h9 <| bE h fun x10 h10 h => RT.mkRow (n := 1) (e := (eS 4 eQ)) .none rfl rfl T rfl T (by rfl) (by decide) (by exact ⟨imp_nil, trivial⟩) h10 <| an (s := .row _) rfl <| dn <| qq <| sr <| mv rfl <| lE h fun x12 h12 h => ln rfl h12 <| mv rfl <| dn <| bE h fun e8 hl8 ho8 => ?_
 refine ok_tailP (fun (r10e7 : (List (List Qr))) => AS.mkL 26 [(5, .row 10)] [] [(10, TR 24 1 (eS 4 eQ) r10e7)]) (fun r10e7 => r10e7 = e8) ?_ (fun r10e7 hx8 => ?_)
 refine ok_block ?_
 refine ok_loopM hl8 (fun s8 => AS.mkL 26 [(2, .ptr 2 0), (5, .row 10), (11, .sv (slc 1 (List.map (eS 4 eQ) x1))), (12, .sv (.v (.int .i64 x12))), (13, .sv (.v (.int .i64 s8.1)))] [(2, ⟨36, [.sv (.v (.bool x0_0)), .sv (slc 1 (List.map eU32 x0_1)), .sv (.v (.bool x0_2)), .sv (slc 1 (List.map eU32 x0_3))]⟩)] [(10, TR 24 1 (eS 4 eQ) s8.2)]) (wR []) (fun s8 y8 G8 h hG8 hE8 => ?_)
 obtain ⟨y13l4, r10l4⟩ := s8
 try dsimp only
 refine sr <| lE h fun x14 h14 h => ls _ rfl rfl h14 <| dn <| qq ?_
 cases x14
 refine cF <| ok_exit <| AThen.x <| AThen.x <| AInB.x <| AThen.n ?_
 obtain rfl := O (F h)
 exact ⟨r10l4, hE8 _ rfl, wR []⟩
 refine cT <| ok_skip <| AThen.n <| qq <| ok_block <| sr <| mv rfl <| bE (V h) fun x16 h16 h => ix rfl rfl h16 <| lr rfl rfl <| ag rfl <| ag rfl <| dn <| ok_region <| mo (s := .row _) rfl <| mv rfl <| ld rfl rfl (.cons rfl (.cons rfl (.cons rfl (.cons rfl (.nil))))) <| mv rfl <| bE h fun x22 h22 h => cl (vec_Scale_ok h22) ⟨rfl, rfl, trivial⟩ <| bE h fun x23 h23 h => iR rfl rfl rfl h23 <| bE h fun l10 hl10_ h => sR x22 rfl rfl rfl rfl hl10_ ?_
 refine RT.done <| AInB.n <| AThen.n <| ok_region <| lE h fun x24 h24 h => ad _ rfl rfl h24 <| mv rfl <| RT.done ?_
 obtain rfl := O h
 exact AThen.n ⟨(x24, l10), hG8 _ rfl, wR []⟩
 subst hx8
 try dsimp only
 refine AThen.n <| sr <| mo (s := .row _) rfl <| an (s := .row _) rfl <| dn <| ok_ret ?_
 obtain rfl := O ho8
 exact ⟨.inr rfl, _, .tmp rfl, rfl⟩
theorem mat_Equal_ok {x0 : List (List Qr)} {x1 : List (List Qr)} {r : Bool} (h : mat_Equal_m x0 x1 = some r) : Pure Tryz.prog 51 [slc 1 (List.map (eS 4 eQ) x0), slc 1 (List.map (eS 4 eQ) x1)] (.v (.bool r)) := by
 refine pure_of_ok Tryz.func51 rfl (Nat.le_of_ble_eq_true rfl) (fun wld M vs hvs => ?_)
 unfold mat_Equal_m at h
 refine sr <| al (cs := [.v (.bool false)]) (by exact ⟨SV.imp_refl _, trivial⟩) rfl <| dn <| qq <| sr <| mv rfl <| mv rfl <| cl (mat_rowPairs_ok x0 x1) ⟨rfl, rfl, trivial⟩ <| dn <| ok_block <| bE h fun e3 hl3 ho3 => ?_
 obtain ⟨m3, st3, hs3, ht3, hn3⟩ := rangeX_rd hl3
 refine ok_rangeFuncX (mat_rowPairs_it x0 x1) (fun _ _ _ _ _ => trivial) rfl (fun k => AS.mkL 16 [(4, .ptr 4 0), (9, .sv (cloS 120 [ref [slc 1 (List.map (eS 4 eQ) x0)], ref [slc 1 (List.map (eS 4 eQ) x1)]]))] [(4, ⟨4, [.sv (.v (.bool false))]⟩)] []) [4] rfl (fun _ => ⟨rfl, rfl⟩) (rangeT rfl) (fun _ => rfl) (rangeP rfl) (by (try dsimp only); (try dsimp only); exact weakL id rfl rfl rfl rfl rfl ⟨.ptr, .sv (SV.imp_refl _), trivial⟩ ⟨⟨_, rfl, ⟨.sv (SV.imp_refl _), trivial⟩⟩, trivial⟩ trivial (fun _ _ => rfl)) m3 (fun k hk hkm D hD => ?_) (fun hdn => ?_)
 obtain ⟨y3, h, hG3, hE3⟩ := ht3 k hk hkm
 dsimp only [AS.inR, setPs]
 try dsimp only at h
 refine lE h fun p10 hp10 h => ?_
 rw [hp10]
 refine lE h fun p11 hp11 h => ?_
 rw [hp11]
 refine sr <| ag rfl <| dn <| ok_region <| ag rfl <| RT.done ?_
 refine AThen.n ⟨rfl, ?_⟩
 dsimp only [AS.goOn]
 refine ok_block <| sr <| mv rfl <| mv rfl <| bE h fun x14 h14 h => cl (vec_Equal_ok h14) ⟨rfl, rfl, trivial⟩ <| lE h fun x15 h15 h => nt rfl _ h15 <| dn ?_
 cases x15
 refine cF <| ok_skip <| AInB.n ?_
 obtain rfl := O (F h)
 obtain ⟨hm3, hq3⟩ := hG3 _ rfl
 exact ⟨hm3, rfl, rfl, wR []⟩
 refine cT <| sr <| RT.storeV (cells := [_]) .none (s := .sv _) rfl rfl rfl T rfl <| dn <| ok_ret <| AInB.r ?_
 obtain rfl := O (V h)
 have he3 := hE3 _ rfl
 subst he3
 refine ⟨rfl, rfl, ?_⟩
 refine AInB.r <| AThen.r ?_
 obtain rfl := O ho3
 exact RZ (.one rfl rfl rfl (.nil))
 have hd3 := hn3 hdn
 subst hd3
 obtain ⟨ee3, hee3⟩ : ∃ q, st3 (max x0.length x1.length) = q := ⟨_, rfl⟩
 rw [hee3] at ho3
 try dsimp only
 refine AInB.n <| AThen.n <| sr <| RT.storeV (cells := [_]) .none (s := .sv _) rfl rfl rfl T rfl <| dn <| ok_ret ?_
 obtain rfl := O ho3
 exact RZ (.one rfl rfl rfl (.nil))
theorem mat_FromInts_ok {x0 : List (List Int)} {r : List (List Qr)} (h : mat_FromInts_m x0 = some r) : Pure Tryz.prog 41 [slc 1 (List.map (eS 1 eI64) x0)] (slc 1 (List.map (eS 4 eQ) r)) := by
 refine pure_of_ok Tryz.func41 rfl (Nat.le_of_ble_eq_true rfl) (fun wld M vs hvs => ?_)
 unfold mat_FromInts_m at h
 refine sr <| aI rfl (imp_nil (n := 1) (e := (eS 4 eQ))) <| dn <| sr <| mv rfl <| lE h fun x7 h7 h => ln rfl h7 <| bE h fun x8 h8 h => RT.mkRow (n := 1) (e := (eS 4 eQ)) .none rfl rfl T rfl T (by rfl) (by decide) (by exact ⟨imp_nil, trivial⟩) h8 <| an (s := .row _) rfl <| dn <| qq <| sr <| mv rfl <| lE h fun x10 h10 h => ln rfl h10 <| mv rfl <| dn <| bE h fun e8 hl8 ho8 => ?_
 refine ok_tailP (fun (r8e7 : (List (List Qr))) => AS.mkL 23 [(3, .row 8)] [] [(8, TR 24 1 (eS 4 eQ) r8e7)]) (fun r8e7 => r8e7 = e8) ?_ (fun r8e7 hx8 => ?_)
 refine ok_block ?_
 refine ok_loopM hl8 (fun s8 => AS.mkL 23 [(3, .row 8), (9, .sv (slc 1 (List.map (eS 1 eI64) x0))), (10, .sv (.v (.int .i64 x10))), (11, .sv (.v (.int .i64 s8.1)))] [] [(8, TR 24 1 (eS 4 eQ) s8.2)]) (wR []) (fun s8 y8 G8 h hG8 hE8 => ?_)
 obtain ⟨y11l4, r8l4⟩ := s8
 try dsimp only
 refine sr <| lE h fun x12 h12 h => ls _ rfl rfl h12 <| dn <| qq ?_
 cases x12
 refine cF <| ok_exit <| AThen.x <| AThen.x <| AInB.x <| AThen.n ?_
 obtain rfl := O (F h)
 exact ⟨r8l4, hE8 _ rfl, wR []⟩
 refine cT <| ok_skip <| AThen.n <| qq <| ok_block <| sr <| mv rfl <| bE (V h) fun x14 h14 h => ix rfl rfl h14 <| lr rfl rfl <| ag rfl <| ag rfl <| dn <| ok_region <| mo (s := .row _) rfl <| mv rfl <| mv rfl <| bE h fun x19 h19 h => cl (vec_FromInts_ok h19) ⟨rfl, trivial⟩ <| bE h fun x20 h20 h => iR rfl rfl rfl h20 <| bE h fun l10 hl10_ h => sR x19 rfl rfl rfl rfl hl10_ <| RT.done <| AInB.n <| AThen.n <| ok_region <| lE h fun x21 h21 h => ad _ rfl rfl h21 ?_
 refine mv rfl <| RT.done ?_
 obtain rfl := O h
 exact AThen.n ⟨(x21, l10), hG8 _ rfl, wR []⟩
 subst hx8
 try dsimp only
 refine AThen.n <| sr <| mo (s := .row _) rfl <| an (s := .row _) rfl <| dn <| ok_weak (weak_frzM (i := 8) (E1 := 24) (n := 1) (e := (eS 4 eQ)) (l := r8e7) rfl) <| ok_ret ?_
 obtain rfl := O ho8
 exact R1 rfl
end Go.Proofs.YtfoldppidpmchaaGreat
namespace Go.Fw
open Go.RowKit
theorem ref_len2 {α : Type} {e : α → List SV} {l : List α} {n : Nat} {s t : SV} {r : List SV} {M : Mem} {v : Value} (h : (ref (s :: t :: slc n (l.map e) :: r)).h M v) : l.length ≤ 9223372036854775807 := by
  obtain ⟨b, o, _, h⟩ := h
  obtain ⟨y, _, _, h⟩ := h 2 _ rfl
  exact slc_len h
theorem cons_cases {α β : Type} (a : List α) (b : List β) (i : Nat) (h : i ≤ a.length) : (i < a.length ∧ i < b.length) ∨ (i < a.length ∧ b.length ≤ i) ∨ i = a.length := by omega
class St4 (P : Program) (T : TypeId) (I : outParam TypeId) : Prop where
  fs : (match P.underlying T with | some (.struct fs) => (match fs.toList with | [f1, f2, f3, f4] => (decide (f1.type = I) && decide (f1.offset = 0) && decide (f1.name ≠ "_")) && (decide (f2.type = I) && decide (f2.offset = 1) && decide (f2.name ≠ "_")) && (decide (f3.type = I) && decide (f3.offset = 2) && decide (f3.name ≠ "_")) && (decide (f4.type = I) && decide (f4.offset = 3) && decide (f4.name ≠ "_")) | _ => false) | _ => false) = true
  hp : P.stoodInHeld T = false
  hI : P.underlying I = some (.int .i64)
  hg : P.eqGuardType P.depth T = false
theorem St4.ex {P : Program} {T I : TypeId} (h : St4 P T I) : ∃ f1 f2 f3 f4 : Field, P.underlying T = some (.struct #[f1, f2, f3, f4]) ∧ (f1.type = I ∧ f1.offset = 0 ∧ f1.name ≠ "_") ∧ (f2.type = I ∧ f2.offset = 1 ∧ f2.name ≠ "_") ∧ (f3.type = I ∧ f3.offset = 2 ∧ f3.name ≠ "_") ∧ (f4.type = I ∧ f4.offset = 3 ∧ f4.name ≠ "_") := by
  have h1 := h.fs
  cases hu : P.underlying T with
  | none => rw [hu] at h1; cases h1
  | some d =>
    rw [hu] at h1
    cases d with
    | struct fs =>
      obtain ⟨l⟩ := fs
      match l, h1 with
      | [f1, f2, f3, f4], h1 =>
        simp only [Bool.and_eq_true, decide_eq_true_eq] at h1
        obtain ⟨⟨⟨⟨⟨a1, a2⟩, a3⟩, ⟨⟨b1, b2⟩, b3⟩⟩, ⟨⟨c1, c2⟩, c3⟩⟩, ⟨⟨d1, d2⟩, d3⟩⟩ := h1
        exact ⟨f1, f2, f3, f4, rfl, ⟨a1, a2, a3⟩, ⟨b1, b2, b3⟩, ⟨c1, c2, c3⟩, ⟨d1, d2, d3⟩⟩
    | _ => cases h1
theorem neq4 {P : Program} {T I : TypeId} [tI : TyV P I] [t4 : St4 P T I] (w : World) (a1 a2 a3 a4 b1 b2 b3 b4 : Int) :
    (binOp .neq T (.agg #[.int .i64 a1, .int .i64 a2, .int .i64 a3, .int .i64 a4]) (.agg #[.int .i64 b1, .int .i64 b2, .int .i64 b3, .int .i64 b4])).run P w = .ok (.bool (!(a1 == b1 && (a2 == b2 && (a3 == b3 && a4 == b4))))) w := by
  obtain ⟨f1, f2, f3, f4, hT, h1, h2, h3, h4⟩ := t4.ex
  have hf : P.fieldsOf T = #[f1, f2, f3, f4] := by simp [Program.fieldsOf, hT]
  rw [run_neq_struct, run_equalIn_struct w 9999 T _ _ (by rw [hf]; exact hT) t4.hp, hf]
  have hpt : ∀ (xs : Array Value) (o : Nat) (v : Value), xs[o]? = some v → (part I xs o).run P w = .ok v w := by
    intro xs o v h
    simp [part, TyV.isAgg, h]
  have step : ∀ (f : Field) (l : List Field) (o : Nat) (xs ys : Array Value) (a b : Int), (f.type = I ∧ f.offset = o ∧ f.name ≠ "_") → xs[o]? = some (.int .i64 a) → ys[o]? = some (.int .i64 b) →
      ∀ r, (Op.eqFields 9999 xs ys l).run P w = .ok r w → (Op.eqFields 9999 xs ys (f :: l)).run P w = .ok (a == b && r) w := by
    intro f l o xs ys a b ⟨q1, q2, q3⟩ hx hy r hr
    simp only [Op.eqFields, q1, q2, q3, ne_eq, not_false_eq_true, if_true, Sem.run_bind]
    rw [hpt _ o _ hx, Result.andThen_ok, hpt _ o _ hy, Result.andThen_ok, run_equalIn_int w _ I .i64 .i64 _ _ t4.hI, Result.andThen_ok]
    cases e : (a == b)
    · simp
    · simpa using hr
  have nil : ∀ (xs ys : Array Value), (Op.eqFields 9999 xs ys []).run P w = .ok true w := fun _ _ => by simp [Op.eqFields]
  have := step f1 [f2, f3, f4] 0 #[.int .i64 a1, .int .i64 a2, .int .i64 a3, .int .i64 a4] #[.int .i64 b1, .int .i64 b2, .int .i64 b3, .int .i64 b4] a1 b1 h1 rfl rfl _
    (step f2 [f3, f4] 1 _ _ a2 b2 h2 rfl rfl _ (step f3 [f4] 2 _ _ a3 b3 h3 rfl rfl _ (step f4 [] 3 _ _ a4 b4 h4 rfl rfl _ (nil _ _))))
  rw [this, Result.andThen_ok]
  simp
section steps
variable {P : Program} {C : Ctx} {ops : Array Oper} {S : AS} {nd : Bool} {K : List Ac → AS → Prop} {rest : List Oper} {acc : List Ac}
variable {gd : Option (Nat × Bool)} {rg : List Nat} {d : Nat} {ty : TypeId} {pos : String} {aft : Array Edge} {x y z : Operand} {T U E0 : TypeId}
theorem agg4 {M : Mem} {v : Value} {a b c d : Int} (h : (SV.agg [.v (.int .i64 a), .v (.int .i64 b), .v (.int .i64 c), .v (.int .i64 d)]).h M v) : v = .agg #[.int .i64 a, .int .i64 b, .int .i64 c, .int .i64 d] := by
  obtain ⟨vs, rfl, h⟩ := h
  match vs, h with
  | [_, _, _, _], ⟨h1, h2, h3, h4, _⟩ =>
    have e1 : _ = _ := h1
    have e2 : _ = _ := h2
    have e3 : _ = _ := h3
    have e4 : _ = _ := h4
    rw [e1, e2, e3, e4]
theorem RT.neq4 (hg : Gd ops S gd rg) {I : TypeId} [tI : TyV P I] [t4 : St4 P T I] {a1 a2 a3 a4 b1 b2 b3 b4 : Int} {c : Bool} (hx : S.ev x = .sv (.agg [.v (.int .i64 a1), .v (.int .i64 a2), .v (.int .i64 a3), .v (.int .i64 a4)])) (hy : S.ev y = .sv (.agg [.v (.int .i64 b1), .v (.int .i64 b2), .v (.int .i64 b3), .v (.int .i64 b4)])) (hd : d < S.n)
    (hc : (!(a1 == b1 && (a2 == b2 && (a3 == b3 && a4 == b4)))) = c)
    (next : RunT P C ops nd K rest (⟨rg ++ (okeys x ++ okeys y), [], [], ⟨some (d, .sv (.v (.bool c))), [], []⟩⟩ :: acc) (S.set d (.sv (.v (.bool c))))) : RunT P C ops nd K (⟨some d, .binOp .neq T x y U, ty, pos, aft, gd⟩ :: rest) acc S :=
  RT.value hg (okeys x ++ okeys y) [] [] (.sv (.v (.bool c))) hd (by intro c h; cases h) (fun S' ht _ _ E a w h => by
    have h1 := h.ev x
    rw [ev_congr (fun _ h => List.mem_append_left _ h) ht, hx] at h1
    have h2 := h.ev y
    rw [ev_congr (fun _ h => List.mem_append_right _ h) ht, hy] at h2
    refine ⟨.bool c, ?_, rfl, nomb⟩
    have e := Fw.neq4 (P := P) (T := T) (I := I) w a1 a2 a3 a4 b1 b2 b3 b4
    rw [hc] at e
    simp only [execOp, agg4 h1, agg4 h2, Sem.run_bind, run_eqGuard_agg w .neq T x y _ _ t4.hg, Result.andThen_ok, e]
    rfl) next
end steps
end Go.Fw
namespace Go.Fw
open Go.RowKit
def rsOf (olds : List Nat) (news : List (Nat × Row × Value)) : List (Nat × RSt) := olds.map (fun j => (j, .dead)) ++ news.map (fun n => (n.1, .live n.2.1))
theorem lastR_some {l : List (Nat × RSt)} {j : Nat} {R : RSt} (h : lastR l j = some R) : (j, R) ∈ l := by
  induction l with
  | nil => cases h
  | cons p l ih =>
    obtain ⟨i, R'⟩ := p
    rw [lastR] at h
    cases e : lastR l j with
    | some R2 => rw [e] at h; cases h; exact List.mem_cons_of_mem _ (ih e)
    | none =>
      rw [e] at h
      by_cases q : j = i
      · subst q; simp at h; subst h; simp
      · simp [q] at h
theorem lastR_ex {l : List (Nat × RSt)} {j : Nat} {R : RSt} (h : (j, R) ∈ l) : ∃ R', lastR l j = some R' := by
  induction l with
  | nil => cases h
  | cons p l ih =>
    obtain ⟨i, R'⟩ := p
    rw [lastR]
    rcases List.mem_cons.1 h with e | e
    · cases e
      cases q : lastR l j with
      | some R2 => exact ⟨R2, rfl⟩
      | none => exact ⟨R, by simp⟩
    · obtain ⟨R2, h2⟩ := ih e
      exact ⟨R2, by rw [h2]⟩
section swap
variable {C : Ctx} {S : AS}
end swap
end Go.Fw
namespace Go.Fw
open Go.RowKit
inductive Oc where
  | s (x : SV)
  | r (R : Row)
def OcAll (M : Mem) (w : World) : List Oc → List Value → Prop
  | [], [] => True
  | .s x :: l, v :: vs => x.h M v ∧ OcAll M w l vs
  | .r R :: l, v :: vs => (∃ us : List Value, w.ownsRow 0 R.E R.sz v R.n us ∧ SV.All M R.cells us) ∧ OcAll M w l vs
  | _, _ => False
def rowsOf : List Oc → List Row
  | [] => []
  | .s _ :: l => rowsOf l
  | .r R :: l => R :: rowsOf l
def rowVals : List Oc → List Value → List (Row × Value)
  | .s _ :: l, _ :: vs => rowVals l vs
  | .r R :: l, v :: vs => (R, v) :: rowVals l vs
  | _, _ => []
def ocBlk (c : List Oc) (us : List Value) (g : Nat) : Prop := ∃ p ∈ rowVals c us, p.2.ownBlock = some g
def oCells : List Nat → List Oc → List AV
  | ids, .s x :: l => .sv x :: oCells ids l
  | i :: ids, .r _ :: l => .row i :: oCells ids l
  | [], .r _ :: l => .sv .any :: oCells [] l
  | _, [] => []
def Apart (l : List (Row × Value)) : Prop := l.Pairwise fun p q => ∀ g, p.2.ownBlock = some g → q.2.ownBlock ≠ some g
structure ObjAt (M : Mem) (w : World) (β : Nat) (T : TypeId) (c : List Oc) (us : List Value) : Prop where
  hp : w.heap[β]? = some (.cells ⟨us⟩ T (0, 0))
  al : OcAll M w c us
  nb : ∀ o, M β o = none
  nr : ∀ g, ocBlk c us g → g ≠ β ∧ ∀ o, M g o = none
  ap : Apart (rowVals c us)
theorem rowVals_len {M : Mem} {w : World} : ∀ {c : List Oc} {us : List Value}, OcAll M w c us → (rowVals c us).map (·.1) = rowsOf c
  | [], [], _ => rfl
  | .s _ :: l, _ :: vs, h => rowVals_len (c := l) (us := vs) h.2
  | .r R :: l, v :: vs, h => congrArg (R :: ·) (rowVals_len (c := l) (us := vs) h.2)
  | [], _ :: _, h => h.elim
  | .s _ :: _, [], h => h.elim
  | .r _ :: _, [], h => h.elim
theorem rowVals_at {M : Mem} {w : World} : ∀ {c : List Oc} {us : List Value}, OcAll M w c us → ∀ p ∈ rowVals c us, ∃ vs : List Value, w.ownsRow 0 p.1.E p.1.sz p.2 p.1.n vs ∧ SV.All M p.1.cells vs
  | [], [], _, p, hp => by cases hp
  | .s _ :: l, _ :: vs, h, p, hp => rowVals_at (c := l) (us := vs) h.2 p hp
  | .r R :: l, v :: vs, h, p, hp => by
    rcases List.mem_cons.1 hp with rfl | hp
    · exact h.1
    · exact rowVals_at (c := l) (us := vs) h.2 p hp
  | [], _ :: _, h, _, _ => h.elim
  | .s _ :: _, [], h, _, _ => h.elim
  | .r _ :: _, [], h, _, _ => h.elim
theorem zip_mem {α β : Type} : ∀ {l : List α} {k : List β} {a : α} {b : β}, (a, b) ∈ l.zip k → a ∈ l ∧ b ∈ k
  | _ :: _, _ :: _, _, _, h => by
    rw [List.zip_cons_cons] at h
    rcases List.mem_cons.1 h with e | e
    · cases e; simp
    · have := zip_mem e; exact ⟨List.mem_cons_of_mem _ this.1, List.mem_cons_of_mem _ this.2⟩
  | [], _, _, _, h => by simp at h
  | _ :: _, [], _, _, h => by simp at h
def Lv (S : AS) : List Nat → List Row → Prop
  | [], [] => True
  | j :: js, R :: Rs => S.r j = .live R ∧ Lv S js Rs
  | _, _ => False
theorem Lv.len {S : AS} : ∀ {js : List Nat} {Rs : List Row}, Lv S js Rs → js.length = Rs.length
  | [], [], _ => rfl
  | _ :: _, _ :: _, h => congrArg (· + 1) (Lv.len h.2)
  | [], _ :: _, h => h.elim
  | _ :: _, [], h => h.elim
theorem Lv.mem {S : AS} : ∀ {js : List Nat} {Rs : List Row}, Lv S js Rs → ∀ j ∈ js, ∃ R, S.r j = .live R
  | j :: js, R :: Rs, h, k, hk => by
    rcases List.mem_cons.1 hk with rfl | hk
    · exact ⟨R, h.1⟩
    · exact Lv.mem h.2 k hk
  | [], _, _, k, hk => by cases hk
  | _ :: _, [], h, _, _ => h.elim
theorem cells_oc {C : Ctx} {S : AS} {E : Env} {a : Act} {w : World} (h : HoldsAt C S E a w) : ∀ {js : List Nat} {c : List Oc} {us : List Value}, Lv S js (rowsOf c) → AllV E (oCells js c) us → OcAll E.M w c us ∧ rowVals c us = (rowsOf c).zip (js.map E.ν)
  | [], [], [], _, _ => ⟨trivial, rfl⟩
  | js, .s x :: l, v :: vs, hL, hv => by
    have hv' : AllV E (AV.sv x :: oCells js l) (v :: vs) := by cases js <;> exact hv
    obtain ⟨h1, h2⟩ := cells_oc h (js := js) (c := l) (us := vs) hL hv'.2
    exact ⟨⟨hv'.1, h1⟩, h2⟩
  | j :: js, .r R :: l, v :: vs, hL, hv => by
    have hL : S.r j = .live R ∧ Lv S js (rowsOf l) := hL
    have hv' : AllV E (AV.row j :: oCells js l) (v :: vs) := hv
    obtain ⟨h1, h2⟩ := cells_oc h (js := js) (c := l) (us := vs) hL.2 hv'.2
    have e : v = E.ν j := hv'.1
    obtain ⟨q1, _⟩ := h.rx j R hL.1
    rw [← e] at q1
    refine ⟨⟨q1, h1⟩, ?_⟩
    rw [rowVals, h2, e]; rfl
  | [], .r _ :: _, _, hL, _ => hL.elim
  | _ :: _, [], _, hL, _ => hL.elim
  | [], [], _ :: _, _, hv => by simp [oCells] at hv; exact hv.elim
  | js, .s x :: l, [], _, hv => by
    have hv' : AllV E (AV.sv x :: oCells js l) [] := by cases js <;> exact hv
    exact hv'.elim
  | _ :: _, .r _ :: _, [], _, hv => hv.elim
theorem zip_snd_mem {α β : Type} : ∀ {l : List α} {k : List β} {b : β}, l.length = k.length → b ∈ k → ∃ a, (a, b) ∈ l.zip k
  | a :: l, c :: k, b, h, hb => by
    rcases List.mem_cons.1 hb with rfl | hb
    · exact ⟨a, by rw [List.zip_cons_cons]; simp⟩
    · obtain ⟨a', h'⟩ := zip_snd_mem (l := l) (k := k) (by simpa using h) hb
      exact ⟨a', by rw [List.zip_cons_cons]; exact List.mem_cons_of_mem _ h'⟩
  | [], [], _, _, hb => by cases hb
  | [], _ :: _, _, h, _ => by simp at h
theorem objAt_of {C : Ctx} {S : AS} {E : Env} {a : Act} {w : World} (h : HoldsAt C S E a w) {i : Nat} {T : TypeId} {js : List Nat} {c : List Oc} (hB : S.b i = some ⟨T, oCells js c⟩) (hL : Lv S js (rowsOf c)) (hn : js.Nodup) :
    ∃ us, ObjAt E.M w (E.β i) T c us ∧ (∀ g, ocBlk c us g ↔ ∃ j ∈ js, (E.ν j).ownBlock = some g) := by
  obtain ⟨_, q1, _, us, q2, q3⟩ := h.bx i _ hB
  obtain ⟨p1, p2⟩ := cells_oc h hL q3
  have hlen := hL.len
  have blk : ∀ g, ocBlk c us g ↔ ∃ j ∈ js, (E.ν j).ownBlock = some g := fun g => by
    unfold ocBlk
    rw [p2]
    constructor
    · rintro ⟨⟨R, v⟩, hm, hg⟩
      obtain ⟨j, hj, rfl⟩ := List.mem_map.1 (zip_mem hm).2
      exact ⟨j, hj, hg⟩
    · rintro ⟨j, hj, hg⟩
      obtain ⟨R, hR⟩ := zip_snd_mem (l := rowsOf c) (k := js.map E.ν) (by simp [hlen]) (List.mem_map.2 ⟨j, hj, rfl⟩)
      exact ⟨(R, E.ν j), hR, hg⟩
  refine ⟨us, ⟨q2, p1, q1, fun g hg => ?_, ?_⟩, blk⟩
  · obtain ⟨j, hj, hg'⟩ := (blk g).1 hg
    obtain ⟨R, hR⟩ := hL.mem j hj
    obtain ⟨_, q4⟩ := h.rx j R hR
    obtain ⟨_, q5, _, q6⟩ := q4 g hg'
    exact ⟨fun e => q6 i _ hB e.symm, q5⟩
  · rw [p2]
    have key : ∀ (js : List Nat) (Rs : List Row), Lv S js Rs → js.Nodup → Apart (Rs.zip (js.map E.ν)) := by
      intro js
      induction js with
      | nil => intro Rs hL _; cases Rs with | nil => exact List.Pairwise.nil | cons _ _ => exact hL.elim
      | cons j js ih =>
        intro Rs hL hn
        cases Rs with
        | nil => exact hL.elim
        | cons R Rs =>
          rw [List.nodup_cons] at hn
          rw [List.map_cons, List.zip_cons_cons]
          refine List.pairwise_cons.2 ⟨fun p hp g e1 e2 => ?_, ih Rs hL.2 hn.2⟩
          obtain ⟨R', v'⟩ := p
          obtain ⟨j', hj', rfl⟩ := List.mem_map.1 (zip_mem hp).2
          obtain ⟨R2, hR2⟩ := hL.2.mem j' hj'
          have := h.rinj j j' R R2 hL.1 hR2 g e1 e2
          subst this; exact hn.1 hj'
    exact key js _ hL hn
def Fc.oy : Fc → Bool
  | .val _ => true
  | .box i => Nat.beq i 1000
  | .row _ => false
def AV.oy : AV → Bool
  | .sv _ => true
  | .ptr i _ => Nat.beq i 1000
  | .cmp _ js => js.all Fc.oy
  | _ => false
end Go.Fw
namespace Go.Fw
open Go.RowKit
def Un (S : AS) : List Nat → Prop
  | [] => True
  | k :: ks => (S.r k = .un ∧ k < 1000) ∧ Un S ks
theorem Un.mem {S : AS} : ∀ {ks : List Nat}, Un S ks → ∀ k ∈ ks, S.r k = .un ∧ k < 1000
  | k :: ks, h, j, hj => by
    rcases List.mem_cons.1 hj with rfl | hj
    · exact h.1
    · exact Un.mem h.2 j hj
  | [], _, j, hj => by cases hj
theorem Un.congr {S S' : AS} : ∀ {ks : List Nat}, (∀ k ∈ ks, S'.r k = S.r k) → Un S ks → Un S' ks
  | [], _, _ => trivial
  | k :: ks, h, hu => ⟨by rw [h k (by simp)]; exact hu.1, Un.congr (fun j hj => h j (List.mem_cons_of_mem _ hj)) hu.2⟩
theorem Lv.congr {S S' : AS} : ∀ {js : List Nat} {Rs : List Row}, (∀ k ∈ js, S'.r k = S.r k) → Lv S js Rs → Lv S' js Rs
  | [], [], _, _ => trivial
  | j :: js, R :: Rs, h, hl => ⟨by rw [h j (by simp)]; exact hl.1, Lv.congr (fun k hk => h k (List.mem_cons_of_mem _ hk)) hl.2⟩
  | [], _ :: _, _, h => h.elim
  | _ :: _, [], _, h => h.elim
def oEff (js ks : List Nat) (c : List Oc) : List (Nat × RSt) := js.map (fun j => (j, RSt.dead)) ++ (ks.zip (rowsOf c)).map (fun p => (p.1, .live p.2))
theorem zip_live : ∀ (ks : List Nat) (l : List (Row × Value)), (ks.zip l).map (fun n => (n.1, RSt.live n.2.1)) = (ks.zip (l.map (·.1))).map (fun p => (p.1, .live p.2))
  | [], _ => rfl
  | _ :: _, [] => rfl
  | k :: ks, p :: l => by rw [List.map_cons, List.zip_cons_cons, List.zip_cons_cons, List.map_cons, List.map_cons, zip_live ks l]
theorem rsOf_eff {M : Mem} {w : World} {c : List Oc} {us : List Value} (h : OcAll M w c us) (js ks : List Nat) : rsOf js (ks.zip (rowVals c us)) = oEff js ks c := by
  unfold rsOf oEff
  rw [zip_live, rowVals_len h]
section steps
variable {P : Program} {C : Ctx} {ops : Array Oper} {S : AS} {nd : Bool} {K : List Ac → AS → Prop} {rest : List Oper} {acc : List Ac}
variable {gd : Option (Nat × Bool)} {rg : List Nat} {d : Nat} {ty : TypeId} {pos : String} {aft : Array Edge} {x y z : Operand} {T U E0 : TypeId}
class TyPtr (P : Program) (T : TypeId) : Prop where
  u : P.underlying T = some (.pointer (P.pointee T))
def Fc.av : Fc → AV
  | .val s => .sv s
  | .box i => .ptr i 0
  | .row i => .row i
theorem newO_end {w : World} {M : Mem} {S' : AS} {E : Env} {a : Act} {w' : World} {k : Nat} {ks : List Nat} {c : List Oc} (hB : S'.b k = some ⟨T, oCells ks c⟩) (hL : Lv S' ks (rowsOf c)) (hk : ks.Nodup) (hh : HoldsAt (ctx0 w M) S' E a w') :
    ∃ us, M.le E.M ∧ (∀ b o x, E.M b o = some x → M b o = some x ∨ w.heap.size ≤ b) ∧ E.M.inW w' ∧ ObjAt E.M w' (E.β k) T c us ∧ w.heap.size ≤ E.β k ∧ (∀ g, ocBlk c us g → w.heap.size ≤ g) ∧ Below w.heap.size w w' := by
  obtain ⟨us, ho, hblk⟩ := objAt_of hh hB hL hk
  refine ⟨us, hh.m0, fun b o x e => ?_, hh.inW, ho, (hh.bx k _ hB).1.elim id (fun h => h.elim), fun g hg => ?_, hh.os, hh.tape, hh.output, hh.grown, fun k hk => hh.frame k hk (fun h => h)⟩
  · rcases hh.mnew b o x e with h | h | h
    · exact .inl h
    · exact .inr h
    · exact h.elim
  · obtain ⟨j, hj, hg'⟩ := (hblk g).1 hg
    obtain ⟨R, hR⟩ := hL.mem j hj
    exact ((hh.rx j R hR).2 g hg').1.elim id (fun h => h.elim)
theorem HoldsAt.newRows {a : Act} {w : World} : ∀ (ks : List Nat) (l : List (Row × Value)) {S : AS} {E : Env}, HoldsAt C S E a w → ks.length = l.length → ks.Nodup → Un S ks → (∀ p ∈ l, ∃ vs : List Value, w.ownsRow 0 p.1.E p.1.sz p.2 p.1.n vs ∧ SV.All E.M p.1.cells vs) → Apart l → (∀ p ∈ l, ∀ g, p.2.ownBlock = some g → Free C S E g) →
    ∃ E' : Env, E'.M = E.M ∧ E'.β = E.β ∧ E'.O = E.O ∧ (∀ i p, (i, p) ∈ ks.zip l → E'.ν i = p.2) ∧ (∀ i, i ∉ ks → E'.ν i = E.ν i) ∧ HoldsAt C (AS.setRs ((ks.zip l).map (fun n => (n.1, .live n.2.1))) S) E' a w
  | [], [], S, E, h, _, _, _, _, _, _ => ⟨E, rfl, rfl, rfl, fun i p hm => (by simp at hm), fun _ _ => rfl, h⟩
  | k :: ks, p :: l, S, E, h, hl, hn, hu, ho, ha, hf => by
    obtain ⟨R, v⟩ := p
    rw [List.nodup_cons] at hn
    obtain ⟨ha1, ha2⟩ := List.pairwise_cons.1 ha
    obtain ⟨vs, ho1, ho2⟩ := ho (R, v) (by simp)
    have h1 := h.newRow' hu.1.1 hu.1.2 [] none (.inl ⟨rfl, rfl⟩) (R' := R) ho1 ho2 (fun g hg => .inr (hf (R, v) (by simp) g hg)) (grown_refl w none)
    have hu' : Un (AS.setRs ([] ++ [(k, .live R)]) S) ks := hu.2.congr (fun j hj => by
      show (AS.setR S k _).r j = _
      exact AS.setR_other _ _ _ _ (fun e => hn.1 (e ▸ hj)))
    obtain ⟨E', q1, q2, q3, q4, q5, q6⟩ := HoldsAt.newRows ks l h1 (by simpa using hl) hn.2 hu' (fun p hp => ho p (List.mem_cons_of_mem _ hp)) ha2 (fun p hp g hg => by
      obtain ⟨f1, f2, f3, f4, f5⟩ := hf p (List.mem_cons_of_mem _ hp) g hg
      refine ⟨f1, f2, f3, f4, fun j R' hR' e => ?_⟩
      have hR' : (AS.setR S k (.live R)).r j = .live R' := hR'
      by_cases ej : j = k
      · subst ej
        have e : (if j = j then v else E.ν j).ownBlock = some g := e
        rw [if_pos rfl] at e
        exact ha1 p hp g e hg
      · rw [AS.setR_other _ _ _ _ ej] at hR'
        have e : (if j = k then v else E.ν j).ownBlock = some g := e
        rw [if_neg ej] at e
        exact f5 j R' hR' e)
    refine ⟨E', q1, q2, q3, fun i p hm => ?_, fun i hi => ?_, q6⟩
    · rw [List.zip_cons_cons] at hm
      rcases List.mem_cons.1 hm with e | e
      · cases e
        rw [q5 k hn.1]
        show (if k = k then v else E.ν k) = v
        rw [if_pos rfl]
      · exact q4 i p e
    · rw [q5 i (fun hm => hi (List.mem_cons_of_mem _ hm))]
      show (if i = k then v else E.ν i) = E.ν i
      rw [if_neg (fun e => hi (by rw [e]; simp))]
  | [], _ :: _, _, _, _, hl, _, _, _, _, _ => by simp at hl
  | _ :: _, [], _, _, _, hl, _, _, _, _, _ => by simp at hl
theorem zip_fst_mem {α β : Type} : ∀ {l : List α} {k : List β} {a : α}, l.length = k.length → a ∈ l → ∃ b, (a, b) ∈ l.zip k
  | a :: l, c :: k, b, h, hb => by
    rcases List.mem_cons.1 hb with rfl | hb
    · exact ⟨c, by rw [List.zip_cons_cons]; simp⟩
    · obtain ⟨a', h'⟩ := zip_fst_mem (l := l) (k := k) (by simpa using h) hb
      exact ⟨a', by rw [List.zip_cons_cons]; exact List.mem_cons_of_mem _ h'⟩
  | [], _, _, _, hb => by cases hb
  | _ :: _, [], _, h, _ => by simp at h
end steps
end Go.Fw
namespace Go.Fw
open Go.RowKit
def oFcs : List Nat → List Oc → List Fc
  | ids, .s x :: l => .val x :: oFcs ids l
  | i :: ids, .r _ :: l => .row i :: oFcs ids l
  | [], .r _ :: l => .val .any :: oFcs [] l
  | _, [] => []
theorem oFcs_all {E : Env} {w : World} : ∀ {ids : List Nat} {c : List Oc} {us : List Value}, ids.length = (rowsOf c).length → OcAll E.M w c us → (∀ i p, (i, p) ∈ ids.zip (rowVals c us) → E.ν i = p.2) → AllF E (oFcs ids c) us
  | ids, [], [], _, _, _ => by cases ids <;> exact trivial
  | ids, .s x :: l, v :: vs, hl, h, hv => by
    have ih := oFcs_all (E := E) (w := w) (ids := ids) (c := l) (us := vs) hl h.2 hv
    cases ids <;> exact ⟨h.1, ih⟩
  | i :: ids, .r R :: l, v :: vs, hl, h, hv => by
    refine ⟨(hv i (R, v) (by rw [rowVals, List.zip_cons_cons]; simp)).symm, oFcs_all (w := w) (ids := ids) (c := l) (us := vs) (by simpa [rowsOf] using hl) h.2 (fun j p hm => hv j p ?_)⟩
    rw [rowVals, List.zip_cons_cons]; exact List.mem_cons_of_mem _ hm
  | [], .r R :: l, _ :: _, hl, _, _ => by simp [rowsOf] at hl
  | _, [], _ :: _, _, h, _ => h.elim
  | _, .s _ :: _, [], _, h, _ => h.elim
  | _, .r _ :: _, [], _, h, _ => h.elim
theorem oFcs_m : ∀ {ids : List Nat} {c : List Oc}, (∀ j, ¬ Fc.box j ∈ oFcs ids c) ∧ ∀ j, Fc.row j ∈ oFcs ids c → j ∈ ids
  | ids, [] => by cases ids <;> simp [oFcs]
  | ids, .s y :: l => by
    have ih := oFcs_m (ids := ids) (c := l)
    have e : oFcs ids (.s y :: l) = .val y :: oFcs ids l := by cases ids <;> rfl
    rw [e]
    exact ⟨fun j h => by rcases List.mem_cons.1 h with h | h; cases h; exact ih.1 j h, fun j h => by rcases List.mem_cons.1 h with h | h; cases h; exact ih.2 j h⟩
  | i :: ids, .r R :: l => by
    have ih := oFcs_m (ids := ids) (c := l)
    exact ⟨fun j h => by rcases List.mem_cons.1 h with h | h; cases h; exact ih.1 j h, fun j h => by
      rcases List.mem_cons.1 h with h | h
      · cases h; simp
      · exact List.mem_cons_of_mem _ (ih.2 j h)⟩
  | [], .r R :: l => by
    have ih := oFcs_m (ids := []) (c := l)
    exact ⟨fun j h => by rcases List.mem_cons.1 h with h | h; cases h; exact ih.1 j h, fun j h => by rcases List.mem_cons.1 h with h | h; cases h; exact ih.2 j h⟩
theorem ocAll_len {M : Mem} {w : World} : ∀ {c : List Oc} {us : List Value}, OcAll M w c us → us.length = c.length
  | [], [], _ => rfl
  | .s _ :: l, _ :: vs, h => congrArg (· + 1) (ocAll_len (c := l) (us := vs) h.2)
  | .r _ :: l, _ :: vs, h => congrArg (· + 1) (ocAll_len (c := l) (us := vs) h.2)
  | [], _ :: _, h => h.elim
  | .s _ :: _, [], h => h.elim
  | .r _ :: _, [], h => h.elim
section
variable {P : Program}
def NewS (P : Program) (f : FuncId) (args : List SV) (c : List Oc) : Prop :=
  ∀ (M : Mem) (w : World) (vs : List Value), M.inW w → SV.All M args vs →
    Calls P f ⟨vs⟩ w fun e w' => ∃ us M', e = .returned (.agg ⟨us⟩) ∧ M.le M' ∧ (∀ b o x, M' b o = some x → M b o = some x ∨ w.heap.size ≤ b) ∧ M'.inW w' ∧ OcAll M' w' c us ∧
      (∀ g, ocBlk c us g → w.heap.size ≤ g ∧ ∀ o, M' g o = none) ∧ Apart (rowVals c us) ∧ Below w.heap.size w w'
theorem NewS.w {f : FuncId} {args args' : List SV} {c : List Oc} (h : NewS P f args c) (hi : SVIs args' args) : NewS P f args' c := fun M w vs hM hv => h M w vs hM (hi.holds hv)
theorem newS_of_ok {f : FuncId} {fn : Func} {code : Code} {args : List SV} {c : List Oc} {t n : Nat} {T : TypeId} [tA : TyA P T n] (hf : P.funcs[f]? = some fn) (hb : fn.body = some code) (hn : args.length ≤ fn.ntmps) (hres : fn.results = #[.cell t T]) (hcl : c.length = n)
    (h : ∀ (w : World) (M : Mem) (vs : List Value), SV.All M args vs → Ok P (ctx0 w M) code (AS.init fn.ntmps args) (fun e S => (e = .normal ∨ e = .ret) ∧ ∃ (k : Nat) (ks : List Nat), S.t t = .ptr k 0 ∧ S.b k = some ⟨T, oCells ks c⟩ ∧ Lv S ks (rowsOf c) ∧ ks.Nodup)) : NewS P f args c := by
  intro M w vs hM hvs
  refine calls_of_ok rfl hf hb (init_holds hM hvs hn) (h w M vs hvs) ?_
  rintro S' E a w' ⟨k, ks, hr1, hB, hL, hk⟩ hh
  have h1 := hh.tm t
  rw [hr1] at h1
  have h1 : a.tmps.getD t undef = .pointer (some ⟨E.β k, 0, none⟩) := h1
  obtain ⟨us, q1, q2, q3, q4, q5, q6, q7⟩ := newO_end hB hL hk hh
  refine ⟨.agg ⟨us⟩, ?_, us, E.M, rfl, q1, q2, q3, q4.al, fun g hg => ⟨q6 g hg, (q4.nr g hg).2⟩, q4.ap, q7⟩
  have hl := ocAll_len q4.al
  have hld := run_loadAgg (P := P) (T := T) (n := n) (w := w') (b := E.β k) (o := 0) (vs := us) (by omega) (fun j v e => by simp [World.cell?, q4.hp]; simpa using e)
  rw [Array.getD_eq_getD_getElem?] at h1
  simp [results, hres, h1, asAddr, hld]
end
section
variable {P : Program} {C : Ctx} {ops : Array Oper} {S : AS} {nd : Bool} {K : List Ac → AS → Prop} {rest : List Oper} {acc : List Ac}
variable {gd : Option (Nat × Bool)} {rg : List Nat} {d : Nat} {ty : TypeId} {pos : String} {aft : Array Edge} {x y z : Operand} {T U E0 : TypeId}
theorem RT.callNS (hg : Gd ops S gd rg) {f : FuncId} [Ent P f] {g : Operand} {xs : Array Operand} {at_ : Array TypeId} {args : List SV} {c : List Oc} (hp : NewS P f args c) (ks : List Nat) (hks : ks.Nodup) (hkl : ks.length = (rowsOf c).length) (hku : Un S ks) (hf : S.ev g = .sv (.v (.func (.func f) #[] #[]))) (hargs : AllSv S xs.toList args) (hd : d < S.n)
    (next : RunT P C ops nd K rest (⟨rg ++ (okeys g ++ xs.toList.flatMap okeys), [], ks, ⟨some (d, .cmp .agg (oFcs ks c)), [], oEff [] ks c⟩⟩ :: acc) ((AS.setRs (oEff [] ks c) S).set d (.cmp .agg (oFcs ks c)))) : RunT P C ops nd K (⟨some d, .call ⟨.value g, xs, at_⟩, ty, pos, aft, gd⟩ :: rest) acc S := by
  refine .inl ⟨_, [], ks, _, ?_, next⟩
  rintro S' hn ht hb hr i a w L Q ho ⟨E, h⟩ hL
  refine wpOp_of (C := C) ho (hg.wanted h (fun s hs => ht s (List.mem_append_left _ hs)) rfl) ?_
  have hgf : a.eval g = .func (.func f) #[] ⟨[]⟩ := by
    have h1 := h.ev g; rw [ev_congr (fun _ h => List.mem_append_right _ (List.mem_append_left _ h)) ht, hf] at h1; exact h1
  have hall := AllSv.vals h hargs (fun s hs => ht s (List.mem_append_right _ (List.mem_append_right _ hs)))
  refine wpIn_of (C := C) (by intro c h; cases h) (run_call hgf) ?_
  rw [List.append_nil]
  refine ⟨fun h => by simp at h, fr_calls ((hp E.M w _ h.inW hall).mono ?_)⟩
  rintro e w' ⟨us, M', rfl, hM, hnew, hin, hal, hgb, hap, hbl⟩
  have hrv : (rowVals c us).length = (rowsOf c).length := by rw [← rowVals_len hal, List.length_map]
  obtain ⟨E1, q1, q2, q3, q4, q5, h1⟩ := HoldsAt.newRows ks (rowVals c us) (h.grow hM hnew hin hbl) (by omega) hks (hku.congr hr) (rowVals_at hal) hap (fun p hp g hgv => h.freeNew (hgb g ⟨p, hp, hgv⟩).1 (hgb g ⟨p, hp, hgv⟩).2)
  have hS1 : AS.setRs ((ks.zip (rowVals c us)).map (fun n => (n.1, .live n.2.1))) S' = AS.setRs (oEff [] ks c) S' := by rw [← rsOf_eff hal [] ks]; rfl
  rw [hS1] at h1
  refine hL _ _ ⟨_, h1.put (x := .cmp .agg (oFcs ks c)) (v := .agg ⟨us⟩) ⟨us, rfl, oFcs_all (w := w') hkl (by rw [q1]; exact hal) q4⟩ ?_ ⟨fun j e => (oFcs_m.1 j e).elim, fun j e => ?_⟩⟩
  · rw [(setRs_n _ _).1]; show d < S'.n; omega
  · have hj := oFcs_m.2 j e
    obtain ⟨R, hm⟩ := zip_fst_mem (l := ks) (k := rowsOf c) hkl hj
    obtain ⟨R', hR'⟩ := lastR_ex (l := oEff [] ks c) (j := j) (R := .live R) (List.mem_map.2 ⟨(j, R), hm, rfl⟩)
    rw [setRs_r, hR']
    obtain ⟨x, hx, e⟩ := List.mem_map.1 (show (j, R') ∈ (ks.zip (rowsOf c)).map (fun p => (p.1, RSt.live p.2)) from lastR_some hR')
    rw [← show RSt.live x.2 = R' from congrArg Prod.snd e]
    simp
def FcOk (S : AS) : List Fc → Prop
  | [] => True
  | .val s :: l => (∀ M v, s.h M v → v.oneCell' = true) ∧ FcOk S l
  | .row i :: l => (∃ R, S.r i = .live R) ∧ FcOk S l
  | .box _ :: l => FcOk S l
def rowIds : List Fc → List Nat
  | [] => []
  | .row i :: l => i :: rowIds l
  | .val _ :: l => rowIds l
  | .box _ :: l => rowIds l
theorem fcOk_all {S' : AS} {E : Env} {a : Act} {w : World} (h : HoldsAt C S' E a w) : ∀ {js : List Fc} {us : List Value}, FcOk S js → (∀ i ∈ rowIds js, S'.r i = S.r i) → AllF E js us → AllV E (js.map Fc.av) us ∧ ∀ u ∈ us, u.oneCell' = true
  | [], [], _, _, _ => ⟨trivial, by simp⟩
  | .val s :: l, u :: us, ho, hr, ha => by
    obtain ⟨i1, i2⟩ := fcOk_all h (js := l) (us := us) ho.2 hr ha.2
    exact ⟨⟨ha.1, i1⟩, fun v hv => by rcases List.mem_cons.1 hv with rfl | hv; exact ho.1 _ _ ha.1; exact i2 v hv⟩
  | .row i :: l, u :: us, ho, hr, ha => by
    obtain ⟨i1, i2⟩ := fcOk_all h (js := l) (us := us) ho.2 (fun j hj => hr j (List.mem_cons_of_mem _ hj)) ha.2
    obtain ⟨R, hR⟩ := ho.1
    obtain ⟨⟨ws, hw, _⟩, _⟩ := h.rx i R (by rw [hr i (by simp [rowIds])]; exact hR)
    have hu : u = E.ν i := ha.1
    refine ⟨⟨hu, i1⟩, fun v hv => ?_⟩
    rcases List.mem_cons.1 hv with rfl | hv
    · rw [hu]
      rcases hw.2 with ⟨h3, _⟩ | ⟨g, cap, cur, h3, _⟩ <;> rw [h3] <;> rfl
    · exact i2 v hv
  | .box i :: l, u :: us, ho, hr, ha => by
    obtain ⟨i1, i2⟩ := fcOk_all h (js := l) (us := us) ho hr ha.2
    have hu : u = .pointer (some ⟨E.β i, 0, none⟩) := ha.1
    exact ⟨⟨hu, i1⟩, fun v hv => by rcases List.mem_cons.1 hv with rfl | hv; rw [hu]; rfl; exact i2 v hv⟩
  | [], _ :: _, _, _, ha => ha.elim
  | _ :: _, [], _, _, ha => ha.elim
theorem RT.storeC (hg : Gd ops S gd rg) {n : Nat} [tA : TyA P T n] {j : Nat} {B : Box} {js : List Fc} (hx : S.ev x = .ptr j 0) (hB : S.b j = some B) (hy : S.ev y = .cmp .agg js) (hok : FcOk S js) (hcl : js.length = n) (hn : B.cells.length = n) (rr : List Nat) (hrr : rowIds js = rr) (cells : List AV) (hc : js.map Fc.av = cells)
    (next : RunT P C ops nd K rest (⟨rg ++ (okeys x ++ okeys y), [j], rr, ⟨none, [(j, ⟨B.T, cells⟩)], []⟩⟩ :: acc) (S.setB j ⟨B.T, cells⟩)) : RunT P C ops nd K (⟨none, .store T x y, ty, pos, aft, gd⟩ :: rest) acc S := by
  subst hc
  refine RT.storeG hg rr hx hB (cs := js.map Fc.av) ?_ (fun w => tA.size w) (by simp [hcl]) (by omega) (cells := js.map Fc.av) (spl_whole (js.map Fc.av) [] B.cells (by simp; omega)) next
  intro S' E a w h e hr
  have h2 := h.ev y
  rw [e, hy] at h2
  obtain ⟨us, hu, hall⟩ := h2
  have hu : a.eval y = .agg ⟨us⟩ := hu
  obtain ⟨k1, k2⟩ := fcOk_all h hok (by rw [hrr]; exact hr) hall
  refine ⟨us, by rw [hu]; rfl, k1, k2, fun z hz => ?_⟩
  obtain ⟨l1, l2⟩ := ev_live h.wf (e.trans hy)
  obtain ⟨q, hq, rfl⟩ := List.mem_map.1 hz
  cases q with
  | val s => exact nomb
  | box k => exact ⟨fun i e => l1 i (by have e : i = k := e; subst e; exact hq), fun i e => e.elim⟩
  | row k => exact ⟨fun i e => e.elim, fun i e => l2 i (by have e : i = k := e; subst e; exact hq)⟩
inductive PartsF (S : AS) : List (Nat × Operand) → List (Nat × Fc) → Prop
  | nil : PartsF S [] []
  | one {i : Nat} {x : Operand} {s : SV} {ps : List (Nat × Operand)} {qs : List (Nat × Fc)} [o : One s] (h : S.ev x = .sv s) (t : PartsF S ps qs) : PartsF S ((i, x) :: ps) ((i, .val s) :: qs)
  | row {i j : Nat} {x : Operand} {R : Row} {ps : List (Nat × Operand)} {qs : List (Nat × Fc)} (h : S.ev x = .row j) (hR : S.r j = .live R) (t : PartsF S ps qs) : PartsF S ((i, x) :: ps) ((i, .row j) :: qs)
def sgE (E : Env) : Fc → SV
  | .val s => s
  | .row j => .v (E.ν j)
  | .box _ => .any
def AV.unrow (E : Env) : AV → AV
  | .row i => .sv (.v (E.ν i))
  | x => x
def AS.unrow (S : AS) (E : Env) : AS := { S with t := fun s => (S.t s).unrow E }
theorem unrow_key {E : Env} (x : AV) : (∀ v, x.holds E v → (x.unrow E).holds E v) ∧ (∀ j, (x.unrow E).mb j → x.mb j) ∧ ∀ j, (x.unrow E).mr j → x.mr j := by
  cases x with
  | row i => exact ⟨fun v hv => hv, fun j hj => False.elim hj, fun j hj => False.elim hj⟩
  | _ => exact ⟨fun v hv => hv, fun j hj => hj, fun j hj => hj⟩
theorem HoldsAt.unrow {E : Env} {a : Act} {w : World} (h : HoldsAt C S E a w) : HoldsAt C (S.unrow E) E a w := { h with
    wf := ⟨fun s j hj => h.wf.tb s j ((unrow_key (S.t s)).2.1 j hj), fun s j hj => h.wf.tr s j ((unrow_key (S.t s)).2.2 j hj), h.wf.bb, h.wf.br⟩
    tm := fun s => (unrow_key (S.t s)).1 _ (h.tm s) }
theorem unrow_sv {E : Env} {s : SV} (h : S.ev x = .sv s) : (S.unrow E).ev x = .sv s := by
  cases x with
  | tmp t =>
    have h : S.t t = .sv s := h
    show (S.t t).unrow E = _
    rw [h]; rfl
  | _ => exact h
theorem unrow_row {E : Env} {j : Nat} (h : S.ev x = .row j) : (S.unrow E).ev x = .sv (.v (E.ν j)) := by
  cases x with
  | tmp t =>
    have h : S.t t = .row j := h
    show (S.t t).unrow E = _
    rw [h]; rfl
  | _ => cases h
theorem partsF_parts {S' : AS} {E : Env} {a : Act} {w : World} (h : HoldsAt C S' E a w) {ps : List (Nat × Operand)} {qs : List (Nat × Fc)} (hp : PartsF S ps qs) (ht : ∀ s ∈ pkeys ps, S'.t s = S.t s) (hr : ∀ q ∈ qs, ∀ j, q.2 = .row j → S'.r j = S.r j) : Parts (S'.unrow E) ps (qs.map fun q => (q.1, [sgE E q.2])) := by
  induction hp with
  | nil => exact .nil
  | @one i x s ps qs o hx _ ih =>
    have hx' : S'.ev x = .sv s := by rw [ev_congr (rs := pkeys ((i, x) :: ps)) (fun s hs => by simp only [pkeys, List.flatMap_cons]; exact List.mem_append_left _ hs) ht]; exact hx
    exact Parts.one (s := s) (unrow_sv hx') (ih (fun s hs => ht s (by simp only [pkeys, List.flatMap_cons]; exact List.mem_append_right _ hs)) (fun q hq => hr q (List.mem_cons_of_mem _ hq)))
  | @row i j x R ps qs hx hR _ ih =>
    have hx' : S'.ev x = .row j := by rw [ev_congr (rs := pkeys ((i, x) :: ps)) (fun s hs => by simp only [pkeys, List.flatMap_cons]; exact List.mem_append_left _ hs) ht]; exact hx
    obtain ⟨⟨ws, hw, _⟩, _⟩ := h.rx j R (by rw [hr (i, .row j) (by simp) j rfl]; exact hR)
    have o : One (.v (E.ν j)) := ⟨fun M v hv => by
      have hv : v = E.ν j := hv
      rw [hv]
      rcases hw.2 with ⟨h3, _⟩ | ⟨g, cap, cur, h3, _⟩ <;> rw [h3] <;> rfl⟩
    exact Parts.one (s := .v (E.ν j)) (unrow_row hx') (ih (fun s hs => ht s (by simp only [pkeys, List.flatMap_cons]; exact List.mem_append_right _ hs)) (fun q hq => hr q (List.mem_cons_of_mem _ hq)))
theorem sgE_all {E : Env} : ∀ {js : List Fc} {us : List Value}, (∀ j, Fc.box j ∉ js) → SV.All E.M (js.map (sgE E)) us → AllF E js us
  | [], [], _, _ => trivial
  | .val s :: l, u :: us, hb, h => ⟨h.1, sgE_all (fun j hj => hb j (List.mem_cons_of_mem _ hj)) h.2⟩
  | .row i :: l, u :: us, hb, h => ⟨h.1, sgE_all (fun j hj => hb j (List.mem_cons_of_mem _ hj)) h.2⟩
  | .box i :: l, _, hb, _ => (hb i (by simp)).elim
  | [], _ :: _, _, h => h.elim
  | .val _ :: _, [], _, h => h.elim
  | .row _ :: _, [], _, h => h.elim
def noBox : List Fc → Bool
  | [] => true
  | .box _ :: _ => false
  | .val _ :: l => noBox l
  | .row _ :: l => noBox l
theorem noBox_m : ∀ {js : List Fc}, noBox js = true → ∀ j, Fc.box j ∉ js
  | [], _, j, h => by cases h
  | .box _ :: _, h, _, _ => by cases h
  | .val _ :: l, h, j, hj => by rcases List.mem_cons.1 hj with e | e; cases e; exact noBox_m (js := l) h j e
  | .row _ :: l, h, j, hj => by rcases List.mem_cons.1 hj with e | e; cases e; exact noBox_m (js := l) h j e
theorem rowIds_m : ∀ {js : List Fc} {j : Nat}, Fc.row j ∈ js → j ∈ rowIds js
  | .box _ :: l, j, h => by rcases List.mem_cons.1 h with e | e; cases e; exact rowIds_m (js := l) e
  | .val _ :: l, j, h => by rcases List.mem_cons.1 h with e | e; cases e; exact rowIds_m (js := l) e
  | .row i :: l, j, h => by
    rcases List.mem_cons.1 h with e | e
    · cases e; simp [rowIds]
    · exact List.mem_cons_of_mem _ (rowIds_m (js := l) e)
theorem fcOk_live : ∀ {js : List Fc} {j : Nat}, FcOk S js → Fc.row j ∈ js → ∃ R, S.r j = .live R
  | .box _ :: l, j, ho, h => by rcases List.mem_cons.1 h with e | e; cases e; exact fcOk_live (js := l) ho e
  | .val _ :: l, j, ho, h => by rcases List.mem_cons.1 h with e | e; cases e; exact fcOk_live (js := l) ho.2 e
  | .row i :: l, j, ho, h => by
    rcases List.mem_cons.1 h with e | e
    · cases e; exact ho.1
    · exact fcOk_live (js := l) ho.2 e
theorem RT.buildC (hg : Gd ops S gd rg) {pl : List (Nat × Nat)} {zc : List Value} [tP : StructPl P T pl zc] {parts : Array (Nat × Operand)} {qs : List (Nat × Fc)} (hp : PartsF S parts.toList qs) (js : List Fc) (hf : ∀ E : Env, fillS (fun i => pl[i]?) (zc.map SV.v) (qs.map fun q => (q.1, [sgE E q.2])) = some (js.map (sgE E))) (hnb : noBox js = true) (hok : FcOk S js) (rr : List Nat) (hrr : rowIds js = rr) (hqr : rowIds (qs.map (·.2)) = rr) (hd : d < S.n)
    (next : RunT P C ops nd K rest (⟨rg ++ pkeys parts.toList, [], rr, ⟨some (d, .cmp .agg js), [], []⟩⟩ :: acc) (S.set d (.cmp .agg js))) : RunT P C ops nd K (⟨some d, .build T parts, ty, pos, aft, gd⟩ :: rest) acc S :=
  RT.value hg (pkeys parts.toList) [] rr (.cmp .agg js) hd (by intro c h; cases h) (fun S' ht _ hr E a w h => by
    have hu := tP.h
    cases hT : P.underlying T with
    | none => rw [hT] at hu; cases hu
    | some u =>
      rw [hT] at hu
      cases u with
      | struct fs =>
        simp only at hu
        have hz : (zeroValue T).run P w = .ok (.agg ⟨zc⟩) w := TyZero.run (t := ⟨tP.hz⟩) w
        have hp2 := partsF_parts h hp ht (fun q hq j e => hr j (by rw [← hqr]; exact rowIds_m (List.mem_map.2 ⟨q, hq, e⟩)))
        obtain ⟨us, h1, h2, _⟩ := fill_run h.unrow (fun i => pl[i]?) hp2 (fun s _ => rfl) (cells := zc.map SV.v) (vs := zc) (by
          have : ∀ l : List Value, SV.All E.M (l.map SV.v) l := by
            intro l; induction l with
            | nil => trivial
            | cons v l ih => exact ⟨rfl, ih⟩
          exact this zc) (List.all_eq_true.1 tP.o) (hf E)
        refine ⟨.agg ⟨us⟩, ?_, ⟨us, rfl, sgE_all (noBox_m hnb) h2⟩, fun j e => (noBox_m hnb j e).elim, fun j e => ?_⟩
        · have hm : (fs.mapM (fun f => do pure (f.offset, ← sizeOf f.type) : Field → Sem (Nat × Nat))).run P w = .ok pl.toArray w := by
            have := mapM_places (P := P) (w := w) hu
            rw [← Array.toArray_toList (xs := fs), List.mapM_toArray]
            rw [Sem.run_map, this]; rfl
          have h1' : Instr.fill (fun i => pl.toArray[i]?) ⟨zc⟩ (parts.toList.map fun p => (p.1, a.eval p.2)) = some ⟨us⟩ := by simpa using h1
          simp only [execOp, Instr.build, underlying]
          simp only [Sem.run_bind, hz, Result.andThen_ok, run_program, hT, Sem.run_pure, Value.cells]
          have hm' : (Array.mapM (fun f => do
              let __do_lift ← sizeOf f.type
              pure (f.offset, __do_lift)) fs : Sem _).run P w = .ok pl.toArray w := hm
          simp only [hm', Result.andThen_ok]
          have e4 : (Array.map (fun x => match x with | (i, x) => (i, a.eval x)) parts).toList = parts.toList.map fun p => (p.1, a.eval p.2) := by simp
          simp only [e4, h1', Sem.run_pure, Result.andThen_ok]
        · obtain ⟨R, hR⟩ := fcOk_live hok e
          rw [hr j (by rw [← hrr]; exact rowIds_m e), hR]; simp
      | _ => cases hu) next
end
end Go.Fw
namespace Go.Proofs.YtfoldppidpmchaaGreat
open Go.Fw
noncomputable def lp_sizesOf_m (x0 : Lr) : Option (Sz) := match x0 with | ⟨x0_0, x0_1, x0_2, x0_3⟩ => (some (x0_1.length : Int)).bind fun x7 => (some (x0_2.length : Int)).bind fun x10 => (some (x0_3.length : Int)).bind fun x13 => some ⟨x0_0, x7, x10, x13⟩
noncomputable def lp_Valid_m (x0 : Lr) : Option (Bool) := match x0 with | ⟨x0_0, x0_1, x0_2, x0_3⟩ => (lp_sizesOf_m ⟨x0_0, x0_1, x0_2, x0_3⟩).bind fun ⟨x5_0, x5_1, x5_2, x5_3⟩ => letJ (fun (y23j9 : Bool) => (bif y23j9 then some false else letJ (fun (y33j12 : Bool) => (bif y33j12 then some false else letJ (fun (y2j15 : Bool) => some y2j15) fun K16 => (mat_Cols_m x0_1).bind fun x36 => (some (decide ((x36 : Int) ≤ x5_0))).bind fun x39 => (bif x39 then (mat_Cols_m x0_2).bind fun x43 => (some (decide ((x43 : Int) ≤ x5_0))).bind fun x46 => some x46 else some false).bind fun c47_17 => K16 c47_17)) fun K13 => (some (decide ((128 : Int) < x5_2))).bind fun x26 => (bif x26 then some true else (some (decide ((x5_3 : Int) ≠ x5_2))).bind fun x32 => some x32).bind fun c33_18 => K13 c33_18)) fun K10 => (some (decide ((x5_0 : Int) < 0))).bind fun x8 => (bif x8 then some true else (some (decide ((64 : Int) < x5_0))).bind fun x12 => some x12).bind fun c13_19 => (bif c13_19 then some true else (some (decide ((x5_1 : Int) < 1))).bind fun x17 => some x17).bind fun c18_25 => (bif c18_25 then some true else (some (decide ((4 : Int) < x5_1))).bind fun x22 => some x22).bind fun c23_26 => K10 c23_26
noncomputable def lp_Feasible_m (x0 : Lr) (x1 : List Qr) : Option (Bool) := match x0 with | ⟨x0_0, x0_1, x0_2, x0_3⟩ => letJ (fun (y19j2 : Bool) => (bif y19j2 then some false else (some (x1.length : Int)).bind fun x21 => (loopM (fun (y22l6 : Int) => (show Option ((Int) ⊕ ((Unit) ⊕ (Bool))) from (some (decide ((y22l6 : Int) < x21))).bind fun x23 => (bif x23 then (geti x1 y22l6).bind fun ⟨⟨x24_0, x24_1⟩, ⟨x24_2, x24_3⟩⟩ => (frac_Sign_m ⟨⟨x24_0, x24_1⟩, ⟨x24_2, x24_3⟩⟩).bind fun x27 => (some (decide ((x27 : Int) < 0))).bind fun x28 => (bif x28 then some (.inr (.inr false)) else (some (IntKind.i64.wrap (y22l6 + 1))).bind fun x29 => some (.inl x29)) else some (.inr (.inl ()))))) 0).bind fun e9 => match e9 with | .inr v9 => some v9 | .inl _ => (rangeX (fun (k : Nat) (s12 : Unit) => (show Option ((Unit) ⊕ (Bool)) from (some ((Lr.rows ⟨x0_0, x0_1, x0_2, x0_3⟩).getD k [])).bind fun p32 => (some ((Lr.bounds ⟨x0_0, x0_1, x0_2, x0_3⟩).getD k (⟨⟨false, []⟩, ⟨false, []⟩⟩ : Qr))).bind fun ⟨⟨p33_0, p33_1⟩, ⟨p33_2, p33_3⟩⟩ => (vec_Dot_m p32 x1).bind fun ⟨⟨x36_0, x36_1⟩, ⟨x36_2, x36_3⟩⟩ => (frac_Cmp_m ⟨⟨x36_0, x36_1⟩, ⟨x36_2, x36_3⟩⟩ ⟨⟨p33_0, p33_1⟩, ⟨p33_2, p33_3⟩⟩).bind fun x38 => (some (decide ((x38 : Int) = 1))).bind fun x40 => (bif x40 then some (.inr false) else some (.inl ())))) ((Lr.rows ⟨x0_0, x0_1, x0_2, x0_3⟩).length) ()).bind fun e12 => match e12 with | .inr v12 => some v12 | .inl _ => some true)) fun K3 => (lp_Valid_m ⟨x0_0, x0_1, x0_2, x0_3⟩).bind fun x11 => (some (!x11)).bind fun x12 => (bif x12 then some true else (some (x1.length : Int)).bind fun x15 => (some (decide ((x0_0 : Int) < x15))).bind fun x18 => some x18).bind fun c19_13 => K3 c19_13
noncomputable def lp_Evaluate_m (x0 : Lr) (x1 : List Qr) : Option (List Qr) := match x0 with | ⟨x0_0, x0_1, x0_2, x0_3⟩ => (mat_MulVec_m x0_1 x1).bind fun x8 => some x8
noncomputable def lp_Slack_m (x0 : Lr) (x1 : List Qr) : Option (List Qr) := match x0 with | ⟨x0_0, x0_1, x0_2, x0_3⟩ => (rangeM (fun (k : Nat) (r304l3 : (List Qr)) => (show Option ((List Qr)) from (some ((Lr.rows ⟨x0_0, x0_1, x0_2, x0_3⟩).getD k [])).bind fun p10 => (some ((Lr.bounds ⟨x0_0, x0_1, x0_2, x0_3⟩).getD k (⟨⟨false, []⟩, ⟨false, []⟩⟩ : Qr))).bind fun ⟨⟨p11_0, p11_1⟩, ⟨p11_2, p11_3⟩⟩ => (vec_Dot_m p10 x1).bind fun ⟨⟨x16_0, x16_1⟩, ⟨x16_2, x16_3⟩⟩ => (frac_Sub_m ⟨⟨p11_0, p11_1⟩, ⟨p11_2, p11_3⟩⟩ ⟨⟨x16_0, x16_1⟩, ⟨x16_2, x16_3⟩⟩).bind fun ⟨⟨x17_0, x17_1⟩, ⟨x17_2, x17_3⟩⟩ => (apM 64 r304l3 [⟨⟨x17_0, x17_1⟩, ⟨x17_2, x17_3⟩⟩]).bind fun x19 => some x19)) ((Lr.rows ⟨x0_0, x0_1, x0_2, x0_3⟩).length) []).bind fun r304l3 => some r304l3
noncomputable def lp_Compare_m (x0 : Lr) (x1 : List Qr) (x2 : List Qr) : Option (Int) := match x0 with | ⟨x0_0, x0_1, x0_2, x0_3⟩ => (lp_Evaluate_m ⟨x0_0, x0_1, x0_2, x0_3⟩ x1).bind fun x10 => (lp_Evaluate_m ⟨x0_0, x0_1, x0_2, x0_3⟩ x2).bind fun x13 => (vec_Compare_m x10 x13).bind fun x14 => (some (decide ((x14 : Int) ≠ 0))).bind fun x16 => (bif x16 then some x14 else (vec_Compare_m x2 x1).bind fun x20 => some x20)
noncomputable def lp_Dual_m (x0 : Lr) : Option (Lr × Int) := match x0 with | ⟨x0_0, x0_1, x0_2, x0_3⟩ => letJ (fun (y23j5 : Bool) => (bif y23j5 then some (⟨0, [], [], []⟩, 1) else (some (x0_2.length : Int)).bind fun x27 => (frac_FromInt64_m (-1)).bind fun ⟨⟨x28_0, x28_1⟩, ⟨x28_2, x28_3⟩⟩ => (vec_Scale_m ⟨⟨x28_0, x28_1⟩, ⟨x28_2, x28_3⟩⟩ x0_3).bind fun x33 => (loopM (fun (s26 : Int × (List (List Qr)) × (List Qr)) => match s26 with | ⟨y38l16, r307l16, r308l16⟩ => (show Option ((Int × (List (List Qr)) × (List Qr)) ⊕ ((List (List Qr)) × (List Qr))) from (some (decide ((y38l16 : Int) < x0_0))).bind fun x39 => (bif x39 then (mkM 64 x27 (⟨⟨false, []⟩, ⟨false, []⟩⟩ : Qr)).bind fun x42 => (some (x42.length : Int)).bind fun x44 => (loopM (fun (s34 : Int × (List Qr)) => match s34 with | ⟨y45l30, r42l30⟩ => (show Option ((Int × (List Qr)) ⊕ ((List Qr))) from (some (decide ((y45l30 : Int) < x44))).bind fun x46 => (bif x46 then (mat_At_m x0_2 y45l30 y38l16).bind fun ⟨⟨x54_0, x54_1⟩, ⟨x54_2, x54_3⟩⟩ => (frac_Neg_m ⟨⟨x54_0, x54_1⟩, ⟨x54_2, x54_3⟩⟩).bind fun ⟨⟨x55_0, x55_1⟩, ⟨x55_2, x55_3⟩⟩ => (cki r42l30 y45l30).bind fun x56 => (stM r42l30 x56 ⟨⟨x55_0, x55_1⟩, ⟨x55_2, x55_3⟩⟩).bind fun l36 => (some (IntKind.i64.wrap (y45l30 + 1))).bind fun x57 => some (.inl (x57, l36)) else some (.inr r42l30)))) (0, x42)).bind fun r42e33 => (apM 24 r307l16 [r42e33]).bind fun x62 => (mat_At_m x0_1 0 y38l16).bind fun ⟨⟨x69_0, x69_1⟩, ⟨x69_2, x69_3⟩⟩ => (frac_Neg_m ⟨⟨x69_0, x69_1⟩, ⟨x69_2, x69_3⟩⟩).bind fun ⟨⟨x70_0, x70_1⟩, ⟨x70_2, x70_3⟩⟩ => (apM 64 r308l16 [⟨⟨x70_0, x70_1⟩, ⟨x70_2, x70_3⟩⟩]).bind fun x72 => (some (IntKind.i64.wrap (y38l16 + 1))).bind fun x74 => some (.inl (x74, x62, x72)) else some (.inr (r307l16, r308l16))))) (0, [], [])).bind fun e26 => match e26 with | ⟨r307e25, r308e25⟩ => some (⟨x27, [x33], r307e25, r308e25⟩, 0))) fun K6 => (lp_Valid_m ⟨x0_0, x0_1, x0_2, x0_3⟩).bind fun x11 => (some (!x11)).bind fun x12 => (bif x12 then some true else (some (x0_2.length : Int)).bind fun x16 => (some (decide ((64 : Int) < x16))).bind fun x17 => some x17).bind fun c18_37 => (bif c18_37 then some true else (some (decide ((128 : Int) < x0_0))).bind fun x22 => some x22).bind fun c23_40 => K6 c23_40
noncomputable def vec_ScaleN_m (x0 : Qr) (x1 : List Qr) : Option (List Qr) := match x0 with | ⟨⟨x0_0, x0_1⟩, ⟨x0_2, x0_3⟩⟩ => (some (x1.length : Int)).bind fun x9 => (mkM 64 x9 (⟨⟨false, []⟩, ⟨false, []⟩⟩ : Qr)).bind fun x10 => (some (x1.length : Int)).bind fun x12 => (loopM (fun (s8 : Int × (List Qr)) => match s8 with | ⟨y13l4, r10l4⟩ => (show Option ((Int × (List Qr)) ⊕ ((List Qr))) from (some (decide ((y13l4 : Int) < x12))).bind fun x14 => (bif x14 then (geti x1 y13l4).bind fun ⟨⟨x16_0, x16_1⟩, ⟨x16_2, x16_3⟩⟩ => (frac_Mul_m ⟨⟨x0_0, x0_1⟩, ⟨x0_2, x0_3⟩⟩ ⟨⟨x16_0, x16_1⟩, ⟨x16_2, x16_3⟩⟩).bind fun ⟨⟨x22_0, x22_1⟩, ⟨x22_2, x22_3⟩⟩ => (cki r10l4 y13l4).bind fun x23 => (stM r10l4 x23 ⟨⟨x22_0, x22_1⟩, ⟨x22_2, x22_3⟩⟩).bind fun l10 => (some (IntKind.i64.wrap (y13l4 + 1))).bind fun x24 => some (.inl (x24, l10)) else some (.inr r10l4)))) (0, x10)).bind fun r10e7 => some r10e7
noncomputable def lp_copyOfS_m (x0 : Lr) : Option (Int × (List (List Qr)) × (List (List Qr)) × (List Qr)) := match x0 with | ⟨x0_0, x0_1, x0_2, x0_3⟩ => (frac_FromInt64_m 1).bind fun ⟨⟨x4_0, x4_1⟩, ⟨x4_2, x4_3⟩⟩ => (mat_Scale_m ⟨⟨x4_0, x4_1⟩, ⟨x4_2, x4_3⟩⟩ x0_1).bind fun x10 => (mat_ScaleN_m ⟨⟨x4_0, x4_1⟩, ⟨x4_2, x4_3⟩⟩ x0_2).bind fun x14 => (vec_ScaleN_m ⟨⟨x4_0, x4_1⟩, ⟨x4_2, x4_3⟩⟩ x0_3).bind fun x18 => some (x0_0, x10, x14, x18)
noncomputable def lp_extend_m (x0 : Lr) (x1 : List Cn) : Option (Lr × Int) := match x0 with | ⟨x0_0, x0_1, x0_2, x0_3⟩ => letJ (fun (y22j2 : Bool) => (bif y22j2 then some (⟨0, [], [], []⟩, 1) else (some (x1.length : Int)).bind fun x25 => (loopM (fun (y26l6 : Int) => (show Option ((Int) ⊕ ((Unit) ⊕ (Lr × Int))) from (some (decide ((y26l6 : Int) < x25))).bind fun x27 => (bif x27 then (geti x1 y26l6).bind fun ⟨x28_0, ⟨⟨x28_1, x28_2⟩, ⟨x28_3, x28_4⟩⟩⟩ => (some (x28_0.length : Int)).bind fun x32 => (some (decide ((x0_0 : Int) < x32))).bind fun x35 => (bif x35 then some (.inr (.inr (⟨0, [], [], []⟩, 1))) else (some (IntKind.i64.wrap (y26l6 + 1))).bind fun x37 => some (.inl x37)) else some (.inr (.inl ()))))) 0).bind fun e9 => match e9 with | .inr v9 => some v9 | .inl _ => (lp_copyOfS_m ⟨x0_0, x0_1, x0_2, x0_3⟩).bind fun ⟨x39_0, x39_1, x39_2, x39_3⟩ => (some (x1.length : Int)).bind fun x41 => (loopM (fun (s15 : Int × (List (List Qr)) × (List Qr)) => match s15 with | ⟨y42l12, r307l12, r308l12⟩ => (show Option ((Int × (List (List Qr)) × (List Qr)) ⊕ ((List (List Qr)) × (List Qr))) from (some (decide ((y42l12 : Int) < x41))).bind fun x43 => (bif x43 then (geti x1 y42l12).bind fun ⟨x44_0, ⟨⟨x44_1, x44_2⟩, ⟨x44_3, x44_4⟩⟩⟩ => (some (x44_0.length : Int)).bind fun x52 => (vec_Resize_m x44_0 x52).bind fun x53 => (apM 24 r307l12 [x53]).bind fun x55 => (frac_Canonical_m ⟨⟨x44_1, x44_2⟩, ⟨x44_3, x44_4⟩⟩).bind fun ⟨⟨x61_0, x61_1⟩, ⟨x61_2, x61_3⟩⟩ => (apM 64 r308l12 [⟨⟨x61_0, x61_1⟩, ⟨x61_2, x61_3⟩⟩]).bind fun x63 => (some (IntKind.i64.wrap (y42l12 + 1))).bind fun x65 => some (.inl (x65, x55, x63)) else some (.inr (r307l12, r308l12))))) (0, x39_2, x39_3)).bind fun e15 => match e15 with | ⟨r307e14, r308e14⟩ => some (⟨x39_0, x39_1, r307e14, r308e14⟩, 0))) fun K3 => (lp_Valid_m ⟨x0_0, x0_1, x0_2, x0_3⟩).bind fun x12 => (some (!x12)).bind fun x13 => (bif x13 then some true else (some (x0_2.length : Int)).bind fun x17 => (some (x1.length : Int)).bind fun x19 => (some (IntKind.i64.wrap (x17 + x19))).bind fun x20 => (some (decide ((128 : Int) < x20))).bind fun x21 => some x21).bind fun c22_16 => K3 c22_16
noncomputable def lp_AddConstraint_m (x0 : Lr) (x1 : List Qr) (x2 : Qr) : Option (Lr × Int) := match x0 with | ⟨x0_0, x0_1, x0_2, x0_3⟩ => match x2 with | ⟨⟨x2_0, x2_1⟩, ⟨x2_2, x2_3⟩⟩ => (lp_extend_m ⟨x0_0, x0_1, x0_2, x0_3⟩ [⟨x1, ⟨⟨x2_0, x2_1⟩, ⟨x2_2, x2_3⟩⟩⟩]).bind fun ⟨⟨x13a_0, x13a_1, x13a_2, x13a_3⟩, x13b⟩ => some (⟨x13a_0, x13a_1, x13a_2, x13a_3⟩, x13b)
noncomputable def lp_AddEquation_m (x0 : Lr) (x1 : List Qr) (x2 : Qr) : Option (Lr × Int) := match x0 with | ⟨x0_0, x0_1, x0_2, x0_3⟩ => match x2 with | ⟨⟨x2_0, x2_1⟩, ⟨x2_2, x2_3⟩⟩ => (frac_FromInt64_m (-1)).bind fun ⟨⟨x9_0, x9_1⟩, ⟨x9_2, x9_3⟩⟩ => (vec_Scale_m ⟨⟨x9_0, x9_1⟩, ⟨x9_2, x9_3⟩⟩ x1).bind fun x11 => (frac_Neg_m ⟨⟨x2_0, x2_1⟩, ⟨x2_2, x2_3⟩⟩).bind fun ⟨⟨x13_0, x13_1⟩, ⟨x13_2, x13_3⟩⟩ => (lp_extend_m ⟨x0_0, x0_1, x0_2, x0_3⟩ [⟨x1, ⟨⟨x2_0, x2_1⟩, ⟨x2_2, x2_3⟩⟩⟩, ⟨x11, ⟨⟨x13_0, x13_1⟩, ⟨x13_2, x13_3⟩⟩⟩]).bind fun ⟨⟨x21a_0, x21a_1, x21a_2, x21a_3⟩, x21b⟩ => some (⟨x21a_0, x21a_1, x21a_2, x21a_3⟩, x21b)
noncomputable def lp_Equal_m (x0 : Lr) (x1 : Lr) : Option (Bool) := match x0 with | ⟨x0_0, x0_1, x0_2, x0_3⟩ => match x1 with | ⟨x1_0, x1_1, x1_2, x1_3⟩ => (lp_sizesOf_m ⟨x0_0, x0_1, x0_2, x0_3⟩).bind fun ⟨x6_0, x6_1, x6_2, x6_3⟩ => (lp_sizesOf_m ⟨x1_0, x1_1, x1_2, x1_3⟩).bind fun ⟨x8_0, x8_1, x8_2, x8_3⟩ => (some (!(((x6_0 : Int) == x8_0) && (((x6_1 : Int) == x8_1) && (((x6_2 : Int) == x8_2) && ((x6_3 : Int) == x8_3)))))).bind fun x9 => (bif x9 then some false else letJ (fun (y4j5 : Bool) => some y4j5) fun K6 => (mat_Equal_m x0_1 x1_1).bind fun x14 => (bif x14 then (mat_Equal_m x0_2 x1_2).bind fun x20 => some x20 else some false).bind fun c21_7 => (bif c21_7 then (vec_Equal_m x0_3 x1_3).bind fun x27 => some x27 else some false).bind fun c28_10 => K6 c28_10)
end Go.Proofs.YtfoldppidpmchaaGreat
namespace Go.Proofs.YtfoldppidpmchaaGreat
open Go.Fw Go.Fw.Z Go.RowKit
instance : St4 Tryz.prog 71 3 := ⟨by kernel_rfl, by kernel_rfl, by kernel_rfl, by kernel_rfl⟩
theorem lp_constraints_ok (p : Lr) : Pure Tryz.prog 62 [.agg (eLr p)] (cloS 98 [ref [.v (.int .i64 p.vars), (slc 1 (List.map (eS 4 eQ) p.objs)), (slc 1 (List.map (eS 4 eQ) p.rows)), (slc 4 (List.map eQ p.bounds))]]) := by
 refine pure_of_ok Tryz.func62 rfl (Nat.le_of_ble_eq_true rfl) (fun wld M vs hvs => ?_)
 refine sr <| bx rfl <| ag rfl <| dn <| sr <| RT.makeFunc .none (.box rfl (.nil)) T <| an (s := .clo _ _) rfl <| dn ?_
 refine ok_weak (weak_frzB (i := 1) rfl [.v (.int .i64 p.vars), (slc 1 (List.map (eS 4 eQ) p.objs)), (slc 1 (List.map (eS 4 eQ) p.rows)), (slc 4 (List.map eQ p.bounds))] (.cons rfl (.cons rfl (.cons rfl (.cons rfl .nil)))) .any 0 [(2, .clo 98 [.val (ref [.v (.int .i64 p.vars), (slc 1 (List.map (eS 4 eQ) p.objs)), (slc 1 (List.map (eS 4 eQ) p.rows)), (slc 4 (List.map eQ p.bounds))])])] (fun _ _ _ => trivial) (Ones.h (l := [.v (.int .i64 p.vars), (slc 1 (List.map (eS 4 eQ) p.objs)), (slc 1 (List.map (eS 4 eQ) p.rows)), (slc 4 (List.map eQ p.bounds))])) ⟨@FT.clo _ _ _ _ _ 2 98 [.box 1] rfl, trivial⟩) <| ok_weak (weak_t 2 (cloS 98 [ref [.v (.int .i64 p.vars), (slc 1 (List.map (eS 4 eQ) p.objs)), (slc 1 (List.map (eS 4 eQ) p.rows)), (slc 4 (List.map eQ p.bounds))]]) (fun _ _ h => clo_sv h)) ?_
 exact ok_ret <| ⟨.inr rfl, res_of (.tmp rfl (.nil)) rfl⟩
theorem lp_constraints_it (p : Lr) : Iter Tryz.prog 98 [ref [.v (.int .i64 p.vars), (slc 1 (List.map (eS 4 eQ) p.objs)), (slc 1 (List.map (eS 4 eQ) p.rows)), (slc 4 (List.map eQ p.bounds))]] p.rows.length (fun k => [(slc 4 (List.map eQ (p.rows.getD k []))), .agg (eQ (p.bounds.getD k (⟨⟨false, []⟩, ⟨false, []⟩⟩ : Qr)))]) := by
  refine iter_of_ok Tryz.func98 rfl rfl (Nat.le_of_ble_eq_true rfl) (fun wld M O l J hJ hcv hr => ?_)
  obtain ⟨cvs, hcv⟩ := hcv
  have hla : p.rows.length ≤ 9223372036854775807 := by cases cvs with | nil => exact hcv.elim | cons _ cvs => exact ref_len2 hcv.1
  refine ok_seq ?_
  refine ok_region ?_
  refine RT.fieldAddrR .none rfl (tl rfl) rfl ?_
  refine RT.loadRV .none rfl rfl (tl rfl) ?_
  refine RT.len .none rfl (tl rfl) ?_
  refine RT.mv .none rfl (tl rfl) ?_
  refine RT.done ?_
  refine AThen.n ?_
  refine ok_block ?_
  refine ok_loop (I := fun x : { i : Nat // i ≤ p.rows.length } => AS.mkL 30 [(0, .sv (.v (.func (.yield l) #[] #[]))), (1, .sv (ref [.v (.int .i64 p.vars), (slc 1 (List.map (eS 4 eQ) p.objs)), (slc 1 (List.map (eS 4 eQ) p.rows)), (slc 4 (List.map eQ p.bounds))])), (7, .sv ((slc 1 (List.map (eS 4 eQ) p.rows)))), (8, .sv (.v (.int .i64 ((p.rows.length : Nat) : Int)))), (9, .sv (.v (.int .i64 ((x.1 : Nat) : Int))))] [] [] (x.1)) (μ := fun x => p.rows.length - x.1) ⟨0, by omega⟩ (by (try dsimp only); exact weakL id rfl rfl rfl rfl rfl ⟨.sv (by first | exact SV.imp_refl _ | exact SV.imp_int (by omega) | exact SV.imp_int (by push_cast; omega) | exact SV.imp_int (by dsimp only; omega) | exact SV.imp_eq (by simp)), .sv (by first | exact SV.imp_refl _ | exact SV.imp_int (by omega) | exact SV.imp_int (by push_cast; omega) | exact SV.imp_int (by dsimp only; omega) | exact SV.imp_eq (by simp)), .sv (by first | exact SV.imp_refl _ | exact SV.imp_int (by omega) | exact SV.imp_int (by push_cast; omega) | exact SV.imp_int (by dsimp only; omega) | exact SV.imp_eq (by simp)), .sv (SV.imp_int (by simp)), .sv (by first | exact SV.imp_refl _ | exact SV.imp_int (by omega) | exact SV.imp_int (by push_cast; omega) | exact SV.imp_int (by dsimp only; omega) | exact SV.imp_eq (by simp)), trivial⟩ trivial trivial (fun _ _ => rfl)) ?_
  rintro ⟨i, hi0⟩
  try dsimp only
  rcases cons_cases p.rows p.bounds i hi0 with ⟨hi, hb⟩ | ⟨hi, hb⟩ | hi
  ·
    refine ok_seq ?_
    refine ok_region ?_
    refine RT.lss .none (true) rfl rfl (tl rfl) (by simp; omega) ?_
    refine RT.done ?_
    refine AThen.n ?_
    refine ok_seq ?_
    refine ok_condT rfl ?_
    refine ok_skip ?_
    refine AThen.n ?_
    refine ok_seq ?_
    refine ok_block ?_
    refine ok_seq ?_
    refine ok_region ?_
    refine RT.mv .none rfl (tl rfl) ?_
    refine RT.ixA .none [(slc 4 (List.map eQ (p.rows.getD i [])))] (Int.natCast_nonneg i) (by rw [Int.toNat_natCast, List.getElem?_map, get_getD' hi]; rfl) rfl rfl (tl rfl) ?_
    refine RT.loadRV .none rfl rfl (tl rfl) ?_
    refine RT.asg .none rfl (tl rfl) ?_
    refine RT.asg .none rfl (tl rfl) ?_
    refine RT.done ?_
    refine AThen.n ?_
    refine ok_seq ?_
    refine ok_region ?_
    refine RT.allocI .none (cs := eQ ⟨⟨false, []⟩, ⟨false, []⟩⟩) (by exact ⟨SV.imp_refl _, imp_nil, SV.imp_refl _, imp_nil, trivial⟩) rfl (tl rfl) rfl rfl ?_
    refine RT.done ?_
    refine AThen.n ?_
    refine ok_seq ?_
    refine ok_seq ?_
    refine ok_region ?_
    refine RT.mv .none rfl (tl rfl) ?_
    refine RT.fieldAddrR .none rfl (tl rfl) rfl ?_
    refine RT.loadRV .none rfl rfl (tl rfl) ?_
    refine RT.len .none rfl (tl rfl) ?_
    refine RT.lss .none (true) rfl rfl (tl rfl) (by simp only [List.length_map]; simp; omega) ?_
    refine RT.done ?_
    refine AThen.n ?_
    refine ok_condT rfl ?_
    refine ok_region ?_
    refine RT.fieldAddrR .none rfl (tl rfl) rfl ?_
    refine RT.loadRV .none rfl rfl (tl rfl) ?_
    refine RT.mv .none rfl (tl rfl) ?_
    refine RT.ixA .none [.v (.bool (p.bounds.getD i (⟨⟨false, []⟩, ⟨false, []⟩⟩ : Qr)).num.neg), slc 1 ((p.bounds.getD i (⟨⟨false, []⟩, ⟨false, []⟩⟩ : Qr)).num.w.map eU32), .v (.bool (p.bounds.getD i (⟨⟨false, []⟩, ⟨false, []⟩⟩ : Qr)).den.neg), slc 1 ((p.bounds.getD i (⟨⟨false, []⟩, ⟨false, []⟩⟩ : Qr)).den.w.map eU32)] (Int.natCast_nonneg i) (by rw [Int.toNat_natCast, List.getElem?_map, get_getD' hb]; rfl) rfl rfl (tl rfl) ?_
    refine RT.loadR .none rfl (tl rfl) (cs := [.v (.bool (p.bounds.getD i (⟨⟨false, []⟩, ⟨false, []⟩⟩ : Qr)).num.neg), slc 1 ((p.bounds.getD i (⟨⟨false, []⟩, ⟨false, []⟩⟩ : Qr)).num.w.map eU32), .v (.bool (p.bounds.getD i (⟨⟨false, []⟩, ⟨false, []⟩⟩ : Qr)).den.neg), slc 1 ((p.bounds.getD i (⟨⟨false, []⟩, ⟨false, []⟩⟩ : Qr)).den.w.map eU32)]) rfl rfl ?_
    refine RT.store .none rfl rfl rfl rfl rfl ?_
    refine RT.done ?_
    refine AThen.n ?_
    refine ok_seq ?_
    refine ok_region ?_
    refine RT.mv .none rfl (tl rfl) ?_
    refine RT.mv .none rfl (tl rfl) ?_
    refine RT.load .none rfl rfl (.cons rfl (.cons rfl (.cons rfl (.cons rfl (.nil))))) rfl (tl rfl) ?_
    refine RT.yield .none hr rfl (fun _ h => h) rfl (i) rfl rfl hi (by exact ⟨rfl, rfl, trivial⟩) (tl rfl) (fun yb => ?_)
    cases yb
    ·
      refine RT.not .none rfl (tl rfl) true rfl ?_
      refine RT.done ?_
      refine AThen.n ?_
      refine ok_condT rfl ?_
      refine ok_ret ?_
      refine AInB.r ?_
      refine AThen.r ?_
      refine AThen.r ?_
      refine AInB.r ?_
      exact ⟨.inr rfl, (fun h => by cases h)⟩
    ·
      refine RT.not .none rfl (tl rfl) false rfl ?_
      refine RT.done ?_
      refine AThen.n ?_
      refine ok_condF rfl ?_
      refine ok_skip ?_
      refine AInB.n ?_
      refine AThen.n ?_
      refine ok_region ?_
      refine RT.add .none (((i : Nat) : Int) + 1) rfl rfl (tl rfl) (nw_i64 (by omega)) ?_
      refine RT.mv .none rfl (tl rfl) ?_
      refine RT.done ?_
      refine AThen.n ?_
      refine ⟨⟨i + 1, by omega⟩, (by dsimp only; omega), ?_⟩
      try dsimp only
      exact weakL id rfl rfl rfl rfl rfl ⟨.sv (by first | exact SV.imp_refl _ | exact SV.imp_int (by omega) | exact SV.imp_int (by push_cast; omega) | exact SV.imp_int (by dsimp only; omega) | exact SV.imp_eq (by simp)), .sv (by first | exact SV.imp_refl _ | exact SV.imp_int (by omega) | exact SV.imp_int (by push_cast; omega) | exact SV.imp_int (by dsimp only; omega) | exact SV.imp_eq (by simp)), .sv (by first | exact SV.imp_refl _ | exact SV.imp_int (by omega) | exact SV.imp_int (by push_cast; omega) | exact SV.imp_int (by dsimp only; omega) | exact SV.imp_eq (by simp)), .sv (by first | exact SV.imp_refl _ | exact SV.imp_int (by omega) | exact SV.imp_int (by push_cast; omega) | exact SV.imp_int (by dsimp only; omega) | exact SV.imp_eq (by simp)), .sv (by first | exact SV.imp_refl _ | exact SV.imp_int (by omega) | exact SV.imp_int (by push_cast; omega) | exact SV.imp_int (by dsimp only; omega) | exact SV.imp_eq (by simp)), trivial⟩ trivial trivial (fun _ _ => rfl)
  ·
    refine ok_seq ?_
    refine ok_region ?_
    refine RT.lss .none (true) rfl rfl (tl rfl) (by simp; omega) ?_
    refine RT.done ?_
    refine AThen.n ?_
    refine ok_seq ?_
    refine ok_condT rfl ?_
    refine ok_skip ?_
    refine AThen.n ?_
    refine ok_seq ?_
    refine ok_block ?_
    refine ok_seq ?_
    refine ok_region ?_
    refine RT.mv .none rfl (tl rfl) ?_
    refine RT.ixA .none [(slc 4 (List.map eQ (p.rows.getD i [])))] (Int.natCast_nonneg i) (by rw [Int.toNat_natCast, List.getElem?_map, get_getD' hi]; rfl) rfl rfl (tl rfl) ?_
    refine RT.loadRV .none rfl rfl (tl rfl) ?_
    refine RT.asg .none rfl (tl rfl) ?_
    refine RT.asg .none rfl (tl rfl) ?_
    refine RT.done ?_
    refine AThen.n ?_
    refine ok_seq ?_
    refine ok_region ?_
    refine RT.allocI .none (cs := eQ ⟨⟨false, []⟩, ⟨false, []⟩⟩) (by exact ⟨SV.imp_refl _, imp_nil, SV.imp_refl _, imp_nil, trivial⟩) rfl (tl rfl) rfl rfl ?_
    refine RT.done ?_
    refine AThen.n ?_
    refine ok_seq ?_
    refine ok_seq ?_
    refine ok_region ?_
    refine RT.mv .none rfl (tl rfl) ?_
    refine RT.fieldAddrR .none rfl (tl rfl) rfl ?_
    refine RT.loadRV .none rfl rfl (tl rfl) ?_
    refine RT.len .none rfl (tl rfl) ?_
    refine RT.lss .none (false) rfl rfl (tl rfl) (by simp only [List.length_map]; simp; omega) ?_
    refine RT.done ?_
    refine AThen.n ?_
    refine ok_condF rfl ?_
    refine ok_skip ?_
    refine AThen.n ?_
    refine ok_seq ?_
    refine ok_region ?_
    refine RT.mv .none rfl (tl rfl) ?_
    refine RT.mv .none rfl (tl rfl) ?_
    refine RT.load .none rfl rfl (.cons rfl (.cons rfl (.cons rfl (.cons rfl (.nil))))) rfl (tl rfl) ?_
    refine RT.yield .none hr rfl (fun _ h => h) rfl (i) rfl rfl hi (by exact ⟨rfl, (by show AV.sv _ = AV.sv _; rw [getD_of_le' hb]), trivial⟩) (tl rfl) (fun yb => ?_)
    cases yb
    ·
      refine RT.not .none rfl (tl rfl) true rfl ?_
      refine RT.done ?_
      refine AThen.n ?_
      refine ok_condT rfl ?_
      refine ok_ret ?_
      refine AInB.r ?_
      refine AThen.r ?_
      refine AThen.r ?_
      refine AInB.r ?_
      exact ⟨.inr rfl, (fun h => by cases h)⟩
    ·
      refine RT.not .none rfl (tl rfl) false rfl ?_
      refine RT.done ?_
      refine AThen.n ?_
      refine ok_condF rfl ?_
      refine ok_skip ?_
      refine AInB.n ?_
      refine AThen.n ?_
      refine ok_region ?_
      refine RT.add .none (((i : Nat) : Int) + 1) rfl rfl (tl rfl) (nw_i64 (by omega)) ?_
      refine RT.mv .none rfl (tl rfl) ?_
      refine RT.done ?_
      refine AThen.n ?_
      refine ⟨⟨i + 1, by omega⟩, (by dsimp only; omega), ?_⟩
      try dsimp only
      exact weakL id rfl rfl rfl rfl rfl ⟨.sv (by first | exact SV.imp_refl _ | exact SV.imp_int (by omega) | exact SV.imp_int (by push_cast; omega) | exact SV.imp_int (by dsimp only; omega) | exact SV.imp_eq (by simp)), .sv (by first | exact SV.imp_refl _ | exact SV.imp_int (by omega) | exact SV.imp_int (by push_cast; omega) | exact SV.imp_int (by dsimp only; omega) | exact SV.imp_eq (by simp)), .sv (by first | exact SV.imp_refl _ | exact SV.imp_int (by omega) | exact SV.imp_int (by push_cast; omega) | exact SV.imp_int (by dsimp only; omega) | exact SV.imp_eq (by simp)), .sv (by first | exact SV.imp_refl _ | exact SV.imp_int (by omega) | exact SV.imp_int (by push_cast; omega) | exact SV.imp_int (by dsimp only; omega) | exact SV.imp_eq (by simp)), .sv (by first | exact SV.imp_refl _ | exact SV.imp_int (by omega) | exact SV.imp_int (by push_cast; omega) | exact SV.imp_int (by dsimp only; omega) | exact SV.imp_eq (by simp)), trivial⟩ trivial trivial (fun _ _ => rfl)
  ·
    subst hi
    refine ok_seq ?_
    refine ok_region ?_
    refine RT.lss .none (false) rfl rfl (tl rfl) (by simp) ?_
    refine RT.done ?_
    refine AThen.n ?_
    refine ok_seq ?_
    refine ok_condF rfl ?_
    refine ok_exit ?_
    refine AThen.x ?_
    refine AThen.x ?_
    refine AInB.x ?_
    exact ⟨.inl rfl, (fun _ => rfl)⟩
theorem lp_sizesOf_ok {x0 : Lr} {r : Sz} (h : lp_sizesOf_m x0 = some r) : Pure Tryz.prog 50 [.agg (eLr x0)] (.agg (eSz r)) := by
 obtain ⟨x0_0, x0_1, x0_2, x0_3⟩ := x0
 refine pure_of_ok Tryz.func50 rfl (Nat.le_of_ble_eq_true rfl) (fun wld M vs hvs => ?_)
 unfold lp_sizesOf_m at h
 refine sr <| bx rfl <| al (cs := [.v (.int .i64 0), .v (.int .i64 0), .v (.int .i64 0), .v (.int .i64 0)]) (by exact ⟨SV.imp_refl _, SV.imp_refl _, SV.imp_refl _, SV.imp_refl _, trivial⟩) rfl <| dn <| sr <| fa rfl rfl <| lV rfl rfl rfl <| fa rfl rfl <| lV rfl rfl rfl <| lE h fun x7 h7 h => ln rfl h7 <| fa rfl rfl <| lV rfl rfl rfl <| lE h fun x10 h10 h => ln rfl h10 <| fa rfl rfl ?_
 refine lV rfl rfl rfl <| lE h fun x13 h13 h => ln rfl h13 <| bI (cs := [_, _, _, _]) (cs' := [.v (.int .i64 x0_0), .v (.int .i64 x7), .v (.int .i64 x10), .v (.int .i64 x13)]) (.one rfl (.one rfl (.one rfl (.one rfl (.nil))))) ⟨SV.imp_refl _, SV.imp_refl _, SV.imp_refl _, SV.imp_refl _, trivial⟩ <| so rfl rfl rfl <| dn <| ok_ret ?_
 obtain rfl := O h
 exact RZ (.agg rfl rfl (.cons rfl (.cons rfl (.cons rfl (.cons rfl (.nil))))) rfl (.nil))
theorem lp_Valid_ok {x0 : Lr} {r : Bool} (h : lp_Valid_m x0 = some r) : Pure Tryz.prog 17 [.agg (eLr x0)] (.v (.bool r)) := by
 obtain ⟨x0_0, x0_1, x0_2, x0_3⟩ := x0
 refine pure_of_ok Tryz.func17 rfl (Nat.le_of_ble_eq_true rfl) (fun wld M vs hvs => ?_)
 unfold lp_Valid_m at h
 refine sr <| bx rfl <| ag rfl <| dn <| sr <| ld rfl rfl (.cons rfl (.cons rfl (.cons rfl (.cons rfl (.nil))))) ?_
 obtain ⟨⟨x5_0, x5_1, x5_2, x5_3⟩, h5, h⟩ := bS h
 refine cl (lp_sizesOf_ok h5) ⟨rfl, trivial⟩ <| al (cs := [.v (.int .i64 0), .v (.int .i64 0), .v (.int .i64 0), .v (.int .i64 0)]) (by exact ⟨SV.imp_refl _, SV.imp_refl _, SV.imp_refl _, SV.imp_refl _, trivial⟩) rfl <| so rfl rfl rfl <| dn <| qq <| qq ?_
 refine ok_tailJ h (fun j10 => AS.mkL 48 [(1, .ptr 1 0), (3, .ptr 3 0), (23, .sv (.v (.bool j10)))] [(3, ⟨71, [.sv (.v (.int .i64 x5_0)), .sv (.v (.int .i64 x5_1)), .sv (.v (.int .i64 x5_2)), .sv (.v (.int .i64 x5_3))]⟩), (1, ⟨26, [.sv (.v (.int .i64 x0_0)), .sv (slc 1 (List.map (eS 4 eQ) x0_1)), .sv (slc 1 (List.map (eS 4 eQ) x0_2)), .sv (slc 4 (List.map eQ x0_3))]⟩)] []) (fun h => ?_) (fun y23j9 h => ?_)
 refine ok_region <| fa rfl rfl <| lV rfl rfl rfl <| lE h fun x8 h8 h => ls _ rfl rfl h8 <| mv rfl <| bE h fun c13_19 hg19 h => ?_
 cases x8
 refine RT.fieldAddr (.some rfl rfl) rfl T rfl <| RT.ldV (.some rfl rfl) rfl rfl rfl T <| lE (F hg19) fun x12 h12 hg19 => gg _ rfl rfl h12 ?_
 obtain rfl := O hg19
 refine pF rfl <| mv rfl <| bE h fun c18_20 hg20 h => ?_
 cases x12
 refine RT.fieldAddr (.some rfl rfl) rfl T rfl <| RT.ldV (.some rfl rfl) rfl rfl rfl T <| lE (F hg20) fun x17 h17 hg20 => RT.lss (.some rfl rfl) _ rfl rfl T h17 ?_
 obtain rfl := O hg20
 refine pF rfl <| mv rfl <| bE h fun c23_21 hg21 h => ?_
 cases x17
 refine RT.fieldAddr (.some rfl rfl) rfl T rfl <| RT.ldV (.some rfl rfl) rfl rfl rfl T <| lE (F hg21) fun x22 h22 hg21 => gg _ rfl rfl h22 ?_
 obtain rfl := O hg21
 exact pF rfl <| dn <| ⟨x22, h, wR []⟩
 obtain rfl := O (V hg21)
 exact ww <| ww <| ww <| pT rfl <| dn <| ⟨true, h, wR []⟩
 obtain rfl := O (V hg20)
 refine ww <| ww <| ww <| pT rfl <| mv rfl <| bE h fun c23_22 hg22 h => ?_
 obtain rfl := O (V hg22)
 exact ww <| ww <| ww <| pT rfl <| dn <| ⟨true, h, wR []⟩
 obtain rfl := O (V hg19)
 refine ww <| ww <| ww <| pT rfl <| mv rfl <| bE h fun c18_23 hg23 h => ?_
 obtain rfl := O (V hg23)
 refine ww <| ww <| ww <| pT rfl <| mv rfl <| bE h fun c23_24 hg24 h => ?_
 obtain rfl := O (V hg24)
 exact ww <| ww <| ww <| pT rfl <| dn <| ⟨true, h, wR []⟩
 try dsimp only
 refine AThen.n ?_
 cases y23j9
 refine fs <| qq <| qq ?_
 refine ok_tailJ (F h) (fun j13 => AS.mkL 48 [(1, .ptr 1 0), (3, .ptr 3 0), (33, .sv (.v (.bool j13)))] [(3, ⟨71, [.sv (.v (.int .i64 x5_0)), .sv (.v (.int .i64 x5_1)), .sv (.v (.int .i64 x5_2)), .sv (.v (.int .i64 x5_3))]⟩), (1, ⟨26, [.sv (.v (.int .i64 x0_0)), .sv (slc 1 (List.map (eS 4 eQ) x0_1)), .sv (slc 1 (List.map (eS 4 eQ) x0_2)), .sv (slc 4 (List.map eQ x0_3))]⟩)] []) (fun h => ?_) (fun y33j12 h => ?_)
 refine ok_region <| fa rfl rfl <| lV rfl rfl rfl <| lE h fun x26 h26 h => gt _ rfl rfl h26 <| mv rfl <| bE h fun c33_18 hg18 h => ?_
 cases x26
 refine RT.fieldAddr (.some rfl rfl) rfl T rfl <| RT.ldV (.some rfl rfl) rfl rfl rfl T <| RT.fieldAddr (.some rfl rfl) rfl T rfl <| RT.ldV (.some rfl rfl) rfl rfl rfl T <| lE (F hg18) fun x32 h32 hg18 => gq _ rfl rfl (neI (p := x5_3) (q := x5_2) h32) ?_
 obtain rfl := O hg18
 exact pF rfl <| dn <| ⟨x32, h, wR []⟩
 obtain rfl := O (V hg18)
 exact ww <| ww <| ww <| ww <| ww <| pT rfl <| dn <| ⟨true, h, wR []⟩
 try dsimp only
 refine AThen.n ?_
 cases y33j12
 refine fs <| qq ?_
 refine ok_tailJ (F h) (fun j16 => AS.mkL 48 [(2, .sv (.v (.bool j16)))] [] []) (fun h => ?_) (fun y2j15 h => ?_)
 refine ok_region_draw mixed <| fa rfl rfl <| lV rfl rfl rfl <| bE h fun x36 h36 h => cl (mat_Cols_ok h36) ⟨rfl, trivial⟩ <| fa rfl rfl <| lV rfl rfl rfl <| lE h fun x39 h39 h => RT.leq .none _ rfl rfl T h39 <| mv rfl <| bE h fun c47_17 hg17 h => ?_
 cases x39
 obtain rfl := O (F hg17)
 refine ww <| ww <| ww <| ww <| ww <| ww <| pF rfl <| ag rfl ?_
 refine RT.done ⟨by kernel_rfl, ?_⟩
 exact AThen.n <| ⟨false, h, wR []⟩
 refine RT.fieldAddr (.some rfl rfl) rfl T rfl <| RT.ldV (.some rfl rfl) rfl rfl rfl T <| bE (V hg17) fun x43 h43 hg17 => gc (mat_Cols_ok h43) ⟨rfl, trivial⟩ <| RT.fieldAddr (.some rfl rfl) rfl T rfl <| RT.ldV (.some rfl rfl) rfl rfl rfl T <| lE hg17 fun x46 h46 hg17 => RT.leq (.some rfl rfl) _ rfl rfl T h46 ?_
 obtain rfl := O hg17
 refine pT rfl <| ag rfl ?_
 refine RT.done ⟨by kernel_rfl, ?_⟩
 exact AThen.n <| ⟨x46, h, wR []⟩
 try dsimp only
 refine AThen.n <| ok_ret ?_
 obtain rfl := O h
 exact R1 rfl
 refine cT <| sr <| ag rfl <| dn <| ok_ret <| AThen.r ?_
 obtain rfl := O (V h)
 exact R1 rfl
 refine cT <| sr <| ag rfl <| dn <| ok_ret <| AThen.r ?_
 obtain rfl := O (V h)
 exact R1 rfl
theorem lp_Feasible_ok {x0 : Lr} {x1 : List Qr} {r : Bool} (h : lp_Feasible_m x0 x1 = some r) : Pure Tryz.prog 20 [.agg (eLr x0), slc 4 (List.map eQ x1)] (.v (.bool r)) := by
 obtain ⟨x0_0, x0_1, x0_2, x0_3⟩ := x0
 refine pure_of_ok Tryz.func20 rfl (Nat.le_of_ble_eq_true rfl) (fun wld M vs hvs => ?_)
 unfold lp_Feasible_m at h
 refine sr <| bx rfl <| RT.boxV .none (s := .sv _) rfl T rfl rfl <| ag rfl <| dn <| ok_scope <| qq <| qq ?_
 refine ok_tailJ h (fun j3 => AS.mkL 42 [(2, .ptr 2 0), (3, .ptr 3 0), (19, .sv (.v (.bool j3)))] [(3, ⟨24, [.sv (slc 4 (List.map eQ x1))]⟩), (2, ⟨26, [.sv (.v (.int .i64 x0_0)), .sv (slc 1 (List.map (eS 4 eQ) x0_1)), .sv (slc 1 (List.map (eS 4 eQ) x0_2)), .sv (slc 4 (List.map eQ x0_3))]⟩)] []) (fun h => ?_) (fun y19j2 h => ?_)
 refine ok_region <| ld rfl rfl (.cons rfl (.cons rfl (.cons rfl (.cons rfl (.nil))))) <| bE h fun x11 h11 h => cl (lp_Valid_ok h11) ⟨rfl, trivial⟩ <| lE h fun x12 h12 h => nt rfl _ h12 <| mv rfl <| bE h fun c19_13 hg13 h => ?_
 cases x12
 refine RT.ldV (.some rfl rfl) rfl rfl rfl T <| lE (F hg13) fun x15 h15 hg13 => gn rfl h15 <| RT.fieldAddr (.some rfl rfl) rfl T rfl <| RT.ldV (.some rfl rfl) rfl rfl rfl T <| lE hg13 fun x18 h18 hg13 => gg _ rfl rfl h18 ?_
 obtain rfl := O hg13
 exact pF rfl <| dn <| ⟨x18, h, wR []⟩
 obtain rfl := O (V hg13)
 exact ww <| ww <| ww <| ww <| ww <| pT rfl <| dn <| ⟨true, h, wR []⟩
 try dsimp only
 refine AThen.n ?_
 cases y19j2
 refine fs <| qq <| sr <| lV rfl rfl rfl <| lE (F h) fun x21 h21 h => ln rfl h21 <| mv rfl <| dn <| bE h fun e9 hl9 ho9 => ?_
 refine ok_tailP (fun (xe9 : Unit) => AS.mkL 42 [(2, .ptr 2 0), (3, .ptr 3 0)] [(3, ⟨24, [.sv (slc 4 (List.map eQ x1))]⟩), (2, ⟨26, [.sv (.v (.int .i64 x0_0)), .sv (slc 1 (List.map (eS 4 eQ) x0_1)), .sv (slc 1 (List.map (eS 4 eQ) x0_2)), .sv (slc 4 (List.map eQ x0_3))]⟩)] []) (fun xe9 => .inl xe9 = e9) ?_ (fun xe9 hx9 => ?_)
 refine ok_block ?_
 refine ok_loopM hl9 (fun s9 => AS.mkL 42 [(2, .ptr 2 0), (3, .ptr 3 0), (20, .sv (slc 4 (List.map eQ x1))), (21, .sv (.v (.int .i64 x21))), (22, .sv (.v (.int .i64 s9)))] [(3, ⟨24, [.sv (slc 4 (List.map eQ x1))]⟩), (2, ⟨26, [.sv (.v (.int .i64 x0_0)), .sv (slc 1 (List.map (eS 4 eQ) x0_1)), .sv (slc 1 (List.map (eS 4 eQ) x0_2)), .sv (slc 4 (List.map eQ x0_3))]⟩)] []) (wR []) (fun y22l6 y9 G9 h hG9 hE9 => ?_)
 try dsimp only
 refine sr <| lE h fun x23 h23 h => ls _ rfl rfl h23 <| dn <| qq ?_
 cases x23
 refine cF <| ok_exit <| AThen.x <| AThen.x <| AInB.x <| AThen.n ?_
 obtain rfl := O (F h)
 exact ⟨(), hE9 _ rfl, wR []⟩
 refine cT <| ok_skip <| AThen.n <| qq <| ok_block <| sr ?_
 obtain ⟨⟨⟨x24_0, x24_1⟩, ⟨x24_2, x24_3⟩⟩, h24, h⟩ := bS (V h)
 refine ix rfl rfl h24 <| RT.loadR (cs := [_, _, _, _]) .none rfl T rfl rfl <| al (cs := [.v (.bool false), slc 1 (List.map eU32 []), .v (.bool false), slc 1 (List.map eU32 [])]) (by exact ⟨SV.imp_refl _, imp_nil, SV.imp_refl _, imp_nil, trivial⟩) rfl <| so rfl rfl rfl <| dn <| sr <| ld rfl rfl (.cons rfl (.cons rfl (.cons rfl (.cons rfl (.nil))))) <| bE h fun x27 h27 h => cl (frac_Sign_ok h27) ⟨rfl, trivial⟩ <| lE h fun x28 h28 h => ls _ rfl rfl h28 <| dn ?_
 cases x28
 refine cF <| ok_skip <| AInB.n <| AThen.n <| ok_region <| lE (F h) fun x29 h29 h => ad _ rfl rfl h29 <| mv rfl <| RT.done ?_
 obtain rfl := O h
 exact AThen.n ⟨x29, hG9 _ rfl, wR []⟩
 refine cT <| sr <| ag rfl <| dn <| ok_ret <| AInB.r <| AThen.r ?_
 obtain rfl := O (V h)
 have he9 := hE9 _ rfl
 subst he9
 refine AThen.r <| AInB.r <| AThen.r <| AThen.r <| ASc.r ?_
 obtain rfl := O ho9
 exact R1 rfl
 subst hx9
 try dsimp only
 refine AThen.n <| sr <| al (cs := [.v (.bool false)]) (by exact ⟨SV.imp_refl _, trivial⟩) rfl <| RT.storeV (cells := [_]) .none (s := .sv _) rfl rfl rfl T rfl <| dn <| qq <| ok_label <| AThen.n <| qq <| sr <| ld rfl rfl (.cons rfl (.cons rfl (.cons rfl (.cons rfl (.nil))))) <| cl (lp_constraints_ok ⟨x0_0, x0_1, x0_2, x0_3⟩) ⟨rfl, trivial⟩ <| dn <| ok_block <| bE ho9 fun e12 hl12 ho12 => ?_
 obtain ⟨m12, st12, hs12, ht12, hn12⟩ := rangeX_rd hl12
 refine ok_rangeFuncX (lp_constraints_it ⟨x0_0, x0_1, x0_2, x0_3⟩) (fun _ _ _ _ _ => trivial) rfl (fun k => AS.mkL 42 [(3, .ptr 3 0), (7, .ptr 7 0), (31, .sv (cloS 98 [ref [.v (.int .i64 x0_0), slc 1 (List.map (eS 4 eQ) x0_1), slc 1 (List.map (eS 4 eQ) x0_2), slc 4 (List.map eQ x0_3)]]))] [(7, ⟨4, [.sv (.v (.bool true))]⟩), (3, ⟨24, [.sv (slc 4 (List.map eQ x1))]⟩)] []) [7, 3] rfl (fun _ => ⟨rfl, rfl⟩) (rangeT rfl) (fun _ => rfl) (rangeP rfl) (by (try dsimp only); (try dsimp only); exact weakL id rfl rfl rfl rfl rfl ⟨.ptr, .ptr, .sv (SV.imp_refl _), trivial⟩ ⟨⟨_, rfl, ⟨.sv (SV.imp_refl _), trivial⟩⟩, ⟨_, rfl, ⟨.sv (SV.imp_refl _), trivial⟩⟩, trivial⟩ trivial (fun _ _ => rfl)) m12 (fun k hk hkm D hD => ?_) (fun hdn => ?_)
 obtain ⟨y12, h, hG12, hE12⟩ := ht12 k hk hkm
 dsimp only [AS.inR, setPs]
 try dsimp only at h
 refine lE h fun p32 hp32 h => ?_
 rw [hp32]
 obtain ⟨⟨⟨p33_0, p33_1⟩, ⟨p33_2, p33_3⟩⟩, hp33, h⟩ := bS h
 rw [Option.some.inj hp33]
 refine sr <| ag rfl <| dn <| ok_region <| al (cs := [.v (.bool false), slc 1 (List.map eU32 []), .v (.bool false), slc 1 (List.map eU32 [])]) (by exact ⟨SV.imp_refl _, imp_nil, SV.imp_refl _, imp_nil, trivial⟩) rfl <| so rfl rfl rfl <| RT.done ?_
 refine AThen.n ⟨rfl, ?_⟩
 dsimp only [AS.goOn]
 refine ok_block <| qq <| ok_region_draw mixed <| mv rfl <| lV rfl rfl rfl ?_
 obtain ⟨⟨⟨x36_0, x36_1⟩, ⟨x36_2, x36_3⟩⟩, h36, h⟩ := bS h
 refine cl (vec_Dot_ok h36) ⟨rfl, rfl, trivial⟩ <| ld rfl rfl (.cons rfl (.cons rfl (.cons rfl (.cons rfl (.nil))))) <| bE h fun x38 h38 h => cl (frac_Cmp_ok h38) ⟨rfl, rfl, trivial⟩ ?_
 refine RT.done ⟨by kernel_rfl, ?_⟩
 refine AThen.n <| ok_block <| sr <| lE h fun x40 h40 h => eq _ rfl rfl (eqI (p := x38) (q := 1) h40) <| ag rfl <| dn ?_
 cases x40
 refine cF <| ok_skip <| AInB.n <| AInB.n ?_
 obtain rfl := O (F h)
 obtain ⟨hm12, hq12⟩ := hG12 _ rfl
 exact ⟨hm12, rfl, rfl, wR []⟩
 refine cT <| sr <| RT.storeV (cells := [_]) .none (s := .sv _) rfl rfl rfl T rfl <| dn <| ok_exit <| AInB.y (by decide) <| AInB.y (by decide) ?_
 obtain rfl := O (V h)
 have he12 := hE12 _ rfl
 subst he12
 refine ⟨rfl, rfl, ?_⟩
 refine AInB.x <| AThen.n <| sr <| lV rfl rfl rfl <| ag rfl <| dn <| ok_ret <| ASc.r ?_
 obtain rfl := O ho12
 exact R1 rfl
 have hd12 := hn12 hdn
 subst hd12
 obtain ⟨ee12, hee12⟩ : ∃ q, st12 ((Lr.rows ⟨x0_0, x0_1, x0_2, x0_3⟩).length) = q := ⟨_, rfl⟩
 rw [hee12] at ho12
 try dsimp only
 refine AInB.n <| AThen.n <| sr <| lV rfl rfl rfl <| ag rfl <| dn <| ok_ret <| ASc.r ?_
 obtain rfl := O ho12
 exact R1 rfl
 refine cT <| sr <| ag rfl <| dn <| ok_ret <| AThen.r <| ASc.r ?_
 obtain rfl := O (V h)
 exact R1 rfl
theorem lp_Evaluate_ok {x0 : Lr} {x1 : List Qr} {r : List Qr} (h : lp_Evaluate_m x0 x1 = some r) : Pure Tryz.prog 21 [.agg (eLr x0), slc 4 (List.map eQ x1)] (slc 4 (List.map eQ r)) := by
 obtain ⟨x0_0, x0_1, x0_2, x0_3⟩ := x0
 refine pure_of_ok Tryz.func21 rfl (Nat.le_of_ble_eq_true rfl) (fun wld M vs hvs => ?_)
 unfold lp_Evaluate_m at h
 refine sr <| bx rfl <| aI rfl (imp_nil (n := 4) (e := eQ)) <| dn <| sr <| fa rfl rfl <| lV rfl rfl rfl <| mv rfl <| bE h fun x8 h8 h => cl (mat_MulVec_ok h8) ⟨rfl, rfl, trivial⟩ <| ag rfl <| dn <| ok_ret ?_
 obtain rfl := O h
 exact R1 rfl
theorem lp_Slack_ok {x0 : Lr} {x1 : List Qr} {r : List Qr} (h : lp_Slack_m x0 x1 = some r) : Pure Tryz.prog 39 [.agg (eLr x0), slc 4 (List.map eQ x1)] (slc 4 (List.map eQ r)) := by
 obtain ⟨x0_0, x0_1, x0_2, x0_3⟩ := x0
 refine pure_of_ok Tryz.func39 rfl (Nat.le_of_ble_eq_true rfl) (fun wld M vs hvs => ?_)
 unfold lp_Slack_m at h
 refine sr <| bx rfl <| RT.boxV .none (s := .sv _) rfl T rfl rfl <| aI rfl (imp_nil (n := 4) (e := eQ)) <| dn <| sr <| RT.alloc .none T rfl rfl <| dn <| ok_weak (weak_nilB 5 0 302 36 4 rfl rfl rfl T) <| qq <| sr <| ld rfl rfl (.cons rfl (.cons rfl (.cons rfl (.cons rfl (.nil))))) <| cl (lp_constraints_ok ⟨x0_0, x0_1, x0_2, x0_3⟩) ⟨rfl, trivial⟩ <| dn <| ok_block <| bE h fun r304l3 hl5 ho5 => ?_
 obtain ⟨st5, hs5, ht5, hn5⟩ := rangeM_st hl5
 refine ok_rangeFunc (lp_constraints_it ⟨x0_0, x0_1, x0_2, x0_3⟩) (fun _ _ _ _ _ => trivial) rfl (fun k => AS.mkL 21 [(3, .ptr 3 0), (5, .ptr 5 0), (9, .sv (cloS 98 [ref [.v (.int .i64 x0_0), slc 1 (List.map (eS 4 eQ) x0_1), slc 1 (List.map (eS 4 eQ) x0_2), slc 4 (List.map eQ x0_3)]]))] [(5, ⟨24, [.row 304]⟩), (3, ⟨24, [.sv (slc 4 (List.map eQ x1))]⟩)] [(304, TR 36 4 eQ (st5 k))]) [5, 3] rfl (fun _ => ⟨rfl, rfl⟩) (rangeT rfl) (fun _ => rfl) (rangeP rfl) (by (try dsimp only); rw [hs5]; (try dsimp only); exact weakL (fun i => bif Nat.beq i 304 then 302 else i) rfl rfl rfl rfl rfl ⟨.ptr, .ptr, .sv (SV.imp_refl _), trivial⟩ ⟨⟨_, rfl, ⟨.row rfl, trivial⟩⟩, ⟨_, rfl, ⟨.sv (SV.imp_refl _), trivial⟩⟩, trivial⟩ ⟨⟨_, rfl, SVIs.refl _⟩, trivial⟩ (fun i hi => by rw [beq_ne (show i ≠ 304 by omega)]; rfl)) (fun k hk D hD => ?_) ?_
 have h := ht5 k hk
 obtain ⟨r304l3, hsk⟩ : ∃ q, st5 k = q := ⟨_, rfl⟩
 rw [hsk] at h ⊢
 dsimp only [AS.inR, setPs]
 try dsimp only at h
 refine lE h fun p10 hp10 h => ?_
 rw [hp10]
 obtain ⟨⟨⟨p11_0, p11_1⟩, ⟨p11_2, p11_3⟩⟩, hp11, h⟩ := bS h
 rw [Option.some.inj hp11]
 refine sr <| ag rfl <| dn <| ok_region <| al (cs := [.v (.bool false), slc 1 (List.map eU32 []), .v (.bool false), slc 1 (List.map eU32 [])]) (by exact ⟨SV.imp_refl _, imp_nil, SV.imp_refl _, imp_nil, trivial⟩) rfl <| so rfl rfl rfl <| RT.done ?_
 refine AThen.n ⟨rfl, ?_⟩
 dsimp only [AS.goOn]
 refine ok_block <| ok_region_draw mixed <| RT.loadV .none (s := .row _) rfl rfl rfl T <| ld rfl rfl (.cons rfl (.cons rfl (.cons rfl (.cons rfl (.nil))))) <| mv rfl <| lV rfl rfl rfl ?_
 obtain ⟨⟨⟨x16_0, x16_1⟩, ⟨x16_2, x16_3⟩⟩, h16, h⟩ := bS h
 refine cl (vec_Dot_ok h16) ⟨rfl, rfl, trivial⟩ ?_
 obtain ⟨⟨⟨x17_0, x17_1⟩, ⟨x17_2, x17_3⟩⟩, h17, h⟩ := bS h
 refine cl (frac_Sub_ok h17) ⟨rfl, rfl, trivial⟩ <| bl (l := [⟨⟨x17_0, x17_1⟩, ⟨x17_2, x17_3⟩⟩]) (e := eQ) (.agg rfl (.nil)) rfl rfl rfl rfl rfl rfl <| bE h fun x19 h19 h => aR (k := [⟨⟨x17_0, x17_1⟩, ⟨x17_2, x17_3⟩⟩]) (e := eQ) rfl rfl rfl h19 <| RT.storeR (cells := [_]) .none rfl rfl rfl rfl T rfl ?_
 refine RT.done ⟨by kernel_rfl, ?_⟩
 refine AInB.n ?_
 replace h := Option.some.inj h
 refine ⟨trivial, rfl, rfl, ?_⟩
 try dsimp only
 rw [← h]
 try dsimp only
 exact weakL (fun i => bif Nat.beq i 304 then 19 else i) rfl rfl rfl rfl rfl ⟨.ptr, .ptr, .sv (SV.imp_refl _), trivial⟩ ⟨⟨_, rfl, ⟨.row rfl, trivial⟩⟩, ⟨_, rfl, ⟨.sv (SV.imp_refl _), trivial⟩⟩, trivial⟩ ⟨⟨_, rfl, SVIs.refl _⟩, trivial⟩ (fun i hi => by rw [beq_ne (show i ≠ 304 by omega)]; rfl)
 rw [hn5]
 try dsimp only
 refine AInB.n <| AThen.n <| sr <| RT.loadV .none (s := .row _) rfl rfl rfl T <| an (s := .row _) rfl <| dn <| ok_weak (weak_frzM (i := 304) (E1 := 36) (n := 4) (e := eQ) (l := r304l3) rfl) <| ok_ret ?_
 obtain rfl := O ho5
 exact R1 rfl
theorem lp_Compare_ok {x0 : Lr} {x1 : List Qr} {x2 : List Qr} {r : Int} (h : lp_Compare_m x0 x1 x2 = some r) : Pure Tryz.prog 35 [.agg (eLr x0), slc 4 (List.map eQ x1), slc 4 (List.map eQ x2)] (.v (.int .i64 r)) := by
 obtain ⟨x0_0, x0_1, x0_2, x0_3⟩ := x0
 refine pure_of_ok Tryz.func35 rfl (Nat.le_of_ble_eq_true rfl) (fun wld M vs hvs => ?_)
 unfold lp_Compare_m at h
 refine sr <| bx rfl <| ag rfl <| dn <| qq <| qq <| ok_region_draw mixed <| ld rfl rfl (.cons rfl (.cons rfl (.cons rfl (.cons rfl (.nil))))) <| mv rfl <| bE h fun x10 h10 h => cl (lp_Evaluate_ok h10) ⟨rfl, rfl, trivial⟩ <| ld rfl rfl (.cons rfl (.cons rfl (.cons rfl (.cons rfl (.nil))))) <| mv rfl <| bE h fun x13 h13 h => cl (lp_Evaluate_ok h13) ⟨rfl, rfl, trivial⟩ <| bE h fun x14 h14 h => cl (vec_Compare_ok h14) ⟨rfl, rfl, trivial⟩ ?_
 refine ag rfl ?_
 refine RT.done ⟨by kernel_rfl, ?_⟩
 refine AThen.n <| sr <| mv rfl <| lE h fun x16 h16 h => ne _ rfl rfl (neI (p := x14) (q := 0) h16) <| dn ?_
 cases x16
 refine fs <| sr <| mv rfl <| mv rfl <| bE (F h) fun x20 h20 h => cl (vec_Compare_ok h20) ⟨rfl, rfl, trivial⟩ <| ag rfl <| dn <| ok_ret ?_
 obtain rfl := O h
 exact R1 rfl
 refine cT <| sr <| mv rfl <| ag rfl <| dn <| ok_ret <| AThen.r ?_
 obtain rfl := O (V h)
 exact R1 rfl
set_option maxHeartbeats 4000000 in
theorem lp_Dual_ok {x0 : Lr} {r : Lr × Int} (h : lp_Dual_m x0 = some r) : Pure Tryz.prog 16 [.agg (eLr x0)] (.tup [.agg (eLr r.1), .v (.int .i64 r.2)]) := by
 obtain ⟨x0_0, x0_1, x0_2, x0_3⟩ := x0
 refine pure_of_ok Tryz.func16 rfl (Nat.le_of_ble_eq_true rfl) (fun wld M vs hvs => ?_)
 unfold lp_Dual_m at h
 refine sr <| bx rfl <| al (cs := [.v (.int .i64 0), slc 1 (List.map (eS 4 eQ) []), slc 1 (List.map (eS 4 eQ) []), slc 4 (List.map eQ [])]) (by exact ⟨SV.imp_refl _, imp_nil, imp_nil, imp_nil, trivial⟩) rfl <| ag rfl <| dn <| qq <| qq ?_
 refine ok_tailJ h (fun j6 => AS.mkL 76 [(1, .ptr 1 0), (2, .ptr 2 0), (23, .sv (.v (.bool j6)))] [(2, ⟨26, [.sv (.v (.int .i64 0)), .sv (slc 1 (List.map (eS 4 eQ) [])), .sv (slc 1 (List.map (eS 4 eQ) [])), .sv (slc 4 (List.map eQ []))]⟩), (1, ⟨26, [.sv (.v (.int .i64 x0_0)), .sv (slc 1 (List.map (eS 4 eQ) x0_1)), .sv (slc 1 (List.map (eS 4 eQ) x0_2)), .sv (slc 4 (List.map eQ x0_3))]⟩)] []) (fun h => ?_) (fun y23j5 h => ?_)
 refine ok_region <| ld rfl rfl (.cons rfl (.cons rfl (.cons rfl (.cons rfl (.nil))))) <| bE h fun x11 h11 h => cl (lp_Valid_ok h11) ⟨rfl, trivial⟩ <| lE h fun x12 h12 h => nt rfl _ h12 <| mv rfl <| bE h fun c18_37 hg37 h => ?_
 cases x12
 refine RT.fieldAddr (.some rfl rfl) rfl T rfl <| RT.ldV (.some rfl rfl) rfl rfl rfl T <| lE (F hg37) fun x16 h16 hg37 => gn rfl h16 <| lE hg37 fun x17 h17 hg37 => gg _ rfl rfl h17 ?_
 obtain rfl := O hg37
 refine pF rfl <| mv rfl <| bE h fun c23_38 hg38 h => ?_
 cases x17
 refine RT.fieldAddr (.some rfl rfl) rfl T rfl <| RT.ldV (.some rfl rfl) rfl rfl rfl T <| lE (F hg38) fun x22 h22 hg38 => gg _ rfl rfl h22 ?_
 obtain rfl := O hg38
 exact pF rfl <| dn <| ⟨x22, h, wR []⟩
 obtain rfl := O (V hg38)
 exact ww <| ww <| ww <| pT rfl <| dn <| ⟨true, h, wR []⟩
 obtain rfl := O (V hg37)
 refine ww <| ww <| ww <| ww <| pT rfl <| mv rfl <| bE h fun c23_39 hg39 h => ?_
 obtain rfl := O (V hg39)
 exact ww <| ww <| ww <| pT rfl <| dn <| ⟨true, h, wR []⟩
 try dsimp only
 refine AThen.n ?_
 cases y23j5
 refine fs <| sr <| fa rfl rfl <| lV rfl rfl rfl <| lE (F h) fun x27 h27 h => ln rfl h27 <| ag rfl <| dn <| sr ?_
 obtain ⟨⟨⟨x28_0, x28_1⟩, ⟨x28_2, x28_3⟩⟩, h28, h⟩ := bS h
 refine cl (frac_FromInt64_ok h28) ⟨rfl, trivial⟩ <| al (cs := [.v (.bool false), slc 1 (List.map eU32 []), .v (.bool false), slc 1 (List.map eU32 [])]) (by exact ⟨SV.imp_refl _, imp_nil, SV.imp_refl _, imp_nil, trivial⟩) rfl <| so rfl rfl rfl <| dn <| sr <| mv rfl <| ld rfl rfl (.cons rfl (.cons rfl (.cons rfl (.cons rfl (.nil))))) <| fa rfl rfl <| lV rfl rfl rfl <| bE h fun x33 h33 h => cl (vec_Scale_ok h33) ⟨rfl, rfl, trivial⟩ <| bl (l := [x33]) (e := (eS 4 eQ)) (.one rfl (.nil)) rfl rfl rfl rfl rfl rfl ?_
 refine bI (cs := [_, _, _, _]) (cs' := [.v (.int .i64 x27), slc 1 (List.map (eS 4 eQ) [x33]), .v (.slice none 0 0), .v (.slice none 0 0)]) (.one rfl (.one rfl (.nil))) ⟨SV.imp_refl _, SV.imp_refl _, SV.imp_refl _, SV.imp_refl _, trivial⟩ <| al (cs := [.v (.int .i64 0), slc 1 (List.map (eS 4 eQ) []), .v (.slice none 0 0), .v (.slice none 0 0)]) (by exact ⟨SV.imp_refl _, imp_nil, SV.imp_refl _, SV.imp_refl _, trivial⟩) rfl <| so rfl rfl rfl <| dn <| ok_weak (weak_nilB 6 2 303 24 1 rfl rfl rfl T) <| ok_weak (weak_nilB 6 3 304 36 4 rfl rfl rfl T) ?_
 refine qq <| sr <| fa rfl rfl <| lV rfl rfl rfl <| mv rfl <| dn <| bE h fun e26 hl26 ho26 => ?_
 refine ok_tailP (fun (xe26 : (List (List Qr)) × (List Qr)) => AS.mkL 76 [(2, .ptr 2 0), (6, .ptr 6 0)] [(6, ⟨26, [.sv (.v (.int .i64 x27)), .sv (slc 1 (List.map (eS 4 eQ) [x33])), .row 307, .row 308]⟩), (2, ⟨26, [.sv (.v (.int .i64 0)), .sv (slc 1 (List.map (eS 4 eQ) [])), .sv (slc 1 (List.map (eS 4 eQ) [])), .sv (slc 4 (List.map eQ []))]⟩)] [(307, TR 24 1 (eS 4 eQ) xe26.1), (308, TR 36 4 eQ xe26.2)]) (fun xe26 => xe26 = e26) ?_ (fun xe26 hx26 => ?_)
 refine ok_block ?_
 refine ok_loopM hl26 (fun s26 => AS.mkL 76 [(1, .ptr 1 0), (2, .ptr 2 0), (4, .sv (.v (.int .i64 x27))), (6, .ptr 6 0), (37, .sv (.v (.int .i64 x0_0))), (38, .sv (.v (.int .i64 s26.1)))] [(6, ⟨26, [.sv (.v (.int .i64 x27)), .sv (slc 1 (List.map (eS 4 eQ) [x33])), .row 307, .row 308]⟩), (2, ⟨26, [.sv (.v (.int .i64 0)), .sv (slc 1 (List.map (eS 4 eQ) [])), .sv (slc 1 (List.map (eS 4 eQ) [])), .sv (slc 4 (List.map eQ []))]⟩), (1, ⟨26, [.sv (.v (.int .i64 x0_0)), .sv (slc 1 (List.map (eS 4 eQ) x0_1)), .sv (slc 1 (List.map (eS 4 eQ) x0_2)), .sv (slc 4 (List.map eQ x0_3))]⟩)] [(307, TR 24 1 (eS 4 eQ) s26.2.1), (308, TR 36 4 eQ s26.2.2)]) (weakL (fun i => bif Nat.beq i 307 then 303 else bif Nat.beq i 308 then 304 else i) rfl rfl rfl rfl rfl ⟨.ptr, .ptr, .sv (SV.imp_refl _), .ptr, .sv (SV.imp_refl _), .sv (SV.imp_refl _), trivial⟩ ⟨⟨_, rfl, ⟨.sv (SV.imp_refl _), .sv (SV.imp_refl _), .row rfl, .row rfl, trivial⟩⟩, ⟨_, rfl, ⟨.sv (SV.imp_refl _), .sv (SV.imp_refl _), .sv (SV.imp_refl _), .sv (SV.imp_refl _), trivial⟩⟩, ⟨_, rfl, ⟨.sv (SV.imp_refl _), .sv (SV.imp_refl _), .sv (SV.imp_refl _), .sv (SV.imp_refl _), trivial⟩⟩, trivial⟩ ⟨⟨_, rfl, SVIs.refl _⟩, ⟨_, rfl, SVIs.refl _⟩, trivial⟩ (fun i hi => by rw [beq_ne (show i ≠ 307 by omega)]; rw [beq_ne (show i ≠ 308 by omega)]; rfl)) (fun s26 y26 G26 h hG26 hE26 => ?_)
 obtain ⟨y38l16, r307l16, r308l16⟩ := s26
 try dsimp only
 refine sr <| lE h fun x39 h39 h => ls _ rfl rfl h39 <| dn <| qq ?_
 cases x39
 refine cF <| ok_exit <| AThen.x <| AThen.x <| AInB.x <| AThen.n ?_
 obtain rfl := O (F h)
 exact ⟨(r307l16, r308l16), hE26 _ rfl, wR []⟩
 refine cT <| ok_skip <| AThen.n <| qq <| ok_block <| sr <| mv rfl <| ag rfl <| dn <| sr <| mv rfl <| bE (V h) fun x42 h42 h => RT.mkRow (n := 4) (e := eQ) .none rfl rfl T rfl T (by rfl) (by decide) (by exact ⟨SV.imp_refl _, imp_nil, SV.imp_refl _, imp_nil, trivial⟩) h42 <| an (s := .row _) rfl <| dn <| qq <| sr <| mo (s := .row _) rfl <| lE h fun x44 h44 h => lL rfl rfl h44 <| mv rfl <| dn <| bE h fun e34 hl34 ho34 => ?_
 refine ok_tailP (fun (r42e33 : (List Qr)) => AS.mkL 76 [(1, .ptr 1 0), (2, .ptr 2 0), (4, .sv (.v (.int .i64 x27))), (6, .ptr 6 0), (7, .sv (.v (.int .i64 y38l16))), (8, .row 42), (37, .sv (.v (.int .i64 x0_0))), (38, .sv (.v (.int .i64 y38l16)))] [(6, ⟨26, [.sv (.v (.int .i64 x27)), .sv (slc 1 (List.map (eS 4 eQ) [x33])), .row 307, .row 308]⟩), (2, ⟨26, [.sv (.v (.int .i64 0)), .sv (slc 1 (List.map (eS 4 eQ) [])), .sv (slc 1 (List.map (eS 4 eQ) [])), .sv (slc 4 (List.map eQ []))]⟩), (1, ⟨26, [.sv (.v (.int .i64 x0_0)), .sv (slc 1 (List.map (eS 4 eQ) x0_1)), .sv (slc 1 (List.map (eS 4 eQ) x0_2)), .sv (slc 4 (List.map eQ x0_3))]⟩)] [(42, TR 36 4 eQ r42e33), (307, TR 24 1 (eS 4 eQ) r307l16), (308, TR 36 4 eQ r308l16)]) (fun r42e33 => r42e33 = e34) ?_ (fun r42e33 hx34 => ?_)
 refine ok_block ?_
 refine ok_loopM hl34 (fun s34 => AS.mkL 76 [(1, .ptr 1 0), (2, .ptr 2 0), (4, .sv (.v (.int .i64 x27))), (6, .ptr 6 0), (7, .sv (.v (.int .i64 y38l16))), (8, .row 42), (37, .sv (.v (.int .i64 x0_0))), (38, .sv (.v (.int .i64 y38l16))), (44, .sv (.v (.int .i64 x44))), (45, .sv (.v (.int .i64 s34.1)))] [(6, ⟨26, [.sv (.v (.int .i64 x27)), .sv (slc 1 (List.map (eS 4 eQ) [x33])), .row 307, .row 308]⟩), (2, ⟨26, [.sv (.v (.int .i64 0)), .sv (slc 1 (List.map (eS 4 eQ) [])), .sv (slc 1 (List.map (eS 4 eQ) [])), .sv (slc 4 (List.map eQ []))]⟩), (1, ⟨26, [.sv (.v (.int .i64 x0_0)), .sv (slc 1 (List.map (eS 4 eQ) x0_1)), .sv (slc 1 (List.map (eS 4 eQ) x0_2)), .sv (slc 4 (List.map eQ x0_3))]⟩)] [(42, TR 36 4 eQ s34.2), (307, TR 24 1 (eS 4 eQ) r307l16), (308, TR 36 4 eQ r308l16)]) (wR []) (fun s34 y34 G34 h hG34 hE34 => ?_)
 obtain ⟨y45l30, r42l30⟩ := s34
 try dsimp only
 refine sr <| lE h fun x46 h46 h => ls _ rfl rfl h46 <| dn <| qq ?_
 cases x46
 refine cF <| ok_exit <| AThen.x <| AThen.x <| AInB.x <| AThen.n ?_
 obtain rfl := O (F h)
 exact ⟨r42l30, hE34 _ rfl, wR []⟩
 refine cT <| ok_skip <| AThen.n <| qq <| ok_block <| sr <| mv rfl <| ag rfl <| dn <| ok_region <| mo (s := .row _) rfl <| mv rfl <| fa rfl rfl <| lV rfl rfl rfl <| mv rfl <| mv rfl ?_
 obtain ⟨⟨⟨x54_0, x54_1⟩, ⟨x54_2, x54_3⟩⟩, h54, h⟩ := bS (V h)
 refine cl (mat_At_ok h54) ⟨rfl, rfl, rfl, trivial⟩ ?_
 obtain ⟨⟨⟨x55_0, x55_1⟩, ⟨x55_2, x55_3⟩⟩, h55, h⟩ := bS h
 refine cl (frac_Neg_ok h55) ⟨rfl, trivial⟩ <| bE h fun x56 h56 h => iR rfl rfl rfl h56 <| bE h fun l36 hl36_ h => sA ⟨⟨x55_0, x55_1⟩, ⟨x55_2, x55_3⟩⟩ rfl rfl rfl hl36_ <| RT.done <| AInB.n <| AThen.n <| ok_region <| lE h fun x57 h57 h => ad _ rfl rfl h57 <| mv rfl <| RT.done ?_
 obtain rfl := O h
 exact AThen.n ⟨(x57, l36), hG34 _ rfl, wR []⟩
 subst hx34
 try dsimp only
 refine AThen.n <| qq <| ok_weak (weak_frzM (i := 42) (E1 := 36) (n := 4) (e := eQ) (l := r42e33) rfl) <| ok_region <| fa rfl rfl <| RT.loadV .none (s := .row _) rfl rfl rfl T <| mv rfl <| bl (l := [r42e33]) (e := (eS 4 eQ)) (.one rfl (.nil)) rfl rfl rfl rfl rfl rfl <| bE ho34 fun x62 h62 ho34 => aR (k := [r42e33]) (e := (eS 4 eQ)) rfl rfl rfl h62 <| fa rfl rfl <| RT.storeR (cells := [_, _, _, _]) .none rfl rfl rfl rfl T rfl <| dn <| ok_region_draw mixed <| fa rfl rfl <| RT.loadV .none (s := .row _) rfl rfl rfl T ?_
 refine fa rfl rfl <| lV rfl rfl rfl <| mv rfl ?_
 obtain ⟨⟨⟨x69_0, x69_1⟩, ⟨x69_2, x69_3⟩⟩, h69, ho34⟩ := bS ho34
 refine cl (mat_At_ok h69) ⟨rfl, rfl, rfl, trivial⟩ ?_
 obtain ⟨⟨⟨x70_0, x70_1⟩, ⟨x70_2, x70_3⟩⟩, h70, ho34⟩ := bS ho34
 refine cl (frac_Neg_ok h70) ⟨rfl, trivial⟩ <| bl (l := [⟨⟨x70_0, x70_1⟩, ⟨x70_2, x70_3⟩⟩]) (e := eQ) (.agg rfl (.nil)) rfl rfl rfl rfl rfl rfl <| bE ho34 fun x72 h72 ho34 => aR (k := [⟨⟨x70_0, x70_1⟩, ⟨x70_2, x70_3⟩⟩]) (e := eQ) rfl rfl rfl h72 <| fa rfl rfl <| RT.storeR (cells := [_, _, _, _]) .none rfl rfl rfl rfl T rfl ?_
 refine RT.done ⟨by kernel_rfl, ?_⟩
 refine AInB.n <| AThen.n <| ok_region <| lE ho34 fun x74 h74 ho34 => ad _ rfl rfl h74 <| mv rfl <| RT.done ?_
 obtain rfl := O ho34
 exact AThen.n ⟨(x74, x62, x72), hG26 _ rfl, weakL (fun i => bif Nat.beq i 307 then 62 else bif Nat.beq i 308 then 72 else i) rfl rfl rfl rfl rfl ⟨.ptr, .ptr, .sv (SV.imp_refl _), .ptr, .sv (SV.imp_refl _), .sv (SV.imp_refl _), trivial⟩ ⟨⟨_, rfl, ⟨.sv (SV.imp_refl _), .sv (SV.imp_refl _), .row rfl, .row rfl, trivial⟩⟩, ⟨_, rfl, ⟨.sv (SV.imp_refl _), .sv (SV.imp_refl _), .sv (SV.imp_refl _), .sv (SV.imp_refl _), trivial⟩⟩, ⟨_, rfl, ⟨.sv (SV.imp_refl _), .sv (SV.imp_refl _), .sv (SV.imp_refl _), .sv (SV.imp_refl _), trivial⟩⟩, trivial⟩ ⟨⟨_, rfl, SVIs.refl _⟩, ⟨_, rfl, SVIs.refl _⟩, trivial⟩ (fun i hi => by rw [beq_ne (show i ≠ 307 by omega)]; rw [beq_ne (show i ≠ 308 by omega)]; rfl)⟩
 subst hx26
 obtain ⟨r307e25, r308e25⟩ := xe26
 try dsimp only
 refine AThen.n <| qq <| ok_weak (weak_frzM (i := 307) (E1 := 24) (n := 1) (e := (eS 4 eQ)) (l := r307e25) rfl) <| ok_weak (weak_frzM (i := 308) (E1 := 36) (n := 4) (e := eQ) (l := r308e25) rfl) <| ok_region <| ld rfl rfl (.cons rfl (.cons rfl (.cons rfl (.cons rfl (.nil))))) <| so rfl rfl rfl <| ag rfl <| dn <| ok_ret ?_
 obtain rfl := O ho26
 exact RZ (.agg rfl rfl (.cons rfl (.cons rfl (.cons rfl (.cons rfl (.nil))))) rfl (.tmp rfl (.nil)))
 refine cT <| sr <| bI (cs := [_, _, _, _]) (cs' := [.v (.int .i64 0), slc 1 (List.map (eS 4 eQ) []), slc 1 (List.map (eS 4 eQ) []), slc 4 (List.map eQ [])]) (.nil) ⟨SV.imp_refl _, imp_nil, imp_nil, imp_nil, trivial⟩ <| so rfl rfl rfl <| ag rfl <| dn <| ok_ret <| AThen.r ?_
 obtain rfl := O (V h)
 exact RZ (.agg rfl rfl (.cons rfl (.cons rfl (.cons rfl (.cons rfl (.nil))))) rfl (.tmp rfl (.nil)))
theorem vec_ScaleN_ok {x0 : Qr} {x1 : List Qr} {r : List Qr} (h : vec_ScaleN_m x0 x1 = some r) : NewC Tryz.prog 55 [.agg (eQ x0), slc 4 (List.map eQ x1)] (TR 36 4 eQ r) := by
 obtain ⟨⟨x0_0, x0_1⟩, ⟨x0_2, x0_3⟩⟩ := x0
 refine newC_of_ok Tryz.func55 rfl (Nat.le_of_ble_eq_true rfl) (fun wld M vs hvs => ?_)
 unfold vec_ScaleN_m at h
 refine sr <| bx rfl <| ag rfl <| dn <| ok_weak (weak_nil 4 304 36 4 rfl rfl T) <| sr <| mv rfl <| lE h fun x9 h9 h => ln rfl h9 <| bE h fun x10 h10 h => RT.mkRow (n := 4) (e := eQ) .none rfl rfl T rfl T (by rfl) (by decide) (by exact ⟨SV.imp_refl _, imp_nil, SV.imp_refl _, imp_nil, trivial⟩) h10 <| an (s := .row _) rfl <| dn <| qq <| sr <| mv rfl <| lE h fun x12 h12 h => ln rfl h12 <| mv rfl <| dn <| bE h fun e8 hl8 ho8 => ?_
 refine ok_tailP (fun (r10e7 : (List Qr)) => AS.mkL 26 [(5, .row 10)] [] [(10, TR 36 4 eQ r10e7)]) (fun r10e7 => r10e7 = e8) ?_ (fun r10e7 hx8 => ?_)
 refine ok_block ?_
 refine ok_loopM hl8 (fun s8 => AS.mkL 26 [(2, .ptr 2 0), (5, .row 10), (11, .sv (slc 4 (List.map eQ x1))), (12, .sv (.v (.int .i64 x12))), (13, .sv (.v (.int .i64 s8.1)))] [(2, ⟨36, [.sv (.v (.bool x0_0)), .sv (slc 1 (List.map eU32 x0_1)), .sv (.v (.bool x0_2)), .sv (slc 1 (List.map eU32 x0_3))]⟩)] [(10, TR 36 4 eQ s8.2)]) (wR []) (fun s8 y8 G8 h hG8 hE8 => ?_)
 obtain ⟨y13l4, r10l4⟩ := s8
 try dsimp only
 refine sr <| lE h fun x14 h14 h => ls _ rfl rfl h14 <| dn <| qq ?_
 cases x14
 refine cF <| ok_exit <| AThen.x <| AThen.x <| AInB.x <| AThen.n ?_
 obtain rfl := O (F h)
 exact ⟨r10l4, hE8 _ rfl, wR []⟩
 refine cT <| ok_skip <| AThen.n <| qq <| ok_block <| sr <| mv rfl ?_
 obtain ⟨⟨⟨x16_0, x16_1⟩, ⟨x16_2, x16_3⟩⟩, h16, h⟩ := bS (V h)
 refine ix rfl rfl h16 <| RT.loadR (cs := [_, _, _, _]) .none rfl T rfl rfl <| al (cs := [.v (.bool false), slc 1 (List.map eU32 []), .v (.bool false), slc 1 (List.map eU32 [])]) (by exact ⟨SV.imp_refl _, imp_nil, SV.imp_refl _, imp_nil, trivial⟩) rfl <| ag rfl <| so rfl rfl rfl <| dn <| ok_region <| mo (s := .row _) rfl <| mv rfl <| ld rfl rfl (.cons rfl (.cons rfl (.cons rfl (.cons rfl (.nil))))) <| ld rfl rfl (.cons rfl (.cons rfl (.cons rfl (.cons rfl (.nil))))) ?_
 obtain ⟨⟨⟨x22_0, x22_1⟩, ⟨x22_2, x22_3⟩⟩, h22, h⟩ := bS h
 refine cl (frac_Mul_ok h22) ⟨rfl, rfl, trivial⟩ <| bE h fun x23 h23 h => iR rfl rfl rfl h23 <| bE h fun l10 hl10_ h => sA ⟨⟨x22_0, x22_1⟩, ⟨x22_2, x22_3⟩⟩ rfl rfl rfl hl10_ <| RT.done <| AInB.n <| AThen.n <| ok_region <| lE h fun x24 h24 h => ad _ rfl rfl h24 <| mv rfl <| RT.done ?_
 obtain rfl := O h
 exact AThen.n ⟨(x24, l10), hG8 _ rfl, wR []⟩
 subst hx8
 try dsimp only
 refine AThen.n <| sr <| mo (s := .row _) rfl <| an (s := .row _) rfl <| dn <| ok_ret ?_
 obtain rfl := O ho8
 exact ⟨.inr rfl, _, .tmp rfl, rfl⟩
theorem lp_copyOfS_ok {x0 : Lr} {r : Int × (List (List Qr)) × (List (List Qr)) × (List Qr)} (h : lp_copyOfS_m x0 = some r) : NewS Tryz.prog 48 [.agg (eLr x0)] [.s (.v (.int .i64 r.1)), .s (slc 1 (List.map (eS 4 eQ) r.2.1)), .r (TR 24 1 (eS 4 eQ) r.2.2.1), .r (TR 36 4 eQ r.2.2.2)] := by
 obtain ⟨x0_0, x0_1, x0_2, x0_3⟩ := x0
 refine newS_of_ok (t := 2) (T := 26) Tryz.func48 rfl (Nat.le_of_ble_eq_true rfl) rfl rfl (fun wld M vs hvs => ?_)
 unfold lp_copyOfS_m at h
 refine sr <| bx rfl <| al (cs := [.v (.int .i64 0), slc 1 (List.map (eS 4 eQ) []), .v (.slice none 0 0), .v (.slice none 0 0)]) (by exact ⟨SV.imp_refl _, imp_nil, SV.imp_refl _, SV.imp_refl _, trivial⟩) rfl <| dn <| ok_weak (weak_nilB 2 2 303 24 1 rfl rfl rfl T) <| ok_weak (weak_nilB 2 3 304 36 4 rfl rfl rfl T) <| sr ?_
 obtain ⟨⟨⟨x4_0, x4_1⟩, ⟨x4_2, x4_3⟩⟩, h4, h⟩ := bS h
 refine cl (frac_FromInt64_ok h4) ⟨rfl, trivial⟩ <| al (cs := [.v (.bool false), slc 1 (List.map eU32 []), .v (.bool false), slc 1 (List.map eU32 [])]) (by exact ⟨SV.imp_refl _, imp_nil, SV.imp_refl _, imp_nil, trivial⟩) rfl <| so rfl rfl rfl <| dn <| qq <| ok_region_draw mixed <| fa rfl rfl <| lV rfl rfl rfl <| ld rfl rfl (.cons rfl (.cons rfl (.cons rfl (.cons rfl (.nil))))) <| fa rfl rfl <| lV rfl rfl rfl <| bE h fun x10 h10 h => cl (mat_Scale_ok h10) ⟨rfl, rfl, trivial⟩ ?_
 refine ld rfl rfl (.cons rfl (.cons rfl (.cons rfl (.cons rfl (.nil))))) <| fa rfl rfl <| lV rfl rfl rfl <| bE h fun x14 h14 h => cN (mat_ScaleN_ok h14) ⟨rfl, rfl, trivial⟩ <| ld rfl rfl (.cons rfl (.cons rfl (.cons rfl (.cons rfl (.nil))))) <| fa rfl rfl <| lV rfl rfl rfl <| bE h fun x18 h18 h => cN (vec_ScaleN_ok h18) ⟨rfl, rfl, trivial⟩ <| RT.buildC .none (.one rfl (.one rfl (.row rfl rfl (.row rfl rfl (.nil))))) [.val (.v (.int .i64 x0_0)), .val (slc 1 (List.map (eS 4 eQ) x10)), .row 14, .row 18] (fun _ => rfl) rfl ⟨(fun _ _ q_ => One.h _ _ q_), (fun _ _ q_ => One.h _ _ q_), ⟨_, rfl⟩, ⟨_, rfl⟩, trivial⟩ [14, 18] rfl rfl T ?_
 refine RT.storeC .none rfl rfl rfl ⟨(fun _ _ q_ => One.h _ _ q_), (fun _ _ q_ => One.h _ _ q_), ⟨_, rfl⟩, ⟨_, rfl⟩, trivial⟩ rfl rfl [14, 18] rfl [.sv (.v (.int .i64 x0_0)), .sv (slc 1 (List.map (eS 4 eQ) x10)), .row 14, .row 18] rfl ?_
 refine RT.done ⟨by kernel_rfl, ?_⟩
 refine AThen.n <| ok_ret ?_
 obtain rfl := O h
 exact ⟨.inr rfl, 2, [14, 18], rfl, rfl, ⟨rfl, rfl, trivial⟩, by decide⟩
set_option maxHeartbeats 4000000 in
theorem lp_extend_ok {x0 : Lr} {x1 : List Cn} {r : Lr × Int} (h : lp_extend_m x0 x1 = some r) : Pure Tryz.prog 75 [.agg (eLr x0), slc 5 (List.map eCn x1)] (.tup [.agg (eLr r.1), .v (.int .i64 r.2)]) := by
 obtain ⟨x0_0, x0_1, x0_2, x0_3⟩ := x0
 refine pure_of_ok Tryz.func75 rfl (Nat.le_of_ble_eq_true rfl) (fun wld M vs hvs => ?_)
 unfold lp_extend_m at h
 refine sr <| bx rfl <| al (cs := [.v (.int .i64 0), slc 1 (List.map (eS 4 eQ) []), slc 1 (List.map (eS 4 eQ) []), slc 4 (List.map eQ [])]) (by exact ⟨SV.imp_refl _, imp_nil, imp_nil, imp_nil, trivial⟩) rfl <| ag rfl <| dn <| qq <| qq ?_
 refine ok_tailJ h (fun j3 => AS.mkL 67 [(1, .sv (slc 5 (List.map eCn x1))), (2, .ptr 2 0), (4, .ptr 4 0), (22, .sv (.v (.bool j3)))] [(4, ⟨26, [.sv (.v (.int .i64 0)), .sv (slc 1 (List.map (eS 4 eQ) [])), .sv (slc 1 (List.map (eS 4 eQ) [])), .sv (slc 4 (List.map eQ []))]⟩), (2, ⟨26, [.sv (.v (.int .i64 x0_0)), .sv (slc 1 (List.map (eS 4 eQ) x0_1)), .sv (slc 1 (List.map (eS 4 eQ) x0_2)), .sv (slc 4 (List.map eQ x0_3))]⟩)] []) (fun h => ?_) (fun y22j2 h => ?_)
 refine ok_region <| ld rfl rfl (.cons rfl (.cons rfl (.cons rfl (.cons rfl (.nil))))) <| bE h fun x12 h12 h => cl (lp_Valid_ok h12) ⟨rfl, trivial⟩ <| lE h fun x13 h13 h => nt rfl _ h13 <| mv rfl <| bE h fun c22_16 hg16 h => ?_
 cases x13
 refine RT.fieldAddr (.some rfl rfl) rfl T rfl <| RT.ldV (.some rfl rfl) rfl rfl rfl T <| lE (F hg16) fun x17 h17 hg16 => gn rfl h17 <| gm rfl <| lE hg16 fun x19 h19 hg16 => gn rfl h19 <| lE hg16 fun x20 h20 hg16 => RT.add (.some rfl rfl) _ rfl rfl T h20 <| lE hg16 fun x21 h21 hg16 => gg _ rfl rfl h21 ?_
 obtain rfl := O hg16
 exact pF rfl <| dn <| ⟨x21, h, wR []⟩
 obtain rfl := O (V hg16)
 exact ww <| ww <| ww <| ww <| ww <| ww <| ww <| pT rfl <| dn <| ⟨true, h, wR []⟩
 try dsimp only
 refine AThen.n ?_
 cases y22j2
 refine fs <| qq <| sr <| mv rfl <| lE (F h) fun x25 h25 h => ln rfl h25 <| mv rfl <| dn <| bE h fun e9 hl9 ho9 => ?_
 refine ok_tailP (fun (xe9 : Unit) => AS.mkL 67 [(1, .sv (slc 5 (List.map eCn x1))), (2, .ptr 2 0), (4, .ptr 4 0)] [(4, ⟨26, [.sv (.v (.int .i64 0)), .sv (slc 1 (List.map (eS 4 eQ) [])), .sv (slc 1 (List.map (eS 4 eQ) [])), .sv (slc 4 (List.map eQ []))]⟩), (2, ⟨26, [.sv (.v (.int .i64 x0_0)), .sv (slc 1 (List.map (eS 4 eQ) x0_1)), .sv (slc 1 (List.map (eS 4 eQ) x0_2)), .sv (slc 4 (List.map eQ x0_3))]⟩)] []) (fun xe9 => .inl xe9 = e9) ?_ (fun xe9 hx9 => ?_)
 refine ok_block ?_
 refine ok_loopM hl9 (fun s9 => AS.mkL 67 [(1, .sv (slc 5 (List.map eCn x1))), (2, .ptr 2 0), (4, .ptr 4 0), (24, .sv (slc 5 (List.map eCn x1))), (25, .sv (.v (.int .i64 x25))), (26, .sv (.v (.int .i64 s9)))] [(4, ⟨26, [.sv (.v (.int .i64 0)), .sv (slc 1 (List.map (eS 4 eQ) [])), .sv (slc 1 (List.map (eS 4 eQ) [])), .sv (slc 4 (List.map eQ []))]⟩), (2, ⟨26, [.sv (.v (.int .i64 x0_0)), .sv (slc 1 (List.map (eS 4 eQ) x0_1)), .sv (slc 1 (List.map (eS 4 eQ) x0_2)), .sv (slc 4 (List.map eQ x0_3))]⟩)] []) (wR []) (fun y26l6 y9 G9 h hG9 hE9 => ?_)
 try dsimp only
 refine sr <| lE h fun x27 h27 h => ls _ rfl rfl h27 <| dn <| qq ?_
 cases x27
 refine cF <| ok_exit <| AThen.x <| AThen.x <| AInB.x <| AThen.n ?_
 obtain rfl := O (F h)
 exact ⟨(), hE9 _ rfl, wR []⟩
 refine cT <| ok_skip <| AThen.n <| qq <| ok_block <| sr ?_
 obtain ⟨⟨x28_0, ⟨⟨x28_1, x28_2⟩, ⟨x28_3, x28_4⟩⟩⟩, h28, h⟩ := bS (V h)
 refine ix rfl rfl h28 <| RT.loadR (cs := [_, _, _, _, _]) .none rfl T rfl rfl <| al (cs := [slc 4 (List.map eQ []), .v (.bool false), slc 1 (List.map eU32 []), .v (.bool false), slc 1 (List.map eU32 [])]) (by exact ⟨imp_nil, SV.imp_refl _, imp_nil, SV.imp_refl _, imp_nil, trivial⟩) rfl <| so rfl rfl rfl <| dn <| sr <| fa rfl rfl <| lV rfl rfl rfl <| lE h fun x32 h32 h => ln rfl h32 <| fa rfl rfl <| lV rfl rfl rfl <| lE h fun x35 h35 h => gt _ rfl rfl h35 ?_
 refine dn ?_
 cases x35
 refine cF <| ok_skip <| AInB.n <| AThen.n <| ok_region <| lE (F h) fun x37 h37 h => ad _ rfl rfl h37 <| mv rfl <| RT.done ?_
 obtain rfl := O h
 exact AThen.n ⟨x37, hG9 _ rfl, wR []⟩
 refine cT <| sr <| bI (cs := [_, _, _, _]) (cs' := [.v (.int .i64 0), slc 1 (List.map (eS 4 eQ) []), slc 1 (List.map (eS 4 eQ) []), slc 4 (List.map eQ [])]) (.nil) ⟨SV.imp_refl _, imp_nil, imp_nil, imp_nil, trivial⟩ <| so rfl rfl rfl <| ag rfl <| dn <| ok_ret <| AInB.r <| AThen.r ?_
 obtain rfl := O (V h)
 have he9 := hE9 _ rfl
 subst he9
 refine AThen.r <| AInB.r <| AThen.r <| AThen.r ?_
 obtain rfl := O ho9
 exact RZ (.agg rfl rfl (.cons rfl (.cons rfl (.cons rfl (.cons rfl (.nil))))) rfl (.tmp rfl (.nil)))
 subst hx9
 try dsimp only
 refine AThen.n <| sr <| ld rfl rfl (.cons rfl (.cons rfl (.cons rfl (.cons rfl (.nil))))) ?_
 obtain ⟨⟨x39_0, x39_1, x39_2, x39_3⟩, h39, ho9⟩ := bS ho9
 refine RT.callNS .none (lp_copyOfS_ok h39) [303, 304] (by decide) rfl ⟨⟨rfl, T⟩, ⟨rfl, T⟩, trivial⟩ rfl ⟨rfl, trivial⟩ T <| al (cs := [.v (.int .i64 0), slc 1 (List.map (eS 4 eQ) []), .v (.slice none 0 0), .v (.slice none 0 0)]) (by exact ⟨SV.imp_refl _, imp_nil, SV.imp_refl _, SV.imp_refl _, trivial⟩) rfl <| RT.storeC .none rfl rfl rfl ⟨(fun _ _ q_ => One.h _ _ q_), (fun _ _ q_ => One.h _ _ q_), ⟨_, rfl⟩, ⟨_, rfl⟩, trivial⟩ rfl rfl [303, 304] rfl [.sv (.v (.int .i64 x39_0)), .sv (slc 1 (List.map (eS 4 eQ) x39_1)), .row 303, .row 304] rfl <| dn <| qq ?_
 refine sr <| mv rfl <| lE ho9 fun x41 h41 ho9 => ln rfl h41 <| mv rfl <| dn <| bE ho9 fun e15 hl15 ho15 => ?_
 refine ok_tailP (fun (xe15 : (List (List Qr)) × (List Qr)) => AS.mkL 67 [(4, .ptr 4 0), (8, .ptr 8 0)] [(8, ⟨26, [.sv (.v (.int .i64 x39_0)), .sv (slc 1 (List.map (eS 4 eQ) x39_1)), .row 307, .row 308]⟩), (4, ⟨26, [.sv (.v (.int .i64 0)), .sv (slc 1 (List.map (eS 4 eQ) [])), .sv (slc 1 (List.map (eS 4 eQ) [])), .sv (slc 4 (List.map eQ []))]⟩)] [(307, TR 24 1 (eS 4 eQ) xe15.1), (308, TR 36 4 eQ xe15.2)]) (fun xe15 => xe15 = e15) ?_ (fun xe15 hx15 => ?_)
 refine ok_block ?_
 refine ok_loopM hl15 (fun s15 => AS.mkL 67 [(4, .ptr 4 0), (8, .ptr 8 0), (40, .sv (slc 5 (List.map eCn x1))), (41, .sv (.v (.int .i64 x41))), (42, .sv (.v (.int .i64 s15.1)))] [(8, ⟨26, [.sv (.v (.int .i64 x39_0)), .sv (slc 1 (List.map (eS 4 eQ) x39_1)), .row 307, .row 308]⟩), (4, ⟨26, [.sv (.v (.int .i64 0)), .sv (slc 1 (List.map (eS 4 eQ) [])), .sv (slc 1 (List.map (eS 4 eQ) [])), .sv (slc 4 (List.map eQ []))]⟩)] [(307, TR 24 1 (eS 4 eQ) s15.2.1), (308, TR 36 4 eQ s15.2.2)]) (weakL (fun i => bif Nat.beq i 307 then 303 else bif Nat.beq i 308 then 304 else i) rfl rfl rfl rfl rfl ⟨.ptr, .ptr, .sv (SV.imp_refl _), .sv (SV.imp_refl _), .sv (SV.imp_refl _), trivial⟩ ⟨⟨_, rfl, ⟨.sv (SV.imp_refl _), .sv (SV.imp_refl _), .row rfl, .row rfl, trivial⟩⟩, ⟨_, rfl, ⟨.sv (SV.imp_refl _), .sv (SV.imp_refl _), .sv (SV.imp_refl _), .sv (SV.imp_refl _), trivial⟩⟩, trivial⟩ ⟨⟨_, rfl, SVIs.refl _⟩, ⟨_, rfl, SVIs.refl _⟩, trivial⟩ (fun i hi => by rw [beq_ne (show i ≠ 307 by omega)]; rw [beq_ne (show i ≠ 308 by omega)]; rfl)) (fun s15 y15 G15 h hG15 hE15 => ?_)
 obtain ⟨y42l12, r307l12, r308l12⟩ := s15
 try dsimp only
 refine sr <| lE h fun x43 h43 h => ls _ rfl rfl h43 <| dn <| qq ?_
 cases x43
 refine cF <| ok_exit <| AThen.x <| AThen.x <| AInB.x <| AThen.n ?_
 obtain rfl := O (F h)
 exact ⟨(r307l12, r308l12), hE15 _ rfl, wR []⟩
 refine cT <| ok_skip <| AThen.n <| qq <| ok_block <| sr ?_
 obtain ⟨⟨x44_0, ⟨⟨x44_1, x44_2⟩, ⟨x44_3, x44_4⟩⟩⟩, h44, h⟩ := bS (V h)
 refine ix rfl rfl h44 <| RT.loadR (cs := [_, _, _, _, _]) .none rfl T rfl rfl <| al (cs := [slc 4 (List.map eQ []), .v (.bool false), slc 1 (List.map eU32 []), .v (.bool false), slc 1 (List.map eU32 [])]) (by exact ⟨imp_nil, SV.imp_refl _, imp_nil, SV.imp_refl _, imp_nil, trivial⟩) rfl <| so rfl rfl rfl <| dn <| qq <| ok_region_draw mixed <| fa rfl rfl <| RT.loadV .none (s := .row _) rfl rfl rfl T <| fa rfl rfl <| lV rfl rfl rfl <| fa rfl rfl <| lV rfl rfl rfl ?_
 refine lE h fun x52 h52 h => ln rfl h52 <| bE h fun x53 h53 h => cl (vec_Resize_ok h53) ⟨rfl, rfl, trivial⟩ <| bl (l := [x53]) (e := (eS 4 eQ)) (.one rfl (.nil)) rfl rfl rfl rfl rfl rfl <| bE h fun x55 h55 h => aR (k := [x53]) (e := (eS 4 eQ)) rfl rfl rfl h55 <| fa rfl rfl <| RT.storeR (cells := [_, _, _, _]) .none rfl rfl rfl rfl T rfl ?_
 refine RT.done ⟨by kernel_rfl, ?_⟩
 refine AThen.n <| ok_region_draw mixed <| fa rfl rfl <| RT.loadV .none (s := .row _) rfl rfl rfl T <| fa rfl rfl <| ld rfl rfl (.cons rfl (.cons rfl (.cons rfl (.cons rfl (.nil))))) ?_
 obtain ⟨⟨⟨x61_0, x61_1⟩, ⟨x61_2, x61_3⟩⟩, h61, h⟩ := bS h
 refine cl (frac_Canonical_ok h61) ⟨rfl, trivial⟩ <| bl (l := [⟨⟨x61_0, x61_1⟩, ⟨x61_2, x61_3⟩⟩]) (e := eQ) (.agg rfl (.nil)) rfl rfl rfl rfl rfl rfl <| bE h fun x63 h63 h => aR (k := [⟨⟨x61_0, x61_1⟩, ⟨x61_2, x61_3⟩⟩]) (e := eQ) rfl rfl rfl h63 <| fa rfl rfl <| RT.storeR (cells := [_, _, _, _]) .none rfl rfl rfl rfl T rfl ?_
 refine RT.done ⟨by kernel_rfl, ?_⟩
 refine AInB.n <| AThen.n <| ok_region <| lE h fun x65 h65 h => ad _ rfl rfl h65 <| mv rfl <| RT.done ?_
 obtain rfl := O h
 exact AThen.n ⟨(x65, x55, x63), hG15 _ rfl, weakL (fun i => bif Nat.beq i 307 then 55 else bif Nat.beq i 308 then 63 else i) rfl rfl rfl rfl rfl ⟨.ptr, .ptr, .sv (SV.imp_refl _), .sv (SV.imp_refl _), .sv (SV.imp_refl _), trivial⟩ ⟨⟨_, rfl, ⟨.sv (SV.imp_refl _), .sv (SV.imp_refl _), .row rfl, .row rfl, trivial⟩⟩, ⟨_, rfl, ⟨.sv (SV.imp_refl _), .sv (SV.imp_refl _), .sv (SV.imp_refl _), .sv (SV.imp_refl _), trivial⟩⟩, trivial⟩ ⟨⟨_, rfl, SVIs.refl _⟩, ⟨_, rfl, SVIs.refl _⟩, trivial⟩ (fun i hi => by rw [beq_ne (show i ≠ 307 by omega)]; rw [beq_ne (show i ≠ 308 by omega)]; rfl)⟩
 subst hx15
 obtain ⟨r307e14, r308e14⟩ := xe15
 try dsimp only
 refine AThen.n <| qq <| ok_weak (weak_frzM (i := 307) (E1 := 24) (n := 1) (e := (eS 4 eQ)) (l := r307e14) rfl) <| ok_weak (weak_frzM (i := 308) (E1 := 36) (n := 4) (e := eQ) (l := r308e14) rfl) <| ok_region <| ld rfl rfl (.cons rfl (.cons rfl (.cons rfl (.cons rfl (.nil))))) <| so rfl rfl rfl <| ag rfl <| dn <| ok_ret ?_
 obtain rfl := O ho15
 exact RZ (.agg rfl rfl (.cons rfl (.cons rfl (.cons rfl (.cons rfl (.nil))))) rfl (.tmp rfl (.nil)))
 refine cT <| sr <| bI (cs := [_, _, _, _]) (cs' := [.v (.int .i64 0), slc 1 (List.map (eS 4 eQ) []), slc 1 (List.map (eS 4 eQ) []), slc 4 (List.map eQ [])]) (.nil) ⟨SV.imp_refl _, imp_nil, imp_nil, imp_nil, trivial⟩ <| so rfl rfl rfl <| ag rfl <| dn <| ok_ret <| AThen.r ?_
 obtain rfl := O (V h)
 exact RZ (.agg rfl rfl (.cons rfl (.cons rfl (.cons rfl (.cons rfl (.nil))))) rfl (.tmp rfl (.nil)))
theorem lp_AddConstraint_ok {x0 : Lr} {x1 : List Qr} {x2 : Qr} {r : Lr × Int} (h : lp_AddConstraint_m x0 x1 x2 = some r) : Pure Tryz.prog 28 [.agg (eLr x0), slc 4 (List.map eQ x1), .agg (eQ x2)] (.tup [.agg (eLr r.1), .v (.int .i64 r.2)]) := by
 obtain ⟨x0_0, x0_1, x0_2, x0_3⟩ := x0
 obtain ⟨⟨x2_0, x2_1⟩, ⟨x2_2, x2_3⟩⟩ := x2
 refine pure_of_ok Tryz.func28 rfl (Nat.le_of_ble_eq_true rfl) (fun wld M vs hvs => ?_)
 unfold lp_AddConstraint_m at h
 refine sr <| bx rfl <| bx rfl <| al (cs := [.v (.int .i64 0), slc 1 (List.map (eS 4 eQ) []), slc 1 (List.map (eS 4 eQ) []), slc 4 (List.map eQ [])]) (by exact ⟨SV.imp_refl _, imp_nil, imp_nil, imp_nil, trivial⟩) rfl <| ag rfl <| dn <| sr <| ld rfl rfl (.cons rfl (.cons rfl (.cons rfl (.cons rfl (.nil))))) <| mv rfl <| ld rfl rfl (.cons rfl (.cons rfl (.cons rfl (.cons rfl (.nil))))) <| bI (cs := [_, _, _, _, _]) (cs' := [slc 4 (List.map eQ x1), .v (.bool x2_0), slc 1 (List.map eU32 x2_1), .v (.bool x2_2), slc 1 (List.map eU32 x2_3)]) (.one rfl (.agg rfl (.nil))) ⟨SV.imp_refl _, SV.imp_refl _, SV.imp_refl _, SV.imp_refl _, SV.imp_refl _, trivial⟩ ?_
 refine bl (l := [⟨x1, ⟨⟨x2_0, x2_1⟩, ⟨x2_2, x2_3⟩⟩⟩]) (e := eCn) (.agg rfl (.nil)) rfl rfl rfl rfl rfl rfl ?_
 obtain ⟨⟨⟨x13a_0, x13a_1, x13a_2, x13a_3⟩, x13b⟩, h13, h⟩ := bS h
 refine cl (lp_extend_ok h13) ⟨rfl, rfl, trivial⟩ <| ex rfl rfl <| ex rfl rfl <| so rfl rfl rfl <| ag rfl <| dn <| ok_ret ?_
 obtain rfl := O h
 exact RZ (.agg rfl rfl (.cons rfl (.cons rfl (.cons rfl (.cons rfl (.nil))))) rfl (.tmp rfl (.nil)))
theorem lp_AddEquation_ok {x0 : Lr} {x1 : List Qr} {x2 : Qr} {r : Lr × Int} (h : lp_AddEquation_m x0 x1 x2 = some r) : Pure Tryz.prog 30 [.agg (eLr x0), slc 4 (List.map eQ x1), .agg (eQ x2)] (.tup [.agg (eLr r.1), .v (.int .i64 r.2)]) := by
 obtain ⟨x0_0, x0_1, x0_2, x0_3⟩ := x0
 obtain ⟨⟨x2_0, x2_1⟩, ⟨x2_2, x2_3⟩⟩ := x2
 refine pure_of_ok Tryz.func30 rfl (Nat.le_of_ble_eq_true rfl) (fun wld M vs hvs => ?_)
 unfold lp_AddEquation_m at h
 refine sr <| bx rfl <| bx rfl <| al (cs := [.v (.int .i64 0), slc 1 (List.map (eS 4 eQ) []), slc 1 (List.map (eS 4 eQ) []), slc 4 (List.map eQ [])]) (by exact ⟨SV.imp_refl _, imp_nil, imp_nil, imp_nil, trivial⟩) rfl <| ag rfl <| dn <| qq <| ok_region_draw mixed ?_
 obtain ⟨⟨⟨x9_0, x9_1⟩, ⟨x9_2, x9_3⟩⟩, h9, h⟩ := bS h
 refine cl (frac_FromInt64_ok h9) ⟨rfl, trivial⟩ <| mv rfl <| bE h fun x11 h11 h => cl (vec_Scale_ok h11) ⟨rfl, rfl, trivial⟩ <| ld rfl rfl (.cons rfl (.cons rfl (.cons rfl (.cons rfl (.nil))))) ?_
 obtain ⟨⟨⟨x13_0, x13_1⟩, ⟨x13_2, x13_3⟩⟩, h13, h⟩ := bS h
 refine cl (frac_Neg_ok h13) ⟨rfl, trivial⟩ <| bI (cs := [_, _, _, _, _]) (cs' := [slc 4 (List.map eQ x11), .v (.bool x13_0), slc 1 (List.map eU32 x13_1), .v (.bool x13_2), slc 1 (List.map eU32 x13_3)]) (.one rfl (.agg rfl (.nil))) ⟨SV.imp_refl _, SV.imp_refl _, SV.imp_refl _, SV.imp_refl _, SV.imp_refl _, trivial⟩ <| al (cs := [slc 4 (List.map eQ []), .v (.bool false), slc 1 (List.map eU32 []), .v (.bool false), slc 1 (List.map eU32 [])]) (by exact ⟨imp_nil, SV.imp_refl _, imp_nil, SV.imp_refl _, imp_nil, trivial⟩) rfl <| so rfl rfl rfl ?_
 refine RT.done ⟨by kernel_rfl, ?_⟩
 refine AThen.n <| sr <| ld rfl rfl (.cons rfl (.cons rfl (.cons rfl (.cons rfl (.nil))))) <| mv rfl <| ld rfl rfl (.cons rfl (.cons rfl (.cons rfl (.cons rfl (.nil))))) <| bI (cs := [_, _, _, _, _]) (cs' := [slc 4 (List.map eQ x1), .v (.bool x2_0), slc 1 (List.map eU32 x2_1), .v (.bool x2_2), slc 1 (List.map eU32 x2_3)]) (.one rfl (.agg rfl (.nil))) ⟨SV.imp_refl _, SV.imp_refl _, SV.imp_refl _, SV.imp_refl _, SV.imp_refl _, trivial⟩ <| ld rfl rfl (.cons rfl (.cons rfl (.cons rfl (.cons rfl (.cons rfl (.nil)))))) ?_
 refine bl (l := [⟨x1, ⟨⟨x2_0, x2_1⟩, ⟨x2_2, x2_3⟩⟩⟩, ⟨x11, ⟨⟨x13_0, x13_1⟩, ⟨x13_2, x13_3⟩⟩⟩]) (e := eCn) (.agg rfl (.agg rfl (.nil))) rfl rfl rfl rfl rfl rfl ?_
 obtain ⟨⟨⟨x21a_0, x21a_1, x21a_2, x21a_3⟩, x21b⟩, h21, h⟩ := bS h
 refine cl (lp_extend_ok h21) ⟨rfl, rfl, trivial⟩ <| ex rfl rfl <| ex rfl rfl <| so rfl rfl rfl <| ag rfl <| dn <| ok_ret ?_
 obtain rfl := O h
 exact RZ (.agg rfl rfl (.cons rfl (.cons rfl (.cons rfl (.cons rfl (.nil))))) rfl (.tmp rfl (.nil)))
theorem lp_Equal_ok {x0 : Lr} {x1 : Lr} {r : Bool} (h : lp_Equal_m x0 x1 = some r) : Pure Tryz.prog 14 [.agg (eLr x0), .agg (eLr x1)] (.v (.bool r)) := by
 obtain ⟨x0_0, x0_1, x0_2, x0_3⟩ := x0
 obtain ⟨x1_0, x1_1, x1_2, x1_3⟩ := x1
 refine pure_of_ok Tryz.func14 rfl (Nat.le_of_ble_eq_true rfl) (fun wld M vs hvs => ?_)
 unfold lp_Equal_m at h
 refine sr <| bx rfl <| bx rfl <| ag rfl <| dn <| qq <| qq <| ok_region_draw mixed <| ld rfl rfl (.cons rfl (.cons rfl (.cons rfl (.cons rfl (.nil))))) ?_
 obtain ⟨⟨x6_0, x6_1, x6_2, x6_3⟩, h6, h⟩ := bS h
 refine cl (lp_sizesOf_ok h6) ⟨rfl, trivial⟩ <| ld rfl rfl (.cons rfl (.cons rfl (.cons rfl (.cons rfl (.nil))))) ?_
 obtain ⟨⟨x8_0, x8_1, x8_2, x8_3⟩, h8, h⟩ := bS h
 refine cl (lp_sizesOf_ok h8) ⟨rfl, trivial⟩ <| lE h fun x9 h9 h => RT.neq4 .none rfl rfl T h9 ?_
 refine RT.done ⟨by kernel_rfl, ?_⟩
 refine AThen.n ?_
 cases x9
 refine fs <| qq ?_
 refine ok_tailJ (F h) (fun j6 => AS.mkL 29 [(4, .sv (.v (.bool j6)))] [] []) (fun h => ?_) (fun y4j5 h => ?_)
 refine ok_region <| fa rfl rfl <| lV rfl rfl rfl <| fa rfl rfl <| lV rfl rfl rfl <| bE h fun x14 h14 h => cl (mat_Equal_ok h14) ⟨rfl, rfl, trivial⟩ <| mv rfl <| bE h fun c21_7 hg7 h => ?_
 cases x14
 obtain rfl := O (F hg7)
 refine ww <| ww <| ww <| ww <| ww <| pF rfl <| mv rfl <| bE h fun c28_9 hg9 h => ?_
 obtain rfl := O (F hg9)
 exact ww <| ww <| ww <| ww <| ww <| pF rfl <| ag rfl <| dn <| ⟨false, h, wR []⟩
 refine RT.fieldAddr (.some rfl rfl) rfl T rfl <| RT.ldV (.some rfl rfl) rfl rfl rfl T <| RT.fieldAddr (.some rfl rfl) rfl T rfl <| RT.ldV (.some rfl rfl) rfl rfl rfl T <| bE (V hg7) fun x20 h20 hg7 => gc (mat_Equal_ok h20) ⟨rfl, rfl, trivial⟩ ?_
 obtain rfl := O hg7
 refine pT rfl <| mv rfl <| bE h fun c28_8 hg8 h => ?_
 cases x20
 obtain rfl := O (F hg8)
 exact ww <| ww <| ww <| ww <| ww <| pF rfl <| ag rfl <| dn <| ⟨false, h, wR []⟩
 refine RT.fieldAddr (.some rfl rfl) rfl T rfl <| RT.ldV (.some rfl rfl) rfl rfl rfl T <| RT.fieldAddr (.some rfl rfl) rfl T rfl <| RT.ldV (.some rfl rfl) rfl rfl rfl T <| bE (V hg8) fun x27 h27 hg8 => gc (vec_Equal_ok h27) ⟨rfl, rfl, trivial⟩ ?_
 obtain rfl := O hg8
 exact pT rfl <| ag rfl <| dn <| ⟨x27, h, wR []⟩
 try dsimp only
 refine AThen.n <| ok_ret ?_
 obtain rfl := O h
 exact R1 rfl
 refine cT <| sr <| ag rfl <| dn <| ok_ret <| AThen.r ?_
 obtain rfl := O (V h)
 exact R1 rfl
end Go.Proofs.YtfoldppidpmchaaGreat
namespace Go.Proofs.YtfoldppidpmchaaGreat
open Go.Fw
noncomputable def ref01_trim_m (x0 : List Int) : Option (List Int) := (some (x0.length : Int)).bind fun x5 => (loopM (fun (y3l5 : Int) => (show Option ((Int) ⊕ (Int)) from letJ (fun (y15j12 : Bool) => (bif y15j12 then (some (IntKind.i64.wrap (y3l5 - 1))).bind fun x17 => some (.inl x17) else some (.inr y3l5))) fun K13 => (some (decide ((0 : Int) < y3l5))).bind fun x7 => (bif x7 then (some (IntKind.i64.wrap (y3l5 - 1))).bind fun x11 => (geti x0 x11).bind fun x12 => (some (decide ((x12 : Int) = 0))).bind fun x14 => some x14 else some false).bind fun c15_14 => K13 c15_14)) x5).bind fun y3e9 => (subM x0 0 y3e9).bind fun x20 => some x20
noncomputable def ref01_halves_m (x0 : List Nat) : Option (List Int) := (loopM (fun (s6 : Int × (List Int)) => match s6 with | ⟨y4l3, r306l3⟩ => (show Option ((Int × (List Int)) ⊕ ((List Int))) from (some (x0.length : Int)).bind fun x7 => (some (decide ((y4l3 : Int) < x7))).bind fun x8 => (bif x8 then (geti x0 y4l3).bind fun x14 => (some (x14 % 65536)).bind fun x16 => (some (IntKind.i64.wrap (x16 : Int))).bind fun x17 => (geti x0 y4l3).bind fun x20 => (some (x20 / 65536 % 4294967296)).bind fun x22 => (some (IntKind.i64.wrap (x22 : Int))).bind fun x23 => (apM 8 r306l3 [x17, x23]).bind fun x25 => (some (IntKind.i64.wrap (y4l3 + 1))).bind fun x10 => some (.inl (x10, x25)) else some (.inr r306l3)))) (0, [])).bind fun r306e5 => (ref01_trim_m r306e5).bind fun x27 => some x27
noncomputable def ref01_at_m (x0 : List Int) (x1 : Int) : Option (Int) := (some (x0.length : Int)).bind fun x7 => (some (decide ((x1 : Int) < x7))).bind fun x8 => (bif x8 then (geti x0 x1).bind fun x11 => some x11 else some 0)
noncomputable def ref01_of_m (x0 : Bool) (x1 : List Int) : Option (Zr) := (ref01_trim_m x1).bind fun x8 => (loopM (fun (s6 : Int × (List Nat)) => match s6 with | ⟨y6l3, r306l3⟩ => (show Option ((Int × (List Nat)) ⊕ ((List Nat))) from (some (x8.length : Int)).bind fun x11 => (some (decide ((y6l3 : Int) < x11))).bind fun x12 => (bif x12 then (ref01_at_m x8 y6l3).bind fun x18 => (some ((x18 % 4294967296).toNat)).bind fun x19 => (some (IntKind.i64.wrap (y6l3 + 1))).bind fun x22 => (ref01_at_m x8 x22).bind fun x23 => (some ((x23 % 4294967296).toNat)).bind fun x24 => (some ((x24 * 65536) % 4294967296)).bind fun x25 => (some ((x19 + x25) % 4294967296)).bind fun x26 => (apM 4 r306l3 [x26]).bind fun x28 => (some (IntKind.i64.wrap (y6l3 + 2))).bind fun x14 => some (.inl (x14, x28)) else some (.inr r306l3)))) (0, [])).bind fun r306e5 => letJ (fun (b4_0j8 : Bool) => some ⟨b4_0j8, r306e5⟩) fun K9 => (bif x0 then (some (r306e5.length : Int)).bind fun x32 => (some (decide ((0 : Int) < x32))).bind fun x33 => some x33 else some false).bind fun c34_10 => K9 c34_10
noncomputable def ref01_Least_m (x0 : Zr) : Option (Zr) := match x0 with | ⟨x0_0, x0_1⟩ => (ref01_halves_m x0_1).bind fun x7 => (ref01_of_m x0_0 x7).bind fun ⟨x8_0, x8_1⟩ => some ⟨x8_0, x8_1⟩
noncomputable def ref01_From_m (x0 : Int) : Option (Zr) := (some ((x0 % 18446744073709551616).toNat)).bind fun x5 => (some (decide ((x0 : Int) < 0))).bind fun x7 => letJ (fun (y3j1 : Nat) => (some (decide ((x0 : Int) < 0))).bind fun x11 => (some (y3j1 % 4294967296)).bind fun x13 => (some (x13 % 4294967296)).bind fun x14 => (some (y3j1 / 4294967296 % 18446744073709551616)).bind fun x16 => (some (x16 % 4294967296)).bind fun x17 => (ref01_Least_m ⟨x11, [x14, x17]⟩).bind fun ⟨x20_0, x20_1⟩ => some ⟨x20_0, x20_1⟩) fun K2 => (bif x7 then (some (usub 18446744073709551616 0 x5)).bind fun x9 => K2 x9 else K2 x5)
noncomputable def ref01_cmp_m (x0 : List Int) (x1 : List Int) : Option (Int) := (some (x0.length : Int)).bind fun x7 => (some (x1.length : Int)).bind fun x9 => (some (max (x7 : Int) x9)).bind fun x10 => (some (IntKind.i64.wrap (x10 - 1))).bind fun x11 => (loopM (fun (y5l3 : Int) => (show Option ((Int) ⊕ ((Unit) ⊕ (Int))) from (some (decide ((0 : Int) ≤ y5l3))).bind fun x13 => (bif x13 then (ref01_at_m x0 y5l3).bind fun x18 => (ref01_at_m x1 y5l3).bind fun x21 => (some (decide ((x18 : Int) < x21))).bind fun x22 => (bif x22 then some (.inr (.inr (-1))) else (ref01_at_m x0 y5l3).bind fun x25 => (ref01_at_m x1 y5l3).bind fun x28 => (some (decide ((x28 : Int) < x25))).bind fun x29 => (bif x29 then some (.inr (.inr 1)) else (some (IntKind.i64.wrap (y5l3 - 1))).bind fun x15 => some (.inl x15))) else some (.inr (.inl ()))))) x11).bind fun e6 => match e6 with | .inr v6 => some v6 | .inl _ => some 0
noncomputable def ref01_add_m (x0 : List Int) (x1 : List Int) : Option (List Int) := (loopM (fun (s16 : Int × Int × (List Int)) => match s16 with | ⟨y6l8, y7l8, r306l8⟩ => (show Option ((Int × Int × (List Int)) ⊕ ((List Int))) from letJ (fun (y22j21 : Bool) => (bif y22j21 then (ref01_at_m x0 y7l8).bind fun x27 => (ref01_at_m x1 y7l8).bind fun x30 => (some (IntKind.i64.wrap (x27 + x30))).bind fun x31 => (some (IntKind.i64.wrap (x31 + y6l8))).bind fun x33 => (some (Int.tmod x33 65536)).bind fun x36 => (apM 8 r306l8 [x36]).bind fun x38 => (some (IntKind.i64.wrap (Int.tdiv x33 65536))).bind fun x40 => (some (IntKind.i64.wrap (y7l8 + 1))).bind fun x24 => some (.inl (x40, x24, x38)) else some (.inr r306l8))) fun K22 => (some (x0.length : Int)).bind fun x11 => (some (decide ((y7l8 : Int) < x11))).bind fun x12 => (bif x12 then some true else (some (x1.length : Int)).bind fun x16 => (some (decide ((y7l8 : Int) < x16))).bind fun x17 => some x17).bind fun c18_23 => (bif c18_23 then some true else (some (decide ((0 : Int) < y6l8))).bind fun x21 => some x21).bind fun c22_26 => K22 c22_26)) (0, 0, [])).bind fun r306e15 => (ref01_trim_m r306e15).bind fun x42 => some x42
noncomputable def ref01_sub_m (x0 : List Int) (x1 : List Int) : Option (List Int) := (loopM (fun (s8 : Int × Int × (List Int)) => match s8 with | ⟨y6l4, y7l4, r306l4⟩ => (show Option ((Int × Int × (List Int)) ⊕ ((List Int))) from (some (x0.length : Int)).bind fun x11 => (some (decide ((y7l4 : Int) < x11))).bind fun x12 => (bif x12 then (ref01_at_m x0 y7l4).bind fun x17 => (ref01_at_m x1 y7l4).bind fun x20 => (some (IntKind.i64.wrap (x17 - x20))).bind fun x21 => (some (IntKind.i64.wrap (x21 - y6l4))).bind fun x23 => (some (decide ((x23 : Int) < 0))).bind fun x25 => letJ (fun (j10 : Int × Int) => match j10 with | ⟨y6j9, y8j9⟩ => (apM 8 r306l4 [y8j9]).bind fun x31 => (some (IntKind.i64.wrap (y7l4 + 1))).bind fun x14 => some (.inl (y6j9, x14, x31))) fun K10 => (bif x25 then (some (IntKind.i64.wrap (x23 + 65536))).bind fun x27 => K10 (1, x27) else K10 (0, x23)) else some (.inr r306l4)))) (0, 0, [])).bind fun r306e7 => (ref01_trim_m r306e7).bind fun x33 => some x33
noncomputable def ref01_small_m (x0 : List Int) : Option (Int) := (some (x0.length : Int)).bind fun x6 => (some (IntKind.i64.wrap (x6 - 1))).bind fun x7 => (loopM (fun (s6 : Int × Int) => match s6 with | ⟨y3l3, y4l3⟩ => (show Option ((Int × Int) ⊕ (Int)) from (some (decide ((0 : Int) ≤ y4l3))).bind fun x9 => (bif x9 then (some (IntKind.i64.wrap (y3l3 * 65536))).bind fun x13 => (geti x0 y4l3).bind fun x16 => (some (IntKind.i64.wrap (x13 + x16))).bind fun x18 => (some (IntKind.i64.wrap (y4l3 - 1))).bind fun x11 => some (.inl (x18, x11)) else some (.inr y3l3)))) (0, x7)).bind fun y3e5 => some y3e5
noncomputable def ref01_back_m (x0 : Int) : Option (List Int) := (some (Int.tmod x0 65536)).bind fun x4 => (some (IntKind.i64.wrap (Int.tdiv x0 65536))).bind fun x6 => (some (Int.tmod x6 65536)).bind fun x7 => (some (IntKind.i64.wrap (Int.tdiv x0 65536))).bind fun x9 => (some (IntKind.i64.wrap (Int.tdiv x9 65536))).bind fun x10 => (ref01_trim_m [x4, x7, x10]).bind fun x12 => some x12
noncomputable def ref01_times_m (x0 : List Int) (x1 : Int) : Option (List Int) := (loopM (fun (s10 : Int × Int × (List Int)) => match s10 with | ⟨y6l5, y7l5, r306l5⟩ => (show Option ((Int × Int × (List Int)) ⊕ ((List Int))) from letJ (fun (y16j12 : Bool) => (bif y16j12 then (ref01_at_m x0 y7l5).bind fun x21 => (some (IntKind.i64.wrap (x21 * x1))).bind fun x23 => (some (IntKind.i64.wrap (x23 + y6l5))).bind fun x25 => (some (Int.tmod x25 65536)).bind fun x28 => (apM 8 r306l5 [x28]).bind fun x30 => (some (IntKind.i64.wrap (Int.tdiv x25 65536))).bind fun x32 => (some (IntKind.i64.wrap (y7l5 + 1))).bind fun x18 => some (.inl (x32, x18, x30)) else some (.inr r306l5))) fun K13 => (some (x0.length : Int)).bind fun x11 => (some (decide ((y7l5 : Int) < x11))).bind fun x12 => (bif x12 then some true else (some (decide ((0 : Int) < y6l5))).bind fun x15 => some x15).bind fun c16_14 => K13 c16_14)) (0, 0, [])).bind fun r306e9 => (ref01_trim_m r306e9).bind fun x34 => some x34
noncomputable def ref01_div_m (x0 : List Int) (x1 : List Int) : Option ((List Int) × (List Int)) := letJ (fun (y21j2 : Bool) => (bif y21j2 then (ref01_small_m x0).bind fun x23 => (ref01_small_m x1).bind fun x25 => (iquo x23 x25).bind fun x26 => (ref01_back_m x26).bind fun x27 => (ref01_small_m x0).bind fun x29 => (ref01_small_m x1).bind fun x31 => (irem x29 x31).bind fun x32 => (ref01_back_m x32).bind fun x33 => some (x27, x33) else (some (x0.length : Int)).bind fun x35 => (mkM 8 x35 (0 : Int)).bind fun x36 => (some (x1.length : Int)).bind fun x38 => (some (decide ((x38 : Int) = 1))).bind fun x39 => (bif x39 then (some (x0.length : Int)).bind fun x41 => (some (IntKind.i64.wrap (x41 - 1))).bind fun x42 => (loopM (fun (s18 : Int × Int × (List Int)) => match s18 with | ⟨y7l14, y8l14, r36l14⟩ => (show Option ((Int × Int × (List Int)) ⊕ (Int × (List Int))) from (some (decide ((0 : Int) ≤ y8l14))).bind fun x44 => (bif x44 then (some (IntKind.i64.wrap (y7l14 * 65536))).bind fun x48 => (geti x0 y8l14).bind fun x51 => (some (IntKind.i64.wrap (x48 + x51))).bind fun x53 => (geti x1 0).bind fun x58 => (iquo x53 x58).bind fun x60 => (geti x1 0).bind fun x63 => (irem x53 x63).bind fun x65 => (cki r36l14 y8l14).bind fun x66 => (stM r36l14 x66 x60).bind fun l20 => (some (IntKind.i64.wrap (y8l14 - 1))).bind fun x46 => some (.inl (x65, x46, l20)) else some (.inr (y7l14, r36l14))))) (0, x42, x36)).bind fun e18 => match e18 with | ⟨y7e17, r36e17⟩ => (ref01_trim_m r36e17).bind fun x68 => (ref01_trim_m [y7e17]).bind fun x71 => some (x68, x71) else (some (x0.length : Int)).bind fun x73 => (some (IntKind.i64.wrap (x73 - 1))).bind fun x74 => (loopM (fun (s44 : (List Int) × Int × (List Int)) => match s44 with | ⟨y9l32, y10l32, r36l32⟩ => (show Option (((List Int) × Int × (List Int)) ⊕ ((List Int) × (List Int))) from (some (decide ((0 : Int) ≤ y10l32))).bind fun x76 => (bif x76 then (geti x0 y10l32).bind fun x81 => (apM 8 [x81] y9l32).bind fun x85 => (ref01_trim_m x85).bind fun x86 => (some (x86.length : Int)).bind fun x88 => (some (x1.length : Int)).bind fun x90 => (some (decide ((x88 : Int) < x90))).bind fun x91 => letJ (fun (y12j45 : Int) => (loopM (fun (s54 : Int × Int) => match s54 with | ⟨y11l50, y12l50⟩ => (show Option ((Int × Int) ⊕ (Int)) from (some (IntKind.i64.wrap (y12l50 - y11l50))).bind fun x94 => (some (decide ((1 : Int) < x94))).bind fun x95 => (bif x95 then (some (IntKind.i64.wrap (y11l50 + y12l50))).bind fun x98 => (some (IntKind.i64.wrap (Int.tdiv x98 2))).bind fun x99 => (ref01_times_m x1 x99).bind fun x102 => (ref01_cmp_m x102 x86).bind fun x104 => (some (decide ((x104 : Int) ≤ 0))).bind fun x105 => letJ (fun (j56 : Int × Int) => match j56 with | ⟨y11j55, y12j55⟩ => some (.inl (y11j55, y12j55))) fun K56 => (bif x105 then K56 (x99, y12l50) else K56 (y11l50, x99)) else some (.inr y11l50)))) (0, y12j45)).bind fun y11e53 => (ref01_times_m x1 y11e53).bind fun x114 => (ref01_sub_m x86 x114).bind fun x115 => (cki r36l32 y10l32).bind fun x116 => (stM r36l32 x116 y11e53).bind fun l58 => (some (IntKind.i64.wrap (y10l32 - 1))).bind fun x78 => some (.inl (x115, x78, l58))) fun K46 => (bif x91 then K46 1 else K46 65536) else some (.inr (y9l32, r36l32))))) ([], x74, x36)).bind fun e44 => match e44 with | ⟨y9e43, r36e43⟩ => (ref01_trim_m r36e43).bind fun x118 => some (x118, y9e43)))) fun K3 => (some (x0.length : Int)).bind fun x15 => (some (decide ((x15 : Int) ≤ 3))).bind fun x16 => (bif x16 then (some (x1.length : Int)).bind fun x19 => (some (decide ((x19 : Int) ≤ 3))).bind fun x20 => some x20 else some false).bind fun c21_59 => K3 c21_59
noncomputable def ref01_Sign_m (x0 : Zr) : Option (Int) := match x0 with | ⟨x0_0, x0_1⟩ => (ref01_halves_m x0_1).bind fun x5 => (some (x5.length : Int)).bind fun x6 => (some (decide ((x6 : Int) = 0))).bind fun x7 => (bif x7 then some 0 else (bif x0_0 then some (-1) else some 1))
noncomputable def ref01_Cmp_m (x0 : Zr) (x1 : Zr) : Option (Int) := match x0 with | ⟨x0_0, x0_1⟩ => match x1 with | ⟨x1_0, x1_1⟩ => (ref01_Sign_m ⟨x0_0, x0_1⟩).bind fun x7 => (ref01_Sign_m ⟨x1_0, x1_1⟩).bind fun x9 => (some (decide ((x7 : Int) ≠ x9))).bind fun x10 => (bif x10 then (ref01_Sign_m ⟨x0_0, x0_1⟩).bind fun x12 => (ref01_Sign_m ⟨x1_0, x1_1⟩).bind fun x14 => (some (decide ((x12 : Int) < x14))).bind fun x15 => (bif x15 then some (-1) else some 1) else (ref01_halves_m x0_1).bind fun x18 => (ref01_halves_m x1_1).bind fun x21 => (ref01_cmp_m x18 x21).bind fun x22 => (ref01_Sign_m ⟨x0_0, x0_1⟩).bind fun x24 => (some (decide ((x24 : Int) < 0))).bind fun x25 => (bif x25 then (some (IntKind.i64.wrap (0 - x22))).bind fun x27 => some x27 else some x22))
noncomputable def ref01_Neg_m (x0 : Zr) : Option (Zr) := match x0 with | ⟨x0_0, x0_1⟩ => (some (!x0_0)).bind fun x5 => (ref01_halves_m x0_1).bind fun x8 => (ref01_of_m x5 x8).bind fun ⟨x9_0, x9_1⟩ => some ⟨x9_0, x9_1⟩
noncomputable def ref01_Abs_m (x0 : Zr) : Option (Zr) := match x0 with | ⟨x0_0, x0_1⟩ => (ref01_halves_m x0_1).bind fun x5 => (ref01_of_m false x5).bind fun ⟨x6_0, x6_1⟩ => some ⟨x6_0, x6_1⟩
noncomputable def ref01_Div_m (x0 : Zr) (x1 : Zr) : Option (Zr × Zr × Int) := match x0 with | ⟨x0_0, x0_1⟩ => match x1 with | ⟨x1_0, x1_1⟩ => (ref01_halves_m x0_1).bind fun x13 => (ref01_halves_m x1_1).bind fun x16 => (some (x16.length : Int)).bind fun x18 => (some (decide ((x18 : Int) = 0))).bind fun x19 => (bif x19 then some (⟨false, []⟩, ⟨false, []⟩, 7) else (ref01_div_m x13 x16).bind fun ⟨x25a, x25b⟩ => letJ (fun (j3 : Bool × Bool) => match j3 with | ⟨y34j2, b2_0j2⟩ => letJ (fun (j5 : (List Int) × (List Int)) => match j5 with | ⟨y9j4, y10j4⟩ => (some (!(b2_0j2 == x1_0))).bind fun x45 => (ref01_of_m x45 y9j4).bind fun ⟨x47_0, x47_1⟩ => (ref01_of_m false y10j4).bind fun ⟨x49_0, x49_1⟩ => some (⟨x47_0, x47_1⟩, ⟨x49_0, x49_1⟩, 0)) fun K5 => (bif y34j2 then (ref01_add_m x25a [1]).bind fun x37 => (ref01_sub_m x16 x25b).bind fun x40 => K5 (x37, x40) else K5 (x25a, x25b))) fun K3 => (bif x0_0 then (some (x25b.length : Int)).bind fun x32 => (some (decide ((0 : Int) < x32))).bind fun x33 => some x33 else some false).bind fun c34_6 => K3 (c34_6, x0_0))
noncomputable def ref01_Gcd_m (x0 : Zr) (x1 : Zr) : Option (Zr) := match x0 with | ⟨x0_0, x0_1⟩ => match x1 with | ⟨x1_0, x1_1⟩ => (ref01_halves_m x0_1).bind fun x11 => (ref01_halves_m x1_1).bind fun x14 => (loopM (fun (s6 : (List Int) × (List Int)) => match s6 with | ⟨y5l3, y6l3⟩ => (show Option (((List Int) × (List Int)) ⊕ ((List Int))) from (some (y6l3.length : Int)).bind fun x16 => (some (decide ((0 : Int) < x16))).bind fun x17 => (bif x17 then (ref01_div_m y5l3 y6l3).bind fun ⟨x21a, x21b⟩ => some (.inl (y6l3, x21b)) else some (.inr y5l3)))) (x11, x14)).bind fun y5e5 => (ref01_of_m false y5e5).bind fun ⟨x27_0, x27_1⟩ => some ⟨x27_0, x27_1⟩
end Go.Proofs.YtfoldppidpmchaaGreat
namespace Go.Proofs.YtfoldppidpmchaaGreat
open Go.Fw Go.Fw.Z Go.RowKit
theorem ref01_trim_ok {x0 : List Int} {r : List Int} (h : ref01_trim_m x0 = some r) : Pure Tryz.prog 144 [slc 1 (List.map eI64 x0)] (slc 1 (List.map eI64 r)) := by
 refine pure_of_ok Tryz.func144 rfl (Nat.le_of_ble_eq_true rfl) (fun wld M vs hvs => ?_)
 unfold ref01_trim_m at h
 refine sr <| aI rfl (imp_nil (n := 1) (e := eI64)) <| dn <| sr <| mv rfl <| lE h fun x5 h5 h => ln rfl h5 <| ag rfl <| dn <| qq <| bE h fun e10 hl10 ho10 => ?_
 refine ok_tailP (fun (y3e9 : Int) => AS.mkL 21 [(0, .sv (slc 1 (List.map eI64 x0))), (3, .sv (.v (.int .i64 y3e9)))] [] []) (fun y3e9 => y3e9 = e10) ?_ (fun y3e9 hx10 => ?_)
 refine ok_block ?_
 refine ok_loopM hl10 (fun s10 => AS.mkL 21 [(0, .sv (slc 1 (List.map eI64 x0))), (3, .sv (.v (.int .i64 s10)))] [] []) (wR []) (fun y3l5 y10 G10 h hG10 hE10 => ?_)
 try dsimp only
 refine qq <| qq ?_
 refine ok_tailJ h (fun j13 => AS.mkL 21 [(0, .sv (slc 1 (List.map eI64 x0))), (3, .sv (.v (.int .i64 y3l5))), (15, .sv (.v (.bool j13)))] [] []) (fun h => ?_) (fun y15j12 h => ?_)
 refine ok_region <| mv rfl <| lE h fun x7 h7 h => gt _ rfl rfl h7 <| mv rfl <| bE h fun c15_14 hg14 h => ?_
 cases x7
 obtain rfl := O (F hg14)
 exact ww <| ww <| ww <| ww <| ww <| ww <| pF rfl <| dn <| ⟨false, h, wR []⟩
 refine gm rfl <| gm rfl <| lE (V hg14) fun x11 h11 hg14 => RT.sub (.some rfl rfl) _ rfl rfl T h11 <| bE hg14 fun x12 h12 hg14 => RT.ixM (.some rfl rfl) rfl rfl T h12 <| gr rfl rfl <| lE hg14 fun x14 h14 hg14 => ge_ _ rfl rfl (eqI (p := x12) (q := 0) h14) ?_
 obtain rfl := O hg14
 exact pT rfl <| dn <| ⟨x14, h, wR []⟩
 try dsimp only
 refine AThen.n ?_
 cases y15j12
 refine cF <| ok_exit <| AThen.x <| AThen.x <| AInB.x <| AThen.n ?_
 obtain rfl := O (F h)
 exact ⟨y3l5, hE10 _ rfl, wR []⟩
 refine cT <| ok_skip <| AThen.n <| ok_block <| ok_region <| mv rfl <| lE (V h) fun x17 h17 h => sb _ rfl rfl h17 <| ag rfl <| RT.done <| AInB.n ?_
 obtain rfl := O h
 exact AThen.n ⟨x17, hG10 _ rfl, wR []⟩
 subst hx10
 try dsimp only
 refine AThen.n <| sr <| mv rfl <| mv rfl <| bE ho10 fun x20 h20 ho10 => RT.sliceM .none 0 y3e9 rfl rfl ⟨_, rfl⟩ T h20 <| ag rfl <| dn <| ok_ret ?_
 obtain rfl := O ho10
 exact R1 rfl
theorem ref01_halves_ok {x0 : List Nat} {r : List Int} (h : ref01_halves_m x0 = some r) : Pure Tryz.prog 119 [slc 1 (List.map eU32 x0)] (slc 1 (List.map eI64 r)) := by
 refine pure_of_ok Tryz.func119 rfl (Nat.le_of_ble_eq_true rfl) (fun wld M vs hvs => ?_)
 unfold ref01_halves_m at h
 refine sr <| aI rfl (imp_nil (n := 1) (e := eI64)) <| dn <| sr <| ag rfl <| dn <| ok_weak (weak_nil 3 304 3 1 rfl rfl T) <| qq <| sr <| ag rfl <| dn <| bE h fun e6 hl6 ho6 => ?_
 refine ok_tailP (fun (r306e5 : (List Int)) => AS.mkL 28 [(3, .row 306)] [] [(306, TR 3 1 eI64 r306e5)]) (fun r306e5 => r306e5 = e6) ?_ (fun r306e5 hx6 => ?_)
 refine ok_block ?_
 refine ok_loopM hl6 (fun s6 => AS.mkL 28 [(0, .sv (slc 1 (List.map eU32 x0))), (3, .row 306), (4, .sv (.v (.int .i64 s6.1)))] [] [(306, TR 3 1 eI64 s6.2)]) (weakL (fun i => bif Nat.beq i 306 then 304 else i) rfl rfl rfl rfl rfl ⟨.sv (SV.imp_refl _), .row rfl, .sv (SV.imp_refl _), trivial⟩ trivial ⟨⟨_, rfl, SVIs.refl _⟩, trivial⟩ (fun i hi => by rw [beq_ne (show i ≠ 306 by omega)]; rfl)) (fun s6 y6 G6 h hG6 hE6 => ?_)
 obtain ⟨y4l3, r306l3⟩ := s6
 try dsimp only
 refine qq <| sr <| mv rfl <| mv rfl <| lE h fun x7 h7 h => ln rfl h7 <| lE h fun x8 h8 h => ls _ rfl rfl h8 <| dn ?_
 cases x8
 refine cF <| ok_exit <| AThen.x <| AThen.x <| AInB.x <| AThen.n ?_
 obtain rfl := O (F h)
 exact ⟨r306l3, hE6 _ rfl, wR []⟩
 refine cT <| ok_skip <| AThen.n <| qq <| ok_block <| ok_region_draw mixed <| mo (s := .row _) rfl <| mv rfl <| mv rfl <| bE (V h) fun x14 h14 h => ix rfl rfl h14 <| lr rfl rfl <| lE h fun x16 h16 h => RT.rem .none _ rfl rfl T (by decide) (remU' (a := x14) (b := 65536) h16) <| lE h fun x17 h17 h => cv _ rfl h17 <| mv rfl <| mv rfl <| bE h fun x20 h20 h => ix rfl rfl h20 <| lr rfl rfl <| lE h fun x22 h22 h => RT.quo .none _ rfl rfl T (by decide) (UK.quo' (a := x20) (b := 65536) h22) ?_
 refine lE h fun x23 h23 h => cv _ rfl h23 <| bl (l := [x17, x23]) (e := eI64) (.one rfl (.one rfl (.nil))) rfl rfl rfl rfl rfl rfl <| bE h fun x25 h25 h => aR (k := [x17, x23]) (e := eI64) rfl rfl rfl h25 <| an (s := .row _) rfl ?_
 refine RT.done ⟨by kernel_rfl, ?_⟩
 refine AInB.n <| AThen.n <| ok_region <| mv rfl <| lE h fun x10 h10 h => ad _ rfl rfl h10 <| ag rfl <| RT.done ?_
 obtain rfl := O h
 exact AThen.n ⟨(x10, x25), hG6 _ rfl, weakL (fun i => bif Nat.beq i 306 then 25 else i) rfl rfl rfl rfl rfl ⟨.sv (SV.imp_refl _), .row rfl, .sv (SV.imp_refl _), trivial⟩ trivial ⟨⟨_, rfl, SVIs.refl _⟩, trivial⟩ (fun i hi => by rw [beq_ne (show i ≠ 306 by omega)]; rfl)⟩
 subst hx6
 try dsimp only
 refine AThen.n <| qq <| ok_weak (weak_frzM (i := 306) (E1 := 3) (n := 1) (e := eI64) (l := r306e5) rfl) <| ok_region <| mv rfl <| bE ho6 fun x27 h27 ho6 => cl (ref01_trim_ok h27) ⟨rfl, trivial⟩ <| ag rfl <| dn <| ok_ret ?_
 obtain rfl := O ho6
 exact R1 rfl
theorem ref01_at_ok {x0 : List Int} {x1 : Int} {r : Int} (h : ref01_at_m x0 x1 = some r) : Pure Tryz.prog 145 [slc 1 (List.map eI64 x0), .v (.int .i64 x1)] (.v (.int .i64 r)) := by
 refine pure_of_ok Tryz.func145 rfl (Nat.le_of_ble_eq_true rfl) (fun wld M vs hvs => ?_)
 unfold ref01_at_m at h
 refine sr <| ag rfl <| dn <| qq <| sr <| mv rfl <| mv rfl <| lE h fun x7 h7 h => ln rfl h7 <| lE h fun x8 h8 h => ls _ rfl rfl h8 <| dn ?_
 cases x8
 refine fs <| sr <| ag rfl <| dn <| ok_ret ?_
 obtain rfl := O (F h)
 exact R1 rfl
 refine cT <| sr <| mv rfl <| mv rfl <| bE (V h) fun x11 h11 h => ix rfl rfl h11 <| lr rfl rfl <| ag rfl <| dn <| ok_ret <| AThen.r ?_
 obtain rfl := O h
 exact R1 rfl
theorem ref01_of_ok {x0 : Bool} {x1 : List Int} {r : Zr} (h : ref01_of_m x0 x1 = some r) : Pure Tryz.prog 118 [.v (.bool x0), slc 1 (List.map eI64 x1)] (.agg (eZ r)) := by
 refine pure_of_ok Tryz.func118 rfl (Nat.le_of_ble_eq_true rfl) (fun wld M vs hvs => ?_)
 unfold ref01_of_m at h
 refine sr <| al (cs := [.v (.bool false), slc 1 (List.map eU32 [])]) (by exact ⟨SV.imp_refl _, imp_nil, trivial⟩) rfl <| dn <| sr <| mv rfl <| bE h fun x8 h8 h => cl (ref01_trim_ok h8) ⟨rfl, trivial⟩ <| ag rfl <| dn <| sr <| ag rfl <| dn <| ok_weak (weak_nil 5 304 106 1 rfl rfl T) <| qq <| sr <| ag rfl <| dn <| bE h fun e6 hl6 ho6 => ?_
 refine ok_tailP (fun (r306e5 : (List Nat)) => AS.mkL 37 [(0, .sv (.v (.bool x0))), (4, .ptr 4 0), (5, .row 306)] [(4, ⟨34, [.sv (.v (.bool false)), .sv (slc 1 (List.map eU32 []))]⟩)] [(306, TR 106 1 eU32 r306e5)]) (fun r306e5 => r306e5 = e6) ?_ (fun r306e5 hx6 => ?_)
 refine ok_block ?_
 refine ok_loopM hl6 (fun s6 => AS.mkL 37 [(0, .sv (.v (.bool x0))), (1, .sv (slc 1 (List.map eI64 x8))), (4, .ptr 4 0), (5, .row 306), (6, .sv (.v (.int .i64 s6.1)))] [(4, ⟨34, [.sv (.v (.bool false)), .sv (slc 1 (List.map eU32 []))]⟩)] [(306, TR 106 1 eU32 s6.2)]) (weakL (fun i => bif Nat.beq i 306 then 304 else i) rfl rfl rfl rfl rfl ⟨.sv (SV.imp_refl _), .sv (SV.imp_refl _), .ptr, .row rfl, .sv (SV.imp_refl _), trivial⟩ ⟨⟨_, rfl, ⟨.sv (SV.imp_refl _), .sv (SV.imp_refl _), trivial⟩⟩, trivial⟩ ⟨⟨_, rfl, SVIs.refl _⟩, trivial⟩ (fun i hi => by rw [beq_ne (show i ≠ 306 by omega)]; rfl)) (fun s6 y6 G6 h hG6 hE6 => ?_)
 obtain ⟨y6l3, r306l3⟩ := s6
 try dsimp only
 refine qq <| sr <| mv rfl <| mv rfl <| lE h fun x11 h11 h => ln rfl h11 <| lE h fun x12 h12 h => ls _ rfl rfl h12 <| dn ?_
 cases x12
 refine cF <| ok_exit <| AThen.x <| AThen.x <| AInB.x <| AThen.n ?_
 obtain rfl := O (F h)
 exact ⟨r306l3, hE6 _ rfl, wR []⟩
 refine cT <| ok_skip <| AThen.n <| qq <| ok_block <| ok_region <| mo (s := .row _) rfl <| mv rfl <| mv rfl <| bE (V h) fun x18 h18 h => cl (ref01_at_ok h18) ⟨rfl, rfl, trivial⟩ <| lE h fun x19 h19 h => cv _ rfl (UK.conv h19) <| mv rfl <| mv rfl <| lE h fun x22 h22 h => ad _ rfl rfl h22 <| bE h fun x23 h23 h => cl (ref01_at_ok h23) ⟨rfl, rfl, trivial⟩ <| lE h fun x24 h24 h => cv _ rfl (UK.conv h24) <| lE h fun x25 h25 h => RT.mul .none _ rfl rfl T (UK.mul (a := x24) (b := 65536) h25) ?_
 refine lE h fun x26 h26 h => ad _ rfl rfl (UK.add (a := x19) (b := x25) h26) <| bl (l := [x26]) (e := eU32) (.one rfl (.nil)) rfl rfl rfl rfl rfl rfl <| bE h fun x28 h28 h => aR (k := [x26]) (e := eU32) rfl rfl rfl h28 <| an (s := .row _) rfl <| RT.done <| AInB.n <| AThen.n <| ok_region <| mv rfl <| lE h fun x14 h14 h => ad _ rfl rfl h14 <| ag rfl <| RT.done ?_
 obtain rfl := O h
 exact AThen.n ⟨(x14, x28), hG6 _ rfl, weakL (fun i => bif Nat.beq i 306 then 28 else i) rfl rfl rfl rfl rfl ⟨.sv (SV.imp_refl _), .sv (SV.imp_refl _), .ptr, .row rfl, .sv (SV.imp_refl _), trivial⟩ ⟨⟨_, rfl, ⟨.sv (SV.imp_refl _), .sv (SV.imp_refl _), trivial⟩⟩, trivial⟩ ⟨⟨_, rfl, SVIs.refl _⟩, trivial⟩ (fun i hi => by rw [beq_ne (show i ≠ 306 by omega)]; rfl)⟩
 subst hx6
 try dsimp only
 refine AThen.n <| qq ?_
 refine ok_tailJ ho6 (fun j9 => AS.mkL 37 [(4, .ptr 4 0)] [(4, ⟨34, [.sv (.v (.bool j9)), .sv (slc 1 (List.map eU32 r306e5))]⟩)] []) (fun ho6 => ?_) (fun b4_0j8 ho6 => ?_)
 refine ok_weak (weak_frzM (i := 306) (E1 := 106) (n := 1) (e := eU32) (l := r306e5) rfl) <| ok_region <| mv rfl <| mv rfl <| bE ho6 fun c34_10 hg10 ho6 => ?_
 cases x0
 obtain rfl := O (F hg10)
 exact ww <| ww <| ww <| pF rfl <| mv rfl <| bI (cs := [_, _]) (cs' := [.v (.bool false), slc 1 (List.map eU32 r306e5)]) (.one rfl (.one rfl (.nil))) ⟨SV.imp_refl _, SV.imp_refl _, trivial⟩ <| so rfl rfl rfl <| dn <| ⟨false, ho6, wR []⟩
 refine gm rfl <| lE (V hg10) fun x32 h32 hg10 => gn rfl h32 <| lE hg10 fun x33 h33 hg10 => gg _ rfl rfl h33 ?_
 obtain rfl := O hg10
 exact pT rfl <| mv rfl <| bI (cs := [_, _]) (cs' := [.v (.bool x33), slc 1 (List.map eU32 r306e5)]) (.one rfl (.one rfl (.nil))) ⟨SV.imp_refl _, SV.imp_refl _, trivial⟩ <| so rfl rfl rfl <| dn <| ⟨x33, ho6, wR []⟩
 try dsimp only
 refine AThen.n <| ok_ret ?_
 obtain rfl := O ho6
 exact RZ (.agg rfl rfl (.cons rfl (.cons rfl (.nil))) rfl (.nil))
theorem ref01_Least_ok {x0 : Zr} {r : Zr} (h : ref01_Least_m x0 = some r) : Pure Tryz.prog 89 [.agg (eZ x0)] (.agg (eZ r)) := by
 obtain ⟨x0_0, x0_1⟩ := x0
 refine pure_of_ok Tryz.func89 rfl (Nat.le_of_ble_eq_true rfl) (fun wld M vs hvs => ?_)
 unfold ref01_Least_m at h
 refine sr <| bx rfl <| al (cs := [.v (.bool false), slc 1 (List.map eU32 [])]) (by exact ⟨SV.imp_refl _, imp_nil, trivial⟩) rfl <| dn <| qq <| ok_region_draw mixed <| fa rfl rfl <| lV rfl rfl rfl <| fa rfl rfl <| lV rfl rfl rfl <| bE h fun x7 h7 h => cl (ref01_halves_ok h7) ⟨rfl, trivial⟩ ?_
 obtain ⟨⟨x8_0, x8_1⟩, h8, h⟩ := bS h
 refine cl (ref01_of_ok h8) ⟨rfl, rfl, trivial⟩ <| so rfl rfl rfl ?_
 refine RT.done ⟨by kernel_rfl, ?_⟩
 refine AThen.n <| ok_ret ?_
 obtain rfl := O h
 exact RZ (.agg rfl rfl (.cons rfl (.cons rfl (.nil))) rfl (.nil))
theorem ref01_From_ok {x0 : Int} {r : Zr} (h : ref01_From_m x0 = some r) : Pure Tryz.prog 49 [.v (.int .i64 x0)] (.agg (eZ r)) := by
 refine pure_of_ok Tryz.func49 rfl (Nat.le_of_ble_eq_true rfl) (fun wld M vs hvs => ?_)
 unfold ref01_From_m at h
 refine sr <| al (cs := [.v (.bool false), slc 1 (List.map eU32 [])]) (by exact ⟨SV.imp_refl _, imp_nil, trivial⟩) rfl <| dn <| sr <| mv rfl <| lE h fun x5 h5 h => cv _ rfl (UK.conv h5) <| ag rfl <| dn <| qq <| sr <| mv rfl <| lE h fun x7 h7 h => ls _ rfl rfl h7 <| dn ?_
 refine ok_tailJ h (fun j2 => AS.mkL 21 [(0, .sv (.v (.int .i64 x0))), (2, .ptr 2 0), (3, .sv (.v (.int .u64 ((j2 : Nat) : Int))))] [(2, ⟨34, [.sv (.v (.bool false)), .sv (slc 1 (List.map eU32 []))]⟩)] []) (fun h => ?_) (fun y3j1 h => ?_)
 cases x7
 exact fs <| ⟨x5, (F h), wR []⟩
 exact cT <| ok_region <| mv rfl <| lE (V h) fun x9 h9 h => RT.neg .none _ rfl T (UK.neg h9) <| ag rfl <| dn <| ⟨x9, h, wR []⟩
 try dsimp only
 refine AThen.n <| sr <| mv rfl <| lE h fun x11 h11 h => ls _ rfl rfl h11 <| mv rfl <| lE h fun x13 h13 h => RT.rem .none _ rfl rfl T (by decide) (remU' (a := y3j1) (b := 4294967296) h13) <| lE h fun x14 h14 h => cv _ rfl (UK.nat h14) <| mv rfl <| lE h fun x16 h16 h => RT.quo .none _ rfl rfl T (by decide) (UK.quo' (a := y3j1) (b := 4294967296) h16) <| lE h fun x17 h17 h => cv _ rfl (UK.nat h17) <| bl (l := [x14, x17]) (e := eU32) (.one rfl (.one rfl (.nil))) rfl rfl rfl rfl rfl rfl <| bI (cs := [_, _]) (cs' := [.v (.bool x11), slc 1 (List.map eU32 [x14, x17])]) (.one rfl (.one rfl (.nil))) ⟨SV.imp_refl _, SV.imp_refl _, trivial⟩ ?_
 obtain ⟨⟨x20_0, x20_1⟩, h20, h⟩ := bS h
 refine cl (ref01_Least_ok h20) ⟨rfl, trivial⟩ <| so rfl rfl rfl <| dn <| ok_ret ?_
 obtain rfl := O h
 exact RZ (.agg rfl rfl (.cons rfl (.cons rfl (.nil))) rfl (.nil))
end Go.Proofs.YtfoldppidpmchaaGreat
namespace Go.Proofs.YtfoldppidpmchaaGreat
open Go.Fw Go.Fw.Z Go.RowKit
theorem ref01_cmp_ok {x0 : List Int} {x1 : List Int} {r : Int} (h : ref01_cmp_m x0 x1 = some r) : Pure Tryz.prog 154 [slc 1 (List.map eI64 x0), slc 1 (List.map eI64 x1)] (.v (.int .i64 r)) := by
 refine pure_of_ok Tryz.func154 rfl (Nat.le_of_ble_eq_true rfl) (fun wld M vs hvs => ?_)
 unfold ref01_cmp_m at h
 refine sr <| ag rfl <| dn <| qq <| sr <| mv rfl <| lE h fun x7 h7 h => ln rfl h7 <| mv rfl <| lE h fun x9 h9 h => ln rfl h9 <| lE h fun x10 h10 h => RT.max .none _ rfl rfl T (maxI (p := x7) (q := x9) h10) <| lE h fun x11 h11 h => sb _ rfl rfl h11 <| ag rfl <| dn <| bE h fun e6 hl6 ho6 => ?_
 refine ok_tailP (fun (xe6 : Unit) => AS.mkL 30 [] [] []) (fun xe6 => .inl xe6 = e6) ?_ (fun xe6 hx6 => ?_)
 refine ok_block ?_
 refine ok_loopM hl6 (fun s6 => AS.mkL 30 [(0, .sv (slc 1 (List.map eI64 x0))), (1, .sv (slc 1 (List.map eI64 x1))), (5, .sv (.v (.int .i64 s6)))] [] []) (wR []) (fun y5l3 y6 G6 h hG6 hE6 => ?_)
 try dsimp only
 refine qq <| sr <| mv rfl <| lE h fun x13 h13 h => ge _ rfl rfl h13 <| dn ?_
 cases x13
 refine cF <| ok_exit <| AThen.x <| AThen.x <| AInB.x <| AThen.n ?_
 obtain rfl := O (F h)
 exact ⟨(), hE6 _ rfl, wR []⟩
 refine cT <| ok_skip <| AThen.n <| qq <| ok_block <| qq <| sr <| mv rfl <| mv rfl <| bE (V h) fun x18 h18 h => cl (ref01_at_ok h18) ⟨rfl, rfl, trivial⟩ <| mv rfl <| mv rfl <| bE h fun x21 h21 h => cl (ref01_at_ok h21) ⟨rfl, rfl, trivial⟩ <| lE h fun x22 h22 h => ls _ rfl rfl h22 <| dn ?_
 cases x22
 refine fs <| sr <| mv rfl <| mv rfl <| bE (F h) fun x25 h25 h => cl (ref01_at_ok h25) ⟨rfl, rfl, trivial⟩ <| mv rfl <| mv rfl <| bE h fun x28 h28 h => cl (ref01_at_ok h28) ⟨rfl, rfl, trivial⟩ <| lE h fun x29 h29 h => gt _ rfl rfl h29 <| dn ?_
 cases x29
 refine cF <| ok_skip <| AInB.n <| AThen.n <| ok_region <| mv rfl <| lE (F h) fun x15 h15 h => sb _ rfl rfl h15 <| ag rfl <| RT.done ?_
 obtain rfl := O h
 exact AThen.n ⟨x15, hG6 _ rfl, wR []⟩
 refine cT <| sr <| ag rfl <| dn <| ok_ret <| AInB.r <| AThen.r ?_
 obtain rfl := O (V h)
 have he6 := hE6 _ rfl
 subst he6
 refine AThen.r <| AInB.r <| AThen.r <| AThen.r ?_
 obtain rfl := O ho6
 exact R1 rfl
 refine cT <| sr <| ag rfl <| dn <| ok_ret <| AThen.r <| AInB.r <| AThen.r ?_
 obtain rfl := O (V h)
 have he6 := hE6 _ rfl
 subst he6
 refine AThen.r <| AInB.r <| AThen.r <| AThen.r ?_
 obtain rfl := O ho6
 exact R1 rfl
 subst hx6
 try dsimp only
 refine AThen.n <| sr <| ag rfl <| dn <| ok_ret ?_
 obtain rfl := O ho6
 exact R1 rfl
theorem ref01_add_ok {x0 : List Int} {x1 : List Int} {r : List Int} (h : ref01_add_m x0 x1 = some r) : Pure Tryz.prog 152 [slc 1 (List.map eI64 x0), slc 1 (List.map eI64 x1)] (slc 1 (List.map eI64 r)) := by
 refine pure_of_ok Tryz.func152 rfl (Nat.le_of_ble_eq_true rfl) (fun wld M vs hvs => ?_)
 unfold ref01_add_m at h
 refine sr <| aI rfl (imp_nil (n := 1) (e := eI64)) <| dn <| sr <| ag rfl <| dn <| ok_weak (weak_nil 5 304 3 1 rfl rfl T) <| sr <| ag rfl <| dn <| qq <| sr <| ag rfl <| dn <| bE h fun e16 hl16 ho16 => ?_
 refine ok_tailP (fun (r306e15 : (List Int)) => AS.mkL 43 [(5, .row 306)] [] [(306, TR 3 1 eI64 r306e15)]) (fun r306e15 => r306e15 = e16) ?_ (fun r306e15 hx16 => ?_)
 refine ok_block ?_
 refine ok_loopM hl16 (fun s16 => AS.mkL 43 [(0, .sv (slc 1 (List.map eI64 x0))), (1, .sv (slc 1 (List.map eI64 x1))), (5, .row 306), (6, .sv (.v (.int .i64 s16.1))), (7, .sv (.v (.int .i64 s16.2.1)))] [] [(306, TR 3 1 eI64 s16.2.2)]) (weakL (fun i => bif Nat.beq i 306 then 304 else i) rfl rfl rfl rfl rfl ⟨.sv (SV.imp_refl _), .sv (SV.imp_refl _), .row rfl, .sv (SV.imp_refl _), .sv (SV.imp_refl _), trivial⟩ trivial ⟨⟨_, rfl, SVIs.refl _⟩, trivial⟩ (fun i hi => by rw [beq_ne (show i ≠ 306 by omega)]; rfl)) (fun s16 y16 G16 h hG16 hE16 => ?_)
 obtain ⟨y6l8, y7l8, r306l8⟩ := s16
 try dsimp only
 refine qq <| qq ?_
 refine ok_tailJ h (fun j22 => AS.mkL 43 [(0, .sv (slc 1 (List.map eI64 x0))), (1, .sv (slc 1 (List.map eI64 x1))), (5, .row 306), (6, .sv (.v (.int .i64 y6l8))), (7, .sv (.v (.int .i64 y7l8))), (22, .sv (.v (.bool j22)))] [] [(306, TR 3 1 eI64 r306l8)]) (fun h => ?_) (fun y22j21 h => ?_)
 refine ok_region <| mv rfl <| mv rfl <| lE h fun x11 h11 h => ln rfl h11 <| lE h fun x12 h12 h => ls _ rfl rfl h12 <| mv rfl <| bE h fun c18_23 hg23 h => ?_
 cases x12
 refine gm rfl <| gm rfl <| lE (F hg23) fun x16 h16 hg23 => gn rfl h16 <| lE hg23 fun x17 h17 hg23 => RT.lss (.some rfl rfl) _ rfl rfl T h17 ?_
 obtain rfl := O hg23
 refine pF rfl <| mv rfl <| bE h fun c22_24 hg24 h => ?_
 cases x17
 refine gm rfl <| lE (F hg24) fun x21 h21 hg24 => gg _ rfl rfl h21 ?_
 obtain rfl := O hg24
 exact pF rfl <| dn <| ⟨x21, h, wR []⟩
 obtain rfl := O (V hg24)
 exact ww <| ww <| pT rfl <| dn <| ⟨true, h, wR []⟩
 obtain rfl := O (V hg23)
 refine ww <| ww <| ww <| ww <| pT rfl <| mv rfl <| bE h fun c22_25 hg25 h => ?_
 obtain rfl := O (V hg25)
 exact ww <| ww <| pT rfl <| dn <| ⟨true, h, wR []⟩
 try dsimp only
 refine AThen.n ?_
 cases y22j21
 refine cF <| ok_exit <| AThen.x <| AThen.x <| AInB.x <| AThen.n ?_
 obtain rfl := O (F h)
 exact ⟨r306l8, hE16 _ rfl, wR []⟩
 refine cT <| ok_skip <| AThen.n <| qq <| ok_block <| sr <| mv rfl <| mv rfl <| bE (V h) fun x27 h27 h => cl (ref01_at_ok h27) ⟨rfl, rfl, trivial⟩ <| mv rfl <| mv rfl <| bE h fun x30 h30 h => cl (ref01_at_ok h30) ⟨rfl, rfl, trivial⟩ <| lE h fun x31 h31 h => ad _ rfl rfl h31 <| mv rfl <| lE h fun x33 h33 h => ad _ rfl rfl h33 <| ag rfl <| dn <| sr <| mo (s := .row _) rfl <| mv rfl <| lE h fun x36 h36 h => ?_
 refine RT.rem .none _ rfl rfl T (by decide) h36 <| bl (l := [x36]) (e := eI64) (.one rfl (.nil)) rfl rfl rfl rfl rfl rfl <| bE h fun x38 h38 h => aR (k := [x36]) (e := eI64) rfl rfl rfl h38 <| an (s := .row _) rfl <| dn <| ok_region <| mv rfl <| lE h fun x40 h40 h => RT.quo .none _ rfl rfl T (by decide) h40 <| ag rfl <| RT.done <| AInB.n <| AThen.n <| ok_region <| mv rfl <| lE h fun x24 h24 h => ad _ rfl rfl h24 <| ag rfl <| RT.done ?_
 obtain rfl := O h
 exact AThen.n ⟨(x40, x24, x38), hG16 _ rfl, weakL (fun i => bif Nat.beq i 306 then 38 else i) rfl rfl rfl rfl rfl ⟨.sv (SV.imp_refl _), .sv (SV.imp_refl _), .row rfl, .sv (SV.imp_refl _), .sv (SV.imp_refl _), trivial⟩ trivial ⟨⟨_, rfl, SVIs.refl _⟩, trivial⟩ (fun i hi => by rw [beq_ne (show i ≠ 306 by omega)]; rfl)⟩
 subst hx16
 try dsimp only
 refine AThen.n <| qq <| ok_weak (weak_frzM (i := 306) (E1 := 3) (n := 1) (e := eI64) (l := r306e15) rfl) <| ok_region <| mv rfl <| bE ho16 fun x42 h42 ho16 => cl (ref01_trim_ok h42) ⟨rfl, trivial⟩ <| ag rfl <| dn <| ok_ret ?_
 obtain rfl := O ho16
 exact R1 rfl
theorem ref01_sub_ok {x0 : List Int} {x1 : List Int} {r : List Int} (h : ref01_sub_m x0 x1 = some r) : Pure Tryz.prog 153 [slc 1 (List.map eI64 x0), slc 1 (List.map eI64 x1)] (slc 1 (List.map eI64 r)) := by
 refine pure_of_ok Tryz.func153 rfl (Nat.le_of_ble_eq_true rfl) (fun wld M vs hvs => ?_)
 unfold ref01_sub_m at h
 refine sr <| aI rfl (imp_nil (n := 1) (e := eI64)) <| dn <| sr <| ag rfl <| dn <| ok_weak (weak_nil 5 304 3 1 rfl rfl T) <| sr <| ag rfl <| dn <| qq <| sr <| ag rfl <| dn <| bE h fun e8 hl8 ho8 => ?_
 refine ok_tailP (fun (r306e7 : (List Int)) => AS.mkL 34 [(5, .row 306)] [] [(306, TR 3 1 eI64 r306e7)]) (fun r306e7 => r306e7 = e8) ?_ (fun r306e7 hx8 => ?_)
 refine ok_block ?_
 refine ok_loopM hl8 (fun s8 => AS.mkL 34 [(0, .sv (slc 1 (List.map eI64 x0))), (1, .sv (slc 1 (List.map eI64 x1))), (5, .row 306), (6, .sv (.v (.int .i64 s8.1))), (7, .sv (.v (.int .i64 s8.2.1)))] [] [(306, TR 3 1 eI64 s8.2.2)]) (weakL (fun i => bif Nat.beq i 306 then 304 else i) rfl rfl rfl rfl rfl ⟨.sv (SV.imp_refl _), .sv (SV.imp_refl _), .row rfl, .sv (SV.imp_refl _), .sv (SV.imp_refl _), trivial⟩ trivial ⟨⟨_, rfl, SVIs.refl _⟩, trivial⟩ (fun i hi => by rw [beq_ne (show i ≠ 306 by omega)]; rfl)) (fun s8 y8 G8 h hG8 hE8 => ?_)
 obtain ⟨y6l4, y7l4, r306l4⟩ := s8
 try dsimp only
 refine qq <| sr <| mv rfl <| mv rfl <| lE h fun x11 h11 h => ln rfl h11 <| lE h fun x12 h12 h => ls _ rfl rfl h12 <| dn ?_
 cases x12
 refine cF <| ok_exit <| AThen.x <| AThen.x <| AInB.x <| AThen.n ?_
 obtain rfl := O (F h)
 exact ⟨r306l4, hE8 _ rfl, wR []⟩
 refine cT <| ok_skip <| AThen.n <| qq <| ok_block <| sr <| mv rfl <| mv rfl <| bE (V h) fun x17 h17 h => cl (ref01_at_ok h17) ⟨rfl, rfl, trivial⟩ <| mv rfl <| mv rfl <| bE h fun x20 h20 h => cl (ref01_at_ok h20) ⟨rfl, rfl, trivial⟩ <| lE h fun x21 h21 h => sb _ rfl rfl h21 <| mv rfl <| lE h fun x23 h23 h => sb _ rfl rfl h23 <| ag rfl <| dn <| sr <| ag rfl <| dn <| qq <| sr <| mv rfl <| lE h fun x25 h25 h => ?_
 refine ls _ rfl rfl h25 <| dn ?_
 refine ok_tailJ h (fun j10 => AS.mkL 34 [(0, .sv (slc 1 (List.map eI64 x0))), (1, .sv (slc 1 (List.map eI64 x1))), (5, .row 306), (6, .sv (.v (.int .i64 j10.1))), (7, .sv (.v (.int .i64 y7l4))), (8, .sv (.v (.int .i64 j10.2)))] [] [(306, TR 3 1 eI64 r306l4)]) (fun h => ?_) (fun j10 h => ?_)
 cases x25
 exact fs <| ⟨(0, x23), (F h), wR []⟩
 exact cT <| sr <| mv rfl <| lE (V h) fun x27 h27 h => ad _ rfl rfl h27 <| ag rfl <| dn <| ok_region <| ag rfl <| dn <| ⟨(1, x27), h, wR []⟩
 obtain ⟨y6j9, y8j9⟩ := j10
 try dsimp only
 refine AThen.n <| ok_region <| mo (s := .row _) rfl <| mv rfl <| bl (l := [y8j9]) (e := eI64) (.one rfl (.nil)) rfl rfl rfl rfl rfl rfl <| bE h fun x31 h31 h => aR (k := [y8j9]) (e := eI64) rfl rfl rfl h31 <| an (s := .row _) rfl <| RT.done <| AInB.n <| AThen.n <| ok_region <| mv rfl <| lE h fun x14 h14 h => ad _ rfl rfl h14 <| ag rfl <| RT.done ?_
 obtain rfl := O h
 exact AThen.n ⟨(y6j9, x14, x31), hG8 _ rfl, weakL (fun i => bif Nat.beq i 306 then 31 else i) rfl rfl rfl rfl rfl ⟨.sv (SV.imp_refl _), .sv (SV.imp_refl _), .row rfl, .sv (SV.imp_refl _), .sv (SV.imp_refl _), trivial⟩ trivial ⟨⟨_, rfl, SVIs.refl _⟩, trivial⟩ (fun i hi => by rw [beq_ne (show i ≠ 306 by omega)]; rfl)⟩
 subst hx8
 try dsimp only
 refine AThen.n <| qq <| ok_weak (weak_frzM (i := 306) (E1 := 3) (n := 1) (e := eI64) (l := r306e7) rfl) <| ok_region <| mv rfl <| bE ho8 fun x33 h33 ho8 => cl (ref01_trim_ok h33) ⟨rfl, trivial⟩ <| ag rfl <| dn <| ok_ret ?_
 obtain rfl := O ho8
 exact R1 rfl
theorem ref01_small_ok {x0 : List Int} {r : Int} (h : ref01_small_m x0 = some r) : Pure Tryz.prog 162 [slc 1 (List.map eI64 x0)] (.v (.int .i64 r)) := by
 refine pure_of_ok Tryz.func162 rfl (Nat.le_of_ble_eq_true rfl) (fun wld M vs hvs => ?_)
 unfold ref01_small_m at h
 refine sr <| ag rfl <| dn <| sr <| ag rfl <| dn <| qq <| sr <| mv rfl <| lE h fun x6 h6 h => ln rfl h6 <| lE h fun x7 h7 h => sb _ rfl rfl h7 <| ag rfl <| dn <| bE h fun e6 hl6 ho6 => ?_
 refine ok_tailP (fun (y3e5 : Int) => AS.mkL 20 [(3, .sv (.v (.int .i64 y3e5)))] [] []) (fun y3e5 => y3e5 = e6) ?_ (fun y3e5 hx6 => ?_)
 refine ok_block ?_
 refine ok_loopM hl6 (fun s6 => AS.mkL 20 [(0, .sv (slc 1 (List.map eI64 x0))), (3, .sv (.v (.int .i64 s6.1))), (4, .sv (.v (.int .i64 s6.2)))] [] []) (wR []) (fun s6 y6 G6 h hG6 hE6 => ?_)
 obtain ⟨y3l3, y4l3⟩ := s6
 try dsimp only
 refine qq <| sr <| mv rfl <| lE h fun x9 h9 h => ge _ rfl rfl h9 <| dn ?_
 cases x9
 refine cF <| ok_exit <| AThen.x <| AThen.x <| AInB.x <| AThen.n ?_
 obtain rfl := O (F h)
 exact ⟨y3l3, hE6 _ rfl, wR []⟩
 refine cT <| ok_skip <| AThen.n <| qq <| ok_block <| ok_region <| mv rfl <| lE (V h) fun x13 h13 h => RT.mul .none _ rfl rfl T h13 <| mv rfl <| mv rfl <| bE h fun x16 h16 h => ix rfl rfl h16 <| lr rfl rfl <| lE h fun x18 h18 h => ad _ rfl rfl h18 <| ag rfl <| RT.done <| AInB.n <| AThen.n <| ok_region <| mv rfl <| lE h fun x11 h11 h => sb _ rfl rfl h11 <| ag rfl <| RT.done ?_
 obtain rfl := O h
 exact AThen.n ⟨(x18, x11), hG6 _ rfl, wR []⟩
 subst hx6
 try dsimp only
 refine AThen.n <| sr <| mv rfl <| ag rfl <| dn <| ok_ret ?_
 obtain rfl := O ho6
 exact R1 rfl
theorem ref01_back_ok {x0 : Int} {r : List Int} (h : ref01_back_m x0 = some r) : Pure Tryz.prog 161 [.v (.int .i64 x0)] (slc 1 (List.map eI64 r)) := by
 refine pure_of_ok Tryz.func161 rfl (Nat.le_of_ble_eq_true rfl) (fun wld M vs hvs => ?_)
 unfold ref01_back_m at h
 refine sr <| aI rfl (imp_nil (n := 1) (e := eI64)) <| dn <| sr <| mv rfl <| lE h fun x4 h4 h => RT.rem .none _ rfl rfl T (by decide) h4 <| mv rfl <| lE h fun x6 h6 h => RT.quo .none _ rfl rfl T (by decide) h6 <| lE h fun x7 h7 h => RT.rem .none _ rfl rfl T (by decide) h7 <| mv rfl <| lE h fun x9 h9 h => RT.quo .none _ rfl rfl T (by decide) h9 <| lE h fun x10 h10 h => RT.quo .none _ rfl rfl T (by decide) h10 <| bl (l := [x4, x7, x10]) (e := eI64) (.one rfl (.one rfl (.one rfl (.nil)))) rfl rfl rfl rfl rfl rfl ?_
 refine bE h fun x12 h12 h => cl (ref01_trim_ok h12) ⟨rfl, trivial⟩ <| ag rfl <| dn <| ok_ret ?_
 obtain rfl := O h
 exact R1 rfl
theorem ref01_times_ok {x0 : List Int} {x1 : Int} {r : List Int} (h : ref01_times_m x0 x1 = some r) : Pure Tryz.prog 163 [slc 1 (List.map eI64 x0), .v (.int .i64 x1)] (slc 1 (List.map eI64 r)) := by
 refine pure_of_ok Tryz.func163 rfl (Nat.le_of_ble_eq_true rfl) (fun wld M vs hvs => ?_)
 unfold ref01_times_m at h
 refine sr <| aI rfl (imp_nil (n := 1) (e := eI64)) <| dn <| sr <| ag rfl <| dn <| ok_weak (weak_nil 5 304 3 1 rfl rfl T) <| sr <| ag rfl <| dn <| qq <| sr <| ag rfl <| dn <| bE h fun e10 hl10 ho10 => ?_
 refine ok_tailP (fun (r306e9 : (List Int)) => AS.mkL 35 [(5, .row 306)] [] [(306, TR 3 1 eI64 r306e9)]) (fun r306e9 => r306e9 = e10) ?_ (fun r306e9 hx10 => ?_)
 refine ok_block ?_
 refine ok_loopM hl10 (fun s10 => AS.mkL 35 [(0, .sv (slc 1 (List.map eI64 x0))), (1, .sv (.v (.int .i64 x1))), (5, .row 306), (6, .sv (.v (.int .i64 s10.1))), (7, .sv (.v (.int .i64 s10.2.1)))] [] [(306, TR 3 1 eI64 s10.2.2)]) (weakL (fun i => bif Nat.beq i 306 then 304 else i) rfl rfl rfl rfl rfl ⟨.sv (SV.imp_refl _), .sv (SV.imp_refl _), .row rfl, .sv (SV.imp_refl _), .sv (SV.imp_refl _), trivial⟩ trivial ⟨⟨_, rfl, SVIs.refl _⟩, trivial⟩ (fun i hi => by rw [beq_ne (show i ≠ 306 by omega)]; rfl)) (fun s10 y10 G10 h hG10 hE10 => ?_)
 obtain ⟨y6l5, y7l5, r306l5⟩ := s10
 try dsimp only
 refine qq <| qq ?_
 refine ok_tailJ h (fun j13 => AS.mkL 35 [(0, .sv (slc 1 (List.map eI64 x0))), (1, .sv (.v (.int .i64 x1))), (5, .row 306), (6, .sv (.v (.int .i64 y6l5))), (7, .sv (.v (.int .i64 y7l5))), (16, .sv (.v (.bool j13)))] [] [(306, TR 3 1 eI64 r306l5)]) (fun h => ?_) (fun y16j12 h => ?_)
 refine ok_region <| mv rfl <| mv rfl <| lE h fun x11 h11 h => ln rfl h11 <| lE h fun x12 h12 h => ls _ rfl rfl h12 <| mv rfl <| bE h fun c16_14 hg14 h => ?_
 cases x12
 refine gm rfl <| lE (F hg14) fun x15 h15 hg14 => gg _ rfl rfl h15 ?_
 obtain rfl := O hg14
 exact pF rfl <| dn <| ⟨x15, h, wR []⟩
 obtain rfl := O (V hg14)
 exact ww <| ww <| pT rfl <| dn <| ⟨true, h, wR []⟩
 try dsimp only
 refine AThen.n ?_
 cases y16j12
 refine cF <| ok_exit <| AThen.x <| AThen.x <| AInB.x <| AThen.n ?_
 obtain rfl := O (F h)
 exact ⟨r306l5, hE10 _ rfl, wR []⟩
 refine cT <| ok_skip <| AThen.n <| qq <| ok_block <| sr <| mv rfl <| mv rfl <| bE (V h) fun x21 h21 h => cl (ref01_at_ok h21) ⟨rfl, rfl, trivial⟩ <| mv rfl <| lE h fun x23 h23 h => RT.mul .none _ rfl rfl T h23 <| mv rfl <| lE h fun x25 h25 h => ad _ rfl rfl h25 <| ag rfl <| dn <| sr <| mo (s := .row _) rfl <| mv rfl <| lE h fun x28 h28 h => RT.rem .none _ rfl rfl T (by decide) h28 <| bl (l := [x28]) (e := eI64) (.one rfl (.nil)) rfl rfl rfl rfl rfl rfl ?_
 refine bE h fun x30 h30 h => aR (k := [x28]) (e := eI64) rfl rfl rfl h30 <| an (s := .row _) rfl <| dn <| ok_region <| mv rfl <| lE h fun x32 h32 h => RT.quo .none _ rfl rfl T (by decide) h32 <| ag rfl <| RT.done <| AInB.n <| AThen.n <| ok_region <| mv rfl <| lE h fun x18 h18 h => ad _ rfl rfl h18 <| ag rfl <| RT.done ?_
 obtain rfl := O h
 exact AThen.n ⟨(x32, x18, x30), hG10 _ rfl, weakL (fun i => bif Nat.beq i 306 then 30 else i) rfl rfl rfl rfl rfl ⟨.sv (SV.imp_refl _), .sv (SV.imp_refl _), .row rfl, .sv (SV.imp_refl _), .sv (SV.imp_refl _), trivial⟩ trivial ⟨⟨_, rfl, SVIs.refl _⟩, trivial⟩ (fun i hi => by rw [beq_ne (show i ≠ 306 by omega)]; rfl)⟩
 subst hx10
 try dsimp only
 refine AThen.n <| qq <| ok_weak (weak_frzM (i := 306) (E1 := 3) (n := 1) (e := eI64) (l := r306e9) rfl) <| ok_region <| mv rfl <| bE ho10 fun x34 h34 ho10 => cl (ref01_trim_ok h34) ⟨rfl, trivial⟩ <| ag rfl <| dn <| ok_ret ?_
 obtain rfl := O ho10
 exact R1 rfl
set_option maxHeartbeats 4000000 in
theorem ref01_div_ok {x0 : List Int} {x1 : List Int} {r : (List Int) × (List Int)} (h : ref01_div_m x0 x1 = some r) : Pure Tryz.prog 151 [slc 1 (List.map eI64 x0), slc 1 (List.map eI64 x1)] (.tup [slc 1 (List.map eI64 r.1), slc 1 (List.map eI64 r.2)]) := by
 refine pure_of_ok Tryz.func151 rfl (Nat.le_of_ble_eq_true rfl) (fun wld M vs hvs => ?_)
 unfold ref01_div_m at h
 refine sr <| aI rfl (imp_nil (n := 1) (e := eI64)) <| aI rfl (imp_nil (n := 1) (e := eI64)) <| dn <| qq <| qq ?_
 refine ok_tailJ h (fun j3 => AS.mkL 120 [(0, .sv (slc 1 (List.map eI64 x0))), (1, .sv (slc 1 (List.map eI64 x1))), (21, .sv (.v (.bool j3)))] [] []) (fun h => ?_) (fun y21j2 h => ?_)
 refine ok_region <| mv rfl <| lE h fun x15 h15 h => ln rfl h15 <| lE h fun x16 h16 h => RT.leq .none _ rfl rfl T h16 <| mv rfl <| bE h fun c21_59 hg59 h => ?_
 cases x16
 obtain rfl := O (F hg59)
 exact ww <| ww <| ww <| pF rfl <| dn <| ⟨false, h, wR []⟩
 refine gm rfl <| lE (V hg59) fun x19 h19 hg59 => gn rfl h19 <| lE hg59 fun x20 h20 hg59 => RT.leq (.some rfl rfl) _ rfl rfl T h20 ?_
 obtain rfl := O hg59
 exact pT rfl <| dn <| ⟨x20, h, wR []⟩
 try dsimp only
 refine AThen.n ?_
 cases y21j2
 refine fs <| sr <| mv rfl <| lE (F h) fun x35 h35 h => ln rfl h35 <| bE h fun x36 h36 h => RT.mkRow (n := 1) (e := eI64) .none rfl rfl T rfl T (by rfl) (by decide) (by exact ⟨SV.imp_refl _, trivial⟩) h36 <| an (s := .row _) rfl <| dn <| qq <| sr <| mv rfl <| lE h fun x38 h38 h => ln rfl h38 <| lE h fun x39 h39 h => eq _ rfl rfl (eqI (p := x38) (q := 1) h39) <| dn ?_
 cases x39
 refine fs <| sr <| aI rfl (imp_nil (n := 1) (e := eI64)) <| dn <| qq <| sr <| mv rfl <| lE (F h) fun x73 h73 h => ln rfl h73 <| lE h fun x74 h74 h => sb _ rfl rfl h74 <| ag rfl <| dn <| bE h fun e44 hl44 ho44 => ?_
 refine ok_tailP (fun (xe44 : (List Int) × (List Int)) => AS.mkL 120 [(6, .row 36), (9, .sv (slc 1 (List.map eI64 xe44.1)))] [] [(36, TR 3 1 eI64 xe44.2)]) (fun xe44 => xe44 = e44) ?_ (fun xe44 hx44 => ?_)
 refine ok_block ?_
 refine ok_loopM hl44 (fun s44 => AS.mkL 120 [(0, .sv (slc 1 (List.map eI64 x0))), (1, .sv (slc 1 (List.map eI64 x1))), (6, .row 36), (9, .sv (slc 1 (List.map eI64 s44.1))), (10, .sv (.v (.int .i64 s44.2.1)))] [] [(36, TR 3 1 eI64 s44.2.2)]) (wR []) (fun s44 y44 G44 h hG44 hE44 => ?_)
 obtain ⟨y9l32, y10l32, r36l32⟩ := s44
 try dsimp only
 refine qq <| sr <| mv rfl <| lE h fun x76 h76 h => ge _ rfl rfl h76 <| dn ?_
 cases x76
 refine cF <| ok_exit <| AThen.x <| AThen.x <| AInB.x <| AThen.n ?_
 obtain rfl := O (F h)
 exact ⟨(y9l32, r36l32), hE44 _ rfl, wR []⟩
 refine cT <| ok_skip <| AThen.n <| qq <| ok_block <| sr <| mv rfl <| mv rfl <| bE (V h) fun x81 h81 h => ix rfl rfl h81 <| lr rfl rfl <| RT.buildRw (l := [x81]) (e := eI64) .none (.one rfl (.nil)) T rfl T rfl rfl rfl rfl rfl rfl <| mv rfl <| bE h fun x85 h85 h => RT.apIR (k := y9l32) (e := eI64) .none rfl rfl rfl T rfl T h85 <| bE h fun x86 h86 h => cl (ref01_trim_ok h86) ⟨rfl, trivial⟩ <| ag rfl <| dn <| sr <| ag rfl <| ag rfl ?_
 refine dn <| qq <| sr <| mv rfl <| lE h fun x88 h88 h => ln rfl h88 <| mv rfl <| lE h fun x90 h90 h => ln rfl h90 <| lE h fun x91 h91 h => ls _ rfl rfl h91 <| dn ?_
 refine ok_tailJ h (fun j46 => AS.mkL 120 [(0, .sv (slc 1 (List.map eI64 x0))), (1, .sv (slc 1 (List.map eI64 x1))), (6, .row 36), (9, .sv (slc 1 (List.map eI64 x86))), (10, .sv (.v (.int .i64 y10l32))), (11, .sv (.v (.int .i64 0))), (12, .sv (.v (.int .i64 j46)))] [] [(36, TR 3 1 eI64 r36l32)]) (fun h => ?_) (fun y12j45 h => ?_)
 cases x91
 exact fs <| ⟨65536, (F h), wR []⟩
 exact cT <| ok_region <| ag rfl <| dn <| ⟨1, (V h), wR []⟩
 try dsimp only
 refine AThen.n <| qq <| bE h fun e54 hl54 ho54 => ?_
 refine ok_tailP (fun (y11e53 : Int) => AS.mkL 120 [(0, .sv (slc 1 (List.map eI64 x0))), (1, .sv (slc 1 (List.map eI64 x1))), (6, .row 36), (9, .sv (slc 1 (List.map eI64 x86))), (10, .sv (.v (.int .i64 y10l32))), (11, .sv (.v (.int .i64 y11e53)))] [] [(36, TR 3 1 eI64 r36l32)]) (fun y11e53 => y11e53 = e54) ?_ (fun y11e53 hx54 => ?_)
 refine ok_block ?_
 refine ok_loopM hl54 (fun s54 => AS.mkL 120 [(0, .sv (slc 1 (List.map eI64 x0))), (1, .sv (slc 1 (List.map eI64 x1))), (6, .row 36), (9, .sv (slc 1 (List.map eI64 x86))), (10, .sv (.v (.int .i64 y10l32))), (11, .sv (.v (.int .i64 s54.1))), (12, .sv (.v (.int .i64 s54.2)))] [] [(36, TR 3 1 eI64 r36l32)]) (wR []) (fun s54 y54 G54 h hG54 hE54 => ?_)
 obtain ⟨y11l50, y12l50⟩ := s54
 try dsimp only
 refine qq <| sr <| mv rfl <| mv rfl <| lE h fun x94 h94 h => sb _ rfl rfl h94 <| lE h fun x95 h95 h => gt _ rfl rfl h95 <| dn ?_
 cases x95
 refine cF <| ok_exit <| AThen.x <| AThen.x <| AInB.x <| AThen.n ?_
 obtain rfl := O (F h)
 exact ⟨y11l50, hE54 _ rfl, wR []⟩
 refine cT <| ok_skip <| AThen.n <| ok_block <| sr <| mv rfl <| mv rfl <| lE (V h) fun x98 h98 h => ad _ rfl rfl h98 <| lE h fun x99 h99 h => RT.quo .none _ rfl rfl T (by decide) h99 <| ag rfl <| dn <| sr <| mv rfl <| mv rfl <| bE h fun x102 h102 h => cl (ref01_times_ok h102) ⟨rfl, rfl, trivial⟩ <| mv rfl <| bE h fun x104 h104 h => cl (ref01_cmp_ok h104) ⟨rfl, rfl, trivial⟩ <| lE h fun x105 h105 h => RT.leq .none _ rfl rfl T h105 <| dn ?_
 refine ok_tailJ h (fun j56 => AS.mkL 120 [(0, .sv (slc 1 (List.map eI64 x0))), (1, .sv (slc 1 (List.map eI64 x1))), (6, .row 36), (9, .sv (slc 1 (List.map eI64 x86))), (10, .sv (.v (.int .i64 y10l32))), (11, .sv (.v (.int .i64 j56.1))), (12, .sv (.v (.int .i64 j56.2)))] [] [(36, TR 3 1 eI64 r36l32)]) (fun h => ?_) (fun j56 h => ?_)
 cases x105
 exact cF <| ok_region <| mv rfl <| ag rfl <| dn <| ⟨(y11l50, x99), (F h), wR []⟩
 exact cT <| ok_region <| mv rfl <| ag rfl <| dn <| ⟨(x99, y12l50), (V h), wR []⟩
 obtain ⟨y11j55, y12j55⟩ := j56
 try dsimp only
 refine AInB.n ?_
 obtain rfl := O h
 exact AThen.n ⟨(y11j55, y12j55), hG54 _ rfl, wR []⟩
 subst hx54
 try dsimp only
 refine AThen.n <| ok_region <| mo (s := .row _) rfl <| mv rfl <| mv rfl <| mv rfl <| mv rfl <| mv rfl <| bE ho54 fun x114 h114 ho54 => cl (ref01_times_ok h114) ⟨rfl, rfl, trivial⟩ <| bE ho54 fun x115 h115 ho54 => cl (ref01_sub_ok h115) ⟨rfl, rfl, trivial⟩ <| bE ho54 fun x116 h116 ho54 => iR rfl rfl rfl h116 <| bE ho54 fun l58 hl58_ ho54 => sR y11e53 rfl rfl rfl rfl hl58_ <| ag rfl <| RT.done <| AInB.n <| AThen.n <| ok_region <| mv rfl <| lE ho54 fun x78 h78 ho54 => ?_
 refine sb _ rfl rfl h78 <| ag rfl <| RT.done ?_
 obtain rfl := O ho54
 exact AThen.n ⟨(x115, x78, l58), hG44 _ rfl, wR []⟩
 subst hx44
 obtain ⟨y9e43, r36e43⟩ := xe44
 try dsimp only
 refine AThen.n <| qq <| ok_weak (weak_frzM (i := 36) (E1 := 3) (n := 1) (e := eI64) (l := r36e43) rfl) <| ok_region <| mv rfl <| bE ho44 fun x118 h118 ho44 => cl (ref01_trim_ok h118) ⟨rfl, trivial⟩ <| mv rfl <| ag rfl <| ag rfl <| dn <| ok_ret ?_
 obtain rfl := O ho44
 exact R2 rfl rfl
 refine cT <| sr <| ag rfl <| dn <| qq <| sr <| mv rfl <| lE (V h) fun x41 h41 h => ln rfl h41 <| lE h fun x42 h42 h => sb _ rfl rfl h42 <| ag rfl <| dn <| bE h fun e18 hl18 ho18 => ?_
 refine ok_tailP (fun (xe18 : Int × (List Int)) => AS.mkL 120 [(6, .row 36), (7, .sv (.v (.int .i64 xe18.1)))] [] [(36, TR 3 1 eI64 xe18.2)]) (fun xe18 => xe18 = e18) ?_ (fun xe18 hx18 => ?_)
 refine ok_block ?_
 refine ok_loopM hl18 (fun s18 => AS.mkL 120 [(0, .sv (slc 1 (List.map eI64 x0))), (1, .sv (slc 1 (List.map eI64 x1))), (6, .row 36), (7, .sv (.v (.int .i64 s18.1))), (8, .sv (.v (.int .i64 s18.2.1)))] [] [(36, TR 3 1 eI64 s18.2.2)]) (wR []) (fun s18 y18 G18 h hG18 hE18 => ?_)
 obtain ⟨y7l14, y8l14, r36l14⟩ := s18
 try dsimp only
 refine qq <| sr <| mv rfl <| lE h fun x44 h44 h => ge _ rfl rfl h44 <| dn ?_
 cases x44
 refine cF <| ok_exit <| AThen.x <| AThen.x <| AInB.x <| AThen.n ?_
 obtain rfl := O (F h)
 exact ⟨(y7l14, r36l14), hE18 _ rfl, wR []⟩
 refine cT <| ok_skip <| AThen.n <| qq <| ok_block <| sr <| mv rfl <| lE (V h) fun x48 h48 h => RT.mul .none _ rfl rfl T h48 <| mv rfl <| mv rfl <| bE h fun x51 h51 h => ix rfl rfl h51 <| lr rfl rfl <| lE h fun x53 h53 h => ad _ rfl rfl h53 <| ag rfl <| dn <| ok_region_draw mixed <| mo (s := .row _) rfl <| mv rfl <| mv rfl <| mv rfl <| bE h fun x58 h58 h => ix rfl rfl h58 <| lr rfl rfl <| bE h fun x60 h60 h => ?_
 refine RT.quo .none _ rfl rfl T (nzI h60) (quoI h60) <| mv rfl <| mv rfl <| bE h fun x63 h63 h => ix rfl rfl h63 <| lr rfl rfl <| bE h fun x65 h65 h => RT.rem .none _ rfl rfl T (nzRI h65) (remI h65) <| bE h fun x66 h66 h => iR rfl rfl rfl h66 <| bE h fun l20 hl20_ h => sR x60 rfl rfl rfl rfl hl20_ <| ag rfl ?_
 refine RT.done ⟨by kernel_rfl, ?_⟩
 refine AInB.n <| AThen.n <| ok_region <| mv rfl <| lE h fun x46 h46 h => sb _ rfl rfl h46 <| ag rfl <| RT.done ?_
 obtain rfl := O h
 exact AThen.n ⟨(x65, x46, l20), hG18 _ rfl, wR []⟩
 subst hx18
 obtain ⟨y7e17, r36e17⟩ := xe18
 try dsimp only
 refine AThen.n <| qq <| ok_weak (weak_frzM (i := 36) (E1 := 3) (n := 1) (e := eI64) (l := r36e17) rfl) <| ok_region <| mv rfl <| bE ho18 fun x68 h68 ho18 => cl (ref01_trim_ok h68) ⟨rfl, trivial⟩ <| mv rfl <| bl (l := [y7e17]) (e := eI64) (.one rfl (.nil)) rfl rfl rfl rfl rfl rfl <| bE ho18 fun x71 h71 ho18 => cl (ref01_trim_ok h71) ⟨rfl, trivial⟩ <| ag rfl <| ag rfl <| dn <| ok_ret <| AThen.r ?_
 obtain rfl := O ho18
 exact R2 rfl rfl
 refine cT <| sr <| mv rfl <| bE (V h) fun x23 h23 h => cl (ref01_small_ok h23) ⟨rfl, trivial⟩ <| mv rfl <| bE h fun x25 h25 h => cl (ref01_small_ok h25) ⟨rfl, trivial⟩ <| bE h fun x26 h26 h => RT.quo .none _ rfl rfl T (nzI h26) (quoI h26) <| bE h fun x27 h27 h => cl (ref01_back_ok h27) ⟨rfl, trivial⟩ <| mv rfl <| bE h fun x29 h29 h => cl (ref01_small_ok h29) ⟨rfl, trivial⟩ <| mv rfl <| bE h fun x31 h31 h => cl (ref01_small_ok h31) ⟨rfl, trivial⟩ ?_
 refine bE h fun x32 h32 h => RT.rem .none _ rfl rfl T (nzRI h32) (remI h32) <| bE h fun x33 h33 h => cl (ref01_back_ok h33) ⟨rfl, trivial⟩ <| ag rfl <| ag rfl <| dn <| ok_ret <| AThen.r ?_
 obtain rfl := O h
 exact R2 rfl rfl
end Go.Proofs.YtfoldppidpmchaaGreat
namespace Go.Proofs.YtfoldppidpmchaaGreat
open Go.Fw Go.Fw.Z Go.RowKit
theorem ref01_Sign_ok {x0 : Zr} {r : Int} (h : ref01_Sign_m x0 = some r) : Pure Tryz.prog 138 [.agg (eZ x0)] (.v (.int .i64 r)) := by
 obtain ⟨x0_0, x0_1⟩ := x0
 refine pure_of_ok Tryz.func138 rfl (Nat.le_of_ble_eq_true rfl) (fun wld M vs hvs => ?_)
 unfold ref01_Sign_m at h
 refine sr <| bx rfl <| ag rfl <| dn <| qq <| sr <| fa rfl rfl <| lV rfl rfl rfl <| bE h fun x5 h5 h => cl (ref01_halves_ok h5) ⟨rfl, trivial⟩ <| lE h fun x6 h6 h => ln rfl h6 <| lE h fun x7 h7 h => eq _ rfl rfl (eqI (p := x6) (q := 0) h7) <| dn ?_
 cases x7
 refine fs <| qq <| sr <| fa rfl rfl <| lV rfl rfl rfl <| dn ?_
 replace h := F h
 cases x0_0
 refine fs <| sr <| ag rfl <| dn <| ok_ret ?_
 obtain rfl := O (F h)
 exact R1 rfl
 refine cT <| sr <| ag rfl <| dn <| ok_ret <| AThen.r ?_
 obtain rfl := O (V h)
 exact R1 rfl
 refine cT <| sr <| ag rfl <| dn <| ok_ret <| AThen.r ?_
 obtain rfl := O (V h)
 exact R1 rfl
theorem ref01_Cmp_ok {x0 : Zr} {x1 : Zr} {r : Int} (h : ref01_Cmp_m x0 x1 = some r) : Pure Tryz.prog 136 [.agg (eZ x0), .agg (eZ x1)] (.v (.int .i64 r)) := by
 obtain ⟨x0_0, x0_1⟩ := x0
 obtain ⟨x1_0, x1_1⟩ := x1
 refine pure_of_ok Tryz.func136 rfl (Nat.le_of_ble_eq_true rfl) (fun wld M vs hvs => ?_)
 unfold ref01_Cmp_m at h
 refine sr <| bx rfl <| bx rfl <| ag rfl <| dn <| qq <| qq <| ok_region_draw mixed <| ld rfl rfl (.cons rfl (.cons rfl (.nil))) <| bE h fun x7 h7 h => cl (ref01_Sign_ok h7) ⟨rfl, trivial⟩ <| ld rfl rfl (.cons rfl (.cons rfl (.nil))) <| bE h fun x9 h9 h => cl (ref01_Sign_ok h9) ⟨rfl, trivial⟩ <| lE h fun x10 h10 h => ne _ rfl rfl (neI (p := x7) (q := x9) h10) ?_
 refine RT.done ⟨by kernel_rfl, ?_⟩
 refine AThen.n ?_
 cases x10
 refine fs <| qq <| ok_region_draw mixed <| fa rfl rfl <| lV rfl rfl rfl <| bE (F h) fun x18 h18 h => cl (ref01_halves_ok h18) ⟨rfl, trivial⟩ <| fa rfl rfl <| lV rfl rfl rfl <| bE h fun x21 h21 h => cl (ref01_halves_ok h21) ⟨rfl, trivial⟩ <| bE h fun x22 h22 h => cl (ref01_cmp_ok h22) ⟨rfl, rfl, trivial⟩ <| ag rfl ?_
 refine RT.done ⟨by kernel_rfl, ?_⟩
 refine AThen.n <| qq <| sr <| ld rfl rfl (.cons rfl (.cons rfl (.nil))) <| bE h fun x24 h24 h => cl (ref01_Sign_ok h24) ⟨rfl, trivial⟩ <| lE h fun x25 h25 h => ls _ rfl rfl h25 <| dn ?_
 cases x25
 refine fs <| sr <| mv rfl <| ag rfl <| dn <| ok_ret ?_
 obtain rfl := O (F h)
 exact R1 rfl
 refine cT <| sr <| mv rfl <| lE (V h) fun x27 h27 h => RT.neg .none _ rfl T h27 <| ag rfl <| dn <| ok_ret <| AThen.r ?_
 obtain rfl := O h
 exact R1 rfl
 refine cT <| qq <| qq <| ok_region_draw mixed <| ld rfl rfl (.cons rfl (.cons rfl (.nil))) <| bE (V h) fun x12 h12 h => cl (ref01_Sign_ok h12) ⟨rfl, trivial⟩ <| ld rfl rfl (.cons rfl (.cons rfl (.nil))) <| bE h fun x14 h14 h => cl (ref01_Sign_ok h14) ⟨rfl, trivial⟩ <| lE h fun x15 h15 h => ls _ rfl rfl h15 ?_
 refine RT.done ⟨by kernel_rfl, ?_⟩
 refine AThen.n ?_
 cases x15
 refine fs <| sr <| ag rfl <| dn <| ok_ret <| AThen.r ?_
 obtain rfl := O (F h)
 exact R1 rfl
 refine cT <| sr <| ag rfl <| dn <| ok_ret <| AThen.r <| AThen.r ?_
 obtain rfl := O (V h)
 exact R1 rfl
theorem ref01_Neg_ok {x0 : Zr} {r : Zr} (h : ref01_Neg_m x0 = some r) : Pure Tryz.prog 107 [.agg (eZ x0)] (.agg (eZ r)) := by
 obtain ⟨x0_0, x0_1⟩ := x0
 refine pure_of_ok Tryz.func107 rfl (Nat.le_of_ble_eq_true rfl) (fun wld M vs hvs => ?_)
 unfold ref01_Neg_m at h
 refine sr <| bx rfl <| al (cs := [.v (.bool false), slc 1 (List.map eU32 [])]) (by exact ⟨SV.imp_refl _, imp_nil, trivial⟩) rfl <| dn <| qq <| ok_region_draw mixed <| fa rfl rfl <| lV rfl rfl rfl <| lE h fun x5 h5 h => nt rfl _ h5 <| fa rfl rfl <| lV rfl rfl rfl <| bE h fun x8 h8 h => cl (ref01_halves_ok h8) ⟨rfl, trivial⟩ ?_
 obtain ⟨⟨x9_0, x9_1⟩, h9, h⟩ := bS h
 refine cl (ref01_of_ok h9) ⟨rfl, rfl, trivial⟩ <| so rfl rfl rfl ?_
 refine RT.done ⟨by kernel_rfl, ?_⟩
 refine AThen.n <| ok_ret ?_
 obtain rfl := O h
 exact RZ (.agg rfl rfl (.cons rfl (.cons rfl (.nil))) rfl (.nil))
theorem ref01_Abs_ok {x0 : Zr} {r : Zr} (h : ref01_Abs_m x0 = some r) : Pure Tryz.prog 139 [.agg (eZ x0)] (.agg (eZ r)) := by
 obtain ⟨x0_0, x0_1⟩ := x0
 refine pure_of_ok Tryz.func139 rfl (Nat.le_of_ble_eq_true rfl) (fun wld M vs hvs => ?_)
 unfold ref01_Abs_m at h
 refine sr <| bx rfl <| al (cs := [.v (.bool false), slc 1 (List.map eU32 [])]) (by exact ⟨SV.imp_refl _, imp_nil, trivial⟩) rfl <| dn <| sr <| fa rfl rfl <| lV rfl rfl rfl <| bE h fun x5 h5 h => cl (ref01_halves_ok h5) ⟨rfl, trivial⟩ ?_
 obtain ⟨⟨x6_0, x6_1⟩, h6, h⟩ := bS h
 refine cl (ref01_of_ok h6) ⟨rfl, rfl, trivial⟩ <| so rfl rfl rfl <| dn <| ok_ret ?_
 obtain rfl := O h
 exact RZ (.agg rfl rfl (.cons rfl (.cons rfl (.nil))) rfl (.nil))
theorem ref01_Div_ok {x0 : Zr} {x1 : Zr} {r : Zr × Zr × Int} (h : ref01_Div_m x0 x1 = some r) : Pure Tryz.prog 135 [.agg (eZ x0), .agg (eZ x1)] (.tup [.agg (eZ r.1), .agg (eZ r.2.1), .v (.int .i64 r.2.2)]) := by
 obtain ⟨x0_0, x0_1⟩ := x0
 obtain ⟨x1_0, x1_1⟩ := x1
 refine pure_of_ok Tryz.func135 rfl (Nat.le_of_ble_eq_true rfl) (fun wld M vs hvs => ?_)
 unfold ref01_Div_m at h
 refine sr <| bx rfl <| bx rfl <| al (cs := [.v (.bool false), slc 1 (List.map eU32 [])]) (by exact ⟨SV.imp_refl _, imp_nil, trivial⟩) rfl <| al (cs := [.v (.bool false), slc 1 (List.map eU32 [])]) (by exact ⟨SV.imp_refl _, imp_nil, trivial⟩) rfl <| ag rfl <| dn <| qq <| ok_region_draw mixed <| fa rfl rfl <| lV rfl rfl rfl <| bE h fun x13 h13 h => cl (ref01_halves_ok h13) ⟨rfl, trivial⟩ <| fa rfl rfl ?_
 refine lV rfl rfl rfl <| bE h fun x16 h16 h => cl (ref01_halves_ok h16) ⟨rfl, trivial⟩ <| ag rfl <| ag rfl ?_
 refine RT.done ⟨by kernel_rfl, ?_⟩
 refine AThen.n <| qq <| sr <| mv rfl <| lE h fun x18 h18 h => ln rfl h18 <| lE h fun x19 h19 h => eq _ rfl rfl (eqI (p := x18) (q := 0) h19) <| dn ?_
 cases x19
 refine fs <| sr <| mv rfl <| mv rfl ?_
 obtain ⟨⟨x25a, x25b⟩, h25, h⟩ := bS (F h)
 refine cl (ref01_div_ok h25) ⟨rfl, rfl, trivial⟩ <| mv rfl <| ex rfl rfl <| ex rfl rfl <| ag rfl <| ag rfl <| dn <| qq <| qq ?_
 refine ok_tailJ h (fun j3 => AS.mkL 50 [(2, .ptr 2 0), (3, .ptr 3 0), (4, .ptr 4 0), (5, .ptr 5 0), (8, .sv (slc 1 (List.map eI64 x16))), (9, .sv (slc 1 (List.map eI64 x25a))), (10, .sv (slc 1 (List.map eI64 x25b))), (34, .sv (.v (.bool j3.1)))] [(5, ⟨34, [.sv (.v (.bool false)), .sv (slc 1 (List.map eU32 []))]⟩), (4, ⟨34, [.sv (.v (.bool false)), .sv (slc 1 (List.map eU32 []))]⟩), (3, ⟨34, [.sv (.v (.bool x1_0)), .sv (slc 1 (List.map eU32 x1_1))]⟩), (2, ⟨34, [.sv (.v (.bool j3.2)), .sv (slc 1 (List.map eU32 x0_1))]⟩)] []) (fun h => ?_) (fun j3 h => ?_)
 refine ok_region <| fa rfl rfl <| lV rfl rfl rfl <| mv rfl <| bE h fun c34_6 hg6 h => ?_
 cases x0_0
 obtain rfl := O (F hg6)
 exact ww <| ww <| ww <| pF rfl <| dn <| ⟨(false, false), h, wR []⟩
 refine gm rfl <| lE (V hg6) fun x32 h32 hg6 => gn rfl h32 <| lE hg6 fun x33 h33 hg6 => gg _ rfl rfl h33 ?_
 obtain rfl := O hg6
 exact pT rfl <| dn <| ⟨(x33, true), h, wR []⟩
 obtain ⟨y34j2, b2_0j2⟩ := j3
 try dsimp only
 refine AThen.n ?_
 refine ok_tailJ h (fun j5 => AS.mkL 50 [(2, .ptr 2 0), (3, .ptr 3 0), (4, .ptr 4 0), (5, .ptr 5 0), (9, .sv (slc 1 (List.map eI64 j5.1))), (10, .sv (slc 1 (List.map eI64 j5.2)))] [(5, ⟨34, [.sv (.v (.bool false)), .sv (slc 1 (List.map eU32 []))]⟩), (4, ⟨34, [.sv (.v (.bool false)), .sv (slc 1 (List.map eU32 []))]⟩), (3, ⟨34, [.sv (.v (.bool x1_0)), .sv (slc 1 (List.map eU32 x1_1))]⟩), (2, ⟨34, [.sv (.v (.bool b2_0j2)), .sv (slc 1 (List.map eU32 x0_1))]⟩)] []) (fun h => ?_) (fun j5 h => ?_)
 cases y34j2
 exact fs <| ⟨(x25a, x25b), (F h), wR []⟩
 exact cT <| sr <| mv rfl <| bl (l := [1]) (e := eI64) (.one rfl (.nil)) rfl rfl rfl rfl rfl rfl <| bE (V h) fun x37 h37 h => cl (ref01_add_ok h37) ⟨rfl, rfl, trivial⟩ <| ag rfl <| dn <| ok_region <| mv rfl <| mv rfl <| bE h fun x40 h40 h => cl (ref01_sub_ok h40) ⟨rfl, rfl, trivial⟩ <| ag rfl <| dn <| ⟨(x37, x40), h, wR []⟩
 obtain ⟨y9j4, y10j4⟩ := j5
 try dsimp only
 refine AThen.n <| sr <| fa rfl rfl <| lV rfl rfl rfl <| fa rfl rfl <| lV rfl rfl rfl <| lE h fun x45 h45 h => RT.bneq .none _ rfl rfl T h45 <| mv rfl ?_
 obtain ⟨⟨x47_0, x47_1⟩, h47, h⟩ := bS h
 refine cl (ref01_of_ok h47) ⟨rfl, rfl, trivial⟩ <| mv rfl ?_
 obtain ⟨⟨x49_0, x49_1⟩, h49, h⟩ := bS h
 refine cl (ref01_of_ok h49) ⟨rfl, rfl, trivial⟩ <| so rfl rfl rfl <| so rfl rfl rfl <| ag rfl <| dn <| ok_ret ?_
 obtain rfl := O h
 exact RZ (.agg rfl rfl (.cons rfl (.cons rfl (.nil))) rfl (.agg rfl rfl (.cons rfl (.cons rfl (.nil))) rfl (.tmp rfl (.nil))))
 refine cT <| sr <| bI (cs := [_, _]) (cs' := [.v (.bool false), slc 1 (List.map eU32 [])]) (.nil) ⟨SV.imp_refl _, imp_nil, trivial⟩ <| bI (cs := [_, _]) (cs' := [.v (.bool false), slc 1 (List.map eU32 [])]) (.nil) ⟨SV.imp_refl _, imp_nil, trivial⟩ <| so rfl rfl rfl <| so rfl rfl rfl <| ag rfl <| dn <| ok_ret <| AThen.r ?_
 obtain rfl := O (V h)
 exact RZ (.agg rfl rfl (.cons rfl (.cons rfl (.nil))) rfl (.agg rfl rfl (.cons rfl (.cons rfl (.nil))) rfl (.tmp rfl (.nil))))
theorem ref01_Gcd_ok {x0 : Zr} {x1 : Zr} {r : Zr} (h : ref01_Gcd_m x0 x1 = some r) : Pure Tryz.prog 134 [.agg (eZ x0), .agg (eZ x1)] (.agg (eZ r)) := by
 obtain ⟨x0_0, x0_1⟩ := x0
 obtain ⟨x1_0, x1_1⟩ := x1
 refine pure_of_ok Tryz.func134 rfl (Nat.le_of_ble_eq_true rfl) (fun wld M vs hvs => ?_)
 unfold ref01_Gcd_m at h
 refine sr <| bx rfl <| bx rfl <| al (cs := [.v (.bool false), slc 1 (List.map eU32 [])]) (by exact ⟨SV.imp_refl _, imp_nil, trivial⟩) rfl <| dn <| qq <| ok_region_draw mixed <| fa rfl rfl <| lV rfl rfl rfl <| bE h fun x11 h11 h => cl (ref01_halves_ok h11) ⟨rfl, trivial⟩ <| fa rfl rfl <| lV rfl rfl rfl <| bE h fun x14 h14 h => cl (ref01_halves_ok h14) ⟨rfl, trivial⟩ <| ag rfl <| ag rfl ?_
 refine RT.done ⟨by kernel_rfl, ?_⟩
 refine AThen.n <| qq <| bE h fun e6 hl6 ho6 => ?_
 refine ok_tailP (fun (y5e5 : (List Int)) => AS.mkL 28 [(4, .ptr 4 0), (5, .sv (slc 1 (List.map eI64 y5e5)))] [(4, ⟨34, [.sv (.v (.bool false)), .sv (slc 1 (List.map eU32 []))]⟩)] []) (fun y5e5 => y5e5 = e6) ?_ (fun y5e5 hx6 => ?_)
 refine ok_block ?_
 refine ok_loopM hl6 (fun s6 => AS.mkL 28 [(4, .ptr 4 0), (5, .sv (slc 1 (List.map eI64 s6.1))), (6, .sv (slc 1 (List.map eI64 s6.2)))] [(4, ⟨34, [.sv (.v (.bool false)), .sv (slc 1 (List.map eU32 []))]⟩)] []) (wR []) (fun s6 y6 G6 h hG6 hE6 => ?_)
 obtain ⟨y5l3, y6l3⟩ := s6
 try dsimp only
 refine qq <| sr <| mv rfl <| lE h fun x16 h16 h => ln rfl h16 <| lE h fun x17 h17 h => gt _ rfl rfl h17 <| dn ?_
 cases x17
 refine cF <| ok_exit <| AThen.x <| AThen.x <| AInB.x <| AThen.n ?_
 obtain rfl := O (F h)
 exact ⟨y5l3, hE6 _ rfl, wR []⟩
 refine cT <| ok_skip <| AThen.n <| ok_block <| sr <| mv rfl <| mv rfl ?_
 obtain ⟨⟨x21a, x21b⟩, h21, h⟩ := bS (V h)
 refine cl (ref01_div_ok h21) ⟨rfl, rfl, trivial⟩ <| mv rfl <| ex rfl rfl <| ex rfl rfl <| ag rfl <| ag rfl <| dn <| ok_region <| mv rfl <| mv rfl <| ag rfl <| ag rfl <| RT.done <| AInB.n ?_
 obtain rfl := O h
 exact AThen.n ⟨(y6l3, x21b), hG6 _ rfl, wR []⟩
 subst hx6
 try dsimp only
 refine AThen.n <| sr <| mv rfl ?_
 obtain ⟨⟨x27_0, x27_1⟩, h27, ho6⟩ := bS ho6
 refine cl (ref01_of_ok h27) ⟨rfl, rfl, trivial⟩ <| so rfl rfl rfl <| dn <| ok_ret ?_
 obtain rfl := O ho6
 exact RZ (.agg rfl rfl (.cons rfl (.cons rfl (.nil))) rfl (.nil))
end Go.Proofs.YtfoldppidpmchaaGreat
namespace Go.Proofs.YtfoldppidpmchaaGreat
open Go.Fw
noncomputable def ref02_one_m  : Option (Zr) := (ref01_From_m 1).bind fun ⟨x1_0, x1_1⟩ => some ⟨x1_0, x1_1⟩
noncomputable def ref02_den_m (x0 : Qr) : Option (Zr) := match x0 with | ⟨⟨x0_0, x0_1⟩, ⟨x0_2, x0_3⟩⟩ => (ref01_Sign_m ⟨x0_2, x0_3⟩).bind fun x5 => (some (decide ((x5 : Int) = 0))).bind fun x6 => (bif x6 then (ref02_one_m).bind fun ⟨x7_0, x7_1⟩ => some ⟨x7_0, x7_1⟩ else (ref01_Abs_m ⟨x0_2, x0_3⟩).bind fun ⟨x10_0, x10_1⟩ => some ⟨x10_0, x10_1⟩)
noncomputable def ref02_num_m (x0 : Qr) : Option (Zr) := match x0 with | ⟨⟨x0_0, x0_1⟩, ⟨x0_2, x0_3⟩⟩ => (ref01_Sign_m ⟨x0_2, x0_3⟩).bind fun x5 => (some (decide ((x5 : Int) < 0))).bind fun x6 => (bif x6 then (ref01_Neg_m ⟨x0_0, x0_1⟩).bind fun ⟨x9_0, x9_1⟩ => some ⟨x9_0, x9_1⟩ else (ref01_Least_m ⟨x0_0, x0_1⟩).bind fun ⟨x12_0, x12_1⟩ => some ⟨x12_0, x12_1⟩)
noncomputable def ref02_over_m (x0 : Zr) (x1 : Zr) : Option (Qr) := match x0 with | ⟨x0_0, x0_1⟩ => match x1 with | ⟨x1_0, x1_1⟩ => (ref01_Gcd_m ⟨x0_0, x0_1⟩ ⟨x1_0, x1_1⟩).bind fun ⟨x14_0, x14_1⟩ => (ref01_Div_m ⟨x0_0, x0_1⟩ ⟨x14_0, x14_1⟩).bind fun ⟨⟨x18a_0, x18a_1⟩, ⟨x18b_0, x18b_1⟩, x18c⟩ => (ref01_Div_m ⟨x1_0, x1_1⟩ ⟨x14_0, x14_1⟩).bind fun ⟨⟨x25a_0, x25a_1⟩, ⟨x25b_0, x25b_1⟩, x25c⟩ => (ref02_one_m).bind fun ⟨x30_0, x30_1⟩ => (ref01_Cmp_m ⟨x25a_0, x25a_1⟩ ⟨x30_0, x30_1⟩).bind fun x31 => (some (decide ((x31 : Int) = 0))).bind fun x32 => (bif x32 then some ⟨⟨x18a_0, x18a_1⟩, ⟨false, []⟩⟩ else some ⟨⟨x18a_0, x18a_1⟩, ⟨x25a_0, x25a_1⟩⟩)
noncomputable def ref02_Least_m (x0 : Qr) : Option (Qr) := match x0 with | ⟨⟨x0_0, x0_1⟩, ⟨x0_2, x0_3⟩⟩ => (ref02_num_m ⟨⟨x0_0, x0_1⟩, ⟨x0_2, x0_3⟩⟩).bind fun ⟨x4_0, x4_1⟩ => (ref02_den_m ⟨⟨x0_0, x0_1⟩, ⟨x0_2, x0_3⟩⟩).bind fun ⟨x6_0, x6_1⟩ => (ref02_over_m ⟨x4_0, x4_1⟩ ⟨x6_0, x6_1⟩).bind fun ⟨⟨x7_0, x7_1⟩, ⟨x7_2, x7_3⟩⟩ => some ⟨⟨x7_0, x7_1⟩, ⟨x7_2, x7_3⟩⟩
noncomputable def ref02_Int_m (x0 : Int) : Option (Qr) := (ref01_From_m x0).bind fun ⟨x4_0, x4_1⟩ => some ⟨⟨x4_0, x4_1⟩, ⟨false, []⟩⟩
noncomputable def ref02_Of_m (x0 : Int) (x1 : Int) : Option (Qr) := (ref01_From_m x0).bind fun ⟨x6_0, x6_1⟩ => (ref01_From_m x1).bind fun ⟨x8_0, x8_1⟩ => (ref02_Least_m ⟨⟨x6_0, x6_1⟩, ⟨x8_0, x8_1⟩⟩).bind fun ⟨⟨x10_0, x10_1⟩, ⟨x10_2, x10_3⟩⟩ => some ⟨⟨x10_0, x10_1⟩, ⟨x10_2, x10_3⟩⟩
end Go.Proofs.YtfoldppidpmchaaGreat
namespace Go.Proofs.YtfoldppidpmchaaGreat
open Go.Fw Go.Fw.Z Go.RowKit
theorem ref02_one_ok  {r : Zr} (h : ref02_one_m = some r) : Pure Tryz.prog 137 [] (.agg (eZ r)) := by
 refine pure_of_ok Tryz.func137 rfl (Nat.le_of_ble_eq_true rfl) (fun wld M vs hvs => ?_)
 unfold ref02_one_m at h
 refine sr <| al (cs := [.v (.bool false), slc 1 (List.map eU32 [])]) (by exact ⟨SV.imp_refl _, imp_nil, trivial⟩) rfl <| dn <| sr ?_
 obtain ⟨⟨x1_0, x1_1⟩, h1, h⟩ := bS h
 refine cl (ref01_From_ok h1) ⟨rfl, trivial⟩ <| so rfl rfl rfl <| dn <| ok_ret ?_
 obtain rfl := O h
 exact RZ (.agg rfl rfl (.cons rfl (.cons rfl (.nil))) rfl (.nil))
theorem ref02_den_ok {x0 : Qr} {r : Zr} (h : ref02_den_m x0 = some r) : Pure Tryz.prog 109 [.agg (eQ x0)] (.agg (eZ r)) := by
 obtain ⟨⟨x0_0, x0_1⟩, ⟨x0_2, x0_3⟩⟩ := x0
 refine pure_of_ok Tryz.func109 rfl (Nat.le_of_ble_eq_true rfl) (fun wld M vs hvs => ?_)
 unfold ref02_den_m at h
 refine sr <| bx rfl <| al (cs := [.v (.bool false), slc 1 (List.map eU32 [])]) (by exact ⟨SV.imp_refl _, imp_nil, trivial⟩) rfl <| dn <| qq <| sr <| fa rfl rfl <| ld rfl rfl (.cons rfl (.cons rfl (.nil))) <| bE h fun x5 h5 h => cl (ref01_Sign_ok h5) ⟨rfl, trivial⟩ <| lE h fun x6 h6 h => eq _ rfl rfl (eqI (p := x5) (q := 0) h6) <| dn ?_
 cases x6
 refine fs <| sr <| fa rfl rfl <| ld rfl rfl (.cons rfl (.cons rfl (.nil))) ?_
 obtain ⟨⟨x10_0, x10_1⟩, h10, h⟩ := bS (F h)
 refine cl (ref01_Abs_ok h10) ⟨rfl, trivial⟩ <| so rfl rfl rfl <| dn <| ok_ret ?_
 obtain rfl := O h
 exact RZ (.agg rfl rfl (.cons rfl (.cons rfl (.nil))) rfl (.nil))
 refine cT <| sr ?_
 obtain ⟨⟨x7_0, x7_1⟩, h7, h⟩ := bS (V h)
 refine cl (ref02_one_ok h7) trivial <| so rfl rfl rfl <| dn <| ok_ret <| AThen.r ?_
 obtain rfl := O h
 exact RZ (.agg rfl rfl (.cons rfl (.cons rfl (.nil))) rfl (.nil))
theorem ref02_num_ok {x0 : Qr} {r : Zr} (h : ref02_num_m x0 = some r) : Pure Tryz.prog 108 [.agg (eQ x0)] (.agg (eZ r)) := by
 obtain ⟨⟨x0_0, x0_1⟩, ⟨x0_2, x0_3⟩⟩ := x0
 refine pure_of_ok Tryz.func108 rfl (Nat.le_of_ble_eq_true rfl) (fun wld M vs hvs => ?_)
 unfold ref02_num_m at h
 refine sr <| bx rfl <| al (cs := [.v (.bool false), slc 1 (List.map eU32 [])]) (by exact ⟨SV.imp_refl _, imp_nil, trivial⟩) rfl <| dn <| qq <| sr <| fa rfl rfl <| ld rfl rfl (.cons rfl (.cons rfl (.nil))) <| bE h fun x5 h5 h => cl (ref01_Sign_ok h5) ⟨rfl, trivial⟩ <| lE h fun x6 h6 h => ls _ rfl rfl h6 <| dn ?_
 cases x6
 refine fs <| sr <| fa rfl rfl <| ld rfl rfl (.cons rfl (.cons rfl (.nil))) ?_
 obtain ⟨⟨x12_0, x12_1⟩, h12, h⟩ := bS (F h)
 refine cl (ref01_Least_ok h12) ⟨rfl, trivial⟩ <| so rfl rfl rfl <| dn <| ok_ret ?_
 obtain rfl := O h
 exact RZ (.agg rfl rfl (.cons rfl (.cons rfl (.nil))) rfl (.nil))
 refine cT <| sr <| fa rfl rfl <| ld rfl rfl (.cons rfl (.cons rfl (.nil))) ?_
 obtain ⟨⟨x9_0, x9_1⟩, h9, h⟩ := bS (V h)
 refine cl (ref01_Neg_ok h9) ⟨rfl, trivial⟩ <| so rfl rfl rfl <| dn <| ok_ret <| AThen.r ?_
 obtain rfl := O h
 exact RZ (.agg rfl rfl (.cons rfl (.cons rfl (.nil))) rfl (.nil))
theorem ref02_over_ok {x0 : Zr} {x1 : Zr} {r : Qr} (h : ref02_over_m x0 x1 = some r) : Pure Tryz.prog 106 [.agg (eZ x0), .agg (eZ x1)] (.agg (eQ r)) := by
 obtain ⟨x0_0, x0_1⟩ := x0
 obtain ⟨x1_0, x1_1⟩ := x1
 refine pure_of_ok Tryz.func106 rfl (Nat.le_of_ble_eq_true rfl) (fun wld M vs hvs => ?_)
 unfold ref02_over_m at h
 refine sr <| bx rfl <| bx rfl <| al (cs := [.v (.bool false), slc 1 (List.map eU32 []), .v (.bool false), slc 1 (List.map eU32 [])]) (by exact ⟨SV.imp_refl _, imp_nil, SV.imp_refl _, imp_nil, trivial⟩) rfl <| dn <| sr <| ld rfl rfl (.cons rfl (.cons rfl (.nil))) <| ld rfl rfl (.cons rfl (.cons rfl (.nil))) ?_
 obtain ⟨⟨x14_0, x14_1⟩, h14, h⟩ := bS h
 refine cl (ref01_Gcd_ok h14) ⟨rfl, rfl, trivial⟩ <| al (cs := [.v (.bool false), slc 1 (List.map eU32 [])]) (by exact ⟨SV.imp_refl _, imp_nil, trivial⟩) rfl <| so rfl rfl rfl <| dn <| sr <| ld rfl rfl (.cons rfl (.cons rfl (.nil))) <| ld rfl rfl (.cons rfl (.cons rfl (.nil))) ?_
 obtain ⟨⟨⟨x18a_0, x18a_1⟩, ⟨x18b_0, x18b_1⟩, x18c⟩, h18, h⟩ := bS h
 refine cl (ref01_Div_ok h18) ⟨rfl, rfl, trivial⟩ <| mv rfl <| ex rfl rfl <| ex rfl rfl <| ex rfl rfl <| al (cs := [.v (.bool false), slc 1 (List.map eU32 [])]) (by exact ⟨SV.imp_refl _, imp_nil, trivial⟩) rfl <| al (cs := [.v (.bool false), slc 1 (List.map eU32 [])]) (by exact ⟨SV.imp_refl _, imp_nil, trivial⟩) rfl <| so rfl rfl rfl <| so rfl rfl rfl <| ag rfl <| dn <| sr <| ld rfl rfl (.cons rfl (.cons rfl (.nil))) ?_
 refine ld rfl rfl (.cons rfl (.cons rfl (.nil))) ?_
 obtain ⟨⟨⟨x25a_0, x25a_1⟩, ⟨x25b_0, x25b_1⟩, x25c⟩, h25, h⟩ := bS h
 refine cl (ref01_Div_ok h25) ⟨rfl, rfl, trivial⟩ <| mv rfl <| ex rfl rfl <| ex rfl rfl <| ex rfl rfl <| al (cs := [.v (.bool false), slc 1 (List.map eU32 [])]) (by exact ⟨SV.imp_refl _, imp_nil, trivial⟩) rfl <| al (cs := [.v (.bool false), slc 1 (List.map eU32 [])]) (by exact ⟨SV.imp_refl _, imp_nil, trivial⟩) rfl <| so rfl rfl rfl <| so rfl rfl rfl <| ag rfl <| dn <| qq <| qq <| ok_region_draw mixed <| ld rfl rfl (.cons rfl (.cons rfl (.nil))) ?_
 obtain ⟨⟨x30_0, x30_1⟩, h30, h⟩ := bS h
 refine cl (ref02_one_ok h30) trivial <| bE h fun x31 h31 h => cl (ref01_Cmp_ok h31) ⟨rfl, rfl, trivial⟩ <| lE h fun x32 h32 h => eq _ rfl rfl (eqI (p := x31) (q := 0) h32) ?_
 refine RT.done ⟨by kernel_rfl, ?_⟩
 refine AThen.n ?_
 cases x32
 refine fs <| sr <| ld rfl rfl (.cons rfl (.cons rfl (.nil))) <| ld rfl rfl (.cons rfl (.cons rfl (.nil))) <| bI (cs := [_, _, _, _]) (cs' := [.v (.bool x18a_0), slc 1 (List.map eU32 x18a_1), .v (.bool x25a_0), slc 1 (List.map eU32 x25a_1)]) (.agg rfl (.agg rfl (.nil))) ⟨SV.imp_refl _, SV.imp_refl _, SV.imp_refl _, SV.imp_refl _, trivial⟩ <| so rfl rfl rfl <| dn <| ok_ret ?_
 obtain rfl := O (F h)
 exact RZ (.agg rfl rfl (.cons rfl (.cons rfl (.cons rfl (.cons rfl (.nil))))) rfl (.nil))
 refine cT <| sr <| ld rfl rfl (.cons rfl (.cons rfl (.nil))) <| bI (cs := [_, _, _, _]) (cs' := [.v (.bool x18a_0), slc 1 (List.map eU32 x18a_1), .v (.bool false), slc 1 (List.map eU32 [])]) (.agg rfl (.nil)) ⟨SV.imp_refl _, SV.imp_refl _, SV.imp_refl _, imp_nil, trivial⟩ <| so rfl rfl rfl <| dn <| ok_ret <| AThen.r ?_
 obtain rfl := O (V h)
 exact RZ (.agg rfl rfl (.cons rfl (.cons rfl (.cons rfl (.cons rfl (.nil))))) rfl (.nil))
theorem ref02_Least_ok {x0 : Qr} {r : Qr} (h : ref02_Least_m x0 = some r) : Pure Tryz.prog 76 [.agg (eQ x0)] (.agg (eQ r)) := by
 obtain ⟨⟨x0_0, x0_1⟩, ⟨x0_2, x0_3⟩⟩ := x0
 refine pure_of_ok Tryz.func76 rfl (Nat.le_of_ble_eq_true rfl) (fun wld M vs hvs => ?_)
 unfold ref02_Least_m at h
 refine sr <| bx rfl <| al (cs := [.v (.bool false), slc 1 (List.map eU32 []), .v (.bool false), slc 1 (List.map eU32 [])]) (by exact ⟨SV.imp_refl _, imp_nil, SV.imp_refl _, imp_nil, trivial⟩) rfl <| dn <| qq <| ok_region_draw mixed <| ld rfl rfl (.cons rfl (.cons rfl (.cons rfl (.cons rfl (.nil))))) ?_
 obtain ⟨⟨x4_0, x4_1⟩, h4, h⟩ := bS h
 refine cl (ref02_num_ok h4) ⟨rfl, trivial⟩ <| ld rfl rfl (.cons rfl (.cons rfl (.cons rfl (.cons rfl (.nil))))) ?_
 obtain ⟨⟨x6_0, x6_1⟩, h6, h⟩ := bS h
 refine cl (ref02_den_ok h6) ⟨rfl, trivial⟩ ?_
 obtain ⟨⟨⟨x7_0, x7_1⟩, ⟨x7_2, x7_3⟩⟩, h7, h⟩ := bS h
 refine cl (ref02_over_ok h7) ⟨rfl, rfl, trivial⟩ <| so rfl rfl rfl ?_
 refine RT.done ⟨by kernel_rfl, ?_⟩
 refine AThen.n <| ok_ret ?_
 obtain rfl := O h
 exact RZ (.agg rfl rfl (.cons rfl (.cons rfl (.cons rfl (.cons rfl (.nil))))) rfl (.nil))
theorem ref02_Int_ok {x0 : Int} {r : Qr} (h : ref02_Int_m x0 = some r) : Pure Tryz.prog 13 [.v (.int .i64 x0)] (.agg (eQ r)) := by
 refine pure_of_ok Tryz.func13 rfl (Nat.le_of_ble_eq_true rfl) (fun wld M vs hvs => ?_)
 unfold ref02_Int_m at h
 refine sr <| al (cs := [.v (.bool false), slc 1 (List.map eU32 []), .v (.bool false), slc 1 (List.map eU32 [])]) (by exact ⟨SV.imp_refl _, imp_nil, SV.imp_refl _, imp_nil, trivial⟩) rfl <| dn <| sr <| mv rfl ?_
 obtain ⟨⟨x4_0, x4_1⟩, h4, h⟩ := bS h
 refine cl (ref01_From_ok h4) ⟨rfl, trivial⟩ <| bI (cs := [_, _, _, _]) (cs' := [.v (.bool x4_0), slc 1 (List.map eU32 x4_1), .v (.bool false), slc 1 (List.map eU32 [])]) (.agg rfl (.nil)) ⟨SV.imp_refl _, SV.imp_refl _, SV.imp_refl _, imp_nil, trivial⟩ <| so rfl rfl rfl <| dn <| ok_ret ?_
 obtain rfl := O h
 exact RZ (.agg rfl rfl (.cons rfl (.cons rfl (.cons rfl (.cons rfl (.nil))))) rfl (.nil))
theorem ref02_Of_ok {x0 : Int} {x1 : Int} {r : Qr} (h : ref02_Of_m x0 x1 = some r) : Pure Tryz.prog 43 [.v (.int .i64 x0), .v (.int .i64 x1)] (.agg (eQ r)) := by
 refine pure_of_ok Tryz.func43 rfl (Nat.le_of_ble_eq_true rfl) (fun wld M vs hvs => ?_)
 unfold ref02_Of_m at h
 refine sr <| al (cs := [.v (.bool false), slc 1 (List.map eU32 []), .v (.bool false), slc 1 (List.map eU32 [])]) (by exact ⟨SV.imp_refl _, imp_nil, SV.imp_refl _, imp_nil, trivial⟩) rfl <| dn <| sr <| mv rfl ?_
 obtain ⟨⟨x6_0, x6_1⟩, h6, h⟩ := bS h
 refine cl (ref01_From_ok h6) ⟨rfl, trivial⟩ <| mv rfl ?_
 obtain ⟨⟨x8_0, x8_1⟩, h8, h⟩ := bS h
 refine cl (ref01_From_ok h8) ⟨rfl, trivial⟩ <| bI (cs := [_, _, _, _]) (cs' := [.v (.bool x6_0), slc 1 (List.map eU32 x6_1), .v (.bool x8_0), slc 1 (List.map eU32 x8_1)]) (.agg rfl (.agg rfl (.nil))) ⟨SV.imp_refl _, SV.imp_refl _, SV.imp_refl _, SV.imp_refl _, trivial⟩ ?_
 obtain ⟨⟨⟨x10_0, x10_1⟩, ⟨x10_2, x10_3⟩⟩, h10, h⟩ := bS h
 refine cl (ref02_Least_ok h10) ⟨rfl, trivial⟩ <| so rfl rfl rfl <| dn <| ok_ret ?_
 obtain rfl := O h
 exact RZ (.agg rfl rfl (.cons rfl (.cons rfl (.cons rfl (.cons rfl (.nil))))) rfl (.nil))
end Go.Proofs.YtfoldppidpmchaaGreat
namespace Go.Proofs.YtfoldppidpmchaaGreat
open Go.Fw
noncomputable def ref04_Cols_m (x0 : List (List Qr)) : Option (Int) := (loopM (fun (s6 : Int × Int) => match s6 with | ⟨y3l3, y4l3⟩ => (show Option ((Int × Int) ⊕ (Int)) from (some (x0.length : Int)).bind fun x7 => (some (decide ((y4l3 : Int) < x7))).bind fun x8 => (bif x8 then (geti x0 y4l3).bind fun x14 => (some (x14.length : Int)).bind fun x16 => (some (max (y3l3 : Int) x16)).bind fun x17 => (some (IntKind.i64.wrap (y4l3 + 1))).bind fun x10 => some (.inl (x17, x10)) else some (.inr y3l3)))) (0, 0)).bind fun y3e5 => some y3e5
end Go.Proofs.YtfoldppidpmchaaGreat
namespace Go.Proofs.YtfoldppidpmchaaGreat
open Go.Fw Go.Fw.Z Go.RowKit
theorem ref04_Cols_ok {x0 : List (List Qr)} {r : Int} (h : ref04_Cols_m x0 = some r) : Pure Tryz.prog 86 [slc 1 (List.map (eS 4 eQ) x0)] (.v (.int .i64 r)) := by
 refine pure_of_ok Tryz.func86 rfl (Nat.le_of_ble_eq_true rfl) (fun wld M vs hvs => ?_)
 unfold ref04_Cols_m at h
 refine sr <| ag rfl <| dn <| sr <| ag rfl <| dn <| qq <| sr <| ag rfl <| dn <| bE h fun e6 hl6 ho6 => ?_
 refine ok_tailP (fun (y3e5 : Int) => AS.mkL 19 [(3, .sv (.v (.int .i64 y3e5)))] [] []) (fun y3e5 => y3e5 = e6) ?_ (fun y3e5 hx6 => ?_)
 refine ok_block ?_
 refine ok_loopM hl6 (fun s6 => AS.mkL 19 [(0, .sv (slc 1 (List.map (eS 4 eQ) x0))), (3, .sv (.v (.int .i64 s6.1))), (4, .sv (.v (.int .i64 s6.2)))] [] []) (wR []) (fun s6 y6 G6 h hG6 hE6 => ?_)
 obtain ⟨y3l3, y4l3⟩ := s6
 try dsimp only
 refine qq <| sr <| mv rfl <| mv rfl <| lE h fun x7 h7 h => ln rfl h7 <| lE h fun x8 h8 h => ls _ rfl rfl h8 <| dn ?_
 cases x8
 refine cF <| ok_exit <| AThen.x <| AThen.x <| AInB.x <| AThen.n ?_
 obtain rfl := O (F h)
 exact ⟨y3l3, hE6 _ rfl, wR []⟩
 refine cT <| ok_skip <| AThen.n <| qq <| ok_block <| ok_region <| mv rfl <| mv rfl <| mv rfl <| bE (V h) fun x14 h14 h => ix rfl rfl h14 <| lr rfl rfl <| lE h fun x16 h16 h => ln rfl h16 <| lE h fun x17 h17 h => RT.max .none _ rfl rfl T (maxI (p := y3l3) (q := x16) h17) <| ag rfl <| RT.done <| AInB.n <| AThen.n <| ok_region <| mv rfl <| lE h fun x10 h10 h => ad _ rfl rfl h10 <| ag rfl <| RT.done ?_
 obtain rfl := O h
 exact AThen.n ⟨(x17, x10), hG6 _ rfl, wR []⟩
 subst hx6
 try dsimp only
 refine AThen.n <| sr <| mv rfl <| ag rfl <| dn <| ok_ret ?_
 obtain rfl := O ho6
 exact R1 rfl
end Go.Proofs.YtfoldppidpmchaaGreat
namespace Go.Proofs.YtfoldppidpmchaaGreat
open Go.Fw
noncomputable def law01_Long_m (x0 : List Zr) : Option (Bool) := (loopM (fun (y3l3 : Int) => (show Option ((Int) ⊕ ((Unit) ⊕ (Bool))) from (some (x0.length : Int)).bind fun x6 => (some (decide ((y3l3 : Int) < x6))).bind fun x7 => (bif x7 then (geti x0 y3l3).bind fun ⟨x12_0, x12_1⟩ => (some (x12_1.length : Int)).bind fun x15 => (some (decide ((12 : Int) < x15))).bind fun x16 => (bif x16 then some (.inr (.inr true)) else (some (IntKind.i64.wrap (y3l3 + 1))).bind fun x9 => some (.inl x9)) else some (.inr (.inl ()))))) 0).bind fun e6 => match e6 with | .inr v6 => some v6 | .inl _ => some false
end Go.Proofs.YtfoldppidpmchaaGreat
namespace Go.Proofs.YtfoldppidpmchaaGreat
open Go.Fw Go.Fw.Z Go.RowKit
theorem law01_Long_ok {x0 : List Zr} {r : Bool} (h : law01_Long_m x0 = some r) : Pure Tryz.prog 68 [slc 2 (List.map eZ x0)] (.v (.bool r)) := by
 refine pure_of_ok Tryz.func68 rfl (Nat.le_of_ble_eq_true rfl) (fun wld M vs hvs => ?_)
 unfold law01_Long_m at h
 refine sr <| ag rfl <| dn <| qq <| sr <| ag rfl <| dn <| bE h fun e6 hl6 ho6 => ?_
 refine ok_tailP (fun (xe6 : Unit) => AS.mkL 17 [] [] []) (fun xe6 => .inl xe6 = e6) ?_ (fun xe6 hx6 => ?_)
 refine ok_block ?_
 refine ok_loopM hl6 (fun s6 => AS.mkL 17 [(0, .sv (slc 2 (List.map eZ x0))), (3, .sv (.v (.int .i64 s6)))] [] []) (wR []) (fun y3l3 y6 G6 h hG6 hE6 => ?_)
 try dsimp only
 refine qq <| sr <| mv rfl <| mv rfl <| lE h fun x6 h6 h => ln rfl h6 <| lE h fun x7 h7 h => ls _ rfl rfl h7 <| dn ?_
 cases x7
 refine cF <| ok_exit <| AThen.x <| AThen.x <| AInB.x <| AThen.n ?_
 obtain rfl := O (F h)
 exact ⟨(), hE6 _ rfl, wR []⟩
 refine cT <| ok_skip <| AThen.n <| qq <| ok_block <| sr <| mv rfl <| mv rfl ?_
 obtain ⟨⟨x12_0, x12_1⟩, h12, h⟩ := bS (V h)
 refine ix rfl rfl h12 <| RT.fieldAddrR .none rfl T rfl <| lr rfl rfl <| lE h fun x15 h15 h => ln rfl h15 <| lE h fun x16 h16 h => gt _ rfl rfl h16 <| dn ?_
 cases x16
 refine cF <| ok_skip <| AInB.n <| AThen.n <| ok_region <| mv rfl <| lE (F h) fun x9 h9 h => ad _ rfl rfl h9 <| ag rfl <| RT.done ?_
 obtain rfl := O h
 exact AThen.n ⟨x9, hG6 _ rfl, wR []⟩
 refine cT <| sr <| ag rfl <| dn <| ok_ret <| AInB.r <| AThen.r ?_
 obtain rfl := O (V h)
 have he6 := hE6 _ rfl
 subst he6
 refine AThen.r <| AInB.r <| AThen.r <| AThen.r ?_
 obtain rfl := O ho6
 exact R1 rfl
 subst hx6
 try dsimp only
 refine AThen.n <| sr <| ag rfl <| dn <| ok_ret ?_
 obtain rfl := O ho6
 exact R1 rfl
end Go.Proofs.YtfoldppidpmchaaGreat
namespace Go.Proofs.YtfoldppidpmchaaGreat
open Go.Fw
noncomputable def law02_Long_m (x0 : List Qr) : Option (Bool) := (loopM (fun (y3l8 : Int) => (show Option ((Int) ⊕ ((Unit) ⊕ (Bool))) from (some (x0.length : Int)).bind fun x6 => (some (decide ((y3l8 : Int) < x6))).bind fun x7 => (bif x7 then letJ (fun (y41j21 : Bool) => (bif y41j21 then some (.inr (.inr true)) else (some (IntKind.i64.wrap (y3l8 + 1))).bind fun x9 => some (.inl x9))) fun K22 => (geti x0 y3l8).bind fun ⟨⟨x12_0, x12_1⟩, ⟨x12_2, x12_3⟩⟩ => (geti x0 y3l8).bind fun ⟨⟨x17_0, x17_1⟩, ⟨x17_2, x17_3⟩⟩ => (law01_Long_m [⟨x12_0, x12_1⟩, ⟨x17_2, x17_3⟩]).bind fun x21 => (bif x21 then some true else (geti x0 y3l8).bind fun ⟨⟨x25_0, x25_1⟩, ⟨x25_2, x25_3⟩⟩ => (some (x25_1.length : Int)).bind fun x29 => (some (decide ((6 : Int) < x29))).bind fun x30 => some x30).bind fun c31_23 => (bif c31_23 then some true else (geti x0 y3l8).bind fun ⟨⟨x35_0, x35_1⟩, ⟨x35_2, x35_3⟩⟩ => (some (x35_3.length : Int)).bind fun x39 => (some (decide ((6 : Int) < x39))).bind fun x40 => some x40).bind fun c41_26 => K22 c41_26 else some (.inr (.inl ()))))) 0).bind fun e16 => match e16 with | .inr v16 => some v16 | .inl _ => some false
end Go.Proofs.YtfoldppidpmchaaGreat
namespace Go.Proofs.YtfoldppidpmchaaGreat
open Go.Fw Go.Fw.Z Go.RowKit
theorem law02_Long_ok {x0 : List Qr} {r : Bool} (h : law02_Long_m x0 = some r) : Pure Tryz.prog 24 [slc 4 (List.map eQ x0)] (.v (.bool r)) := by
 refine pure_of_ok Tryz.func24 rfl (Nat.le_of_ble_eq_true rfl) (fun wld M vs hvs => ?_)
 unfold law02_Long_m at h
 refine sr <| ag rfl <| dn <| qq <| sr <| ag rfl <| dn <| bE h fun e16 hl16 ho16 => ?_
 refine ok_tailP (fun (xe16 : Unit) => AS.mkL 42 [] [] []) (fun xe16 => .inl xe16 = e16) ?_ (fun xe16 hx16 => ?_)
 refine ok_block ?_
 refine ok_loopM hl16 (fun s16 => AS.mkL 42 [(0, .sv (slc 4 (List.map eQ x0))), (3, .sv (.v (.int .i64 s16)))] [] []) (wR []) (fun y3l8 y16 G16 h hG16 hE16 => ?_)
 try dsimp only
 refine qq <| sr <| mv rfl <| mv rfl <| lE h fun x6 h6 h => ln rfl h6 <| lE h fun x7 h7 h => ls _ rfl rfl h7 <| dn ?_
 cases x7
 refine cF <| ok_exit <| AThen.x <| AThen.x <| AInB.x <| AThen.n ?_
 obtain rfl := O (F h)
 exact ⟨(), hE16 _ rfl, wR []⟩
 refine cT <| ok_skip <| AThen.n <| qq <| ok_block <| qq ?_
 refine ok_tailJ (V h) (fun j22 => AS.mkL 42 [(0, .sv (slc 4 (List.map eQ x0))), (3, .sv (.v (.int .i64 y3l8))), (41, .sv (.v (.bool j22)))] [] []) (fun h => ?_) (fun y41j21 h => ?_)
 refine ok_region_draw mixed <| mv rfl <| mv rfl ?_
 obtain ⟨⟨⟨x12_0, x12_1⟩, ⟨x12_2, x12_3⟩⟩, h12, h⟩ := bS h
 refine ix rfl rfl h12 <| RT.fieldAddrR .none rfl T rfl <| RT.loadR (cs := [_, _]) .none rfl T rfl rfl <| mv rfl <| mv rfl ?_
 obtain ⟨⟨⟨x17_0, x17_1⟩, ⟨x17_2, x17_3⟩⟩, h17, h⟩ := bS h
 refine ix rfl rfl h17 <| RT.fieldAddrR .none rfl T rfl <| RT.loadR (cs := [_, _]) .none rfl T rfl rfl <| bl (l := [⟨x12_0, x12_1⟩, ⟨x17_2, x17_3⟩]) (e := eZ) (.agg rfl (.agg rfl (.nil))) rfl rfl rfl rfl rfl rfl <| bE h fun x21 h21 h => cl (law01_Long_ok h21) ⟨rfl, trivial⟩ <| mv rfl <| bE h fun c31_23 hg23 h => ?_
 cases x21
 refine gm rfl <| gm rfl ?_
 obtain ⟨⟨⟨x25_0, x25_1⟩, ⟨x25_2, x25_3⟩⟩, h25, hg23⟩ := bS (F hg23)
 refine RT.ixM (.some rfl rfl) rfl rfl T h25 <| RT.fieldAddrR (.some rfl rfl) rfl T rfl <| RT.fieldAddrR (.some rfl rfl) rfl T rfl <| gr rfl rfl <| lE hg23 fun x29 h29 hg23 => gn rfl h29 <| lE hg23 fun x30 h30 hg23 => gg _ rfl rfl h30 ?_
 obtain rfl := O hg23
 refine pF rfl <| mv rfl <| bE h fun c41_24 hg24 h => ?_
 cases x30
 refine gm rfl <| gm rfl ?_
 obtain ⟨⟨⟨x35_0, x35_1⟩, ⟨x35_2, x35_3⟩⟩, h35, hg24⟩ := bS (F hg24)
 refine RT.ixM (.some rfl rfl) rfl rfl T h35 <| RT.fieldAddrR (.some rfl rfl) rfl T rfl <| RT.fieldAddrR (.some rfl rfl) rfl T rfl <| gr rfl rfl <| lE hg24 fun x39 h39 hg24 => gn rfl h39 <| lE hg24 fun x40 h40 hg24 => gg _ rfl rfl h40 ?_
 obtain rfl := O hg24
 refine pF rfl ?_
 refine RT.done ⟨by kernel_rfl, ?_⟩
 exact AThen.n <| ⟨x40, h, wR []⟩
 obtain rfl := O (V hg24)
 refine ww <| ww <| ww <| ww <| ww <| ww <| ww <| ww <| pT rfl ?_
 refine RT.done ⟨by kernel_rfl, ?_⟩
 exact AThen.n <| ⟨true, h, wR []⟩
 obtain rfl := O (V hg23)
 refine ww <| ww <| ww <| ww <| ww <| ww <| ww <| ww <| pT rfl <| mv rfl <| bE h fun c41_25 hg25 h => ?_
 obtain rfl := O (V hg25)
 refine ww <| ww <| ww <| ww <| ww <| ww <| ww <| ww <| pT rfl ?_
 refine RT.done ⟨by kernel_rfl, ?_⟩
 exact AThen.n <| ⟨true, h, wR []⟩
 try dsimp only
 refine AThen.n ?_
 cases y41j21
 refine cF <| ok_skip <| AInB.n <| AThen.n <| ok_region <| mv rfl <| lE (F h) fun x9 h9 h => ad _ rfl rfl h9 <| ag rfl <| RT.done ?_
 obtain rfl := O h
 exact AThen.n ⟨x9, hG16 _ rfl, wR []⟩
 refine cT <| sr <| ag rfl <| dn <| ok_ret <| AInB.r <| AThen.r ?_
 obtain rfl := O (V h)
 have he16 := hE16 _ rfl
 subst he16
 refine AThen.r <| AInB.r <| AThen.r <| AThen.r ?_
 obtain rfl := O ho16
 exact R1 rfl
 subst hx16
 try dsimp only
 refine AThen.n <| sr <| ag rfl <| dn <| ok_ret ?_
 obtain rfl := O ho16
 exact R1 rfl
end Go.Proofs.YtfoldppidpmchaaGreat
namespace Go.Proofs.YtfoldppidpmchaaGreat
open Go.Fw
noncomputable def law03_Long_m (x0 : List (List Qr)) : Option (Bool) := (loopM (fun (y3l5 : Int) => (show Option ((Int) ⊕ ((Unit) ⊕ (Bool))) from (some (x0.length : Int)).bind fun x6 => (some (decide ((y3l5 : Int) < x6))).bind fun x7 => (bif x7 then letJ (fun (y22j12 : Bool) => (bif y22j12 then some (.inr (.inr true)) else (some (IntKind.i64.wrap (y3l5 + 1))).bind fun x9 => some (.inl x9))) fun K13 => (geti x0 y3l5).bind fun x12 => (some (x12.length : Int)).bind fun x14 => (some (decide ((20 : Int) < x14))).bind fun x15 => (bif x15 then some true else (geti x0 y3l5).bind fun x19 => (law02_Long_m x19).bind fun x21 => some x21).bind fun c22_14 => K13 c22_14 else some (.inr (.inl ()))))) 0).bind fun e10 => match e10 with | .inr v10 => some v10 | .inl _ => some false
noncomputable def law04_Long_m (x0 : List (List (List Qr))) : Option (Bool) := (loopM (fun (y3l8 : Int) => (show Option ((Int) ⊕ ((Unit) ⊕ (Bool))) from (some (x0.length : Int)).bind fun x6 => (some (decide ((y3l8 : Int) < x6))).bind fun x7 => (bif x7 then letJ (fun (y30j21 : Bool) => (bif y30j21 then some (.inr (.inr true)) else (some (IntKind.i64.wrap (y3l8 + 1))).bind fun x9 => some (.inl x9))) fun K22 => (geti x0 y3l8).bind fun x12 => (some (x12.length : Int)).bind fun x14 => (some (decide ((8 : Int) < x14))).bind fun x15 => (bif x15 then some true else (geti x0 y3l8).bind fun x19 => (ref04_Cols_m x19).bind fun x21 => (some (decide ((8 : Int) < x21))).bind fun x22 => some x22).bind fun c23_23 => (bif c23_23 then some true else (geti x0 y3l8).bind fun x27 => (law03_Long_m x27).bind fun x29 => some x29).bind fun c30_26 => K22 c30_26 else some (.inr (.inl ()))))) 0).bind fun e16 => match e16 with | .inr v16 => some v16 | .inl _ => some false
noncomputable def law06_Small_m  : Option (Lr) := (mat_FromInts_m [[3, 5]]).bind fun x3 => (mat_FromInts_m [[1, 0], [0, 2], [3, 2]]).bind fun x8 => (vec_FromInts_m [4, 12, 18]).bind fun x10 => some ⟨2, x3, x8, x10⟩
noncomputable def law06_alive_m  : Option (Bool) := (law06_Small_m).bind fun ⟨x7_0, x7_1, x7_2, x7_3⟩ => (lp_Dual_m ⟨x7_0, x7_1, x7_2, x7_3⟩).bind fun ⟨⟨x10a_0, x10a_1, x10a_2, x10a_3⟩, x10b⟩ => (mat_FromInts_m [[(-4), (-12), (-18)]]).bind fun x15 => (mat_FromInts_m [[(-1), 0, (-3)], [0, (-2), (-2)]]).bind fun x19 => (vec_FromInts_m [(-3), (-5)]).bind fun x21 => (vec_FromInts_m [2, 6]).bind fun x24 => (ref02_Of_m 3 2).bind fun ⟨⟨x26_0, x26_1⟩, ⟨x26_2, x26_3⟩⟩ => (ref02_Int_m 1).bind fun ⟨⟨x27_0, x27_1⟩, ⟨x27_2, x27_3⟩⟩ => letJ (fun (y0j35 : Bool) => some y0j35) fun K36 => (lp_Valid_m ⟨x7_0, x7_1, x7_2, x7_3⟩).bind fun x30 => (bif x30 then (lp_Feasible_m ⟨x7_0, x7_1, x7_2, x7_3⟩ x24).bind fun x34 => some x34 else some false).bind fun c35_37 => (bif c35_37 then (lp_Evaluate_m ⟨x7_0, x7_1, x7_2, x7_3⟩ x24).bind fun x39 => (vec_FromInts_m [36]).bind fun x41 => (vec_Equal_m x39 x41).bind fun x42 => some x42 else some false).bind fun c43_65 => (bif c43_65 then (lp_Slack_m ⟨x7_0, x7_1, x7_2, x7_3⟩ x24).bind fun x47 => (vec_FromInts_m [2, 0, 0]).bind fun x49 => (vec_Equal_m x47 x49).bind fun x50 => some x50 else some false).bind fun c51_66 => (bif c51_66 then (some (decide ((x10b : Int) = 0))).bind fun x54 => some x54 else some false).bind fun c55_67 => (bif c55_67 then (lp_Equal_m ⟨x10a_0, x10a_1, x10a_2, x10a_3⟩ ⟨3, x15, x19, x21⟩).bind fun x59 => some x59 else some false).bind fun c60_68 => (bif c60_68 then (lp_Feasible_m ⟨x10a_0, x10a_1, x10a_2, x10a_3⟩ [⟨⟨false, []⟩, ⟨false, []⟩⟩, ⟨⟨x26_0, x26_1⟩, ⟨x26_2, x26_3⟩⟩, ⟨⟨x27_0, x27_1⟩, ⟨x27_2, x27_3⟩⟩]).bind fun x64 => some x64 else some false).bind fun c65_69 => (bif c65_69 then (lp_Evaluate_m ⟨x10a_0, x10a_1, x10a_2, x10a_3⟩ [⟨⟨false, []⟩, ⟨false, []⟩⟩, ⟨⟨x26_0, x26_1⟩, ⟨x26_2, x26_3⟩⟩, ⟨⟨x27_0, x27_1⟩, ⟨x27_2, x27_3⟩⟩]).bind fun x69 => (vec_FromInts_m [(-36)]).bind fun x71 => (vec_Equal_m x69 x71).bind fun x72 => some x72 else some false).bind fun c73_70 => K36 c73_70
noncomputable def law06_bare_m (x0 : List (List Qr)) : Option (Bool) := (loopM (fun (y3l3 : Int) => (show Option ((Int) ⊕ ((Unit) ⊕ (Bool))) from (some (x0.length : Int)).bind fun x6 => (some (decide ((y3l3 : Int) < x6))).bind fun x7 => (bif x7 then (geti x0 y3l3).bind fun x12 => (some (x12.length : Int)).bind fun x14 => (some (decide ((0 : Int) < x14))).bind fun x15 => (bif x15 then some (.inr (.inr false)) else (some (IntKind.i64.wrap (y3l3 + 1))).bind fun x9 => some (.inl x9)) else some (.inr (.inl ()))))) 0).bind fun e6 => match e6 with | .inr v6 => some v6 | .inl _ => some true
noncomputable def law06_cut_m (x0 : List Qr) : Option (List Qr) := (some (x0.length : Int)).bind fun x5 => (some (min (x5 : Int) 20)).bind fun x6 => (subM x0 0 x6).bind fun x7 => some x7
noncomputable def law06_Long_m (x0 : Lr) : Option (Bool) := match x0 with | ⟨x0_0, x0_1, x0_2, x0_3⟩ => letJ (fun (y2j58 : Bool) => some y2j58) fun K59 => (some (x0_1.length : Int)).bind fun x5 => (some (decide ((6 : Int) < x5))).bind fun x6 => (bif x6 then some true else (some (x0_2.length : Int)).bind fun x10 => (some (decide ((140 : Int) < x10))).bind fun x11 => some x11).bind fun c12_60 => (bif c12_60 then some true else (some (x0_3.length : Int)).bind fun x16 => (some (decide ((140 : Int) < x16))).bind fun x17 => some x17).bind fun c18_110 => (bif c18_110 then some true else (some (x0_2.length : Int)).bind fun x22 => (some (decide ((8 : Int) < x22))).bind fun x23 => (bif x23 then (law06_bare_m x0_2).bind fun x27 => (some (!x27)).bind fun x28 => some x28 else some false).bind fun c29_112 => some c29_112).bind fun c30_111 => (bif c30_111 then some true else (some (x0_2.length : Int)).bind fun x34 => (some (decide ((x34 : Int) ≤ 8))).bind fun x35 => (bif x35 then (law04_Long_m [x0_2]).bind fun x40 => some x40 else some false).bind fun c41_114 => some c41_114).bind fun c42_113 => (bif c42_113 then some true else (law04_Long_m [x0_1]).bind fun x47 => some x47).bind fun c48_115 => (bif c48_115 then some true else (law06_cut_m x0_3).bind fun x52 => (law03_Long_m [x52]).bind fun x54 => some x54).bind fun c55_116 => K59 c55_116
noncomputable def law06_LpConstraints_m (x0 : Lr) (x1 : List Qr) (x2 : List Qr) (x3 : List Qr) (x4 : Qr) : Option (Bool) := match x0 with | ⟨x0_0, x0_1, x0_2, x0_3⟩ => match x4 with | ⟨⟨x4_0, x4_1⟩, ⟨x4_2, x4_3⟩⟩ => letJ (fun (y33j5 : Bool) => (bif y33j5 then (law06_alive_m).bind fun x34 => some x34 else (lp_AddConstraint_m ⟨x0_0, x0_1, x0_2, x0_3⟩ x3 ⟨⟨x4_0, x4_1⟩, ⟨x4_2, x4_3⟩⟩).bind fun ⟨⟨x39a_0, x39a_1, x39a_2, x39a_3⟩, x39b⟩ => (lp_AddEquation_m ⟨x0_0, x0_1, x0_2, x0_3⟩ x3 ⟨⟨x4_0, x4_1⟩, ⟨x4_2, x4_3⟩⟩).bind fun ⟨⟨x46a_0, x46a_1, x46a_2, x46a_3⟩, x46b⟩ => (vec_Dot_m x3 x1).bind fun ⟨⟨x51_0, x51_1⟩, ⟨x51_2, x51_3⟩⟩ => letJ (fun (y94j69 : Bool) => (bif y94j69 then some false else (lp_Compare_m ⟨x0_0, x0_1, x0_2, x0_3⟩ x1 x2).bind fun x98 => (lp_Evaluate_m ⟨x0_0, x0_1, x0_2, x0_3⟩ x1).bind fun x101 => (lp_Evaluate_m ⟨x0_0, x0_1, x0_2, x0_3⟩ x2).bind fun x104 => (vec_Compare_m x101 x104).bind fun x105 => letJ (fun (y140j87 : Bool) => (bif y140j87 then some false else (lp_Slack_m ⟨x0_0, x0_1, x0_2, x0_3⟩ x1).bind fun x144 => (vec_FirstGreater_m [] x144).bind fun ⟨x145a, x145b⟩ => letJ (fun (y10j93 : Bool) => some y10j93) fun K94 => (lp_Feasible_m ⟨x0_0, x0_1, x0_2, x0_3⟩ x1).bind fun x150 => (some (!x150)).bind fun x151 => (bif x151 then some true else (some (!x145b)).bind fun x154 => some x154).bind fun c155_95 => (bif c155_95 then (law06_alive_m).bind fun x157 => some x157 else some false).bind fun c158_98 => K94 c158_98)) fun K88 => (lp_Compare_m ⟨x0_0, x0_1, x0_2, x0_3⟩ x2 x1).bind fun x110 => (some (IntKind.i64.wrap (0 - x110))).bind fun x111 => (some (decide ((x98 : Int) ≠ x111))).bind fun x112 => (bif x112 then some true else (some (decide ((x98 : Int) = 0))).bind fun x115 => (vec_Equal_m x1 x2).bind fun x118 => (some (!(x115 == x118))).bind fun x119 => some x119).bind fun c120_99 => (bif c120_99 then some true else (some (decide ((x105 : Int) ≠ 0))).bind fun x123 => (bif x123 then (some (decide ((x98 : Int) ≠ x105))).bind fun x127 => some x127 else some false).bind fun c128_112 => some c128_112).bind fun c129_111 => (bif c129_111 then some true else (some (decide ((x105 : Int) = 0))).bind fun x132 => (bif x132 then (vec_Compare_m x2 x1).bind fun x137 => (some (decide ((x98 : Int) ≠ x137))).bind fun x138 => some x138 else some false).bind fun c139_114 => some c139_114).bind fun c140_113 => K88 c140_113)) fun K70 => (some (decide ((x39b : Int) = 0))).bind fun x53 => (bif x53 then (lp_Feasible_m ⟨x39a_0, x39a_1, x39a_2, x39a_3⟩ x1).bind fun x57 => (lp_Feasible_m ⟨x0_0, x0_1, x0_2, x0_3⟩ x1).bind fun x60 => (bif x60 then (frac_Cmp_m ⟨⟨x51_0, x51_1⟩, ⟨x51_2, x51_3⟩⟩ ⟨⟨x4_0, x4_1⟩, ⟨x4_2, x4_3⟩⟩).bind fun x64 => (some (decide ((x64 : Int) ≤ 0))).bind fun x65 => some x65 else some false).bind fun c66_116 => (some (!(x57 == c66_116))).bind fun x67 => some x67 else some false).bind fun c68_115 => (bif c68_115 then some true else (some (decide ((x46b : Int) = 0))).bind fun x71 => (bif x71 then (lp_Feasible_m ⟨x46a_0, x46a_1, x46a_2, x46a_3⟩ x1).bind fun x75 => (lp_Feasible_m ⟨x0_0, x0_1, x0_2, x0_3⟩ x1).bind fun x78 => (bif x78 then (frac_Equal_m ⟨⟨x51_0, x51_1⟩, ⟨x51_2, x51_3⟩⟩ ⟨⟨x4_0, x4_1⟩, ⟨x4_2, x4_3⟩⟩).bind fun x82 => some x82 else some false).bind fun c83_174 => (some (!(x75 == c83_174))).bind fun x84 => some x84 else some false).bind fun c85_173 => some c85_173).bind fun c86_172 => (bif c86_172 then some true else (some (decide ((x46b : Int) = 0))).bind fun x89 => (bif x89 then (some (decide ((x39b : Int) ≠ 0))).bind fun x92 => some x92 else some false).bind fun c93_176 => some c93_176).bind fun c94_175 => K70 c94_175)) fun K6 => (law06_Long_m ⟨x0_0, x0_1, x0_2, x0_3⟩).bind fun x21 => (bif x21 then some true else (law03_Long_m [x1, x2, x3]).bind fun x27 => some x27).bind fun c28_177 => (bif c28_177 then some true else (law02_Long_m [⟨⟨x4_0, x4_1⟩, ⟨x4_2, x4_3⟩⟩]).bind fun x32 => some x32).bind fun c33_180 => K6 c33_180
end Go.Proofs.YtfoldppidpmchaaGreat
