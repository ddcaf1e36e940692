/- A part of the proof: the framework, the plain functions, the followed functions, the plain laws. -/
import Derived.Test.YtningmnklfpfjaaPTX2
set_option linter.unusedVariables false
set_option linter.unusedSimpArgs false
namespace Go.Proofs.Ytningmnklfpfjaa
open Go.Fw Go.Fw.Z Go.RowKit
theorem dg{x0:Int}{r:Zr}(h:aY x0=some r):Pure Try.prog 40 [.v (.int .i64 x0)] (.agg (eZ r)):=by
 refine ay Try.func40 rfl (Nat.le_of_ble_eq_true rfl) (fun cS M vs hvs=>?_)
 unfold aY at h
 refine sr<|al (cs:=[.v (.bool false),slc 1 (List.map af [])]) (by exact⟨SV.aa _,imp_nil,trivial⟩) rfl<|dn<|sr<|mv rfl<|lE h fun x5 h5 h=>cv _ rfl (UK.conv h5)<|ag rfl<|dn<|qq<|sr<|mv rfl<|lE h fun x7 h7 h=>ls _ rfl rfl h7<|dn ?_
 refine aF h (fun j2=>AS.bR 14 [(0,.sv (.v (.int .i64 x0))),(2,.ptr 2 0),(3,.sv (.v (.int .u64 ((j2:Nat):Int))))] [(2,⟨50,[.sv (.v (.bool false)),.sv (slc 1 (List.map af []))]⟩)] []) (fun h=>?_) (fun P5 h=>?_)
 cases x7
 exact fs<|⟨x5,(F h),wR []⟩
 exact cT<|ah<|mv rfl<|lE (V h) fun x9 h9 h=>RT.neg .none _ rfl T (UK.neg h9)<|ag rfl<|dn<|⟨x9,h,wR []⟩
 try dsimp only
 refine ae.n<|sr<|mv rfl<|lE h fun iz me h=>ls _ rfl rfl me<|mv rfl ?_
 obtain⟨⟨Bd,Be⟩,fS,h⟩:=bS h
 refine cl (iJ fS) ⟨rfl,rfl,trivial⟩<|so rfl rfl rfl<|dn<|aj ?_
 obtain rfl:=O h
 exact RZ (.agg rfl rfl (.cons rfl (.cons rfl (.nil))) rfl (.nil))
theorem cw{x0:Zr}{r:Int×Bool}(h:cJ x0=some r):Pure Try.prog 67 [.agg (eZ x0)] (.sN [.v (.int .i64 r.1),.v (.bool r.2)]):=by
 obtain⟨aC,aD⟩:=x0
 refine ay Try.func67 rfl (Nat.le_of_ble_eq_true rfl) (fun cS M vs hvs=>?_)
 unfold cJ at h
 refine sr<|bx rfl<|ag rfl<|ag rfl<|dn<|sr<|fa rfl rfl<|lV rfl rfl rfl<|bE h fun x8 h8 h=>cl (aK h8) ⟨rfl,trivial⟩<|ag rfl<|dn<|qq<|sr<|mv rfl<|lE h fun dW fP h=>ln rfl fP<|lE h fun iz me h=>gt _ rfl rfl me<|dn ?_
 cases iz
 refine fs<|sr<|mv rfl<|bE (F h) fun gC fS h=>cl (cL fS) ⟨rfl,trivial⟩<|ag rfl<|dn<|qq<|sr<|fa rfl rfl<|lV rfl rfl rfl<|dn ?_
 cases aC
 refine fs<|qq<|sr<|mv rfl<|lE (F h) fun jS nN h=>ge _ rfl rfl (WQ (p:=9223372036854775808) (q:=gC) nN)<|dn ?_
 cases jS
 refine fs<|sr<|mv rfl<|lE (F h) fun gD lP h=>cv _ rfl lP<|ag rfl<|ag rfl<|dn<|aj ?_
 obtain rfl:=O h
 exact R2 rfl rfl
 refine cT<|sr<|ag rfl<|ag rfl<|dn<|aj<|ae.r ?_
 obtain rfl:=O (V h)
 exact R2 rfl rfl
 refine cT<|qq<|sr<|mv rfl<|lE (V h) fun fR kL h=>gt _ rfl rfl (TK (p:=9223372036854775808) (q:=gC) kL)<|dn ?_
 cases fR
 refine fs<|sr<|mv rfl<|lE (F h) fun k8 jM h=>RT.neg .none _ rfl T (UK.neg jM)<|lE h fun gx lz h=>cv _ rfl lz<|ag rfl<|ag rfl<|dn<|aj<|ae.r ?_
 obtain rfl:=O h
 exact R2 rfl rfl
 refine cT<|sr<|ag rfl<|ag rfl<|dn<|aj<|ae.r<|ae.r ?_
 obtain rfl:=O (V h)
 exact R2 rfl rfl
 refine cT<|sr<|ag rfl<|ag rfl<|dn<|aj<|ae.r ?_
 obtain rfl:=O (V h)
 exact R2 rfl rfl
theorem mE{x0:Bool}{x1:List Nat}{x2:Bool}{x3:List Nat}{r:Zr}(h:bP x0 x1 x2 x3=some r):Pure Try.prog 90 [.v (.bool x0),slc 1 (List.map af x1),.v (.bool x2),slc 1 (List.map af x3)] (.agg (eZ r)):=by
 refine ay Try.func90 rfl (Nat.le_of_ble_eq_true rfl) (fun cS M vs hvs=>?_)
 unfold bP at h
 refine sr<|al (cs:=[.v (.bool false),slc 1 (List.map af [])]) (by exact⟨SV.aa _,imp_nil,trivial⟩) rfl<|dn<|qq<|sr<|mv rfl<|mv rfl<|lE h fun iz me h=>RT.Tl .none _ rfl rfl T me<|dn ?_
 cases iz
 refine fs<|qq<|sr<|mv rfl<|mv rfl<|bE (F h) fun k8 jM h=>cl (cW jM) ⟨rfl,rfl,trivial⟩<|lE h fun gx lz h=>ls _ rfl rfl lz<|dn ?_
 cases gx
 refine fs<|sr<|mv rfl<|mv rfl<|mv rfl<|bE (F h) fun gO iK h=>cl (jV iK) ⟨rfl,rfl,trivial⟩ ?_
 obtain⟨⟨mA,mB⟩,uD,h⟩:=bS h
 refine cl (ec uD) ⟨rfl,rfl,trivial⟩<|so rfl rfl rfl<|dn<|aj ?_
 obtain rfl:=O h
 exact RZ (.agg rfl rfl (.cons rfl (.cons rfl (.nil))) rfl (.nil))
 refine cT<|sr<|mv rfl<|mv rfl<|mv rfl<|bE (V h) fun gD lP h=>cl (jV lP) ⟨rfl,rfl,trivial⟩ ?_
 obtain⟨⟨gQ,gR⟩,pB,h⟩:=bS h
 refine cl (ec pB) ⟨rfl,rfl,trivial⟩<|so rfl rfl rfl<|dn<|aj<|ae.r ?_
 obtain rfl:=O h
 exact RZ (.agg rfl rfl (.cons rfl (.cons rfl (.nil))) rfl (.nil))
 refine cT<|sr<|mv rfl<|mv rfl<|mv rfl<|bE (V h) fun fC gG h=>cl (ni gG) ⟨rfl,rfl,trivial⟩ ?_
 obtain⟨⟨lp,lq⟩,lA,h⟩:=bS h
 refine cl (ec lA) ⟨rfl,rfl,trivial⟩<|so rfl rfl rfl<|dn<|aj<|ae.r ?_
 obtain rfl:=O h
 exact RZ (.agg rfl rfl (.cons rfl (.cons rfl (.nil))) rfl (.nil))
theorem B6{x0:Zr}{x1:Zr}{r:Zr}(h:iH x0 x1=some r):Pure Try.prog 81 [.agg (eZ x0),.agg (eZ x1)] (.agg (eZ r)):=by
 obtain⟨aC,aD⟩:=x0
 obtain⟨bp,bn⟩:=x1
 refine ay Try.func81 rfl (Nat.le_of_ble_eq_true rfl) (fun cS M vs hvs=>?_)
 unfold iH at h
 refine sr<|bx rfl<|bx rfl<|al (cs:=[.v (.bool false),slc 1 (List.map af [])]) (by exact⟨SV.aa _,imp_nil,trivial⟩) rfl<|dn<|sr<|ld rfl rfl (.cons rfl (.cons rfl (.nil))) ?_
 obtain⟨⟨uz,yH⟩,fE,h⟩:=bS h
 refine cl (cw fE) ⟨rfl,trivial⟩<|mv rfl<|ex rfl rfl<|ex rfl rfl<|ag rfl<|ag rfl<|dn<|sr<|ld rfl rfl (.cons rfl (.cons rfl (.nil))) ?_
 obtain⟨⟨vK,yI⟩,kL,h⟩:=bS h
 refine cl (cw kL) ⟨rfl,trivial⟩<|mv rfl<|ex rfl rfl<|ex rfl rfl<|ag rfl<|ag rfl<|dn<|qq<|qq ?_
 refine aF h (fun j3=>AS.bR 48 [(2,.ptr 2 0),(3,.ptr 3 0),(4,.ptr 4 0),(5,.sv (.v (.int .i64 uz))),(7,.sv (.v (.int .i64 vK))),(23,.sv (.v (.bool j3)))] [(4,⟨50,[.sv (.v (.bool false)),.sv (slc 1 (List.map af []))]⟩),(3,⟨50,[.sv (.v (.bool bp)),.sv (slc 1 (List.map af bn))]⟩),(2,⟨50,[.sv (.v (.bool aC)),.sv (slc 1 (List.map af aD))]⟩)] []) (fun h=>?_) (fun qH h=>?_)
 refine ah<|mv rfl<|mv rfl<|bE h fun yJ xb h=>?_
 cases yH
 obtain rfl:=O (F xb)
 exact ww<|pF rfl<|dn<|⟨false,h,wR []⟩
 refine gm rfl ?_
 obtain rfl:=O (V xb)
 exact pT rfl<|dn<|⟨yI,h,wR []⟩
 try dsimp only
 refine ae.n ?_
 refine aF h (fun j5=>AS.bR 48 [(2,.ptr 2 0),(3,.ptr 3 0),(4,.ptr 4 0)] [(4,⟨50,[.sv (.v (.bool false)),.sv (slc 1 (List.map af []))]⟩),(3,⟨50,[.sv (.v (.bool bp)),.sv (slc 1 (List.map af bn))]⟩),(2,⟨50,[.sv (.v (.bool aC)),.sv (slc 1 (List.map af aD))]⟩)] []) (fun h=>?_) (fun j5 h=>?_)
 cases qH
 exact fs<|⟨(),(F h),wR []⟩
 refine cT<|sr<|mv rfl<|mv rfl<|lE (V h) fun kz nO h=>ad _ rfl rfl nO<|ag rfl<|dn<|sr<|mv rfl<|mv rfl<|lE h fun gO iK h=>RT.xor .none _ rfl rfl T iK<|mv rfl<|mv rfl<|lE h fun ig jK h=>RT.xor .none _ rfl rfl T jK<|lE h fun o8 pD h=>RT.and .none _ rfl rfl T pD<|lE h fun nY pC h=>ge _ rfl rfl pC<|dn ?_
 cases nY
 exact fs<|⟨(),(F h),wR []⟩
 refine cT<|sr<|mv rfl ?_
 obtain⟨⟨qJ,qK⟩,ot,h⟩:=bS (V h)
 refine cl (dg ot) ⟨rfl,trivial⟩<|so rfl rfl rfl<|dn<|aj<|ae.r<|ae.r ?_
 obtain rfl:=O h
 exact RZ (.agg rfl rfl (.cons rfl (.cons rfl (.nil))) rfl (.nil))
 try dsimp only
 refine ae.n<|qq<|ai mixed<|fa rfl rfl<|lV rfl rfl rfl<|fa rfl rfl<|lV rfl rfl rfl<|bE h fun qF w7 h=>cl (aK w7) ⟨rfl,trivial⟩<|fa rfl rfl<|lV rfl rfl rfl<|fa rfl rfl<|lV rfl rfl rfl<|bE h fun rV h46 h=>cl (aK h46) ⟨rfl,trivial⟩ ?_
 obtain⟨⟨Bf,Bg⟩,yR,h⟩:=bS h
 refine cl (mE yR) ⟨rfl,rfl,rfl,rfl,trivial⟩<|so rfl rfl rfl ?_
 refine RT.done ⟨by kernel_rfl,?_⟩
 refine ae.n<|aj ?_
 obtain rfl:=O h
 exact RZ (.agg rfl rfl (.cons rfl (.cons rfl (.nil))) rfl (.nil))
theorem B7{x0:Zr}{x1:Zr}{r:Zr}(h:iI x0 x1=some r):Pure Try.prog 83 [.agg (eZ x0),.agg (eZ x1)] (.agg (eZ r)):=by
 obtain⟨aC,aD⟩:=x0
 obtain⟨bp,bn⟩:=x1
 refine ay Try.func83 rfl (Nat.le_of_ble_eq_true rfl) (fun cS M vs hvs=>?_)
 unfold iI at h
 refine sr<|bx rfl<|bx rfl<|al (cs:=[.v (.bool false),slc 1 (List.map af [])]) (by exact⟨SV.aa _,imp_nil,trivial⟩) rfl<|dn<|sr<|ld rfl rfl (.cons rfl (.cons rfl (.nil))) ?_
 obtain⟨⟨uz,yH⟩,fE,h⟩:=bS h
 refine cl (cw fE) ⟨rfl,trivial⟩<|mv rfl<|ex rfl rfl<|ex rfl rfl<|ag rfl<|ag rfl<|dn<|sr<|ld rfl rfl (.cons rfl (.cons rfl (.nil))) ?_
 obtain⟨⟨vK,yI⟩,kL,h⟩:=bS h
 refine cl (cw kL) ⟨rfl,trivial⟩<|mv rfl<|ex rfl rfl<|ex rfl rfl<|ag rfl<|ag rfl<|dn<|qq<|qq ?_
 refine aF h (fun j3=>AS.bR 49 [(2,.ptr 2 0),(3,.ptr 3 0),(4,.ptr 4 0),(5,.sv (.v (.int .i64 uz))),(7,.sv (.v (.int .i64 vK))),(23,.sv (.v (.bool j3)))] [(4,⟨50,[.sv (.v (.bool false)),.sv (slc 1 (List.map af []))]⟩),(3,⟨50,[.sv (.v (.bool bp)),.sv (slc 1 (List.map af bn))]⟩),(2,⟨50,[.sv (.v (.bool aC)),.sv (slc 1 (List.map af aD))]⟩)] []) (fun h=>?_) (fun qH h=>?_)
 refine ah<|mv rfl<|mv rfl<|bE h fun yJ xb h=>?_
 cases yH
 obtain rfl:=O (F xb)
 exact ww<|pF rfl<|dn<|⟨false,h,wR []⟩
 refine gm rfl ?_
 obtain rfl:=O (V xb)
 exact pT rfl<|dn<|⟨yI,h,wR []⟩
 try dsimp only
 refine ae.n ?_
 refine aF h (fun j5=>AS.bR 49 [(2,.ptr 2 0),(3,.ptr 3 0),(4,.ptr 4 0)] [(4,⟨50,[.sv (.v (.bool false)),.sv (slc 1 (List.map af []))]⟩),(3,⟨50,[.sv (.v (.bool bp)),.sv (slc 1 (List.map af bn))]⟩),(2,⟨50,[.sv (.v (.bool aC)),.sv (slc 1 (List.map af aD))]⟩)] []) (fun h=>?_) (fun j5 h=>?_)
 cases qH
 exact fs<|⟨(),(F h),wR []⟩
 refine cT<|sr<|mv rfl<|mv rfl<|lE (V h) fun kz nO h=>sb _ rfl rfl nO<|ag rfl<|dn<|sr<|mv rfl<|mv rfl<|lE h fun gO iK h=>RT.xor .none _ rfl rfl T iK<|mv rfl<|mv rfl<|lE h fun ig jK h=>RT.xor .none _ rfl rfl T jK<|lE h fun o8 pD h=>RT.and .none _ rfl rfl T pD<|lE h fun nY pC h=>ge _ rfl rfl pC<|dn ?_
 cases nY
 exact fs<|⟨(),(F h),wR []⟩
 refine cT<|sr<|mv rfl ?_
 obtain⟨⟨qJ,qK⟩,ot,h⟩:=bS (V h)
 refine cl (dg ot) ⟨rfl,trivial⟩<|so rfl rfl rfl<|dn<|aj<|ae.r<|ae.r ?_
 obtain rfl:=O h
 exact RZ (.agg rfl rfl (.cons rfl (.cons rfl (.nil))) rfl (.nil))
 try dsimp only
 refine ae.n<|qq<|ai mixed<|fa rfl rfl<|lV rfl rfl rfl<|fa rfl rfl<|lV rfl rfl rfl<|bE h fun qF w7 h=>cl (aK w7) ⟨rfl,trivial⟩<|fa rfl rfl<|lV rfl rfl rfl<|lE h fun vI w9 h=>nt rfl _ w9<|fa rfl rfl<|lV rfl rfl rfl<|bE h fun yC yR h=>cl (aK yR) ⟨rfl,trivial⟩ ?_
 obtain⟨⟨Jj,Jk⟩,h48,h⟩:=bS h
 refine cl (mE h48) ⟨rfl,rfl,rfl,rfl,trivial⟩<|so rfl rfl rfl ?_
 refine RT.done ⟨by kernel_rfl,?_⟩
 refine ae.n<|aj ?_
 obtain rfl:=O h
 exact RZ (.agg rfl rfl (.cons rfl (.cons rfl (.nil))) rfl (.nil))
theorem c6{x0:Zr}{x1:Zr}{r:Zr}(h:bV x0 x1=some r):Pure Try.prog 59 [.agg (eZ x0),.agg (eZ x1)] (.agg (eZ r)):=by
 obtain⟨aC,aD⟩:=x0
 obtain⟨bp,bn⟩:=x1
 refine ay Try.func59 rfl (Nat.le_of_ble_eq_true rfl) (fun cS M vs hvs=>?_)
 unfold bV at h
 refine sr<|bx rfl<|bx rfl<|al (cs:=[.v (.bool false),slc 1 (List.map af [])]) (by exact⟨SV.aa _,imp_nil,trivial⟩) rfl<|dn<|qq<|ai mixed<|fa rfl rfl<|lV rfl rfl rfl<|bE h fun x9 h9 h=>cl (aK h9) ⟨rfl,trivial⟩<|fa rfl rfl<|lV rfl rfl rfl<|bE h fun eG fE h=>cl (aK fE) ⟨rfl,trivial⟩<|ag rfl<|ag rfl ?_
 refine RT.done ⟨by kernel_rfl,?_⟩
 refine ae.n<|qq<|qq ?_
 refine aF h (fun j3=>AS.bR 41 [(2,.ptr 2 0),(3,.ptr 3 0),(4,.ptr 4 0),(5,.sv (slc 1 (List.map af x9))),(6,.sv (slc 1 (List.map af eG))),(20,.sv (.v (.bool j3)))] [(4,⟨50,[.sv (.v (.bool false)),.sv (slc 1 (List.map af []))]⟩),(3,⟨50,[.sv (.v (.bool bp)),.sv (slc 1 (List.map af bn))]⟩),(2,⟨50,[.sv (.v (.bool aC)),.sv (slc 1 (List.map af aD))]⟩)] []) (fun h=>?_) (fun Dh h=>?_)
 refine ah<|mv rfl<|lE h fun gY ku h=>ln rfl ku<|lE h fun fC gG h=>RT.leq .none _ rfl rfl T gG<|mv rfl<|bE h fun Jn kS h=>?_
 cases fC
 obtain rfl:=O (F kS)
 exact ww<|ww<|ww<|pF rfl<|dn<|⟨false,h,wR []⟩
 refine gm rfl<|lE (V kS) fun fg ij kS=>gn rfl ij<|lE kS fun k8 jM kS=>RT.leq (.some rfl rfl) _ rfl rfl T jM ?_
 obtain rfl:=O kS
 exact pT rfl<|dn<|⟨k8,h,wR []⟩
 try dsimp only
 refine ae.n ?_
 cases Dh
 refine fs<|qq<|ai mixed<|fa rfl rfl<|lV rfl rfl rfl<|fa rfl rfl<|lV rfl rfl rfl<|lE (F h) fun oQ ot h=>RT.GP .none _ rfl rfl T ot<|mv rfl<|mv rfl<|bE h fun rX Ay h=>cl (uB Ay) ⟨rfl,rfl,trivial⟩ ?_
 obtain⟨⟨qL,qM⟩,nh,h⟩:=bS h
 refine cl (ec nh) ⟨rfl,rfl,trivial⟩<|so rfl rfl rfl ?_
 refine RT.done ⟨by kernel_rfl,?_⟩
 refine ae.n<|aj ?_
 obtain rfl:=O h
 exact RZ (.agg rfl rfl (.cons rfl (.cons rfl (.nil))) rfl (.nil))
 refine cT<|qq<|ai mixed<|fa rfl rfl<|lV rfl rfl rfl<|fa rfl rfl<|lV rfl rfl rfl<|lE (V h) fun vp pB h=>RT.GP .none _ rfl rfl T pB<|mv rfl<|bE h fun lf oR h=>cl (cL oR) ⟨rfl,trivial⟩<|mv rfl<|bE h fun gO iK h=>cl (cL iK) ⟨rfl,trivial⟩<|lE h fun yB uD h=>RT.mul .none _ rfl rfl T (UK.mul (a:=lf) (b:=gO) uD) ?_
 obtain⟨⟨Jl,Jm⟩,uA,h⟩:=bS h
 refine cl (iJ uA) ⟨rfl,rfl,trivial⟩<|so rfl rfl rfl ?_
 refine RT.done ⟨by kernel_rfl,?_⟩
 refine ae.n<|aj<|ae.r ?_
 obtain rfl:=O h
 exact RZ (.agg rfl rfl (.cons rfl (.cons rfl (.nil))) rfl (.nil))
theorem jW{x0:Zr}{r:Zr}(h:dZ x0=some r):Pure Try.prog 66 [.agg (eZ x0)] (.agg (eZ r)):=by
 obtain⟨aC,aD⟩:=x0
 refine ay Try.func66 rfl (Nat.le_of_ble_eq_true rfl) (fun cS M vs hvs=>?_)
 unfold dZ at h
 refine sr<|bx rfl<|al (cs:=[.v (.bool false),slc 1 (List.map af [])]) (by exact⟨SV.aa _,imp_nil,trivial⟩) rfl<|dn<|qq<|ai mixed<|fa rfl rfl<|lV rfl rfl rfl<|lE h fun x5 h5 h=>nt rfl _ h5<|fa rfl rfl<|lV rfl rfl rfl<|bE h fun x8 h8 h=>cl (aK h8) ⟨rfl,trivial⟩<|bE h fun x9 h9 h=>cl (lO h9) ⟨rfl,trivial⟩ ?_
 obtain⟨⟨yK,yL⟩,fP,h⟩:=bS h
 refine cl (ec fP) ⟨rfl,rfl,trivial⟩<|so rfl rfl rfl ?_
 refine RT.done ⟨by kernel_rfl,?_⟩
 refine ae.n<|aj ?_
 obtain rfl:=O h
 exact RZ (.agg rfl rfl (.cons rfl (.cons rfl (.nil))) rfl (.nil))
theorem dB{x0:Zr}{r:Int}(h:cf x0=some r):Pure Try.prog 44 [.agg (eZ x0)] (.v (.int .i64 r)):=by
 obtain⟨aC,aD⟩:=x0
 refine ay Try.func44 rfl (Nat.le_of_ble_eq_true rfl) (fun cS M vs hvs=>?_)
 unfold cf at h
 refine sr<|bx rfl<|ag rfl<|dn<|qq<|aq<|sr<|fa rfl rfl<|lV rfl rfl rfl<|bE h fun x6 h6 h=>cl (aK h6) ⟨rfl,trivial⟩<|lE h fun x7 h7 h=>ln rfl h7<|lE h fun x8 h8 h=>eq _ rfl rfl (rR (p:=x7) (q:=0) h8)<|ag rfl<|dn ?_
 cases x8
 refine cF<|sr<|fa rfl rfl<|lV rfl rfl rfl<|ag rfl<|dn ?_
 replace h:=F h
 cases aC
 refine cF<|aG<|aH.n<|ae.n<|sr<|ag rfl<|dn<|aj ?_
 obtain rfl:=O (F h)
 exact R1 rfl
 refine cT<|sr<|ag rfl<|dn<|aj<|aH.r<|ae.r ?_
 obtain rfl:=O (V h)
 exact R1 rfl
 refine cT<|sr<|ag rfl<|dn<|aj<|aH.r<|ae.r ?_
 obtain rfl:=O (V h)
 exact R1 rfl
theorem B8{x0:Zr}{x1:Zr}{r:Int}(h:lu x0 x1=some r):Pure Try.prog 58 [.agg (eZ x0),.agg (eZ x1)] (.v (.int .i64 r)):=by
 obtain⟨aC,aD⟩:=x0
 obtain⟨bp,bn⟩:=x1
 refine ay Try.func58 rfl (Nat.le_of_ble_eq_true rfl) (fun cS M vs hvs=>?_)
 unfold lu at h
 refine sr<|bx rfl<|bx rfl<|ag rfl<|dn<|qq<|ai mixed<|ld rfl rfl (.cons rfl (.cons rfl (.nil)))<|bE h fun x8 h8 h=>cl (dB h8) ⟨rfl,trivial⟩<|ld rfl rfl (.cons rfl (.cons rfl (.nil)))<|bE h fun dW fP h=>cl (dB fP) ⟨rfl,trivial⟩<|ag rfl<|ag rfl ?_
 refine RT.done ⟨by kernel_rfl,?_⟩
 refine ae.n<|qq<|aq<|sr<|mv rfl<|mv rfl<|lE h fun gY ku h=>ls _ rfl rfl ku<|ag rfl<|dn ?_
 cases gY
 refine cF<|sr<|mv rfl<|mv rfl<|lE (F h) fun fg ij h=>gt _ rfl rfl ij<|ag rfl<|dn ?_
 cases fg
 refine cF<|sr<|mv rfl<|lE (F h) fun mc qO h=>ls _ rfl rfl qO<|ag rfl<|dn ?_
 cases mc
 refine cF<|aG<|aH.n<|ae.n<|qq<|ai mixed<|fa rfl rfl<|lV rfl rfl rfl<|bE (F h) fun qg uA h=>cl (aK uA) ⟨rfl,trivial⟩<|fa rfl rfl<|lV rfl rfl rfl<|bE h fun nY pC h=>cl (aK pC) ⟨rfl,trivial⟩<|bE h fun uo B3 h=>cl (cW B3) ⟨rfl,rfl,trivial⟩<|ag rfl ?_
 refine RT.done ⟨by kernel_rfl,?_⟩
 refine ae.n<|aj ?_
 obtain rfl:=O h
 exact R1 rfl
 refine cT<|qq<|ai mixed<|fa rfl rfl<|lV rfl rfl rfl<|bE (V h) fun gD lP h=>cl (aK lP) ⟨rfl,trivial⟩<|fa rfl rfl<|lV rfl rfl rfl<|bE h fun lf oR h=>cl (aK oR) ⟨rfl,trivial⟩<|bE h fun og uC h=>cl (cW uC) ⟨rfl,rfl,trivial⟩<|ag rfl ?_
 refine RT.done ⟨by kernel_rfl,?_⟩
 refine ae.n<|aj<|aH.r<|ae.r ?_
 obtain rfl:=O h
 exact R1 rfl
 refine cT<|sr<|ag rfl<|dn<|aj<|aH.r<|ae.r ?_
 obtain rfl:=O (V h)
 exact R1 rfl
 refine cT<|sr<|ag rfl<|dn<|aj<|aH.r<|ae.r ?_
 obtain rfl:=O (V h)
 exact R1 rfl
theorem pX{x0:Zr}{x1:Zr}{r:Zr×Zr×Int}(h:cY x0 x1=some r):Pure Try.prog 69 [.agg (eZ x0),.agg (eZ x1)] (.sN [.agg (eZ r.1),.agg (eZ r.2.1),.v (.int .i64 r.2.2)]):=by
 obtain⟨aC,aD⟩:=x0
 obtain⟨bp,bn⟩:=x1
 refine ay Try.func69 rfl (Nat.le_of_ble_eq_true rfl) (fun cS M vs hvs=>?_)
 unfold cY at h
 refine sr<|bx rfl<|bx rfl<|al (cs:=[.v (.bool false),slc 1 (List.map af [])]) (by exact⟨SV.aa _,imp_nil,trivial⟩) rfl<|al (cs:=[.v (.bool false),slc 1 (List.map af [])]) (by exact⟨SV.aa _,imp_nil,trivial⟩) rfl<|ag rfl<|dn<|qq<|ai mixed<|fa rfl rfl<|lV rfl rfl rfl<|bE h fun gC fS h=>cl (aK fS) ⟨rfl,trivial⟩<|fa rfl rfl<|lV rfl rfl rfl ?_
 refine bE h fun jN lA h=>cl (aK lA) ⟨rfl,trivial⟩<|ag rfl<|ag rfl ?_
 refine RT.done ⟨by kernel_rfl,?_⟩
 refine ae.n<|qq<|sr<|mv rfl<|lE h fun fg ij h=>ln rfl ij<|lE h fun k8 jM h=>eq _ rfl rfl (rR (p:=fg) (q:=0) jM)<|dn ?_
 cases k8
 refine fs<|sr<|mv rfl<|mv rfl ?_
 obtain⟨⟨Di,P6⟩,pB,h⟩:=bS (F h)
 refine cl (nm pB) ⟨rfl,rfl,trivial⟩<|mv rfl<|ex rfl rfl<|ex rfl rfl<|ag rfl<|ag rfl<|dn<|sr<|mv rfl<|bE h fun gO iK h=>cl (aK iK) ⟨rfl,trivial⟩<|ag rfl<|dn<|qq<|qq ?_
 refine aF h (fun j3=>AS.bR 52 [(2,.ptr 2 0),(3,.ptr 3 0),(4,.ptr 4 0),(5,.ptr 5 0),(8,.sv (slc 1 (List.map af jN))),(9,.sv (slc 1 (List.map af Di))),(10,.sv (slc 1 (List.map af gO))),(36,.sv (.v (.bool j3.1)))] [(5,⟨50,[.sv (.v (.bool false)),.sv (slc 1 (List.map af []))]⟩),(4,⟨50,[.sv (.v (.bool false)),.sv (slc 1 (List.map af []))]⟩),(3,⟨50,[.sv (.v (.bool bp)),.sv (slc 1 (List.map af bn))]⟩),(2,⟨50,[.sv (.v (.bool j3.2)),.sv (slc 1 (List.map af aD))]⟩)] []) (fun h=>?_) (fun j3 h=>?_)
 refine ah<|fa rfl rfl<|lV rfl rfl rfl<|mv rfl<|bE h fun Jr xb h=>?_
 cases aC
 obtain rfl:=O (F xb)
 exact ww<|ww<|ww<|pF rfl<|dn<|⟨(false,false),h,wR []⟩
 refine gm rfl<|lE (V xb) fun nY pC xb=>gn rfl pC<|lE xb fun uo B3 xb=>gg _ rfl rfl B3 ?_
 obtain rfl:=O xb
 exact pT rfl<|dn<|⟨(uo,true),h,wR []⟩
 obtain⟨Dj,yM⟩:=j3
 try dsimp only
 refine ae.n ?_
 refine aF h (fun j5=>AS.bR 52 [(2,.ptr 2 0),(3,.ptr 3 0),(4,.ptr 4 0),(5,.ptr 5 0),(9,.sv (slc 1 (List.map af j5.1))),(10,.sv (slc 1 (List.map af j5.2)))] [(5,⟨50,[.sv (.v (.bool false)),.sv (slc 1 (List.map af []))]⟩),(4,⟨50,[.sv (.v (.bool false)),.sv (slc 1 (List.map af []))]⟩),(3,⟨50,[.sv (.v (.bool bp)),.sv (slc 1 (List.map af bn))]⟩),(2,⟨50,[.sv (.v (.bool yM)),.sv (slc 1 (List.map af aD))]⟩)] []) (fun h=>?_) (fun j5 h=>?_)
 cases Dj
 exact fs<|⟨(Di,gO),(F h),wR []⟩
 exact cT<|sr<|mv rfl<|bl (l:=[1]) (e:=af) (.one rfl (.nil)) rfl rfl rfl rfl rfl rfl<|bE (V h) fun rX Ay h=>cl (ni Ay) ⟨rfl,rfl,trivial⟩<|ag rfl<|dn<|ah<|mv rfl<|mv rfl<|bE h fun qj w8 h=>cl (jV w8) ⟨rfl,rfl,trivial⟩<|ag rfl<|dn<|⟨(rX,qj),h,wR []⟩
 obtain⟨P7,Jo⟩:=j5
 try dsimp only
 refine ae.n<|sr<|fa rfl rfl<|lV rfl rfl rfl<|fa rfl rfl<|lV rfl rfl rfl<|lE h fun yC yR h=>RT.GP .none _ rfl rfl T yR<|mv rfl ?_
 obtain⟨⟨Jp,Jq⟩,Mm,h⟩:=bS h
 refine cl (ec Mm) ⟨rfl,rfl,trivial⟩<|mv rfl ?_
 obtain⟨⟨yN,yO⟩,B4,h⟩:=bS h
 refine cl (ec B4) ⟨rfl,rfl,trivial⟩<|so rfl rfl rfl<|so rfl rfl rfl<|ag rfl<|dn<|aj ?_
 obtain rfl:=O h
 exact RZ (.agg rfl rfl (.cons rfl (.cons rfl (.nil))) rfl (.agg rfl rfl (.cons rfl (.cons rfl (.nil))) rfl (.tmp rfl (.nil))))
 refine cT<|sr<|bI (cs:=[_,_]) (cs':=[.v (.bool false),slc 1 (List.map af [])]) (.nil) ⟨SV.aa _,imp_nil,trivial⟩<|bI (cs:=[_,_]) (cs':=[.v (.bool false),slc 1 (List.map af [])]) (.nil) ⟨SV.aa _,imp_nil,trivial⟩<|so rfl rfl rfl<|so rfl rfl rfl<|ag rfl<|dn<|aj<|ae.r ?_
 obtain rfl:=O (V h)
 exact RZ (.agg rfl rfl (.cons rfl (.cons rfl (.nil))) rfl (.agg rfl rfl (.cons rfl (.cons rfl (.nil))) rfl (.tmp rfl (.nil))))
theorem B9{x0:Zr}{x1:Zr}{r:Zr}(h:gy x0 x1=some r):Pure Try.prog 68 [.agg (eZ x0),.agg (eZ x1)] (.agg (eZ r)):=by
 obtain⟨aC,aD⟩:=x0
 obtain⟨bp,bn⟩:=x1
 refine ay Try.func68 rfl (Nat.le_of_ble_eq_true rfl) (fun cS M vs hvs=>?_)
 unfold gy at h
 refine sr<|bx rfl<|bx rfl<|al (cs:=[.v (.bool false),slc 1 (List.map af [])]) (by exact⟨SV.aa _,imp_nil,trivial⟩) rfl<|dn<|qq<|ai mixed<|fa rfl rfl<|lV rfl rfl rfl<|bE h fun gC fS h=>cl (aK fS) ⟨rfl,trivial⟩<|fa rfl rfl<|lV rfl rfl rfl<|bE h fun jN lA h=>cl (aK lA) ⟨rfl,trivial⟩<|ag rfl<|ag rfl ?_
 refine RT.done ⟨by kernel_rfl,?_⟩
 refine ae.n<|qq<|bE h fun I5 Fj ik=>?_
 refine aW (fun(oq:(List Nat)×(List Nat))=>AS.bR 57 [(4,.ptr 4 0),(5,.sv (slc 1 (List.map af oq.1))),(6,.sv (slc 1 (List.map af oq.2)))] [(4,⟨50,[.sv (.v (.bool false)),.sv (slc 1 (List.map af []))]⟩)] []) (fun oq=>oq=I5) ?_ (fun oq Fk=>?_)
 refine aq ?_
 refine aX Fj (fun uw=>AS.bR 57 [(4,.ptr 4 0),(5,.sv (slc 1 (List.map af uw.1))),(6,.sv (slc 1 (List.map af uw.2)))] [(4,⟨50,[.sv (.v (.bool false)),.sv (slc 1 (List.map af []))]⟩)] []) (wR []) (fun uw Xn Xo h Fl Fm=>?_)
 obtain⟨BZ,vL⟩:=uw
 try dsimp only
 refine qq<|qq ?_
 refine aF h (fun Uu=>AS.bR 57 [(4,.ptr 4 0),(5,.sv (slc 1 (List.map af BZ))),(6,.sv (slc 1 (List.map af vL))),(29,.sv (.v (.bool Uu)))] [(4,⟨50,[.sv (.v (.bool false)),.sv (slc 1 (List.map af []))]⟩)] []) (fun h=>?_) (fun yP h=>?_)
 refine ah<|mv rfl<|lE h fun fg ij h=>ln rfl ij<|lE h fun k8 jM h=>gt _ rfl rfl jM<|mv rfl<|bE h fun E7 lB h=>?_
 cases k8
 obtain rfl:=O (F lB)
 exact ww<|ww<|ww<|ww<|wu<|wu<|wu<|ww<|pF rfl<|dn<|⟨false,h,wR []⟩
 refine gm rfl<|lE (V lB) fun jS nN lB=>gn rfl nN<|lE lB fun lN sj lB=>gg _ rfl rfl sj<|gm rfl<|bE lB fun E6 qh lB=>?_
 cases lN
 refine gm rfl<|lE (F qh) fun kz nO qh=>gn rfl nO<|lE qh fun lf oR qh=>gg _ rfl rfl oR ?_
 obtain rfl:=O qh
 refine gF rfl ?_
 obtain rfl:=O lB
 exact pT rfl<|dn<|⟨lf,h,wR []⟩
 obtain rfl:=O (V qh)
 refine ww<|ww<|ww<|gT rfl ?_
 obtain rfl:=O lB
 exact pT rfl<|dn<|⟨true,h,wR []⟩
 try dsimp only
 refine ae.n ?_
 cases yP
 refine cF<|bj<|ae.x<|ae.x<|aH.x<|ae.n ?_
 obtain rfl:=O (F h)
 exact⟨(BZ,vL),Fm _ rfl,wR []⟩
 refine cT<|aG<|ae.n<|aq<|sr<|mv rfl<|mv rfl ?_
 obtain⟨⟨Ui,P8⟩,pD,h⟩:=bS (V h)
 refine cl (nm pD) ⟨rfl,rfl,trivial⟩<|mv rfl<|ex rfl rfl<|ex rfl rfl<|ag rfl<|ag rfl<|dn<|ah<|mv rfl<|mv rfl<|bE h fun w6 Dm h=>cl (aK Dm) ⟨rfl,trivial⟩<|ag rfl<|ag rfl<|RT.done<|aH.n ?_
 obtain rfl:=O h
 exact ae.n ⟨(vL,w6),Fl _ rfl,wR []⟩
 subst Fk
 obtain⟨Ga,Gb⟩:=oq
 try dsimp only
 refine ae.n<|qq<|sr<|mv rfl<|lE ik fun mw nh ik=>ln rfl nh<|lE ik fun qF w7 ik=>eq _ rfl rfl (rR (p:=mw) (q:=0) w7)<|dn ?_
 cases qF
 refine fs<|sr<|mv rfl<|bE (F ik) fun rV h46 ik=>cl (cL h46) ⟨rfl,trivial⟩<|mv rfl<|bE ik fun ur h48 ik=>cl (cL h48) ⟨rfl,trivial⟩<|ag rfl<|ag rfl<|dn<|qq<|bE ik fun XA Q5 Fp=>?_
 refine aW (fun(qN:Nat)=>AS.bR 57 [(4,.ptr 4 0),(9,.sv (.v (.int .u64 ((qN:Nat):Int))))] [(4,⟨50,[.sv (.v (.bool false)),.sv (slc 1 (List.map af []))]⟩)] []) (fun qN=>qN=XA) ?_ (fun qN Q6=>?_)
 refine aq ?_
 refine aX Q5 (fun Js=>AS.bR 57 [(4,.ptr 4 0),(9,.sv (.v (.int .u64 ((Js.1:Nat):Int)))),(10,.sv (.v (.int .u64 ((Js.2:Nat):Int))))] [(4,⟨50,[.sv (.v (.bool false)),.sv (slc 1 (List.map af []))]⟩)] []) (wR []) (fun Js y24 G24 h Q7 Q8=>?_)
 obtain⟨Bj,pA⟩:=Js
 try dsimp only
 refine qq<|sr<|mv rfl<|lE h fun sI Ax h=>gt _ rfl rfl (TK (p:=0) (q:=pA) Ax)<|dn ?_
 cases sI
 refine cF<|bj<|ae.x<|ae.x<|aH.x<|ae.n ?_
 obtain rfl:=O (F h)
 exact⟨Bj,Q8 _ rfl,wR []⟩
 refine cT<|aG<|ae.n<|aq<|ai mixed<|mv rfl<|mv rfl<|mv rfl<|bE (V h) fun Jt Mp h=>RT.rem .none _ rfl rfl T (SW Mp) (GY Mp)<|ag rfl<|ag rfl ?_
 refine RT.done ⟨by kernel_rfl,?_⟩
 refine aH.n ?_
 obtain rfl:=O h
 exact ae.n ⟨(pA,Jt),Q7 _ rfl,wR []⟩
 subst Q6
 try dsimp only
 refine ae.n<|sr<|mv rfl ?_
 obtain⟨⟨Ju,Jv⟩,Fh,Fp⟩:=bS Fp
 refine cl (iJ Fh) ⟨rfl,rfl,trivial⟩<|so rfl rfl rfl<|dn<|aj ?_
 obtain rfl:=O Fp
 exact RZ (.agg rfl rfl (.cons rfl (.cons rfl (.nil))) rfl (.nil))
 refine cT<|sr<|mv rfl<|bE (V ik) fun rU Aj ik=>cl (lO Aj) ⟨rfl,trivial⟩ ?_
 obtain⟨⟨Bh,Bi⟩,w9,ik⟩:=bS ik
 refine cl (ec w9) ⟨rfl,rfl,trivial⟩<|so rfl rfl rfl<|dn<|aj<|ae.r ?_
 obtain rfl:=O ik
 exact RZ (.agg rfl rfl (.cons rfl (.cons rfl (.nil))) rfl (.nil))
end Go.Proofs.Ytningmnklfpfjaa
namespace Go.Proofs.Ytningmnklfpfjaa
open Go.Fw
noncomputable def dI(x0:Zr)(x1:Zr)(x2:Zr)(x3:Zr):Option (Zr×Zr):=match x0 with|⟨aC,aD⟩=>match x1 with|⟨bp,bn⟩=>match x2 with|⟨jX,jY⟩=>match x3 with|⟨sn,sq⟩=>(bV ⟨aC,aD⟩ ⟨sn,sq⟩).bind fun⟨gS,gU⟩=>(bV ⟨jX,jY⟩ ⟨bp,bn⟩).bind fun⟨iM,iN⟩=>(iH ⟨gS,gU⟩ ⟨iM,iN⟩).bind fun⟨lp,lq⟩=>(bV ⟨bp,bn⟩ ⟨sn,sq⟩).bind fun⟨kC,kD⟩=>some (⟨lp,lq⟩,⟨kC,kD⟩)
noncomputable def dJ(x0:Zr)(x1:Zr)(x2:Zr)(x3:Zr):Option (Zr×Zr):=match x0 with|⟨aC,aD⟩=>match x1 with|⟨bp,bn⟩=>match x2 with|⟨jX,jY⟩=>match x3 with|⟨sn,sq⟩=>(bV ⟨aC,aD⟩ ⟨sn,sq⟩).bind fun⟨gS,gU⟩=>(bV ⟨jX,jY⟩ ⟨bp,bn⟩).bind fun⟨iM,iN⟩=>(iI ⟨gS,gU⟩ ⟨iM,iN⟩).bind fun⟨lp,lq⟩=>(bV ⟨bp,bn⟩ ⟨sn,sq⟩).bind fun⟨kC,kD⟩=>some (⟨lp,lq⟩,⟨kC,kD⟩)
noncomputable def dK(x0:Zr)(x1:Zr)(x2:Zr)(x3:Zr):Option (Zr×Zr):=match x0 with|⟨aC,aD⟩=>match x1 with|⟨bp,bn⟩=>match x2 with|⟨jX,jY⟩=>match x3 with|⟨sn,sq⟩=>(bV ⟨aC,aD⟩ ⟨jX,jY⟩).bind fun⟨gS,gU⟩=>(bV ⟨bp,bn⟩ ⟨sn,sq⟩).bind fun⟨iM,iN⟩=>some (⟨gS,gU⟩,⟨iM,iN⟩)
noncomputable def fU(x0:Zr)(x1:Zr)(x2:Zr)(x3:Zr):Option (Zr×Zr):=match x0 with|⟨aC,aD⟩=>match x1 with|⟨bp,bn⟩=>match x2 with|⟨jX,jY⟩=>match x3 with|⟨sn,sq⟩=>(bV ⟨aC,aD⟩ ⟨sn,sq⟩).bind fun⟨gS,gU⟩=>(bV ⟨bp,bn⟩ ⟨jX,jY⟩).bind fun⟨iM,iN⟩=>some (⟨gS,gU⟩,⟨iM,iN⟩)
noncomputable def cg(x0:Qr):Option (Zr×Zr):=match x0 with|⟨⟨aC,aD⟩,⟨aL,aM⟩⟩=>(cf ⟨aL,aM⟩).bind fun x6=>(some (decide ((x6:Int)=0))).bind fun x8=>(bif x8 then(aY 1).bind fun⟨NU,NV⟩=>some (⟨aC,aD⟩,⟨NU,NV⟩)else(some (decide ((x6:Int)=(-1)))).bind fun gC=>(bif gC then(dZ ⟨aC,aD⟩).bind fun⟨lp,lq⟩=>(dZ ⟨aL,aM⟩).bind fun⟨kC,kD⟩=>some (⟨lp,lq⟩,⟨kC,kD⟩)else some (⟨aC,aD⟩,⟨aL,aM⟩)))
noncomputable def cZ(x0:Zr)(x1:Zr):Option (Qr):=match x0 with|⟨aC,aD⟩=>match x1 with|⟨bp,bn⟩=>(cf ⟨bp,bn⟩).bind fun x9=>(some (decide ((x9:Int)<0))).bind fun dW=>cQ (fun(j2:Bool×(List Nat)×Bool×(List Nat))=>match j2 with|⟨Ca,Cb,Cc,Cd⟩=>(gy ⟨Cc,Cd⟩ ⟨Ca,Cb⟩).bind fun⟨uE,uF⟩=>(cY ⟨Cc,Cd⟩ ⟨uE,uF⟩).bind fun⟨⟨pE,pG⟩,⟨JI,JJ⟩,Uv⟩=>(cY ⟨Ca,Cb⟩ ⟨uE,uF⟩).bind fun⟨⟨pH,pI⟩,⟨JK,JM⟩,Uw⟩=>(cJ ⟨pH,pI⟩).bind fun⟨JN,JO⟩=>cQ (fun(Dt:Bool)=>cQ (fun(j7:Bool×(List Nat))=>match j7 with|⟨yS,yT⟩=>some ⟨⟨pE,pG⟩,⟨yS,yT⟩⟩) fun K7=>(bif Dt then K7 (false,[])else K7 (pH,pI))) fun K5=>(bif JO then(some (decide ((JN:Int)=1))).bind fun mw=>some mw else some false).bind fun JP=>K5 JP) fun K2=>(bif dW then(dZ ⟨aC,aD⟩).bind fun⟨gS,gU⟩=>(dZ ⟨bp,bn⟩).bind fun⟨Du,Dv⟩=>K2 (Du,Dv,gS,gU)else K2 (bp,bn,aC,aD))
noncomputable def cM(x0:Qr):Option (Int×Int×Bool):=match x0 with|⟨⟨aC,aD⟩,⟨aL,aM⟩⟩=>(cJ ⟨aC,aD⟩).bind fun⟨Ce,Ux⟩=>(cJ ⟨aL,aM⟩).bind fun⟨Az,Uy⟩=>cQ (fun(Fq:Bool)=>(bif Fq then some (0,0,false)else(some (decide ((Az:Int)=0))).bind fun rU=>cQ (fun(S3:Int×Int)=>match S3 with|⟨NW,NX⟩=>some (NW,NX,true)) fun K24=>(bif rU then K24 (Ce,1)else(some (decide ((Az:Int)<0))).bind fun rV=>cQ (fun(NY:Int×Int)=>match NY with|⟨JQ,JR⟩=>K24 (JQ,JR)) fun VY=>(bif rV then(some (IntKind.i64.wrap (0-Ce))).bind fun ur=>(some (IntKind.i64.wrap (0-Az))).bind fun sI=>VY (ur,sI)else VY (Ce,Az))))) fun VZ=>(some (!Ux)).bind fun gx=>(bif gx then some true else(some (!Uy)).bind fun lN=>some lN).bind fun JS=>(bif JS then some true else(some (decide ((Ce:Int)≤(-2147483648)))).bind fun lf=>some lf).bind fun Q9=>(bif Q9 then some true else(some (decide ((2147483648:Int)≤Ce))).bind fun qg=>some qg).bind fun Ra=>(bif Ra then some true else(some (decide ((Az:Int)≤(-2147483648)))).bind fun uo=>some uo).bind fun Rb=>(bif Rb then some true else(some (decide ((2147483648:Int)≤Az))).bind fun rX=>some rX).bind fun Rc=>VZ Rc
noncomputable def dG(x0:Int)(x1:Int):Option (Qr):=(cq (fun(s6:Int×Int)=>match s6 with|⟨oc,Cf⟩=>(show Option ((Int×Int)⊕(Int))from(some (decide ((Cf:Int)≠0))).bind fun dW=>(bif dW then(GX oc Cf).bind fun gY=>some (.inl (Cf,gY))else some (.inr oc)))) (x0,x1)).bind fun tg=>(some (decide ((tg:Int)<0))).bind fun jN=>cQ (fun(Dw:Int)=>(some (decide ((Dw:Int)=x1))).bind fun mc=>(bif mc then(uj x0 Dw).bind fun gD=>(aY gD).bind fun⟨gQ,gR⟩=>some ⟨⟨gQ,gR⟩,⟨false,[]⟩⟩else(uj x0 Dw).bind fun gO=>(aY gO).bind fun⟨mA,mB⟩=>(uj x1 Dw).bind fun o8=>(aY o8).bind fun⟨Dx,Dy⟩=>some ⟨⟨mA,mB⟩,⟨Dx,Dy⟩⟩)) fun K8=>(bif jN then(some (IntKind.i64.wrap (0-tg))).bind fun fg=>K8 fg else K8 tg)
noncomputable def nn(x0:Int):Option (Int):=(some (decide ((x0:Int)<0))).bind fun x5=>(bif x5 then some (-1)else(some (decide ((0:Int)<x0))).bind fun x8=>(bif x8 then some 1 else some 0))
noncomputable def eW(x1:Qr)(x2:Qr):Option (Qr):=match x1 with|⟨⟨bp,bn⟩,⟨eO,eP⟩⟩=>match x2 with|⟨⟨jX,jY⟩,⟨uG,uH⟩⟩=>(cg ⟨⟨bp,bn⟩,⟨eO,eP⟩⟩).bind fun⟨⟨gH,gI⟩,⟨iq,ir⟩⟩=>(cg ⟨⟨jX,jY⟩,⟨uG,uH⟩⟩).bind fun⟨⟨gJ,gK⟩,⟨iu,iv⟩⟩=>(dI ⟨gH,gI⟩ ⟨iq,ir⟩ ⟨gJ,gK⟩ ⟨iu,iv⟩).bind fun⟨⟨iO,iP⟩,⟨iQ,iS⟩⟩=>(cZ ⟨iO,iP⟩ ⟨iQ,iS⟩).bind fun⟨⟨lj,kA⟩,⟨nq,nu⟩⟩=>some ⟨⟨lj,kA⟩,⟨nq,nu⟩⟩
noncomputable def eX(x1:Qr)(x2:Qr):Option (Qr):=match x1 with|⟨⟨bp,bn⟩,⟨eO,eP⟩⟩=>match x2 with|⟨⟨jX,jY⟩,⟨uG,uH⟩⟩=>(cg ⟨⟨bp,bn⟩,⟨eO,eP⟩⟩).bind fun⟨⟨gH,gI⟩,⟨iq,ir⟩⟩=>(cg ⟨⟨jX,jY⟩,⟨uG,uH⟩⟩).bind fun⟨⟨gJ,gK⟩,⟨iu,iv⟩⟩=>(dJ ⟨gH,gI⟩ ⟨iq,ir⟩ ⟨gJ,gK⟩ ⟨iu,iv⟩).bind fun⟨⟨iO,iP⟩,⟨iQ,iS⟩⟩=>(cZ ⟨iO,iP⟩ ⟨iQ,iS⟩).bind fun⟨⟨lj,kA⟩,⟨nq,nu⟩⟩=>some ⟨⟨lj,kA⟩,⟨nq,nu⟩⟩
noncomputable def eY(x1:Qr)(x2:Qr):Option (Qr):=match x1 with|⟨⟨bp,bn⟩,⟨eO,eP⟩⟩=>match x2 with|⟨⟨jX,jY⟩,⟨uG,uH⟩⟩=>(cg ⟨⟨bp,bn⟩,⟨eO,eP⟩⟩).bind fun⟨⟨gH,gI⟩,⟨iq,ir⟩⟩=>(cg ⟨⟨jX,jY⟩,⟨uG,uH⟩⟩).bind fun⟨⟨gJ,gK⟩,⟨iu,iv⟩⟩=>(dK ⟨gH,gI⟩ ⟨iq,ir⟩ ⟨gJ,gK⟩ ⟨iu,iv⟩).bind fun⟨⟨iO,iP⟩,⟨iQ,iS⟩⟩=>(cZ ⟨iO,iP⟩ ⟨iQ,iS⟩).bind fun⟨⟨lj,kA⟩,⟨nq,nu⟩⟩=>some ⟨⟨lj,kA⟩,⟨nq,nu⟩⟩
noncomputable def iT(x1:Qr)(x2:Qr):Option (Qr):=match x1 with|⟨⟨bp,bn⟩,⟨eO,eP⟩⟩=>match x2 with|⟨⟨jX,jY⟩,⟨uG,uH⟩⟩=>(cg ⟨⟨bp,bn⟩,⟨eO,eP⟩⟩).bind fun⟨⟨gH,gI⟩,⟨iq,ir⟩⟩=>(cg ⟨⟨jX,jY⟩,⟨uG,uH⟩⟩).bind fun⟨⟨gJ,gK⟩,⟨iu,iv⟩⟩=>(fU ⟨gH,gI⟩ ⟨iq,ir⟩ ⟨gJ,gK⟩ ⟨iu,iv⟩).bind fun⟨⟨iO,iP⟩,⟨iQ,iS⟩⟩=>(cZ ⟨iO,iP⟩ ⟨iQ,iS⟩).bind fun⟨⟨lj,kA⟩,⟨nq,nu⟩⟩=>some ⟨⟨lj,kA⟩,⟨nq,nu⟩⟩
noncomputable def cy(x0:Int):Option (Qr):=(aY x0).bind fun⟨Rd,Re⟩=>some ⟨⟨Rd,Re⟩,⟨false,[]⟩⟩
noncomputable def bM(x0:Qr):Option (Qr):=match x0 with|⟨⟨aC,aD⟩,⟨aL,aM⟩⟩=>(cM ⟨⟨aC,aD⟩,⟨aL,aM⟩⟩).bind fun⟨XB,XC,Uz⟩=>(bif Uz then(dG XB XC).bind fun⟨⟨iM,iN⟩,⟨Bm,Bn⟩⟩=>some ⟨⟨iM,iN⟩,⟨Bm,Bn⟩⟩else(cg ⟨⟨aC,aD⟩,⟨aL,aM⟩⟩).bind fun⟨⟨Fs,Ft⟩,⟨Fu,Fv⟩⟩=>(cZ ⟨Fs,Ft⟩ ⟨Fu,Fv⟩).bind fun⟨⟨JU,JV⟩,⟨JW,JX⟩⟩=>some ⟨⟨JU,JV⟩,⟨JW,JX⟩⟩)
noncomputable def fF(x0:Qr):Option (Int):=match x0 with|⟨⟨aC,aD⟩,⟨aL,aM⟩⟩=>(cf ⟨aL,aM⟩).bind fun x5=>(some (decide ((x5:Int)<0))).bind fun x6=>(bif x6 then(cf ⟨aC,aD⟩).bind fun x9=>(some (IntKind.i64.wrap (0-x9))).bind fun dW=>some dW else(cf ⟨aC,aD⟩).bind fun gC=>some gC)
noncomputable def jF(x0:Qr)(x1:Qr):Option (Qr):=match x0 with|⟨⟨aC,aD⟩,⟨aL,aM⟩⟩=>match x1 with|⟨⟨bp,bn⟩,⟨eO,eP⟩⟩=>(cM ⟨⟨aC,aD⟩,⟨aL,aM⟩⟩).bind fun⟨qP,pJ,qQ⟩=>(cM ⟨⟨bp,bn⟩,⟨eO,eP⟩⟩).bind fun⟨qR,pK,qS⟩=>cQ (fun(lC:Bool)=>(bif lC then(some (IntKind.i64.wrap (qP*pK))).bind fun gO=>(some (IntKind.i64.wrap (qR*pJ))).bind fun ig=>(some (IntKind.i64.wrap (gO+ig))).bind fun o8=>(some (IntKind.i64.wrap (pJ*pK))).bind fun oQ=>(dG o8 oQ).bind fun⟨⟨yU,yV⟩,⟨yW,yX⟩⟩=>some ⟨⟨yU,yV⟩,⟨yW,yX⟩⟩else(eW ⟨⟨aC,aD⟩,⟨aL,aM⟩⟩ ⟨⟨bp,bn⟩,⟨eO,eP⟩⟩).bind fun⟨⟨qL,qM⟩,⟨yY,yZ⟩⟩=>some ⟨⟨qL,qM⟩,⟨yY,yZ⟩⟩)) fun K3=>(bif qQ then some qS else some false).bind fun qT=>K3 qT
noncomputable def jG(x0:Qr)(x1:Qr):Option (Qr):=match x0 with|⟨⟨aC,aD⟩,⟨aL,aM⟩⟩=>match x1 with|⟨⟨bp,bn⟩,⟨eO,eP⟩⟩=>(cM ⟨⟨aC,aD⟩,⟨aL,aM⟩⟩).bind fun⟨qP,pJ,qQ⟩=>(cM ⟨⟨bp,bn⟩,⟨eO,eP⟩⟩).bind fun⟨qR,pK,qS⟩=>cQ (fun(lC:Bool)=>(bif lC then(some (IntKind.i64.wrap (qP*pK))).bind fun gO=>(some (IntKind.i64.wrap (qR*pJ))).bind fun ig=>(some (IntKind.i64.wrap (gO-ig))).bind fun o8=>(some (IntKind.i64.wrap (pJ*pK))).bind fun oQ=>(dG o8 oQ).bind fun⟨⟨yU,yV⟩,⟨yW,yX⟩⟩=>some ⟨⟨yU,yV⟩,⟨yW,yX⟩⟩else(eX ⟨⟨aC,aD⟩,⟨aL,aM⟩⟩ ⟨⟨bp,bn⟩,⟨eO,eP⟩⟩).bind fun⟨⟨qL,qM⟩,⟨yY,yZ⟩⟩=>some ⟨⟨qL,qM⟩,⟨yY,yZ⟩⟩)) fun K3=>(bif qQ then some qS else some false).bind fun qT=>K3 qT
noncomputable def iU(x0:Qr)(x1:Qr):Option (Qr):=match x0 with|⟨⟨aC,aD⟩,⟨aL,aM⟩⟩=>match x1 with|⟨⟨bp,bn⟩,⟨eO,eP⟩⟩=>(cM ⟨⟨aC,aD⟩,⟨aL,aM⟩⟩).bind fun⟨qP,pJ,qQ⟩=>(cM ⟨⟨bp,bn⟩,⟨eO,eP⟩⟩).bind fun⟨qR,pK,qS⟩=>cQ (fun(lC:Bool)=>(bif lC then(some (IntKind.i64.wrap (qP*qR))).bind fun gO=>(some (IntKind.i64.wrap (pJ*pK))).bind fun ig=>(dG gO ig).bind fun⟨⟨JY,JZ⟩,⟨J0,J1⟩⟩=>some ⟨⟨JY,JZ⟩,⟨J0,J1⟩⟩else(eY ⟨⟨aC,aD⟩,⟨aL,aM⟩⟩ ⟨⟨bp,bn⟩,⟨eO,eP⟩⟩).bind fun⟨⟨qJ,qK⟩,⟨J2,J3⟩⟩=>some ⟨⟨qJ,qK⟩,⟨J2,J3⟩⟩)) fun K3=>(bif qQ then some qS else some false).bind fun qT=>K3 qT
noncomputable def mF(x0:Qr)(x1:Qr):Option (Qr×Int):=match x0 with|⟨⟨aC,aD⟩,⟨aL,aM⟩⟩=>match x1 with|⟨⟨bp,bn⟩,⟨eO,eP⟩⟩=>(fF ⟨⟨bp,bn⟩,⟨eO,eP⟩⟩).bind fun gC=>(some (decide ((gC:Int)=0))).bind fun gY=>(bif gY then some (⟨⟨false,[]⟩,⟨false,[]⟩⟩,7)else(cM ⟨⟨aC,aD⟩,⟨aL,aM⟩⟩).bind fun⟨J4,Mq,Rf⟩=>(cM ⟨⟨bp,bn⟩,⟨eO,eP⟩⟩).bind fun⟨Hh,Hi,Rg⟩=>cQ (fun(y4:Bool)=>(bif y4 then(some (decide ((Hh:Int)<0))).bind fun o8=>cQ (fun(j6:Int×Int)=>match j6 with|⟨UA,UB⟩=>(some (IntKind.i64.wrap (UA*Hi))).bind fun mw=>(some (IntKind.i64.wrap (Mq*UB))).bind fun rU=>(dG mw rU).bind fun⟨⟨Bh,Bi⟩,⟨NZ,N0⟩⟩=>some (⟨⟨Bh,Bi⟩,⟨NZ,N0⟩⟩,0)) fun K6=>(bif o8 then(some (IntKind.i64.wrap (0-J4))).bind fun uo=>(some (IntKind.i64.wrap (0-Hh))).bind fun si=>K6 (uo,si)else K6 (J4,Hh))else(iT ⟨⟨aC,aD⟩,⟨aL,aM⟩⟩ ⟨⟨bp,bn⟩,⟨eO,eP⟩⟩).bind fun⟨⟨Bf,Bg⟩,⟨N3,N4⟩⟩=>some (⟨⟨Bf,Bg⟩,⟨N3,N4⟩⟩,0))) fun K3=>(bif Rf then some Rg else some false).bind fun N5=>K3 N5)
noncomputable def mG(x0:Qr):Option (Qr):=match x0 with|⟨⟨aC,aD⟩,⟨aL,aM⟩⟩=>(bM ⟨⟨aC,aD⟩,⟨aL,aM⟩⟩).bind fun⟨⟨AA,Dz⟩,⟨AB,Cg⟩⟩=>(dZ ⟨AA,Dz⟩).bind fun⟨uI,uJ⟩=>some ⟨⟨uI,uJ⟩,⟨AB,Cg⟩⟩
noncomputable def mH(x0:Qr)(x1:Qr):Option (Int):=match x0 with|⟨⟨aC,aD⟩,⟨aL,aM⟩⟩=>match x1 with|⟨⟨bp,bn⟩,⟨eO,eP⟩⟩=>(cg ⟨⟨aC,aD⟩,⟨aL,aM⟩⟩).bind fun⟨⟨gH,gI⟩,⟨iq,ir⟩⟩=>(cg ⟨⟨bp,bn⟩,⟨eO,eP⟩⟩).bind fun⟨⟨gJ,gK⟩,⟨iu,iv⟩⟩=>(cf ⟨gH,gI⟩).bind fun jS=>(cf ⟨gJ,gK⟩).bind fun gD=>cQ (fun(y4:Bool)=>(bif y4 then(some (IntKind.i64.wrap (jS-gD))).bind fun nY=>(nn nY).bind fun uo=>some uo else(bV ⟨gH,gI⟩ ⟨iu,iv⟩).bind fun⟨N6,N7⟩=>(bV ⟨gJ,gK⟩ ⟨iq,ir⟩).bind fun⟨N8,N9⟩=>(lu ⟨N6,N7⟩ ⟨N8,N9⟩).bind fun qj=>some qj)) fun K3=>(some (decide ((jS:Int)≠gD))).bind fun lf=>(bif lf then some true else(some (decide ((jS:Int)=0))).bind fun yB=>some yB).bind fun Oa=>K3 Oa
end Go.Proofs.Ytningmnklfpfjaa
namespace Go.Proofs.Ytningmnklfpfjaa
open Go.Fw Go.Fw.Z Go.RowKit
abbrev J5:List (Value×Value):=[(.int .u8 43,.agg #[.func (.func 80) #[] #[]]),(.int .u8 45,.agg #[.func (.func 82) #[] #[]]),(.int .u8 42,.agg #[.func (.func 84) #[] #[]]),(.int .u8 47,.agg #[.func (.func 85) #[] #[]])]
theorem dh:Pure Try.prog 74 [] (IS J5):=by
 refine ay Try.func74 rfl (Nat.le_of_ble_eq_true rfl) (fun cS M vs hvs=>?_)
 refine aP<|ah<|RT.BN .none rfl T<|RT.done<|ae.n<|aP<|Me (Nat.le_of_ble_eq_true rfl) rfl rfl rfl (fun S' h0=>?_)
 exact aj (R1 h0)
theorem qV{x0:Zr}{x1:Zr}{x2:Zr}{x3:Zr}{r:Zr×Zr}(h:dI x0 x1 x2 x3=some r):Pure Try.prog 80 [.agg (eZ x0),.agg (eZ x1),.agg (eZ x2),.agg (eZ x3)] (.sN [.agg (eZ r.1),.agg (eZ r.2)]):=by
 obtain⟨aC,aD⟩:=x0
 obtain⟨bp,bn⟩:=x1
 obtain⟨jX,jY⟩:=x2
 obtain⟨sn,sq⟩:=x3
 refine ay Try.func80 rfl (Nat.le_of_ble_eq_true rfl) (fun cS M vs hvs=>?_)
 unfold dI at h
 refine sr<|bx rfl<|bx rfl<|bx rfl<|bx rfl<|al (cs:=[.v (.bool false),slc 1 (List.map af [])]) (by exact⟨SV.aa _,imp_nil,trivial⟩) rfl<|al (cs:=[.v (.bool false),slc 1 (List.map af [])]) (by exact⟨SV.aa _,imp_nil,trivial⟩) rfl<|dn<|qq<|ai mixed<|ld rfl rfl (.cons rfl (.cons rfl (.nil)))<|ld rfl rfl (.cons rfl (.cons rfl (.nil))) ?_
 obtain⟨⟨gS,gU⟩,fE,h⟩:=bS h
 refine cl (c6 fE) ⟨rfl,rfl,trivial⟩<|ld rfl rfl (.cons rfl (.cons rfl (.nil)))<|ld rfl rfl (.cons rfl (.cons rfl (.nil))) ?_
 obtain⟨⟨iM,iN⟩,gG,h⟩:=bS h
 refine cl (c6 gG) ⟨rfl,rfl,trivial⟩ ?_
 obtain⟨⟨lp,lq⟩,lA,h⟩:=bS h
 refine cl (B6 lA) ⟨rfl,rfl,trivial⟩<|ld rfl rfl (.cons rfl (.cons rfl (.nil)))<|ld rfl rfl (.cons rfl (.cons rfl (.nil))) ?_
 obtain⟨⟨kC,kD⟩,jM,h⟩:=bS h
 refine cl (c6 jM) ⟨rfl,rfl,trivial⟩<|so rfl rfl rfl<|so rfl rfl rfl ?_
 refine RT.done ⟨by kernel_rfl,?_⟩
 refine ae.n<|aj ?_
 obtain rfl:=O h
 exact RZ (.agg rfl rfl (.cons rfl (.cons rfl (.nil))) rfl (.agg rfl rfl (.cons rfl (.cons rfl (.nil))) rfl (.nil)))
theorem qW{x0:Zr}{x1:Zr}{x2:Zr}{x3:Zr}{r:Zr×Zr}(h:dJ x0 x1 x2 x3=some r):Pure Try.prog 82 [.agg (eZ x0),.agg (eZ x1),.agg (eZ x2),.agg (eZ x3)] (.sN [.agg (eZ r.1),.agg (eZ r.2)]):=by
 obtain⟨aC,aD⟩:=x0
 obtain⟨bp,bn⟩:=x1
 obtain⟨jX,jY⟩:=x2
 obtain⟨sn,sq⟩:=x3
 refine ay Try.func82 rfl (Nat.le_of_ble_eq_true rfl) (fun cS M vs hvs=>?_)
 unfold dJ at h
 refine sr<|bx rfl<|bx rfl<|bx rfl<|bx rfl<|al (cs:=[.v (.bool false),slc 1 (List.map af [])]) (by exact⟨SV.aa _,imp_nil,trivial⟩) rfl<|al (cs:=[.v (.bool false),slc 1 (List.map af [])]) (by exact⟨SV.aa _,imp_nil,trivial⟩) rfl<|dn<|qq<|ai mixed<|ld rfl rfl (.cons rfl (.cons rfl (.nil)))<|ld rfl rfl (.cons rfl (.cons rfl (.nil))) ?_
 obtain⟨⟨gS,gU⟩,fE,h⟩:=bS h
 refine cl (c6 fE) ⟨rfl,rfl,trivial⟩<|ld rfl rfl (.cons rfl (.cons rfl (.nil)))<|ld rfl rfl (.cons rfl (.cons rfl (.nil))) ?_
 obtain⟨⟨iM,iN⟩,gG,h⟩:=bS h
 refine cl (c6 gG) ⟨rfl,rfl,trivial⟩ ?_
 obtain⟨⟨lp,lq⟩,lA,h⟩:=bS h
 refine cl (B7 lA) ⟨rfl,rfl,trivial⟩<|ld rfl rfl (.cons rfl (.cons rfl (.nil)))<|ld rfl rfl (.cons rfl (.cons rfl (.nil))) ?_
 obtain⟨⟨kC,kD⟩,jM,h⟩:=bS h
 refine cl (c6 jM) ⟨rfl,rfl,trivial⟩<|so rfl rfl rfl<|so rfl rfl rfl ?_
 refine RT.done ⟨by kernel_rfl,?_⟩
 refine ae.n<|aj ?_
 obtain rfl:=O h
 exact RZ (.agg rfl rfl (.cons rfl (.cons rfl (.nil))) rfl (.agg rfl rfl (.cons rfl (.cons rfl (.nil))) rfl (.nil)))
theorem qX{x0:Zr}{x1:Zr}{x2:Zr}{x3:Zr}{r:Zr×Zr}(h:dK x0 x1 x2 x3=some r):Pure Try.prog 84 [.agg (eZ x0),.agg (eZ x1),.agg (eZ x2),.agg (eZ x3)] (.sN [.agg (eZ r.1),.agg (eZ r.2)]):=by
 obtain⟨aC,aD⟩:=x0
 obtain⟨bp,bn⟩:=x1
 obtain⟨jX,jY⟩:=x2
 obtain⟨sn,sq⟩:=x3
 refine ay Try.func84 rfl (Nat.le_of_ble_eq_true rfl) (fun cS M vs hvs=>?_)
 unfold dK at h
 refine sr<|bx rfl<|bx rfl<|bx rfl<|bx rfl<|al (cs:=[.v (.bool false),slc 1 (List.map af [])]) (by exact⟨SV.aa _,imp_nil,trivial⟩) rfl<|al (cs:=[.v (.bool false),slc 1 (List.map af [])]) (by exact⟨SV.aa _,imp_nil,trivial⟩) rfl<|dn<|qq<|ai mixed<|ld rfl rfl (.cons rfl (.cons rfl (.nil)))<|ld rfl rfl (.cons rfl (.cons rfl (.nil))) ?_
 obtain⟨⟨gS,gU⟩,fE,h⟩:=bS h
 refine cl (c6 fE) ⟨rfl,rfl,trivial⟩<|ld rfl rfl (.cons rfl (.cons rfl (.nil)))<|ld rfl rfl (.cons rfl (.cons rfl (.nil))) ?_
 obtain⟨⟨iM,iN⟩,gG,h⟩:=bS h
 refine cl (c6 gG) ⟨rfl,rfl,trivial⟩<|so rfl rfl rfl<|so rfl rfl rfl ?_
 refine RT.done ⟨by kernel_rfl,?_⟩
 refine ae.n<|aj ?_
 obtain rfl:=O h
 exact RZ (.agg rfl rfl (.cons rfl (.cons rfl (.nil))) rfl (.agg rfl rfl (.cons rfl (.cons rfl (.nil))) rfl (.nil)))
theorem qY{x0:Zr}{x1:Zr}{x2:Zr}{x3:Zr}{r:Zr×Zr}(h:fU x0 x1 x2 x3=some r):Pure Try.prog 85 [.agg (eZ x0),.agg (eZ x1),.agg (eZ x2),.agg (eZ x3)] (.sN [.agg (eZ r.1),.agg (eZ r.2)]):=by
 obtain⟨aC,aD⟩:=x0
 obtain⟨bp,bn⟩:=x1
 obtain⟨jX,jY⟩:=x2
 obtain⟨sn,sq⟩:=x3
 refine ay Try.func85 rfl (Nat.le_of_ble_eq_true rfl) (fun cS M vs hvs=>?_)
 unfold fU at h
 refine sr<|bx rfl<|bx rfl<|bx rfl<|bx rfl<|al (cs:=[.v (.bool false),slc 1 (List.map af [])]) (by exact⟨SV.aa _,imp_nil,trivial⟩) rfl<|al (cs:=[.v (.bool false),slc 1 (List.map af [])]) (by exact⟨SV.aa _,imp_nil,trivial⟩) rfl<|dn<|qq<|ai mixed<|ld rfl rfl (.cons rfl (.cons rfl (.nil)))<|ld rfl rfl (.cons rfl (.cons rfl (.nil))) ?_
 obtain⟨⟨gS,gU⟩,fE,h⟩:=bS h
 refine cl (c6 fE) ⟨rfl,rfl,trivial⟩<|ld rfl rfl (.cons rfl (.cons rfl (.nil)))<|ld rfl rfl (.cons rfl (.cons rfl (.nil))) ?_
 obtain⟨⟨iM,iN⟩,gG,h⟩:=bS h
 refine cl (c6 gG) ⟨rfl,rfl,trivial⟩<|so rfl rfl rfl<|so rfl rfl rfl ?_
 refine RT.done ⟨by kernel_rfl,?_⟩
 refine ae.n<|aj ?_
 obtain rfl:=O h
 exact RZ (.agg rfl rfl (.cons rfl (.cons rfl (.nil))) rfl (.agg rfl rfl (.cons rfl (.cons rfl (.nil))) rfl (.nil)))
theorem bw{x0:Qr}{r:Zr×Zr}(h:cg x0=some r):Pure Try.prog 55 [.agg (eQ x0)] (.sN [.agg (eZ r.1),.agg (eZ r.2)]):=by
 obtain⟨⟨aC,aD⟩,⟨aL,aM⟩⟩:=x0
 refine ay Try.func55 rfl (Nat.le_of_ble_eq_true rfl) (fun cS M vs hvs=>?_)
 unfold cg at h
 refine sr<|bx rfl<|al (cs:=[.v (.bool false),slc 1 (List.map af [])]) (by exact⟨SV.aa _,imp_nil,trivial⟩) rfl<|al (cs:=[.v (.bool false),slc 1 (List.map af [])]) (by exact⟨SV.aa _,imp_nil,trivial⟩) rfl<|dn<|qq<|sr<|fa rfl rfl<|ld rfl rfl (.cons rfl (.cons rfl (.nil)))<|bE h fun x6 h6 h=>cl (dB h6) ⟨rfl,trivial⟩<|dn<|aq<|sr<|lE h fun x8 h8 h=>eq _ rfl rfl (rR (p:=x6) (q:=0) h8) ?_
 refine ag rfl<|dn ?_
 cases x8
 refine cF<|sr<|lE (F h) fun gC fS h=>eq _ rfl rfl (rR (p:=x6) (q:=(-1)) fS)<|ag rfl<|dn ?_
 cases gC
 refine cF<|aG<|aH.n<|ae.n<|qq<|ai mixed<|fa rfl rfl<|ld rfl rfl (.cons rfl (.cons rfl (.nil)))<|fa rfl rfl<|ld rfl rfl (.cons rfl (.cons rfl (.nil)))<|so rfl rfl rfl<|so rfl rfl rfl ?_
 refine RT.done ⟨by kernel_rfl,?_⟩
 refine ae.n<|aj ?_
 obtain rfl:=O (F h)
 exact RZ (.agg rfl rfl (.cons rfl (.cons rfl (.nil))) rfl (.agg rfl rfl (.cons rfl (.cons rfl (.nil))) rfl (.nil)))
 refine cT<|qq<|ai mixed<|fa rfl rfl<|ld rfl rfl (.cons rfl (.cons rfl (.nil))) ?_
 obtain⟨⟨lp,lq⟩,lA,h⟩:=bS (V h)
 refine cl (jW lA) ⟨rfl,trivial⟩<|fa rfl rfl<|ld rfl rfl (.cons rfl (.cons rfl (.nil))) ?_
 obtain⟨⟨kC,kD⟩,jM,h⟩:=bS h
 refine cl (jW jM) ⟨rfl,trivial⟩<|so rfl rfl rfl<|so rfl rfl rfl ?_
 refine RT.done ⟨by kernel_rfl,?_⟩
 refine ae.n<|aj<|aH.r<|ae.r ?_
 obtain rfl:=O h
 exact RZ (.agg rfl rfl (.cons rfl (.cons rfl (.nil))) rfl (.agg rfl rfl (.cons rfl (.cons rfl (.nil))) rfl (.nil)))
 refine cT<|qq<|ai mixed<|fa rfl rfl<|ld rfl rfl (.cons rfl (.cons rfl (.nil))) ?_
 obtain⟨⟨NU,NV⟩,me,h⟩:=bS (V h)
 refine cl (dg me) ⟨rfl,trivial⟩<|so rfl rfl rfl<|so rfl rfl rfl ?_
 refine RT.done ⟨by kernel_rfl,?_⟩
 refine ae.n<|aj<|aH.r<|ae.r ?_
 obtain rfl:=O h
 exact RZ (.agg rfl rfl (.cons rfl (.cons rfl (.nil))) rfl (.agg rfl rfl (.cons rfl (.cons rfl (.nil))) rfl (.nil)))
theorem iV{x0:Zr}{x1:Zr}{r:Qr}(h:cZ x0 x1=some r):Pure Try.prog 54 [.agg (eZ x0),.agg (eZ x1)] (.agg (eQ r)):=by
 obtain⟨aC,aD⟩:=x0
 obtain⟨bp,bn⟩:=x1
 refine ay Try.func54 rfl (Nat.le_of_ble_eq_true rfl) (fun cS M vs hvs=>?_)
 unfold cZ at h
 refine sr<|bx rfl<|bx rfl<|al (cs:=[.v (.bool false),slc 1 (List.map af []),.v (.bool false),slc 1 (List.map af [])]) (by exact⟨SV.aa _,imp_nil,SV.aa _,imp_nil,trivial⟩) rfl<|dn<|qq<|sr<|ld rfl rfl (.cons rfl (.cons rfl (.nil)))<|bE h fun x9 h9 h=>cl (dB h9) ⟨rfl,trivial⟩<|lE h fun dW fP h=>ls _ rfl rfl fP<|dn ?_
 refine aF h (fun j2=>AS.bR 46 [(2,.ptr 2 0),(3,.ptr 3 0),(4,.ptr 4 0)] [(4,⟨52,[.sv (.v (.bool false)),.sv (slc 1 (List.map af [])),.sv (.v (.bool false)),.sv (slc 1 (List.map af []))]⟩),(3,⟨50,[.sv (.v (.bool j2.1)),.sv (slc 1 (List.map af j2.2.1))]⟩),(2,⟨50,[.sv (.v (.bool j2.2.2.1)),.sv (slc 1 (List.map af j2.2.2.2))]⟩)] []) (fun h=>?_) (fun j2 h=>?_)
 cases dW
 exact fs<|⟨(bp,bn,aC,aD),(F h),wR []⟩
 refine cT<|ai mixed<|ld rfl rfl (.cons rfl (.cons rfl (.nil))) ?_
 obtain⟨⟨gS,gU⟩,fE,h⟩:=bS (V h)
 refine cl (jW fE) ⟨rfl,trivial⟩<|ld rfl rfl (.cons rfl (.cons rfl (.nil))) ?_
 obtain⟨⟨Du,Dv⟩,ku,h⟩:=bS h
 refine cl (jW ku) ⟨rfl,trivial⟩<|so rfl rfl rfl<|so rfl rfl rfl ?_
 refine RT.done ⟨by kernel_rfl,?_⟩
 exact ae.n<|⟨(Du,Dv,gS,gU),h,wR []⟩
 obtain⟨Ca,Cb,Cc,Cd⟩:=j2
 try dsimp only
 refine ae.n<|sr<|ld rfl rfl (.cons rfl (.cons rfl (.nil)))<|ld rfl rfl (.cons rfl (.cons rfl (.nil))) ?_
 obtain⟨⟨uE,uF⟩,kL,h⟩:=bS h
 refine cl (B9 kL) ⟨rfl,rfl,trivial⟩<|al (cs:=[.v (.bool false),slc 1 (List.map af [])]) (by exact⟨SV.aa _,imp_nil,trivial⟩) rfl<|so rfl rfl rfl<|dn<|sr<|ld rfl rfl (.cons rfl (.cons rfl (.nil)))<|ld rfl rfl (.cons rfl (.cons rfl (.nil))) ?_
 obtain⟨⟨⟨pE,pG⟩,⟨JI,JJ⟩,Uv⟩,qO,h⟩:=bS h
 refine cl (pX qO) ⟨rfl,rfl,trivial⟩<|mv rfl<|ex rfl rfl<|ex rfl rfl<|ex rfl rfl<|so rfl rfl rfl<|dn<|sr<|ld rfl rfl (.cons rfl (.cons rfl (.nil)))<|ld rfl rfl (.cons rfl (.cons rfl (.nil))) ?_
 obtain⟨⟨⟨pH,pI⟩,⟨JK,JM⟩,Uw⟩,uC,h⟩:=bS h
 refine cl (pX uC) ⟨rfl,rfl,trivial⟩<|mv rfl<|ex rfl rfl<|ex rfl rfl<|ex rfl rfl<|so rfl rfl rfl<|dn<|qq<|sr<|ld rfl rfl (.cons rfl (.cons rfl (.nil))) ?_
 obtain⟨⟨JN,JO⟩,pC,h⟩:=bS h
 refine cl (cw pC) ⟨rfl,trivial⟩<|mv rfl<|ex rfl rfl<|ex rfl rfl<|ag rfl<|ag rfl<|dn<|qq ?_
 refine aF h (fun j5=>AS.bR 46 [(2,.ptr 2 0),(3,.ptr 3 0),(4,.ptr 4 0),(41,.sv (.v (.bool j5)))] [(4,⟨52,[.sv (.v (.bool false)),.sv (slc 1 (List.map af [])),.sv (.v (.bool false)),.sv (slc 1 (List.map af []))]⟩),(3,⟨50,[.sv (.v (.bool pH)),.sv (slc 1 (List.map af pI))]⟩),(2,⟨50,[.sv (.v (.bool pE)),.sv (slc 1 (List.map af pG))]⟩)] []) (fun h=>?_) (fun Dt h=>?_)
 refine ah<|mv rfl<|mv rfl<|bE h fun JP y5 h=>?_
 cases JO
 obtain rfl:=O (F y5)
 exact ww<|ww<|pF rfl<|dn<|⟨false,h,wR []⟩
 refine gm rfl<|lE (V y5) fun mw nh y5=>TV _ rfl rfl (rR (p:=JN) (q:=1) nh) ?_
 obtain rfl:=O y5
 exact pT rfl<|dn<|⟨mw,h,wR []⟩
 try dsimp only
 refine ae.n ?_
 refine aF h (fun j7=>AS.bR 46 [(2,.ptr 2 0),(3,.ptr 3 0),(4,.ptr 4 0)] [(4,⟨52,[.sv (.v (.bool false)),.sv (slc 1 (List.map af [])),.sv (.v (.bool false)),.sv (slc 1 (List.map af []))]⟩),(3,⟨50,[.sv (.v (.bool j7.1)),.sv (slc 1 (List.map af j7.2))]⟩),(2,⟨50,[.sv (.v (.bool pE)),.sv (slc 1 (List.map af pG))]⟩)] []) (fun h=>?_) (fun j7 h=>?_)
 cases Dt
 exact fs<|⟨(pH,pI),(F h),wR []⟩
 exact cT<|ah<|bI (cs:=[_,_]) (cs':=[.v (.bool false),slc 1 (List.map af [])]) (.nil) ⟨SV.aa _,imp_nil,trivial⟩<|so rfl rfl rfl<|dn<|⟨(false,[]),(V h),wR []⟩
 obtain⟨yS,yT⟩:=j7
 try dsimp only
 refine ae.n<|sr<|ld rfl rfl (.cons rfl (.cons rfl (.nil)))<|ld rfl rfl (.cons rfl (.cons rfl (.nil)))<|bI (cs:=[_,_,_,_]) (cs':=[.v (.bool pE),slc 1 (List.map af pG),.v (.bool yS),slc 1 (List.map af yT)]) (.agg rfl (.agg rfl (.nil))) ⟨SV.aa _,SV.aa _,SV.aa _,SV.aa _,trivial⟩<|so rfl rfl rfl<|dn<|aj ?_
 obtain rfl:=O h
 exact RZ (.agg rfl rfl (.cons rfl (.cons rfl (.cons rfl (.cons rfl (.nil))))) rfl (.nil))
theorem bJ{x0:Qr}{r:Int×Int×Bool}(h:cM x0=some r):Pure Try.prog 52 [.agg (eQ x0)] (.sN [.v (.int .i64 r.1),.v (.int .i64 r.2.1),.v (.bool r.2.2)]):=by
 obtain⟨⟨aC,aD⟩,⟨aL,aM⟩⟩:=x0
 refine ay Try.func52 rfl (Nat.le_of_ble_eq_true rfl) (fun cS M vs hvs=>?_)
 unfold cM at h
 refine sr<|bx rfl<|ag rfl<|ag rfl<|ag rfl<|dn<|sr<|fa rfl rfl<|ld rfl rfl (.cons rfl (.cons rfl (.nil))) ?_
 obtain⟨⟨Ce,Ux⟩,fP,h⟩:=bS h
 refine cl (cw fP) ⟨rfl,trivial⟩<|mv rfl<|ex rfl rfl<|ex rfl rfl<|ag rfl<|ag rfl<|dn<|sr<|fa rfl rfl<|ld rfl rfl (.cons rfl (.cons rfl (.nil))) ?_
 obtain⟨⟨Az,Uy⟩,lA,h⟩:=bS h
 refine cl (cw lA) ⟨rfl,trivial⟩<|mv rfl<|ex rfl rfl<|ex rfl rfl<|ag rfl<|ag rfl<|dn<|qq<|qq ?_
 refine aF h (fun UC=>AS.bR 53 [(2,.sv (.v (.int .i64 Ce))),(3,.sv (.v (.int .i64 Az))),(40,.sv (.v (.bool UC)))] [] []) (fun h=>?_) (fun Fq h=>?_)
 refine ah<|mv rfl<|lE h fun gx lz h=>nt rfl _ lz<|mv rfl<|bE h fun JS y7 h=>?_
 cases gx
 refine gm rfl<|lE (F y7) fun lN sj y7=>PG rfl _ sj ?_
 obtain rfl:=O y7
 refine pF rfl<|mv rfl<|bE h fun XD Hj h=>?_
 cases lN
 refine gm rfl<|lE (F Hj) fun lf oR Hj=>RT.leq (.some rfl rfl) _ rfl rfl T oR ?_
 obtain rfl:=O Hj
 refine pF rfl<|mv rfl<|bE h fun XE Hl h=>?_
 cases lf
 refine gm rfl<|lE (F Hl) fun qg uA Hl=>RT.geq (.some rfl rfl) _ rfl rfl T uA ?_
 obtain rfl:=O Hl
 refine pF rfl<|mv rfl<|bE h fun XF Ho h=>?_
 cases qg
 refine gm rfl<|lE (F Ho) fun uo B3 Ho=>RT.leq (.some rfl rfl) _ rfl rfl T B3 ?_
 obtain rfl:=O Ho
 refine pF rfl<|mv rfl<|bE h fun XG Mr h=>?_
 cases uo
 refine gm rfl<|lE (F Mr) fun rX Ay Mr=>RT.geq (.some rfl rfl) _ rfl rfl T Ay ?_
 obtain rfl:=O Mr
 exact pF rfl<|dn<|⟨rX,h,wR []⟩
 obtain rfl:=O (V Mr)
 exact ww<|ww<|pT rfl<|dn<|⟨true,h,wR []⟩
 obtain rfl:=O (V Ho)
 refine ww<|ww<|pT rfl<|mv rfl<|bE h fun XH XI h=>?_
 obtain rfl:=O (V XI)
 exact ww<|ww<|pT rfl<|dn<|⟨true,h,wR []⟩
 obtain rfl:=O (V Hl)
 refine ww<|ww<|pT rfl<|mv rfl<|bE h fun XJ XK h=>?_
 obtain rfl:=O (V XK)
 refine ww<|ww<|pT rfl<|mv rfl<|bE h fun XL XM h=>?_
 obtain rfl:=O (V XM)
 exact ww<|ww<|pT rfl<|dn<|⟨true,h,wR []⟩
 obtain rfl:=O (V Hj)
 refine ww<|ww<|pT rfl<|mv rfl<|bE h fun XN XO h=>?_
 obtain rfl:=O (V XO)
 refine ww<|ww<|pT rfl<|mv rfl<|bE h fun XP XQ h=>?_
 obtain rfl:=O (V XQ)
 refine ww<|ww<|pT rfl<|mv rfl<|bE h fun XR XS h=>?_
 obtain rfl:=O (V XS)
 exact ww<|ww<|pT rfl<|dn<|⟨true,h,wR []⟩
 obtain rfl:=O (V y7)
 refine ww<|ww<|pT rfl<|mv rfl<|bE h fun XT XU h=>?_
 obtain rfl:=O (V XU)
 refine ww<|ww<|pT rfl<|mv rfl<|bE h fun XV XW h=>?_
 obtain rfl:=O (V XW)
 refine ww<|ww<|pT rfl<|mv rfl<|bE h fun XX XY h=>?_
 obtain rfl:=O (V XY)
 refine ww<|ww<|pT rfl<|mv rfl<|bE h fun XZ X0 h=>?_
 obtain rfl:=O (V X0)
 exact ww<|ww<|pT rfl<|dn<|⟨true,h,wR []⟩
 try dsimp only
 refine ae.n ?_
 cases Fq
 refine fs<|qq<|aq<|sr<|mv rfl<|lE (F h) fun rU Aj h=>eq _ rfl rfl (rR (p:=Az) (q:=0) Aj)<|ag rfl<|dn ?_
 refine aF h (fun S3=>AS.bR 53 [(2,.sv (.v (.int .i64 S3.1))),(3,.sv (.v (.int .i64 S3.2)))] [] []) (fun h=>?_) (fun S3 h=>?_)
 cases rU
 refine cF<|sr<|mv rfl<|lE (F h) fun rV h46 h=>ls _ rfl rfl h46<|ag rfl<|dn ?_
 refine aF h (fun NY=>AS.bR 53 [(2,.sv (.v (.int .i64 NY.1))),(3,.sv (.v (.int .i64 NY.2)))] [] []) (fun h=>?_) (fun NY h=>?_)
 cases rV
 exact fs<|⟨(Ce,Az),(F h),wR []⟩
 exact cT<|ah<|mv rfl<|lE (V h) fun ur h48 h=>RT.neg .none _ rfl T h48<|mv rfl<|lE h fun sI Ax h=>RT.neg .none _ rfl T Ax<|ag rfl<|ag rfl<|dn<|⟨(ur,sI),h,wR []⟩
 obtain⟨JQ,JR⟩:=NY
 try dsimp only
 exact ae.n<|⟨(JQ,JR),h,wR []⟩
 exact cT<|ah<|ag rfl<|dn<|⟨(Ce,1),(V h),wR []⟩
 obtain⟨NW,NX⟩:=S3
 try dsimp only
 refine aH.n<|ae.n<|sr<|mv rfl<|mv rfl<|ag rfl<|ag rfl<|ag rfl<|dn<|aj ?_
 obtain rfl:=O h
 exact RZ (.tmp rfl (.tmp rfl (.tmp rfl (.nil))))
 refine cT<|sr<|ag rfl<|ag rfl<|ag rfl<|dn<|aj<|ae.r ?_
 obtain rfl:=O (V h)
 exact RZ (.tmp rfl (.tmp rfl (.tmp rfl (.nil))))
theorem jq{x0:Int}{x1:Int}{r:Qr}(h:dG x0 x1=some r):Pure Try.prog 53 [.v (.int .i64 x0),.v (.int .i64 x1)] (.agg (eQ r)):=by
 refine ay Try.func53 rfl (Nat.le_of_ble_eq_true rfl) (fun cS M vs hvs=>?_)
 unfold dG at h
 refine sr<|al (cs:=[.v (.bool false),slc 1 (List.map af []),.v (.bool false),slc 1 (List.map af [])]) (by exact⟨SV.aa _,imp_nil,SV.aa _,imp_nil,trivial⟩) rfl<|dn<|sr<|mv rfl<|mv rfl<|ag rfl<|ag rfl<|dn<|qq<|bE h fun e6 G9 jn=>?_
 refine aW (fun(tg:Int)=>AS.bR 36 [(0,.sv (.v (.int .i64 x0))),(1,.sv (.v (.int .i64 x1))),(4,.ptr 4 0),(5,.sv (.v (.int .i64 tg)))] [(4,⟨52,[.sv (.v (.bool false)),.sv (slc 1 (List.map af [])),.sv (.v (.bool false)),.sv (slc 1 (List.map af []))]⟩)] []) (fun tg=>tg=e6) ?_ (fun tg He=>?_)
 refine aq ?_
 refine aX G9 (fun s6=>AS.bR 36 [(0,.sv (.v (.int .i64 x0))),(1,.sv (.v (.int .i64 x1))),(4,.ptr 4 0),(5,.sv (.v (.int .i64 s6.1))),(6,.sv (.v (.int .i64 s6.2)))] [(4,⟨52,[.sv (.v (.bool false)),.sv (slc 1 (List.map af [])),.sv (.v (.bool false)),.sv (slc 1 (List.map af []))]⟩)] []) (wR []) (fun s6 y6 G6 h Hf Dl=>?_)
 obtain⟨oc,Cf⟩:=s6
 try dsimp only
 refine qq<|sr<|mv rfl<|lE h fun dW fP h=>ne _ rfl rfl (F5 (p:=Cf) (q:=0) fP)<|dn ?_
 cases dW
 refine cF<|bj<|ae.x<|ae.x<|aH.x<|ae.n ?_
 obtain rfl:=O (F h)
 exact⟨oc,Dl _ rfl,wR []⟩
 refine cT<|aG<|ae.n<|aq<|ai mixed<|mv rfl<|mv rfl<|mv rfl<|bE (V h) fun gY ku h=>RT.rem .none _ rfl rfl T (TM ku) (TN ku)<|ag rfl<|ag rfl ?_
 refine RT.done ⟨by kernel_rfl,?_⟩
 refine aH.n ?_
 obtain rfl:=O h
 exact ae.n ⟨(Cf,gY),Hf _ rfl,wR []⟩
 subst He
 try dsimp only
 refine ae.n<|qq<|sr<|mv rfl<|lE jn fun jN lA jn=>ls _ rfl rfl lA<|dn ?_
 refine aF jn (fun j8=>AS.bR 36 [(0,.sv (.v (.int .i64 x0))),(1,.sv (.v (.int .i64 x1))),(4,.ptr 4 0),(5,.sv (.v (.int .i64 j8)))] [(4,⟨52,[.sv (.v (.bool false)),.sv (slc 1 (List.map af [])),.sv (.v (.bool false)),.sv (slc 1 (List.map af []))]⟩)] []) (fun jn=>?_) (fun Dw jn=>?_)
 cases jN
 exact fs<|⟨tg,(F jn),wR []⟩
 exact cT<|ah<|mv rfl<|lE (V jn) fun fg ij jn=>RT.neg .none _ rfl T ij<|ag rfl<|dn<|⟨fg,jn,wR []⟩
 try dsimp only
 refine ae.n<|qq<|sr<|mv rfl<|mv rfl<|lE jn fun mc qO jn=>eq _ rfl rfl (rR (p:=Dw) (q:=x1) qO)<|dn ?_
 cases mc
 refine fs<|qq<|ai mixed<|mv rfl<|mv rfl<|bE (F jn) fun gO iK jn=>RT.quo .none _ rfl rfl T (SX iK) (GZ iK) ?_
 obtain⟨⟨mA,mB⟩,uD,jn⟩:=bS jn
 refine cl (dg uD) ⟨rfl,trivial⟩<|mv rfl<|mv rfl<|bE jn fun o8 pD jn=>RT.quo .none _ rfl rfl T (SX pD) (GZ pD) ?_
 obtain⟨⟨Dx,Dy⟩,pC,jn⟩:=bS jn
 refine cl (dg pC) ⟨rfl,trivial⟩<|bI (cs:=[_,_,_,_]) (cs':=[.v (.bool mA),slc 1 (List.map af mB),.v (.bool Dx),slc 1 (List.map af Dy)]) (.agg rfl (.agg rfl (.nil))) ⟨SV.aa _,SV.aa _,SV.aa _,SV.aa _,trivial⟩<|so rfl rfl rfl ?_
 refine RT.done ⟨by kernel_rfl,?_⟩
 refine ae.n<|aj ?_
 obtain rfl:=O jn
 exact RZ (.agg rfl rfl (.cons rfl (.cons rfl (.cons rfl (.cons rfl (.nil))))) rfl (.nil))
 refine cT<|sr<|mv rfl<|mv rfl<|bE (V jn) fun gD lP jn=>RT.quo .none _ rfl rfl T (SX lP) (GZ lP) ?_
 obtain⟨⟨gQ,gR⟩,pB,jn⟩:=bS jn
 refine cl (dg pB) ⟨rfl,trivial⟩<|bI (cs:=[_,_,_,_]) (cs':=[.v (.bool gQ),slc 1 (List.map af gR),.v (.bool false),slc 1 (List.map af [])]) (.agg rfl (.nil)) ⟨SV.aa _,SV.aa _,SV.aa _,imp_nil,trivial⟩<|so rfl rfl rfl<|dn<|aj<|ae.r ?_
 obtain rfl:=O jn
 exact RZ (.agg rfl rfl (.cons rfl (.cons rfl (.cons rfl (.cons rfl (.nil))))) rfl (.nil))
theorem Ch{x0:Int}{r:Int}(h:nn x0=some r):Pure Try.prog 57 [.v (.int .i64 x0)] (.v (.int .i64 r)):=by
 refine ay Try.func57 rfl (Nat.le_of_ble_eq_true rfl) (fun cS M vs hvs=>?_)
 unfold nn at h
 refine sr<|ag rfl<|dn<|qq<|aq<|sr<|mv rfl<|lE h fun x5 h5 h=>ls _ rfl rfl h5<|ag rfl<|dn ?_
 cases x5
 refine cF<|sr<|mv rfl<|lE (F h) fun x8 h8 h=>gt _ rfl rfl h8<|ag rfl<|dn ?_
 cases x8
 refine cF<|aG<|aH.n<|ae.n<|sr<|ag rfl<|dn<|aj ?_
 obtain rfl:=O (F h)
 exact R1 rfl
 refine cT<|sr<|ag rfl<|dn<|aj<|aH.r<|ae.r ?_
 obtain rfl:=O (V h)
 exact R1 rfl
 refine cT<|sr<|ag rfl<|dn<|aj<|aH.r<|ae.r ?_
 obtain rfl:=O (V h)
 exact R1 rfl
theorem xd{x1:Qr}{x2:Qr}{r:Qr}(h:eW x1 x2=some r):Pure Try.prog 61 [.v (.int .u8 ((43:Nat):Int)),.agg (eQ x1),.agg (eQ x2)] (.agg (eQ r)):=by
 obtain⟨⟨bp,bn⟩,⟨eO,eP⟩⟩:=x1
 obtain⟨⟨jX,jY⟩,⟨uG,uH⟩⟩:=x2
 refine ay Try.func61 rfl (Nat.le_of_ble_eq_true rfl) (fun cS M vs hvs=>?_)
 unfold eW at h
 refine sr<|bx rfl<|bx rfl<|al (cs:=[.v (.bool false),slc 1 (List.map af []),.v (.bool false),slc 1 (List.map af [])]) (by exact⟨SV.aa _,imp_nil,SV.aa _,imp_nil,trivial⟩) rfl<|dn<|sr<|ld rfl rfl (.cons rfl (.cons rfl (.cons rfl (.cons rfl (.nil))))) ?_
 obtain⟨⟨⟨gH,gI⟩,⟨iq,ir⟩⟩,fS,h⟩:=bS h
 refine cl (bw fS) ⟨rfl,trivial⟩<|mv rfl<|ex rfl rfl<|ex rfl rfl<|al (cs:=[.v (.bool false),slc 1 (List.map af [])]) (by exact⟨SV.aa _,imp_nil,trivial⟩) rfl<|al (cs:=[.v (.bool false),slc 1 (List.map af [])]) (by exact⟨SV.aa _,imp_nil,trivial⟩) rfl<|so rfl rfl rfl<|so rfl rfl rfl<|dn<|sr<|ld rfl rfl (.cons rfl (.cons rfl (.cons rfl (.cons rfl (.nil))))) ?_
 obtain⟨⟨⟨gJ,gK⟩,⟨iu,iv⟩⟩,ij,h⟩:=bS h
 refine cl (bw ij) ⟨rfl,trivial⟩<|mv rfl<|ex rfl rfl<|ex rfl rfl<|al (cs:=[.v (.bool false),slc 1 (List.map af [])]) (by exact⟨SV.aa _,imp_nil,trivial⟩) rfl<|al (cs:=[.v (.bool false),slc 1 (List.map af [])]) (by exact⟨SV.aa _,imp_nil,trivial⟩) rfl<|so rfl rfl rfl<|so rfl rfl rfl<|dn<|qq<|ai mixed<|cl dh trivial<|mv rfl ?_
 refine RT.look .none [.func (.func 80) #[] #[]] rfl rfl rfl T<|fl rfl rfl<|ld rfl rfl (.cons rfl (.cons rfl (.nil)))<|ld rfl rfl (.cons rfl (.cons rfl (.nil)))<|ld rfl rfl (.cons rfl (.cons rfl (.nil)))<|ld rfl rfl (.cons rfl (.cons rfl (.nil))) ?_
 obtain⟨⟨⟨iO,iP⟩,⟨iQ,iS⟩⟩,iK,h⟩:=bS h
 refine cl (qV iK) ⟨rfl,rfl,rfl,rfl,trivial⟩<|ex rfl rfl<|ex rfl rfl ?_
 obtain⟨⟨⟨lj,kA⟩,⟨nq,nu⟩⟩,jK,h⟩:=bS h
 refine cl (iV jK) ⟨rfl,rfl,trivial⟩<|so rfl rfl rfl ?_
 refine RT.done ⟨by kernel_rfl,?_⟩
 refine ae.n<|aj ?_
 obtain rfl:=O h
 exact RZ (.agg rfl rfl (.cons rfl (.cons rfl (.cons rfl (.cons rfl (.nil))))) rfl (.nil))
theorem xe{x1:Qr}{x2:Qr}{r:Qr}(h:eX x1 x2=some r):Pure Try.prog 61 [.v (.int .u8 ((45:Nat):Int)),.agg (eQ x1),.agg (eQ x2)] (.agg (eQ r)):=by
 obtain⟨⟨bp,bn⟩,⟨eO,eP⟩⟩:=x1
 obtain⟨⟨jX,jY⟩,⟨uG,uH⟩⟩:=x2
 refine ay Try.func61 rfl (Nat.le_of_ble_eq_true rfl) (fun cS M vs hvs=>?_)
 unfold eX at h
 refine sr<|bx rfl<|bx rfl<|al (cs:=[.v (.bool false),slc 1 (List.map af []),.v (.bool false),slc 1 (List.map af [])]) (by exact⟨SV.aa _,imp_nil,SV.aa _,imp_nil,trivial⟩) rfl<|dn<|sr<|ld rfl rfl (.cons rfl (.cons rfl (.cons rfl (.cons rfl (.nil))))) ?_
 obtain⟨⟨⟨gH,gI⟩,⟨iq,ir⟩⟩,fS,h⟩:=bS h
 refine cl (bw fS) ⟨rfl,trivial⟩<|mv rfl<|ex rfl rfl<|ex rfl rfl<|al (cs:=[.v (.bool false),slc 1 (List.map af [])]) (by exact⟨SV.aa _,imp_nil,trivial⟩) rfl<|al (cs:=[.v (.bool false),slc 1 (List.map af [])]) (by exact⟨SV.aa _,imp_nil,trivial⟩) rfl<|so rfl rfl rfl<|so rfl rfl rfl<|dn<|sr<|ld rfl rfl (.cons rfl (.cons rfl (.cons rfl (.cons rfl (.nil))))) ?_
 obtain⟨⟨⟨gJ,gK⟩,⟨iu,iv⟩⟩,ij,h⟩:=bS h
 refine cl (bw ij) ⟨rfl,trivial⟩<|mv rfl<|ex rfl rfl<|ex rfl rfl<|al (cs:=[.v (.bool false),slc 1 (List.map af [])]) (by exact⟨SV.aa _,imp_nil,trivial⟩) rfl<|al (cs:=[.v (.bool false),slc 1 (List.map af [])]) (by exact⟨SV.aa _,imp_nil,trivial⟩) rfl<|so rfl rfl rfl<|so rfl rfl rfl<|dn<|qq<|ai mixed<|cl dh trivial<|mv rfl ?_
 refine RT.look .none [.func (.func 82) #[] #[]] rfl rfl rfl T<|fl rfl rfl<|ld rfl rfl (.cons rfl (.cons rfl (.nil)))<|ld rfl rfl (.cons rfl (.cons rfl (.nil)))<|ld rfl rfl (.cons rfl (.cons rfl (.nil)))<|ld rfl rfl (.cons rfl (.cons rfl (.nil))) ?_
 obtain⟨⟨⟨iO,iP⟩,⟨iQ,iS⟩⟩,iK,h⟩:=bS h
 refine cl (qW iK) ⟨rfl,rfl,rfl,rfl,trivial⟩<|ex rfl rfl<|ex rfl rfl ?_
 obtain⟨⟨⟨lj,kA⟩,⟨nq,nu⟩⟩,jK,h⟩:=bS h
 refine cl (iV jK) ⟨rfl,rfl,trivial⟩<|so rfl rfl rfl ?_
 refine RT.done ⟨by kernel_rfl,?_⟩
 refine ae.n<|aj ?_
 obtain rfl:=O h
 exact RZ (.agg rfl rfl (.cons rfl (.cons rfl (.cons rfl (.cons rfl (.nil))))) rfl (.nil))
theorem xg{x1:Qr}{x2:Qr}{r:Qr}(h:eY x1 x2=some r):Pure Try.prog 61 [.v (.int .u8 ((42:Nat):Int)),.agg (eQ x1),.agg (eQ x2)] (.agg (eQ r)):=by
 obtain⟨⟨bp,bn⟩,⟨eO,eP⟩⟩:=x1
 obtain⟨⟨jX,jY⟩,⟨uG,uH⟩⟩:=x2
 refine ay Try.func61 rfl (Nat.le_of_ble_eq_true rfl) (fun cS M vs hvs=>?_)
 unfold eY at h
 refine sr<|bx rfl<|bx rfl<|al (cs:=[.v (.bool false),slc 1 (List.map af []),.v (.bool false),slc 1 (List.map af [])]) (by exact⟨SV.aa _,imp_nil,SV.aa _,imp_nil,trivial⟩) rfl<|dn<|sr<|ld rfl rfl (.cons rfl (.cons rfl (.cons rfl (.cons rfl (.nil))))) ?_
 obtain⟨⟨⟨gH,gI⟩,⟨iq,ir⟩⟩,fS,h⟩:=bS h
 refine cl (bw fS) ⟨rfl,trivial⟩<|mv rfl<|ex rfl rfl<|ex rfl rfl<|al (cs:=[.v (.bool false),slc 1 (List.map af [])]) (by exact⟨SV.aa _,imp_nil,trivial⟩) rfl<|al (cs:=[.v (.bool false),slc 1 (List.map af [])]) (by exact⟨SV.aa _,imp_nil,trivial⟩) rfl<|so rfl rfl rfl<|so rfl rfl rfl<|dn<|sr<|ld rfl rfl (.cons rfl (.cons rfl (.cons rfl (.cons rfl (.nil))))) ?_
 obtain⟨⟨⟨gJ,gK⟩,⟨iu,iv⟩⟩,ij,h⟩:=bS h
 refine cl (bw ij) ⟨rfl,trivial⟩<|mv rfl<|ex rfl rfl<|ex rfl rfl<|al (cs:=[.v (.bool false),slc 1 (List.map af [])]) (by exact⟨SV.aa _,imp_nil,trivial⟩) rfl<|al (cs:=[.v (.bool false),slc 1 (List.map af [])]) (by exact⟨SV.aa _,imp_nil,trivial⟩) rfl<|so rfl rfl rfl<|so rfl rfl rfl<|dn<|qq<|ai mixed<|cl dh trivial<|mv rfl ?_
 refine RT.look .none [.func (.func 84) #[] #[]] rfl rfl rfl T<|fl rfl rfl<|ld rfl rfl (.cons rfl (.cons rfl (.nil)))<|ld rfl rfl (.cons rfl (.cons rfl (.nil)))<|ld rfl rfl (.cons rfl (.cons rfl (.nil)))<|ld rfl rfl (.cons rfl (.cons rfl (.nil))) ?_
 obtain⟨⟨⟨iO,iP⟩,⟨iQ,iS⟩⟩,iK,h⟩:=bS h
 refine cl (qX iK) ⟨rfl,rfl,rfl,rfl,trivial⟩<|ex rfl rfl<|ex rfl rfl ?_
 obtain⟨⟨⟨lj,kA⟩,⟨nq,nu⟩⟩,jK,h⟩:=bS h
 refine cl (iV jK) ⟨rfl,rfl,trivial⟩<|so rfl rfl rfl ?_
 refine RT.done ⟨by kernel_rfl,?_⟩
 refine ae.n<|aj ?_
 obtain rfl:=O h
 exact RZ (.agg rfl rfl (.cons rfl (.cons rfl (.cons rfl (.cons rfl (.nil))))) rfl (.nil))
theorem xh{x1:Qr}{x2:Qr}{r:Qr}(h:iT x1 x2=some r):Pure Try.prog 61 [.v (.int .u8 ((47:Nat):Int)),.agg (eQ x1),.agg (eQ x2)] (.agg (eQ r)):=by
 obtain⟨⟨bp,bn⟩,⟨eO,eP⟩⟩:=x1
 obtain⟨⟨jX,jY⟩,⟨uG,uH⟩⟩:=x2
 refine ay Try.func61 rfl (Nat.le_of_ble_eq_true rfl) (fun cS M vs hvs=>?_)
 unfold iT at h
 refine sr<|bx rfl<|bx rfl<|al (cs:=[.v (.bool false),slc 1 (List.map af []),.v (.bool false),slc 1 (List.map af [])]) (by exact⟨SV.aa _,imp_nil,SV.aa _,imp_nil,trivial⟩) rfl<|dn<|sr<|ld rfl rfl (.cons rfl (.cons rfl (.cons rfl (.cons rfl (.nil))))) ?_
 obtain⟨⟨⟨gH,gI⟩,⟨iq,ir⟩⟩,fS,h⟩:=bS h
 refine cl (bw fS) ⟨rfl,trivial⟩<|mv rfl<|ex rfl rfl<|ex rfl rfl<|al (cs:=[.v (.bool false),slc 1 (List.map af [])]) (by exact⟨SV.aa _,imp_nil,trivial⟩) rfl<|al (cs:=[.v (.bool false),slc 1 (List.map af [])]) (by exact⟨SV.aa _,imp_nil,trivial⟩) rfl<|so rfl rfl rfl<|so rfl rfl rfl<|dn<|sr<|ld rfl rfl (.cons rfl (.cons rfl (.cons rfl (.cons rfl (.nil))))) ?_
 obtain⟨⟨⟨gJ,gK⟩,⟨iu,iv⟩⟩,ij,h⟩:=bS h
 refine cl (bw ij) ⟨rfl,trivial⟩<|mv rfl<|ex rfl rfl<|ex rfl rfl<|al (cs:=[.v (.bool false),slc 1 (List.map af [])]) (by exact⟨SV.aa _,imp_nil,trivial⟩) rfl<|al (cs:=[.v (.bool false),slc 1 (List.map af [])]) (by exact⟨SV.aa _,imp_nil,trivial⟩) rfl<|so rfl rfl rfl<|so rfl rfl rfl<|dn<|qq<|ai mixed<|cl dh trivial<|mv rfl ?_
 refine RT.look .none [.func (.func 85) #[] #[]] rfl rfl rfl T<|fl rfl rfl<|ld rfl rfl (.cons rfl (.cons rfl (.nil)))<|ld rfl rfl (.cons rfl (.cons rfl (.nil)))<|ld rfl rfl (.cons rfl (.cons rfl (.nil)))<|ld rfl rfl (.cons rfl (.cons rfl (.nil))) ?_
 obtain⟨⟨⟨iO,iP⟩,⟨iQ,iS⟩⟩,iK,h⟩:=bS h
 refine cl (qY iK) ⟨rfl,rfl,rfl,rfl,trivial⟩<|ex rfl rfl<|ex rfl rfl ?_
 obtain⟨⟨⟨lj,kA⟩,⟨nq,nu⟩⟩,jK,h⟩:=bS h
 refine cl (iV jK) ⟨rfl,rfl,trivial⟩<|so rfl rfl rfl ?_
 refine RT.done ⟨by kernel_rfl,?_⟩
 refine ae.n<|aj ?_
 obtain rfl:=O h
 exact RZ (.agg rfl rfl (.cons rfl (.cons rfl (.cons rfl (.cons rfl (.nil))))) rfl (.nil))
end Go.Proofs.Ytningmnklfpfjaa
namespace Go.Proofs.Ytningmnklfpfjaa
open Go.Fw Go.Fw.Z Go.RowKit
theorem iB{x0:Int}{r:Qr}(h:cy x0=some r):Pure Try.prog 25 [.v (.int .i64 x0)] (.agg (eQ r)):=by
 refine ay Try.func25 rfl (Nat.le_of_ble_eq_true rfl) (fun cS M vs hvs=>?_)
 unfold cy at h
 refine sr<|al (cs:=[.v (.bool false),slc 1 (List.map af []),.v (.bool false),slc 1 (List.map af [])]) (by exact⟨SV.aa _,imp_nil,SV.aa _,imp_nil,trivial⟩) rfl<|dn<|sr<|mv rfl ?_
 obtain⟨⟨Rd,Re⟩,h4,h⟩:=bS h
 refine cl (dg h4) ⟨rfl,trivial⟩<|bI (cs:=[_,_,_,_]) (cs':=[.v (.bool Rd),slc 1 (List.map af Re),.v (.bool false),slc 1 (List.map af [])]) (.agg rfl (.nil)) ⟨SV.aa _,SV.aa _,SV.aa _,imp_nil,trivial⟩<|so rfl rfl rfl<|dn<|aj ?_
 obtain rfl:=O h
 exact RZ (.agg rfl rfl (.cons rfl (.cons rfl (.cons rfl (.cons rfl (.nil))))) rfl (.nil))
theorem fG{x0:Qr}{r:Qr}(h:bM x0=some r):Pure Try.prog 37 [.agg (eQ x0)] (.agg (eQ r)):=by
 obtain⟨⟨aC,aD⟩,⟨aL,aM⟩⟩:=x0
 refine ay Try.func37 rfl (Nat.le_of_ble_eq_true rfl) (fun cS M vs hvs=>?_)
 unfold bM at h
 refine sr<|bx rfl<|al (cs:=[.v (.bool false),slc 1 (List.map af []),.v (.bool false),slc 1 (List.map af [])]) (by exact⟨SV.aa _,imp_nil,SV.aa _,imp_nil,trivial⟩) rfl<|dn<|qq<|sr<|ld rfl rfl (.cons rfl (.cons rfl (.cons rfl (.cons rfl (.nil))))) ?_
 obtain⟨⟨XB,XC,Uz⟩,h8,h⟩:=bS h
 refine cl (bJ h8) ⟨rfl,trivial⟩<|mv rfl<|ex rfl rfl<|ex rfl rfl<|ex rfl rfl<|ag rfl<|ag rfl<|ag rfl<|dn<|sr<|mv rfl<|dn ?_
 cases Uz
 refine fs<|sr<|ld rfl rfl (.cons rfl (.cons rfl (.cons rfl (.cons rfl (.nil))))) ?_
 obtain⟨⟨⟨Fs,Ft⟩,⟨Fu,Fv⟩⟩,kL,h⟩:=bS (F h)
 refine cl (bw kL) ⟨rfl,trivial⟩<|ex rfl rfl<|ex rfl rfl ?_
 obtain⟨⟨⟨JU,JV⟩,⟨JW,JX⟩⟩,lz,h⟩:=bS h
 refine cl (iV lz) ⟨rfl,rfl,trivial⟩<|so rfl rfl rfl<|dn<|aj ?_
 obtain rfl:=O h
 exact RZ (.agg rfl rfl (.cons rfl (.cons rfl (.cons rfl (.cons rfl (.nil))))) rfl (.nil))
 refine cT<|sr<|mv rfl<|mv rfl ?_
 obtain⟨⟨⟨iM,iN⟩,⟨Bm,Bn⟩⟩,gG,h⟩:=bS (V h)
 refine cl (jq gG) ⟨rfl,rfl,trivial⟩<|so rfl rfl rfl<|dn<|aj<|ae.r ?_
 obtain rfl:=O h
 exact RZ (.agg rfl rfl (.cons rfl (.cons rfl (.cons rfl (.cons rfl (.nil))))) rfl (.nil))
theorem je{x0:Qr}{r:Int}(h:fF x0=some r):Pure Try.prog 29 [.agg (eQ x0)] (.v (.int .i64 r)):=by
 obtain⟨⟨aC,aD⟩,⟨aL,aM⟩⟩:=x0
 refine ay Try.func29 rfl (Nat.le_of_ble_eq_true rfl) (fun cS M vs hvs=>?_)
 unfold fF at h
 refine sr<|bx rfl<|ag rfl<|dn<|qq<|sr<|fa rfl rfl<|ld rfl rfl (.cons rfl (.cons rfl (.nil)))<|bE h fun x5 h5 h=>cl (dB h5) ⟨rfl,trivial⟩<|lE h fun x6 h6 h=>ls _ rfl rfl h6<|dn ?_
 cases x6
 refine fs<|sr<|fa rfl rfl<|ld rfl rfl (.cons rfl (.cons rfl (.nil)))<|bE (F h) fun gC fS h=>cl (dB fS) ⟨rfl,trivial⟩<|ag rfl<|dn<|aj ?_
 obtain rfl:=O h
 exact R1 rfl
 refine cT<|sr<|fa rfl rfl<|ld rfl rfl (.cons rfl (.cons rfl (.nil)))<|bE (V h) fun x9 h9 h=>cl (dB h9) ⟨rfl,trivial⟩<|lE h fun dW fP h=>RT.neg .none _ rfl T fP<|ag rfl<|dn<|aj<|ae.r ?_
 obtain rfl:=O h
 exact R1 rfl
theorem DA{x0:Qr}{x1:Qr}{r:Qr}(h:jF x0 x1=some r):Pure Try.prog 63 [.agg (eQ x0),.agg (eQ x1)] (.agg (eQ r)):=by
 obtain⟨⟨aC,aD⟩,⟨aL,aM⟩⟩:=x0
 obtain⟨⟨bp,bn⟩,⟨eO,eP⟩⟩:=x1
 refine ay Try.func63 rfl (Nat.le_of_ble_eq_true rfl) (fun cS M vs hvs=>?_)
 unfold jF at h
 refine sr<|bx rfl<|bx rfl<|al (cs:=[.v (.bool false),slc 1 (List.map af []),.v (.bool false),slc 1 (List.map af [])]) (by exact⟨SV.aa _,imp_nil,SV.aa _,imp_nil,trivial⟩) rfl<|dn<|sr<|ld rfl rfl (.cons rfl (.cons rfl (.cons rfl (.cons rfl (.nil))))) ?_
 obtain⟨⟨qP,pJ,qQ⟩,fS,h⟩:=bS h
 refine cl (bJ fS) ⟨rfl,trivial⟩<|mv rfl<|ex rfl rfl<|ex rfl rfl<|ex rfl rfl<|ag rfl<|ag rfl<|ag rfl<|dn<|sr<|ld rfl rfl (.cons rfl (.cons rfl (.cons rfl (.cons rfl (.nil))))) ?_
 obtain⟨⟨qR,pK,qS⟩,jM,h⟩:=bS h
 refine cl (bJ jM) ⟨rfl,trivial⟩<|mv rfl<|ex rfl rfl<|ex rfl rfl<|ex rfl rfl<|ag rfl<|ag rfl<|ag rfl<|dn<|qq<|qq ?_
 refine aF h (fun j3=>AS.bR 41 [(2,.ptr 2 0),(3,.ptr 3 0),(4,.ptr 4 0),(5,.sv (.v (.int .i64 qP))),(6,.sv (.v (.int .i64 pJ))),(8,.sv (.v (.int .i64 qR))),(9,.sv (.v (.int .i64 pK))),(26,.sv (.v (.bool j3)))] [(4,⟨52,[.sv (.v (.bool false)),.sv (slc 1 (List.map af [])),.sv (.v (.bool false)),.sv (slc 1 (List.map af []))]⟩),(3,⟨52,[.sv (.v (.bool bp)),.sv (slc 1 (List.map af bn)),.sv (.v (.bool eO)),.sv (slc 1 (List.map af eP))]⟩),(2,⟨52,[.sv (.v (.bool aC)),.sv (slc 1 (List.map af aD)),.sv (.v (.bool aL)),.sv (slc 1 (List.map af aM))]⟩)] []) (fun h=>?_) (fun lC h=>?_)
 refine ah<|mv rfl<|mv rfl<|bE h fun qT kS h=>?_
 cases qQ
 obtain rfl:=O (F kS)
 exact ww<|pF rfl<|dn<|⟨false,h,wR []⟩
 refine gm rfl ?_
 obtain rfl:=O (V kS)
 exact pT rfl<|dn<|⟨qS,h,wR []⟩
 try dsimp only
 refine ae.n ?_
 cases lC
 refine fs<|sr<|ld rfl rfl (.cons rfl (.cons rfl (.cons rfl (.cons rfl (.nil)))))<|ld rfl rfl (.cons rfl (.cons rfl (.cons rfl (.cons rfl (.nil))))) ?_
 obtain⟨⟨⟨qL,qM⟩,⟨yY,yZ⟩⟩,nh,h⟩:=bS (F h)
 refine cl (xd nh) ⟨rfl,rfl,rfl,trivial⟩<|so rfl rfl rfl<|dn<|aj ?_
 obtain rfl:=O h
 exact RZ (.agg rfl rfl (.cons rfl (.cons rfl (.cons rfl (.cons rfl (.nil))))) rfl (.nil))
 refine cT<|sr<|mv rfl<|mv rfl<|lE (V h) fun gO iK h=>RT.mul .none _ rfl rfl T iK<|mv rfl<|mv rfl<|lE h fun ig jK h=>RT.mul .none _ rfl rfl T jK<|lE h fun o8 pD h=>ad _ rfl rfl pD<|mv rfl<|mv rfl<|lE h fun oQ ot h=>RT.mul .none _ rfl rfl T ot ?_
 obtain⟨⟨⟨yU,yV⟩,⟨yW,yX⟩⟩,vO,h⟩:=bS h
 refine cl (jq vO) ⟨rfl,rfl,trivial⟩<|so rfl rfl rfl<|dn<|aj<|ae.r ?_
 obtain rfl:=O h
 exact RZ (.agg rfl rfl (.cons rfl (.cons rfl (.cons rfl (.cons rfl (.nil))))) rfl (.nil))
theorem DB{x0:Qr}{x1:Qr}{r:Qr}(h:jG x0 x1=some r):Pure Try.prog 42 [.agg (eQ x0),.agg (eQ x1)] (.agg (eQ r)):=by
 obtain⟨⟨aC,aD⟩,⟨aL,aM⟩⟩:=x0
 obtain⟨⟨bp,bn⟩,⟨eO,eP⟩⟩:=x1
 refine ay Try.func42 rfl (Nat.le_of_ble_eq_true rfl) (fun cS M vs hvs=>?_)
 unfold jG at h
 refine sr<|bx rfl<|bx rfl<|al (cs:=[.v (.bool false),slc 1 (List.map af []),.v (.bool false),slc 1 (List.map af [])]) (by exact⟨SV.aa _,imp_nil,SV.aa _,imp_nil,trivial⟩) rfl<|dn<|sr<|ld rfl rfl (.cons rfl (.cons rfl (.cons rfl (.cons rfl (.nil))))) ?_
 obtain⟨⟨qP,pJ,qQ⟩,fS,h⟩:=bS h
 refine cl (bJ fS) ⟨rfl,trivial⟩<|mv rfl<|ex rfl rfl<|ex rfl rfl<|ex rfl rfl<|ag rfl<|ag rfl<|ag rfl<|dn<|sr<|ld rfl rfl (.cons rfl (.cons rfl (.cons rfl (.cons rfl (.nil))))) ?_
 obtain⟨⟨qR,pK,qS⟩,jM,h⟩:=bS h
 refine cl (bJ jM) ⟨rfl,trivial⟩<|mv rfl<|ex rfl rfl<|ex rfl rfl<|ex rfl rfl<|ag rfl<|ag rfl<|ag rfl<|dn<|qq<|qq ?_
 refine aF h (fun j3=>AS.bR 41 [(2,.ptr 2 0),(3,.ptr 3 0),(4,.ptr 4 0),(5,.sv (.v (.int .i64 qP))),(6,.sv (.v (.int .i64 pJ))),(8,.sv (.v (.int .i64 qR))),(9,.sv (.v (.int .i64 pK))),(26,.sv (.v (.bool j3)))] [(4,⟨52,[.sv (.v (.bool false)),.sv (slc 1 (List.map af [])),.sv (.v (.bool false)),.sv (slc 1 (List.map af []))]⟩),(3,⟨52,[.sv (.v (.bool bp)),.sv (slc 1 (List.map af bn)),.sv (.v (.bool eO)),.sv (slc 1 (List.map af eP))]⟩),(2,⟨52,[.sv (.v (.bool aC)),.sv (slc 1 (List.map af aD)),.sv (.v (.bool aL)),.sv (slc 1 (List.map af aM))]⟩)] []) (fun h=>?_) (fun lC h=>?_)
 refine ah<|mv rfl<|mv rfl<|bE h fun qT kS h=>?_
 cases qQ
 obtain rfl:=O (F kS)
 exact ww<|pF rfl<|dn<|⟨false,h,wR []⟩
 refine gm rfl ?_
 obtain rfl:=O (V kS)
 exact pT rfl<|dn<|⟨qS,h,wR []⟩
 try dsimp only
 refine ae.n ?_
 cases lC
 refine fs<|sr<|ld rfl rfl (.cons rfl (.cons rfl (.cons rfl (.cons rfl (.nil)))))<|ld rfl rfl (.cons rfl (.cons rfl (.cons rfl (.cons rfl (.nil))))) ?_
 obtain⟨⟨⟨qL,qM⟩,⟨yY,yZ⟩⟩,nh,h⟩:=bS (F h)
 refine cl (xe nh) ⟨rfl,rfl,rfl,trivial⟩<|so rfl rfl rfl<|dn<|aj ?_
 obtain rfl:=O h
 exact RZ (.agg rfl rfl (.cons rfl (.cons rfl (.cons rfl (.cons rfl (.nil))))) rfl (.nil))
 refine cT<|sr<|mv rfl<|mv rfl<|lE (V h) fun gO iK h=>RT.mul .none _ rfl rfl T iK<|mv rfl<|mv rfl<|lE h fun ig jK h=>RT.mul .none _ rfl rfl T jK<|lE h fun o8 pD h=>sb _ rfl rfl pD<|mv rfl<|mv rfl<|lE h fun oQ ot h=>RT.mul .none _ rfl rfl T ot ?_
 obtain⟨⟨⟨yU,yV⟩,⟨yW,yX⟩⟩,vO,h⟩:=bS h
 refine cl (jq vO) ⟨rfl,rfl,trivial⟩<|so rfl rfl rfl<|dn<|aj<|ae.r ?_
 obtain rfl:=O h
 exact RZ (.agg rfl rfl (.cons rfl (.cons rfl (.cons rfl (.cons rfl (.nil))))) rfl (.nil))
theorem wK{x0:Qr}{x1:Qr}{r:Qr}(h:iU x0 x1=some r):Pure Try.prog 64 [.agg (eQ x0),.agg (eQ x1)] (.agg (eQ r)):=by
 obtain⟨⟨aC,aD⟩,⟨aL,aM⟩⟩:=x0
 obtain⟨⟨bp,bn⟩,⟨eO,eP⟩⟩:=x1
 refine ay Try.func64 rfl (Nat.le_of_ble_eq_true rfl) (fun cS M vs hvs=>?_)
 unfold iU at h
 refine sr<|bx rfl<|bx rfl<|al (cs:=[.v (.bool false),slc 1 (List.map af []),.v (.bool false),slc 1 (List.map af [])]) (by exact⟨SV.aa _,imp_nil,SV.aa _,imp_nil,trivial⟩) rfl<|dn<|sr<|ld rfl rfl (.cons rfl (.cons rfl (.cons rfl (.cons rfl (.nil))))) ?_
 obtain⟨⟨qP,pJ,qQ⟩,fS,h⟩:=bS h
 refine cl (bJ fS) ⟨rfl,trivial⟩<|mv rfl<|ex rfl rfl<|ex rfl rfl<|ex rfl rfl<|ag rfl<|ag rfl<|ag rfl<|dn<|sr<|ld rfl rfl (.cons rfl (.cons rfl (.cons rfl (.cons rfl (.nil))))) ?_
 obtain⟨⟨qR,pK,qS⟩,jM,h⟩:=bS h
 refine cl (bJ jM) ⟨rfl,trivial⟩<|mv rfl<|ex rfl rfl<|ex rfl rfl<|ex rfl rfl<|ag rfl<|ag rfl<|ag rfl<|dn<|qq<|qq ?_
 refine aF h (fun j3=>AS.bR 37 [(2,.ptr 2 0),(3,.ptr 3 0),(4,.ptr 4 0),(5,.sv (.v (.int .i64 qP))),(6,.sv (.v (.int .i64 pJ))),(8,.sv (.v (.int .i64 qR))),(9,.sv (.v (.int .i64 pK))),(26,.sv (.v (.bool j3)))] [(4,⟨52,[.sv (.v (.bool false)),.sv (slc 1 (List.map af [])),.sv (.v (.bool false)),.sv (slc 1 (List.map af []))]⟩),(3,⟨52,[.sv (.v (.bool bp)),.sv (slc 1 (List.map af bn)),.sv (.v (.bool eO)),.sv (slc 1 (List.map af eP))]⟩),(2,⟨52,[.sv (.v (.bool aC)),.sv (slc 1 (List.map af aD)),.sv (.v (.bool aL)),.sv (slc 1 (List.map af aM))]⟩)] []) (fun h=>?_) (fun lC h=>?_)
 refine ah<|mv rfl<|mv rfl<|bE h fun qT kS h=>?_
 cases qQ
 obtain rfl:=O (F kS)
 exact ww<|pF rfl<|dn<|⟨false,h,wR []⟩
 refine gm rfl ?_
 obtain rfl:=O (V kS)
 exact pT rfl<|dn<|⟨qS,h,wR []⟩
 try dsimp only
 refine ae.n ?_
 cases lC
 refine fs<|sr<|ld rfl rfl (.cons rfl (.cons rfl (.cons rfl (.cons rfl (.nil)))))<|ld rfl rfl (.cons rfl (.cons rfl (.cons rfl (.cons rfl (.nil))))) ?_
 obtain⟨⟨⟨qJ,qK⟩,⟨J2,J3⟩⟩,ot,h⟩:=bS (F h)
 refine cl (xg ot) ⟨rfl,rfl,rfl,trivial⟩<|so rfl rfl rfl<|dn<|aj ?_
 obtain rfl:=O h
 exact RZ (.agg rfl rfl (.cons rfl (.cons rfl (.cons rfl (.cons rfl (.nil))))) rfl (.nil))
 refine cT<|sr<|mv rfl<|mv rfl<|lE (V h) fun gO iK h=>RT.mul .none _ rfl rfl T iK<|mv rfl<|mv rfl<|lE h fun ig jK h=>RT.mul .none _ rfl rfl T jK ?_
 obtain⟨⟨⟨JY,JZ⟩,⟨J0,J1⟩⟩,pD,h⟩:=bS h
 refine cl (jq pD) ⟨rfl,rfl,trivial⟩<|so rfl rfl rfl<|dn<|aj<|ae.r ?_
 obtain rfl:=O h
 exact RZ (.agg rfl rfl (.cons rfl (.cons rfl (.cons rfl (.cons rfl (.nil))))) rfl (.nil))
theorem DC{x0:Qr}{x1:Qr}{r:Qr×Int}(h:mF x0 x1=some r):Pure Try.prog 45 [.agg (eQ x0),.agg (eQ x1)] (.sN [.agg (eQ r.1),.v (.int .i64 r.2)]):=by
 obtain⟨⟨aC,aD⟩,⟨aL,aM⟩⟩:=x0
 obtain⟨⟨bp,bn⟩,⟨eO,eP⟩⟩:=x1
 refine ay Try.func45 rfl (Nat.le_of_ble_eq_true rfl) (fun cS M vs hvs=>?_)
 unfold mF at h
 refine sr<|bx rfl<|bx rfl<|al (cs:=[.v (.bool false),slc 1 (List.map af []),.v (.bool false),slc 1 (List.map af [])]) (by exact⟨SV.aa _,imp_nil,SV.aa _,imp_nil,trivial⟩) rfl<|ag rfl<|dn<|qq<|sr<|ld rfl rfl (.cons rfl (.cons rfl (.cons rfl (.cons rfl (.nil)))))<|bE h fun gC fS h=>cl (je fS) ⟨rfl,trivial⟩<|lE h fun gY ku h=>eq _ rfl rfl (rR (p:=gC) (q:=0) ku)<|RT.done ?_
 refine ae.n ?_
 cases gY
 refine fs<|sr<|ld rfl rfl (.cons rfl (.cons rfl (.cons rfl (.cons rfl (.nil))))) ?_
 obtain⟨⟨J4,Mq,Rf⟩,ij,h⟩:=bS (F h)
 refine cl (bJ ij) ⟨rfl,trivial⟩<|mv rfl<|ex rfl rfl<|ex rfl rfl<|ex rfl rfl<|ag rfl<|ag rfl<|ag rfl<|dn<|sr<|ld rfl rfl (.cons rfl (.cons rfl (.cons rfl (.cons rfl (.nil))))) ?_
 obtain⟨⟨Hh,Hi,Rg⟩,lP,h⟩:=bS h
 refine cl (bJ lP) ⟨rfl,trivial⟩<|mv rfl<|ex rfl rfl<|ex rfl rfl<|ex rfl rfl<|ag rfl<|ag rfl<|ag rfl<|dn<|qq<|qq ?_
 refine aF h (fun j3=>AS.bR 48 [(2,.ptr 2 0),(3,.ptr 3 0),(4,.ptr 4 0),(6,.sv (.v (.int .i64 J4))),(7,.sv (.v (.int .i64 Mq))),(9,.sv (.v (.int .i64 Hh))),(10,.sv (.v (.int .i64 Hi))),(31,.sv (.v (.bool j3)))] [(4,⟨52,[.sv (.v (.bool false)),.sv (slc 1 (List.map af [])),.sv (.v (.bool false)),.sv (slc 1 (List.map af []))]⟩),(3,⟨52,[.sv (.v (.bool bp)),.sv (slc 1 (List.map af bn)),.sv (.v (.bool eO)),.sv (slc 1 (List.map af eP))]⟩),(2,⟨52,[.sv (.v (.bool aC)),.sv (slc 1 (List.map af aD)),.sv (.v (.bool aL)),.sv (slc 1 (List.map af aM))]⟩)] []) (fun h=>?_) (fun y4 h=>?_)
 refine ah<|mv rfl<|mv rfl<|bE h fun N5 H8 h=>?_
 cases Rf
 obtain rfl:=O (F H8)
 exact ww<|pF rfl<|dn<|⟨false,h,wR []⟩
 refine gm rfl ?_
 obtain rfl:=O (V H8)
 exact pT rfl<|dn<|⟨Rg,h,wR []⟩
 try dsimp only
 refine ae.n ?_
 cases y4
 refine fs<|sr<|ld rfl rfl (.cons rfl (.cons rfl (.cons rfl (.cons rfl (.nil)))))<|ld rfl rfl (.cons rfl (.cons rfl (.cons rfl (.cons rfl (.nil))))) ?_
 obtain⟨⟨⟨Bf,Bg⟩,⟨N3,N4⟩⟩,yR,h⟩:=bS (F h)
 refine cl (xh yR) ⟨rfl,rfl,rfl,trivial⟩<|so rfl rfl rfl<|ag rfl<|dn<|aj ?_
 obtain rfl:=O h
 exact RZ (.agg rfl rfl (.cons rfl (.cons rfl (.cons rfl (.cons rfl (.nil))))) rfl (.tmp rfl (.nil)))
 refine cT<|qq<|sr<|mv rfl<|lE (V h) fun o8 pD h=>ls _ rfl rfl pD<|dn ?_
 refine aF h (fun j6=>AS.bR 48 [(4,.ptr 4 0),(6,.sv (.v (.int .i64 j6.1))),(7,.sv (.v (.int .i64 Mq))),(9,.sv (.v (.int .i64 j6.2))),(10,.sv (.v (.int .i64 Hi)))] [(4,⟨52,[.sv (.v (.bool false)),.sv (slc 1 (List.map af [])),.sv (.v (.bool false)),.sv (slc 1 (List.map af []))]⟩)] []) (fun h=>?_) (fun j6 h=>?_)
 cases o8
 exact fs<|⟨(J4,Hh),(F h),wR []⟩
 exact cT<|ah<|mv rfl<|lE (V h) fun uo B3 h=>RT.neg .none _ rfl T B3<|mv rfl<|lE h fun si vO h=>RT.neg .none _ rfl T vO<|ag rfl<|ag rfl<|dn<|⟨(uo,si),h,wR []⟩
 obtain⟨UA,UB⟩:=j6
 try dsimp only
 refine ae.n<|sr<|mv rfl<|mv rfl<|lE h fun mw nh h=>RT.mul .none _ rfl rfl T nh<|mv rfl<|mv rfl<|lE h fun rU Aj h=>RT.mul .none _ rfl rfl T Aj ?_
 obtain⟨⟨⟨Bh,Bi⟩,⟨NZ,N0⟩⟩,w9,h⟩:=bS h
 refine cl (jq w9) ⟨rfl,rfl,trivial⟩<|so rfl rfl rfl<|ag rfl<|dn<|aj<|ae.r ?_
 obtain rfl:=O h
 exact RZ (.agg rfl rfl (.cons rfl (.cons rfl (.cons rfl (.cons rfl (.nil))))) rfl (.tmp rfl (.nil)))
 refine cT<|sr<|bI (cs:=[_,_,_,_]) (cs':=[.v (.bool false),slc 1 (List.map af []),.v (.bool false),slc 1 (List.map af [])]) (.nil) ⟨SV.aa _,imp_nil,SV.aa _,imp_nil,trivial⟩<|so rfl rfl rfl<|ag rfl<|dn<|aj<|ae.r ?_
 obtain rfl:=O (V h)
 exact RZ (.agg rfl rfl (.cons rfl (.cons rfl (.cons rfl (.cons rfl (.nil))))) rfl (.tmp rfl (.nil)))
theorem DD{x0:Qr}{r:Qr}(h:mG x0=some r):Pure Try.prog 49 [.agg (eQ x0)] (.agg (eQ r)):=by
 obtain⟨⟨aC,aD⟩,⟨aL,aM⟩⟩:=x0
 refine ay Try.func49 rfl (Nat.le_of_ble_eq_true rfl) (fun cS M vs hvs=>?_)
 unfold mG at h
 refine sr<|bx rfl<|al (cs:=[.v (.bool false),slc 1 (List.map af []),.v (.bool false),slc 1 (List.map af [])]) (by exact⟨SV.aa _,imp_nil,SV.aa _,imp_nil,trivial⟩) rfl<|dn<|sr<|ld rfl rfl (.cons rfl (.cons rfl (.cons rfl (.cons rfl (.nil))))) ?_
 obtain⟨⟨⟨AA,Dz⟩,⟨AB,Cg⟩⟩,h5,h⟩:=bS h
 refine cl (fG h5) ⟨rfl,trivial⟩<|al (cs:=[.v (.bool false),slc 1 (List.map af []),.v (.bool false),slc 1 (List.map af [])]) (by exact⟨SV.aa _,imp_nil,SV.aa _,imp_nil,trivial⟩) rfl<|so rfl rfl rfl<|dn<|qq<|ai mixed<|fa rfl rfl<|ld rfl rfl (.cons rfl (.cons rfl (.nil))) ?_
 obtain⟨⟨uI,uJ⟩,h8,h⟩:=bS h
 refine cl (jW h8) ⟨rfl,trivial⟩<|fa rfl rfl<|ld rfl rfl (.cons rfl (.cons rfl (.nil)))<|bI (cs:=[_,_,_,_]) (cs':=[.v (.bool uI),slc 1 (List.map af uJ),.v (.bool AB),slc 1 (List.map af Cg)]) (.agg rfl (.agg rfl (.nil))) ⟨SV.aa _,SV.aa _,SV.aa _,SV.aa _,trivial⟩<|so rfl rfl rfl ?_
 refine RT.done ⟨by kernel_rfl,?_⟩
 refine ae.n<|aj ?_
 obtain rfl:=O h
 exact RZ (.agg rfl rfl (.cons rfl (.cons rfl (.cons rfl (.cons rfl (.nil))))) rfl (.nil))
theorem DE{x0:Qr}{x1:Qr}{r:Int}(h:mH x0 x1=some r):Pure Try.prog 39 [.agg (eQ x0),.agg (eQ x1)] (.v (.int .i64 r)):=by
 obtain⟨⟨aC,aD⟩,⟨aL,aM⟩⟩:=x0
 obtain⟨⟨bp,bn⟩,⟨eO,eP⟩⟩:=x1
 refine ay Try.func39 rfl (Nat.le_of_ble_eq_true rfl) (fun cS M vs hvs=>?_)
 unfold mH at h
 refine sr<|bx rfl<|bx rfl<|ag rfl<|dn<|sr<|ld rfl rfl (.cons rfl (.cons rfl (.cons rfl (.cons rfl (.nil))))) ?_
 obtain⟨⟨⟨gH,gI⟩,⟨iq,ir⟩⟩,fS,h⟩:=bS h
 refine cl (bw fS) ⟨rfl,trivial⟩<|mv rfl<|ex rfl rfl<|ex rfl rfl<|al (cs:=[.v (.bool false),slc 1 (List.map af [])]) (by exact⟨SV.aa _,imp_nil,trivial⟩) rfl<|al (cs:=[.v (.bool false),slc 1 (List.map af [])]) (by exact⟨SV.aa _,imp_nil,trivial⟩) rfl<|so rfl rfl rfl<|so rfl rfl rfl<|dn<|sr<|ld rfl rfl (.cons rfl (.cons rfl (.cons rfl (.cons rfl (.nil))))) ?_
 obtain⟨⟨⟨gJ,gK⟩,⟨iu,iv⟩⟩,ij,h⟩:=bS h
 refine cl (bw ij) ⟨rfl,trivial⟩<|mv rfl<|ex rfl rfl<|ex rfl rfl<|al (cs:=[.v (.bool false),slc 1 (List.map af [])]) (by exact⟨SV.aa _,imp_nil,trivial⟩) rfl<|al (cs:=[.v (.bool false),slc 1 (List.map af [])]) (by exact⟨SV.aa _,imp_nil,trivial⟩) rfl<|so rfl rfl rfl<|so rfl rfl rfl<|dn<|qq<|qq<|ai mixed<|ld rfl rfl (.cons rfl (.cons rfl (.nil)))<|bE h fun jS nN h=>?_
 refine cl (dB nN) ⟨rfl,trivial⟩<|ld rfl rfl (.cons rfl (.cons rfl (.nil)))<|bE h fun gD lP h=>cl (dB lP) ⟨rfl,trivial⟩<|ag rfl<|ag rfl ?_
 refine RT.done ⟨by kernel_rfl,?_⟩
 refine ae.n<|qq ?_
 refine aF h (fun j3=>AS.bR 43 [(5,.ptr 5 0),(6,.ptr 6 0),(7,.ptr 7 0),(8,.ptr 8 0),(9,.sv (.v (.int .i64 jS))),(10,.sv (.v (.int .i64 gD))),(31,.sv (.v (.bool j3)))] [(8,⟨50,[.sv (.v (.bool iu)),.sv (slc 1 (List.map af iv))]⟩),(7,⟨50,[.sv (.v (.bool gJ)),.sv (slc 1 (List.map af gK))]⟩),(6,⟨50,[.sv (.v (.bool iq)),.sv (slc 1 (List.map af ir))]⟩),(5,⟨50,[.sv (.v (.bool gH)),.sv (slc 1 (List.map af gI))]⟩)] []) (fun h=>?_) (fun y4 h=>?_)
 refine ah<|mv rfl<|mv rfl<|lE h fun lf oR h=>ne _ rfl rfl (F5 (p:=jS) (q:=gD) oR)<|mv rfl<|bE h fun Oa kS h=>?_
 cases lf
 refine gm rfl<|lE (F kS) fun yB uD kS=>TV _ rfl rfl (rR (p:=jS) (q:=0) uD) ?_
 obtain rfl:=O kS
 exact pF rfl<|dn<|⟨yB,h,wR []⟩
 obtain rfl:=O (V kS)
 exact ww<|ww<|pT rfl<|dn<|⟨true,h,wR []⟩
 try dsimp only
 refine ae.n ?_
 cases y4
 refine fs<|qq<|ai mixed<|ld rfl rfl (.cons rfl (.cons rfl (.nil)))<|ld rfl rfl (.cons rfl (.cons rfl (.nil))) ?_
 obtain⟨⟨N6,N7⟩,Dm,h⟩:=bS (F h)
 refine cl (c6 Dm) ⟨rfl,rfl,trivial⟩<|ld rfl rfl (.cons rfl (.cons rfl (.nil)))<|ld rfl rfl (.cons rfl (.cons rfl (.nil))) ?_
 obtain⟨⟨N8,N9⟩,w7,h⟩:=bS h
 refine cl (c6 w7) ⟨rfl,rfl,trivial⟩<|bE h fun qj w8 h=>cl (B8 w8) ⟨rfl,rfl,trivial⟩<|ag rfl ?_
 refine RT.done ⟨by kernel_rfl,?_⟩
 refine ae.n<|aj ?_
 obtain rfl:=O h
 exact R1 rfl
 refine cT<|sr<|mv rfl<|mv rfl<|lE (V h) fun nY pC h=>sb _ rfl rfl pC<|bE h fun uo B3 h=>cl (Ch B3) ⟨rfl,trivial⟩<|ag rfl<|dn<|aj<|ae.r ?_
 obtain rfl:=O h
 exact R1 rfl
end Go.Proofs.Ytningmnklfpfjaa
namespace Go.Proofs.Ytningmnklfpfjaa
open Go.Fw
noncomputable def gZ(x0:List Qr)(x1:List Qr):Option (List Qr):=(some (x0.length:Int)).bind fun iz=>(some (x1.length:Int)).bind fun gC=>(some (max (iz:Int) gC)).bind fun gY=>(IJ (α:=Qr) 64 gY).bind fun fC=>(nL (fun(k:Nat) (gL:(List Qr))=>(show Option ((List Qr))from(some (x0.getD k (⟨⟨false,[]⟩,⟨false,[]⟩⟩:Qr))).bind fun⟨⟨y9,za⟩,⟨zb,ze⟩⟩=>(some (x1.getD k (⟨⟨false,[]⟩,⟨false,[]⟩⟩:Qr))).bind fun⟨⟨zf,zg⟩,⟨zh,zj⟩⟩=>(jG ⟨⟨y9,za⟩,⟨zb,ze⟩⟩ ⟨⟨zf,zg⟩,⟨zh,zj⟩⟩).bind fun⟨⟨gQ,gR⟩,⟨mI,mJ⟩⟩=>(yu 64 gL [⟨⟨gQ,gR⟩,⟨mI,mJ⟩⟩]).bind fun lf=>some lf)) (max x0.length x1.length) fC).bind fun gL=>some gL
noncomputable def fH(x0:Qr)(x1:Qr)(AD:Qr):Option (Qr):=match x0 with|⟨⟨aC,aD⟩,⟨aL,aM⟩⟩=>match x1 with|⟨⟨bp,bn⟩,⟨eO,eP⟩⟩=>match AD with|⟨⟨Bo,Bp⟩,⟨Bq,Br⟩⟩=>(iU ⟨⟨Bo,Bp⟩,⟨Bq,Br⟩⟩ ⟨⟨aC,aD⟩,⟨aL,aM⟩⟩).bind fun⟨⟨uI,uJ⟩,⟨AE,AF⟩⟩=>(jF ⟨⟨uI,uJ⟩,⟨AE,AF⟩⟩ ⟨⟨bp,bn⟩,⟨eO,eP⟩⟩).bind fun⟨⟨yK,yL⟩,⟨J6,J7⟩⟩=>some ⟨⟨yK,yL⟩,⟨J6,J7⟩⟩
noncomputable def eR(x0:List Qr)(x1:List Qr)(Ci:Qr):Option (List Qr):=match Ci with|⟨⟨zk,zm⟩,⟨zo,zq⟩⟩=>(some (x0.length:Int)).bind fun iz=>(some (x1.length:Int)).bind fun gC=>(some (max (iz:Int) gC)).bind fun gY=>(IJ (α:=Qr) 64 gY).bind fun fC=>(nL (fun(k:Nat) (gL:(List Qr))=>(show Option ((List Qr))from(some (x0.getD k (⟨⟨false,[]⟩,⟨false,[]⟩⟩:Qr))).bind fun⟨⟨y9,za⟩,⟨zb,ze⟩⟩=>(some (x1.getD k (⟨⟨false,[]⟩,⟨false,[]⟩⟩:Qr))).bind fun⟨⟨zf,zg⟩,⟨zh,zj⟩⟩=>(fH ⟨⟨y9,za⟩,⟨zb,ze⟩⟩ ⟨⟨zf,zg⟩,⟨zh,zj⟩⟩ ⟨⟨zk,zm⟩,⟨zo,zq⟩⟩).bind fun⟨⟨gQ,gR⟩,⟨mI,mJ⟩⟩=>(yu 64 gL [⟨⟨gQ,gR⟩,⟨mI,mJ⟩⟩]).bind fun lf=>some lf)) (max x0.length x1.length) fC).bind fun gL=>some gL
noncomputable def kM(x0:List Qr)(x1:List Qr):Option (List Qr):=(gZ x0 x1).bind fun x7=>some x7
noncomputable def lD(x0:Qr)(x1:List Qr):Option (List Qr):=match x0 with|⟨⟨aC,aD⟩,⟨aL,aM⟩⟩=>(some (x1.length:Int)).bind fun x9=>(A0 64 x9 (⟨⟨false,[]⟩,⟨false,[]⟩⟩:Qr)).bind fun dW=>(some (x1.length:Int)).bind fun eG=>(cq (fun(s8:Int×(List Qr))=>match s8 with|⟨DF,DG⟩=>(show Option ((Int×(List Qr))⊕((List Qr)))from(some (decide ((DF:Int)<eG))).bind fun gY=>(bif gY then(dD x1 DF).bind fun⟨⟨lp,lq⟩,⟨Ob,Od⟩⟩=>(iU ⟨⟨aC,aD⟩,⟨aL,aM⟩⟩ ⟨⟨lp,lq⟩,⟨Ob,Od⟩⟩).bind fun⟨⟨uK,uL⟩,⟨uM,uN⟩⟩=>(nX DG DF).bind fun lN=>(stM DG lN ⟨⟨uK,uL⟩,⟨uM,uN⟩⟩).bind fun vH=>(some (IntKind.i64.wrap (DF+1))).bind fun gD=>some (.inl (gD,vH))else some (.inr DG)))) (0,dW)).bind fun zu=>some zu
noncomputable def dN(x0:Qr)(x1:List Qr)(x2:List Qr):Option (List Qr):=match x0 with|⟨⟨aC,aD⟩,⟨aL,aM⟩⟩=>(eR x1 x2 ⟨⟨aC,aD⟩,⟨aL,aM⟩⟩).bind fun dW=>some dW
noncomputable def g9(x0:List Qr)(x1:List Qr):Option (Int):=(mz (fun(k:Nat) (s3:Unit)=>(show Option ((Unit)⊕(Int))from(some (x0.getD k (⟨⟨false,[]⟩,⟨false,[]⟩⟩:Qr))).bind fun⟨⟨Oe,Of⟩,⟨Og,Oh⟩⟩=>(some (x1.getD k (⟨⟨false,[]⟩,⟨false,[]⟩⟩:Qr))).bind fun⟨⟨Oi,Oj⟩,⟨Ol,Om⟩⟩=>(mH ⟨⟨Oe,Of⟩,⟨Og,Oh⟩⟩ ⟨⟨Oi,Oj⟩,⟨Ol,Om⟩⟩).bind fun fC=>(some (decide ((fC:Int)≠0))).bind fun fR=>(bif fR then some (.inr fC)else some (.inl ())))) (max x0.length x1.length) ()).bind fun e3=>match e3 with|.inr v3=>some v3|.inl _=>some 0
noncomputable def mK(x0:List Qr):Option (Int):=(g9 x0 []).bind fun x4=>some x4
noncomputable def dx(x0:List Qr)(x1:List Qr):Option (Bool):=(g9 x0 x1).bind fun x7=>(some (decide ((x7:Int)=0))).bind fun x8=>some x8
noncomputable def jZ(x0:List Qr)(x1:Int):Option (List Qr):=(some (decide ((x1:Int)<1))).bind fun x8=>(bif x8 then some []else(some (min (x1:Int) 65536)).bind fun dW=>(A0 64 dW (⟨⟨false,[]⟩,⟨false,[]⟩⟩:Qr)).bind fun iz=>(some (x0.length:Int)).bind fun gC=>(some (iz.length:Int)).bind fun fC=>(some (min (gC:Int) fC)).bind fun jN=>(cq (fun(s8:Int×(List Qr))=>match s8 with|⟨DH,DI⟩=>(show Option ((Int×(List Qr))⊕((List Qr)))from(some (decide ((DH:Int)<jN))).bind fun fg=>(bif fg then(dD x0 DH).bind fun⟨⟨pY,pZ⟩,⟨qa,qb⟩⟩=>(bM ⟨⟨pY,pZ⟩,⟨qa,qb⟩⟩).bind fun⟨⟨J8,J9⟩,⟨Ka,Kb⟩⟩=>(nX DI DH).bind fun lf=>(stM DI lf ⟨⟨J8,J9⟩,⟨Ka,Kb⟩⟩).bind fun vH=>(some (IntKind.i64.wrap (DH+1))).bind fun og=>some (.inl (og,vH))else some (.inr DI)))) (0,iz)).bind fun zw=>some zw)
noncomputable def bY(x0:List Int):Option (List Qr):=(some (x0.length:Int)).bind fun x7=>(A0 64 x7 (⟨⟨false,[]⟩,⟨false,[]⟩⟩:Qr)).bind fun x8=>(some (x0.length:Int)).bind fun dW=>(cq (fun(s8:Int×(List Qr))=>match s8 with|⟨qZ,zx⟩=>(show Option ((Int×(List Qr))⊕((List Qr)))from(some (decide ((qZ:Int)<dW))).bind fun eG=>(bif eG then(dD x0 qZ).bind fun gY=>(cy gY).bind fun⟨⟨kC,kD⟩,⟨zy,zA⟩⟩=>(nX zx qZ).bind fun gx=>(stM zx gx ⟨⟨kC,kD⟩,⟨zy,zA⟩⟩).bind fun vH=>(some (IntKind.i64.wrap (qZ+1))).bind fun mc=>some (.inl (mc,vH))else some (.inr zx)))) (0,x8)).bind fun th=>some th
end Go.Proofs.Ytningmnklfpfjaa
namespace Go.Proofs.Ytningmnklfpfjaa
open Go.Fw Go.Fw.Z Go.RowKit
theorem j0(a b:List Qr):Pure Try.prog 38 [(slc 4 (List.map eQ a)),(slc 4 (List.map eQ b))] (gP 56 [ref [(slc 4 (List.map eQ a))],ref [(slc 4 (List.map eQ b))]]):=by
 refine ay Try.func38 rfl (Nat.le_of_ble_eq_true rfl) (fun cS M vs hvs=>?_)
 refine sr<|RT.uc .none (s:=.sv _) rfl T rfl rfl<|RT.uc .none (s:=.sv _) rfl T rfl rfl<|ag rfl<|dn<|sr<|RT.makeFunc .none (.box rfl (.box rfl (.nil))) T<|an (s:=.dV _ _) rfl<|dn<|bt (fX (i:=2) rfl [(slc 4 (List.map eQ a))] (.cons rfl .nil) .any 0 [(4,.dV 56 [.val (ref [(slc 4 (List.map eQ a))]),.box 3])] (fun _ _ _=>trivial) (oU.h (l:=[(slc 4 (List.map eQ a))])) ⟨@FT.dV _ _ _ _ _ 4 56 [.box 2,.box 3] rfl,trivial⟩) ?_
 exact bt (fX (i:=3) rfl [(slc 4 (List.map eQ b))] (.cons rfl .nil) .any 0 [(4,.dV 56 [.val (ref [(slc 4 (List.map eQ a))]),.val (ref [(slc 4 (List.map eQ b))])])] (fun _ _ _=>trivial) (oU.h (l:=[(slc 4 (List.map eQ b))])) ⟨@FT.dV _ _ _ _ _ 4 56 [.val (ref [(slc 4 (List.map eQ a))]),.box 3] rfl,trivial⟩)<|bt (ES 4 (gP 56 [ref [(slc 4 (List.map eQ a))],ref [(slc 4 (List.map eQ b))]]) (fun _ _ h=>ET h))<|aj<|⟨.inr rfl,EH (.tmp rfl (.nil)) rfl⟩
theorem j1(a b:List Qr):Iter Try.prog 56 [ref [(slc 4 (List.map eQ a))],ref [(slc 4 (List.map eQ b))]] (max a.length b.length) (fun k=>[.agg (eQ (a.getD k (⟨⟨false,[]⟩,⟨false,[]⟩⟩:Qr))),.agg (eQ (b.getD k (⟨⟨false,[]⟩,⟨false,[]⟩⟩:Qr)))]):=by
 refine sV Try.func56 rfl rfl (Nat.le_of_ble_eq_true rfl) (fun cS M O l J hJ Ag hr=>?_)
 obtain⟨nf,Ag⟩:=Ag
 have hla:a.length≤9223372036854775807:=by cases nf with|nil=>exact Ag.elim|cons _ nf=>exact xG Ag.1
 have hlb:b.length≤9223372036854775807:=by cases nf with|nil=>exact Ag.elim|cons _ nf=>cases nf with|nil=>exact Ag.2.elim|cons _ _=>exact xG Ag.2.1
 refine aP ?_
 refine ah ?_
 refine RT.c9 .none rfl rfl (tl rfl) ?_
 refine RT.len .none rfl (tl rfl) ?_
 refine RT.c9 .none rfl rfl (tl rfl) ?_
 refine RT.len .none rfl (tl rfl) ?_
 refine RT.max .none (((max a.length b.length:Nat):Int)) rfl rfl (tl rfl) (by simp only[List.length_map];split<;>omega) ?_
 refine RT.mv .none rfl (tl rfl) ?_
 refine RT.done ?_
 refine ae.n ?_
 refine aq ?_
 refine xA (I:=fun x:{i:Nat//i≤max a.length b.length}=>AS.bR 37 [(0,.sv (.v (.func (.yield l) #[] #[]))),(1,.sv (ref [(slc 4 (List.map eQ a))])),(2,.sv (ref [(slc 4 (List.map eQ b))])),(11,.sv (.v (.int .i64 ((max a.length b.length:Nat):Int)))),(12,.sv (.v (.int .i64 ((x.1:Nat):Int))))] [] [] (x.1)) (μ:=fun x=>max a.length b.length-x.1) ⟨0,by omega⟩ (by(try dsimp only);exact dm id rfl rfl rfl rfl rfl ⟨.sv (by first|exact SV.aa _|exact SV.au (by omega)|exact SV.au (by push_cast;omega)|exact SV.au (by dsimp only;omega)|exact SV.imp_eq (by simp)),.sv (by first|exact SV.aa _|exact SV.au (by omega)|exact SV.au (by push_cast;omega)|exact SV.au (by dsimp only;omega)|exact SV.imp_eq (by simp)),.sv (by first|exact SV.aa _|exact SV.au (by omega)|exact SV.au (by push_cast;omega)|exact SV.au (by dsimp only;omega)|exact SV.imp_eq (by simp)),.sv (by first|exact SV.aa _|exact SV.au (by omega)|exact SV.au (by push_cast;omega)|exact SV.au (by dsimp only;omega)|exact SV.imp_eq (by simp)),.sv (by first|exact SV.aa _|exact SV.au (by omega)|exact SV.au (by push_cast;omega)|exact SV.au (by dsimp only;omega)|exact SV.imp_eq (by simp)),trivial⟩ trivial trivial (fun _ _=>rfl)) ?_
 rintro⟨i,Uj⟩
 try dsimp only
 rcases yy a b i Uj with⟨hi,wV,Aq⟩|⟨hi,wV,Aq⟩|⟨hi,wV,Aq⟩|hi
 ·
  refine aP ?_
  refine ah ?_
  refine RT.lss .none (true) rfl rfl (tl rfl) (by simp;omega) ?_
  refine RT.done ?_
  refine ae.n ?_
  refine aP ?_
  refine cE rfl ?_
  refine aG ?_
  refine ae.n ?_
  refine aP ?_
  refine aq ?_
  refine aP ?_
  refine ah ?_
  refine RT.mv .none rfl (tl rfl) ?_
  refine RT.BN .none rfl (tl rfl) ?_
  refine RT.done ?_
  refine ae.n ?_
  refine aP ?_
  refine ah ?_
  refine RT.sZ .none (cs:=eQ ⟨⟨false,[]⟩,⟨false,[]⟩⟩) (by exact⟨SV.aa _,imp_nil,SV.aa _,imp_nil,trivial⟩) rfl (tl rfl) rfl rfl ?_
  refine RT.sZ .none (cs:=eQ ⟨⟨false,[]⟩,⟨false,[]⟩⟩) (by exact⟨SV.aa _,imp_nil,SV.aa _,imp_nil,trivial⟩) rfl (tl rfl) rfl rfl ?_
  refine RT.done ?_
  refine ae.n ?_
  refine aP ?_
  refine aP ?_
  refine ah ?_
  refine RT.mv .none rfl (tl rfl) ?_
  refine RT.c9 .none rfl rfl (tl rfl) ?_
  refine RT.len .none rfl (tl rfl) ?_
  refine RT.lss .none (true) rfl rfl (tl rfl) (by simp only[List.length_map];simp;omega) ?_
  refine RT.done ?_
  refine ae.n ?_
  refine cE rfl ?_
  refine ah ?_
  refine RT.c9 .none rfl rfl (tl rfl) ?_
  refine RT.mv .none rfl (tl rfl) ?_
  refine RT.NJ .none [.v (.bool (a.getD i (⟨⟨false,[]⟩,⟨false,[]⟩⟩:Qr)).num.neg),slc 1 ((a.getD i (⟨⟨false,[]⟩,⟨false,[]⟩⟩:Qr)).num.w.map af),.v (.bool (a.getD i (⟨⟨false,[]⟩,⟨false,[]⟩⟩:Qr)).den.neg),slc 1 ((a.getD i (⟨⟨false,[]⟩,⟨false,[]⟩⟩:Qr)).den.w.map af)] (Int.natCast_nonneg i) (by rw[Int.toNat_natCast,List.getElem?_map,jb wV];rfl) rfl rfl (tl rfl) ?_
  refine RT.jk .none rfl (tl rfl) (cs:=[.v (.bool (a.getD i (⟨⟨false,[]⟩,⟨false,[]⟩⟩:Qr)).num.neg),slc 1 ((a.getD i (⟨⟨false,[]⟩,⟨false,[]⟩⟩:Qr)).num.w.map af),.v (.bool (a.getD i (⟨⟨false,[]⟩,⟨false,[]⟩⟩:Qr)).den.neg),slc 1 ((a.getD i (⟨⟨false,[]⟩,⟨false,[]⟩⟩:Qr)).den.w.map af)]) rfl rfl ?_
  refine RT.store .none rfl rfl rfl rfl rfl ?_
  refine RT.done ?_
  refine ae.n ?_
  refine aP ?_
  refine aP ?_
  refine ah ?_
  refine RT.mv .none rfl (tl rfl) ?_
  refine RT.c9 .none rfl rfl (tl rfl) ?_
  refine RT.len .none rfl (tl rfl) ?_
  refine RT.lss .none (true) rfl rfl (tl rfl) (by simp only[List.length_map];simp;omega) ?_
  refine RT.done ?_
  refine ae.n ?_
  refine cE rfl ?_
  refine ah ?_
  refine RT.c9 .none rfl rfl (tl rfl) ?_
  refine RT.mv .none rfl (tl rfl) ?_
  refine RT.NJ .none [.v (.bool (b.getD i (⟨⟨false,[]⟩,⟨false,[]⟩⟩:Qr)).num.neg),slc 1 ((b.getD i (⟨⟨false,[]⟩,⟨false,[]⟩⟩:Qr)).num.w.map af),.v (.bool (b.getD i (⟨⟨false,[]⟩,⟨false,[]⟩⟩:Qr)).den.neg),slc 1 ((b.getD i (⟨⟨false,[]⟩,⟨false,[]⟩⟩:Qr)).den.w.map af)] (Int.natCast_nonneg i) (by rw[Int.toNat_natCast,List.getElem?_map,jb Aq];rfl) rfl rfl (tl rfl) ?_
  refine RT.jk .none rfl (tl rfl) (cs:=[.v (.bool (b.getD i (⟨⟨false,[]⟩,⟨false,[]⟩⟩:Qr)).num.neg),slc 1 ((b.getD i (⟨⟨false,[]⟩,⟨false,[]⟩⟩:Qr)).num.w.map af),.v (.bool (b.getD i (⟨⟨false,[]⟩,⟨false,[]⟩⟩:Qr)).den.neg),slc 1 ((b.getD i (⟨⟨false,[]⟩,⟨false,[]⟩⟩:Qr)).den.w.map af)]) rfl rfl ?_
  refine RT.store .none rfl rfl rfl rfl rfl ?_
  refine RT.done ?_
  refine ae.n ?_
  refine aP ?_
  refine ah ?_
  refine RT.mv .none rfl (tl rfl) ?_
  refine RT.load .none rfl rfl (.cons rfl (.cons rfl (.cons rfl (.cons rfl (.nil))))) rfl (tl rfl) ?_
  refine RT.load .none rfl rfl (.cons rfl (.cons rfl (.cons rfl (.cons rfl (.nil))))) rfl (tl rfl) ?_
  refine RT.yield .none hr rfl (fun _ h=>h) rfl (i) rfl rfl hi (by exact⟨rfl,rfl,trivial⟩) (tl rfl) (fun yb=>?_)
  cases yb
  ·
   refine RT.not .none rfl (tl rfl) true rfl ?_
   refine RT.done ?_
   refine ae.n ?_
   refine cE rfl ?_
   refine aj ?_
   refine aH.r ?_
   refine ae.r ?_
   refine ae.r ?_
   refine aH.r ?_
   exact⟨.inr rfl,(fun h=>by cases h)⟩
  ·
   refine RT.not .none rfl (tl rfl) false rfl ?_
   refine RT.done ?_
   refine ae.n ?_
   refine eE rfl ?_
   refine aG ?_
   refine aH.n ?_
   refine ae.n ?_
   refine ah ?_
   refine RT.add .none (((i:Nat):Int)+1) rfl rfl (tl rfl) (lM (by omega)) ?_
   refine RT.mv .none rfl (tl rfl) ?_
   refine RT.done ?_
   refine ae.n ?_
   refine⟨⟨i+1,by omega⟩,(by dsimp only;omega),?_⟩
   try dsimp only
   exact dm id rfl rfl rfl rfl rfl ⟨.sv (by first|exact SV.aa _|exact SV.au (by omega)|exact SV.au (by push_cast;omega)|exact SV.au (by dsimp only;omega)|exact SV.imp_eq (by simp)),.sv (by first|exact SV.aa _|exact SV.au (by omega)|exact SV.au (by push_cast;omega)|exact SV.au (by dsimp only;omega)|exact SV.imp_eq (by simp)),.sv (by first|exact SV.aa _|exact SV.au (by omega)|exact SV.au (by push_cast;omega)|exact SV.au (by dsimp only;omega)|exact SV.imp_eq (by simp)),.sv (by first|exact SV.aa _|exact SV.au (by omega)|exact SV.au (by push_cast;omega)|exact SV.au (by dsimp only;omega)|exact SV.imp_eq (by simp)),.sv (by first|exact SV.aa _|exact SV.au (by omega)|exact SV.au (by push_cast;omega)|exact SV.au (by dsimp only;omega)|exact SV.imp_eq (by simp)),trivial⟩ trivial trivial (fun _ _=>rfl)
 ·
  refine aP ?_
  refine ah ?_
  refine RT.lss .none (true) rfl rfl (tl rfl) (by simp;omega) ?_
  refine RT.done ?_
  refine ae.n ?_
  refine aP ?_
  refine cE rfl ?_
  refine aG ?_
  refine ae.n ?_
  refine aP ?_
  refine aq ?_
  refine aP ?_
  refine ah ?_
  refine RT.mv .none rfl (tl rfl) ?_
  refine RT.BN .none rfl (tl rfl) ?_
  refine RT.done ?_
  refine ae.n ?_
  refine aP ?_
  refine ah ?_
  refine RT.sZ .none (cs:=eQ ⟨⟨false,[]⟩,⟨false,[]⟩⟩) (by exact⟨SV.aa _,imp_nil,SV.aa _,imp_nil,trivial⟩) rfl (tl rfl) rfl rfl ?_
  refine RT.sZ .none (cs:=eQ ⟨⟨false,[]⟩,⟨false,[]⟩⟩) (by exact⟨SV.aa _,imp_nil,SV.aa _,imp_nil,trivial⟩) rfl (tl rfl) rfl rfl ?_
  refine RT.done ?_
  refine ae.n ?_
  refine aP ?_
  refine aP ?_
  refine ah ?_
  refine RT.mv .none rfl (tl rfl) ?_
  refine RT.c9 .none rfl rfl (tl rfl) ?_
  refine RT.len .none rfl (tl rfl) ?_
  refine RT.lss .none (true) rfl rfl (tl rfl) (by simp only[List.length_map];simp;omega) ?_
  refine RT.done ?_
  refine ae.n ?_
  refine cE rfl ?_
  refine ah ?_
  refine RT.c9 .none rfl rfl (tl rfl) ?_
  refine RT.mv .none rfl (tl rfl) ?_
  refine RT.NJ .none [.v (.bool (a.getD i (⟨⟨false,[]⟩,⟨false,[]⟩⟩:Qr)).num.neg),slc 1 ((a.getD i (⟨⟨false,[]⟩,⟨false,[]⟩⟩:Qr)).num.w.map af),.v (.bool (a.getD i (⟨⟨false,[]⟩,⟨false,[]⟩⟩:Qr)).den.neg),slc 1 ((a.getD i (⟨⟨false,[]⟩,⟨false,[]⟩⟩:Qr)).den.w.map af)] (Int.natCast_nonneg i) (by rw[Int.toNat_natCast,List.getElem?_map,jb wV];rfl) rfl rfl (tl rfl) ?_
  refine RT.jk .none rfl (tl rfl) (cs:=[.v (.bool (a.getD i (⟨⟨false,[]⟩,⟨false,[]⟩⟩:Qr)).num.neg),slc 1 ((a.getD i (⟨⟨false,[]⟩,⟨false,[]⟩⟩:Qr)).num.w.map af),.v (.bool (a.getD i (⟨⟨false,[]⟩,⟨false,[]⟩⟩:Qr)).den.neg),slc 1 ((a.getD i (⟨⟨false,[]⟩,⟨false,[]⟩⟩:Qr)).den.w.map af)]) rfl rfl ?_
  refine RT.store .none rfl rfl rfl rfl rfl ?_
  refine RT.done ?_
  refine ae.n ?_
  refine aP ?_
  refine aP ?_
  refine ah ?_
  refine RT.mv .none rfl (tl rfl) ?_
  refine RT.c9 .none rfl rfl (tl rfl) ?_
  refine RT.len .none rfl (tl rfl) ?_
  refine RT.lss .none (false) rfl rfl (tl rfl) (by simp only[List.length_map];simp;omega) ?_
  refine RT.done ?_
  refine ae.n ?_
  refine eE rfl ?_
  refine aG ?_
  refine ae.n ?_
  refine aP ?_
  refine ah ?_
  refine RT.mv .none rfl (tl rfl) ?_
  refine RT.load .none rfl rfl (.cons rfl (.cons rfl (.cons rfl (.cons rfl (.nil))))) rfl (tl rfl) ?_
  refine RT.load .none rfl rfl (.cons rfl (.cons rfl (.cons rfl (.cons rfl (.nil))))) rfl (tl rfl) ?_
  refine RT.yield .none hr rfl (fun _ h=>h) rfl (i) rfl rfl hi (by exact⟨rfl,(by show AV.sv _=AV.sv _;rw[iG Aq]),trivial⟩) (tl rfl) (fun yb=>?_)
  cases yb
  ·
   refine RT.not .none rfl (tl rfl) true rfl ?_
   refine RT.done ?_
   refine ae.n ?_
   refine cE rfl ?_
   refine aj ?_
   refine aH.r ?_
   refine ae.r ?_
   refine ae.r ?_
   refine aH.r ?_
   exact⟨.inr rfl,(fun h=>by cases h)⟩
  ·
   refine RT.not .none rfl (tl rfl) false rfl ?_
   refine RT.done ?_
   refine ae.n ?_
   refine eE rfl ?_
   refine aG ?_
   refine aH.n ?_
   refine ae.n ?_
   refine ah ?_
   refine RT.add .none (((i:Nat):Int)+1) rfl rfl (tl rfl) (lM (by omega)) ?_
   refine RT.mv .none rfl (tl rfl) ?_
   refine RT.done ?_
   refine ae.n ?_
   refine⟨⟨i+1,by omega⟩,(by dsimp only;omega),?_⟩
   try dsimp only
   exact dm id rfl rfl rfl rfl rfl ⟨.sv (by first|exact SV.aa _|exact SV.au (by omega)|exact SV.au (by push_cast;omega)|exact SV.au (by dsimp only;omega)|exact SV.imp_eq (by simp)),.sv (by first|exact SV.aa _|exact SV.au (by omega)|exact SV.au (by push_cast;omega)|exact SV.au (by dsimp only;omega)|exact SV.imp_eq (by simp)),.sv (by first|exact SV.aa _|exact SV.au (by omega)|exact SV.au (by push_cast;omega)|exact SV.au (by dsimp only;omega)|exact SV.imp_eq (by simp)),.sv (by first|exact SV.aa _|exact SV.au (by omega)|exact SV.au (by push_cast;omega)|exact SV.au (by dsimp only;omega)|exact SV.imp_eq (by simp)),.sv (by first|exact SV.aa _|exact SV.au (by omega)|exact SV.au (by push_cast;omega)|exact SV.au (by dsimp only;omega)|exact SV.imp_eq (by simp)),trivial⟩ trivial trivial (fun _ _=>rfl)
 ·
  refine aP ?_
  refine ah ?_
  refine RT.lss .none (true) rfl rfl (tl rfl) (by simp;omega) ?_
  refine RT.done ?_
  refine ae.n ?_
  refine aP ?_
  refine cE rfl ?_
  refine aG ?_
  refine ae.n ?_
  refine aP ?_
  refine aq ?_
  refine aP ?_
  refine ah ?_
  refine RT.mv .none rfl (tl rfl) ?_
  refine RT.BN .none rfl (tl rfl) ?_
  refine RT.done ?_
  refine ae.n ?_
  refine aP ?_
  refine ah ?_
  refine RT.sZ .none (cs:=eQ ⟨⟨false,[]⟩,⟨false,[]⟩⟩) (by exact⟨SV.aa _,imp_nil,SV.aa _,imp_nil,trivial⟩) rfl (tl rfl) rfl rfl ?_
  refine RT.sZ .none (cs:=eQ ⟨⟨false,[]⟩,⟨false,[]⟩⟩) (by exact⟨SV.aa _,imp_nil,SV.aa _,imp_nil,trivial⟩) rfl (tl rfl) rfl rfl ?_
  refine RT.done ?_
  refine ae.n ?_
  refine aP ?_
  refine aP ?_
  refine ah ?_
  refine RT.mv .none rfl (tl rfl) ?_
  refine RT.c9 .none rfl rfl (tl rfl) ?_
  refine RT.len .none rfl (tl rfl) ?_
  refine RT.lss .none (false) rfl rfl (tl rfl) (by simp only[List.length_map];simp;omega) ?_
  refine RT.done ?_
  refine ae.n ?_
  refine eE rfl ?_
  refine aG ?_
  refine ae.n ?_
  refine aP ?_
  refine aP ?_
  refine ah ?_
  refine RT.mv .none rfl (tl rfl) ?_
  refine RT.c9 .none rfl rfl (tl rfl) ?_
  refine RT.len .none rfl (tl rfl) ?_
  refine RT.lss .none (true) rfl rfl (tl rfl) (by simp only[List.length_map];simp;omega) ?_
  refine RT.done ?_
  refine ae.n ?_
  refine cE rfl ?_
  refine ah ?_
  refine RT.c9 .none rfl rfl (tl rfl) ?_
  refine RT.mv .none rfl (tl rfl) ?_
  refine RT.NJ .none [.v (.bool (b.getD i (⟨⟨false,[]⟩,⟨false,[]⟩⟩:Qr)).num.neg),slc 1 ((b.getD i (⟨⟨false,[]⟩,⟨false,[]⟩⟩:Qr)).num.w.map af),.v (.bool (b.getD i (⟨⟨false,[]⟩,⟨false,[]⟩⟩:Qr)).den.neg),slc 1 ((b.getD i (⟨⟨false,[]⟩,⟨false,[]⟩⟩:Qr)).den.w.map af)] (Int.natCast_nonneg i) (by rw[Int.toNat_natCast,List.getElem?_map,jb Aq];rfl) rfl rfl (tl rfl) ?_
  refine RT.jk .none rfl (tl rfl) (cs:=[.v (.bool (b.getD i (⟨⟨false,[]⟩,⟨false,[]⟩⟩:Qr)).num.neg),slc 1 ((b.getD i (⟨⟨false,[]⟩,⟨false,[]⟩⟩:Qr)).num.w.map af),.v (.bool (b.getD i (⟨⟨false,[]⟩,⟨false,[]⟩⟩:Qr)).den.neg),slc 1 ((b.getD i (⟨⟨false,[]⟩,⟨false,[]⟩⟩:Qr)).den.w.map af)]) rfl rfl ?_
  refine RT.store .none rfl rfl rfl rfl rfl ?_
  refine RT.done ?_
  refine ae.n ?_
  refine aP ?_
  refine ah ?_
  refine RT.mv .none rfl (tl rfl) ?_
  refine RT.load .none rfl rfl (.cons rfl (.cons rfl (.cons rfl (.cons rfl (.nil))))) rfl (tl rfl) ?_
  refine RT.load .none rfl rfl (.cons rfl (.cons rfl (.cons rfl (.cons rfl (.nil))))) rfl (tl rfl) ?_
  refine RT.yield .none hr rfl (fun _ h=>h) rfl (i) rfl rfl hi (by exact⟨(by show AV.sv _=AV.sv _;rw[iG wV]),rfl,trivial⟩) (tl rfl) (fun yb=>?_)
  cases yb
  ·
   refine RT.not .none rfl (tl rfl) true rfl ?_
   refine RT.done ?_
   refine ae.n ?_
   refine cE rfl ?_
   refine aj ?_
   refine aH.r ?_
   refine ae.r ?_
   refine ae.r ?_
   refine aH.r ?_
   exact⟨.inr rfl,(fun h=>by cases h)⟩
  ·
   refine RT.not .none rfl (tl rfl) false rfl ?_
   refine RT.done ?_
   refine ae.n ?_
   refine eE rfl ?_
   refine aG ?_
   refine aH.n ?_
   refine ae.n ?_
   refine ah ?_
   refine RT.add .none (((i:Nat):Int)+1) rfl rfl (tl rfl) (lM (by omega)) ?_
   refine RT.mv .none rfl (tl rfl) ?_
   refine RT.done ?_
   refine ae.n ?_
   refine⟨⟨i+1,by omega⟩,(by dsimp only;omega),?_⟩
   try dsimp only
   exact dm id rfl rfl rfl rfl rfl ⟨.sv (by first|exact SV.aa _|exact SV.au (by omega)|exact SV.au (by push_cast;omega)|exact SV.au (by dsimp only;omega)|exact SV.imp_eq (by simp)),.sv (by first|exact SV.aa _|exact SV.au (by omega)|exact SV.au (by push_cast;omega)|exact SV.au (by dsimp only;omega)|exact SV.imp_eq (by simp)),.sv (by first|exact SV.aa _|exact SV.au (by omega)|exact SV.au (by push_cast;omega)|exact SV.au (by dsimp only;omega)|exact SV.imp_eq (by simp)),.sv (by first|exact SV.aa _|exact SV.au (by omega)|exact SV.au (by push_cast;omega)|exact SV.au (by dsimp only;omega)|exact SV.imp_eq (by simp)),.sv (by first|exact SV.aa _|exact SV.au (by omega)|exact SV.au (by push_cast;omega)|exact SV.au (by dsimp only;omega)|exact SV.imp_eq (by simp)),trivial⟩ trivial trivial (fun _ _=>rfl)
 ·
  subst hi
  refine aP ?_
  refine ah ?_
  refine RT.lss .none (false) rfl rfl (tl rfl) (by simp) ?_
  refine RT.done ?_
  refine ae.n ?_
  refine aP ?_
  refine eE rfl ?_
  refine bj ?_
  refine ae.x ?_
  refine ae.x ?_
  refine aH.x ?_
  exact⟨.inl rfl,(fun _=>rfl)⟩
end Go.Proofs.Ytningmnklfpfjaa
namespace Go.Proofs.Ytningmnklfpfjaa
open Go.Fw Go.Fw.Z Go.RowKit
theorem zB{x0:List Qr}{x1:List Qr}{r:List Qr}(h:gZ x0 x1=some r):Pure Try.prog 41 [slc 4 (List.map eQ x0),slc 4 (List.map eQ x1),.v (.func (.func 42) #[] #[])] (slc 4 (List.map eQ r)):=by
 refine ay Try.func41 rfl (Nat.le_of_ble_eq_true rfl) (fun cS M vs hvs=>?_)
 unfold gZ at h
 refine sr<|RT.uc .none (s:=.sv _) rfl T rfl rfl<|aI rfl (imp_nil (n:=4) (e:=eQ))<|dn<|sr<|mv rfl<|lE h fun iz me h=>ln rfl me<|mv rfl<|lE h fun gC fS h=>ln rfl fS<|lE h fun gY ku h=>RT.max .none _ rfl rfl T (EU (p:=iz) (q:=gC) ku)<|bE h fun fC gG h=>RT.sE (e:=eQ) .none rfl rfl T rfl T gG<|RT.alloc .none T rfl rfl<|RT.gA (cells:=[_]) .none rfl rfl rfl rfl T rfl<|dn<|qq<|sr<|mv rfl ?_
 refine mv rfl<|cl (j0 x0 x1) ⟨rfl,rfl,trivial⟩<|dn<|aq<|bE h fun gL Rh Ri=>?_
 obtain⟨Kc,Rj,Rk,Rl⟩:=jc Rh
 refine fB (j1 x0 x1) (fun _ _ _ _ _=>trivial) rfl (fun k=>AS.bR 29 [(5,.ptr 5 0),(7,.ptr 7 0),(18,.sv (gP 56 [ref [slc 4 (List.map eQ x0)],ref [slc 4 (List.map eQ x1)]]))] [(7,⟨28,[.row 302]⟩),(5,⟨76,[.sv (.v (.func (.func 42) #[] #[]))]⟩)] [(302,TR 52 4 eQ (Kc k))]) [7,5] rfl (fun _=>⟨rfl,rfl⟩) (nJ rfl) (fun _=>rfl) (nK rfl) (by(try dsimp only);rw[Rj];(try dsimp only);exact dm (fun i=>bif Nat.beq i 302 then 15 else i) rfl rfl rfl rfl rfl ⟨.ptr,.ptr,.sv (SV.aa _),trivial⟩ ⟨⟨_,rfl,⟨.row rfl,trivial⟩⟩,⟨_,rfl,⟨.sv (SV.aa _),trivial⟩⟩,trivial⟩ ⟨⟨_,rfl,bT.refl _⟩,trivial⟩ (fun i hi=>by rw[bU (show i≠302 by omega)];rfl)) (fun k hk D hD=>?_) ?_
 have h:=Rk k hk
 obtain⟨gL,Ff⟩:∃q,Kc k=q:=⟨_,rfl⟩
 rw[Ff]at h⊢
 dsimp only[AS.HX,n8]
 try dsimp only at h
 obtain⟨⟨⟨y9,za⟩,⟨zb,ze⟩⟩,Fx,h⟩:=bS h
 rw[Option.some.inj Fx]
 obtain⟨⟨⟨zf,zg⟩,⟨zh,zj⟩⟩,yQ,h⟩:=bS h
 rw[Option.some.inj yQ]
 refine sr<|al (cs:=[.v (.bool false),slc 1 (List.map af []),.v (.bool false),slc 1 (List.map af [])]) (by exact⟨SV.aa _,imp_nil,SV.aa _,imp_nil,trivial⟩) rfl<|so rfl rfl rfl<|dn<|ah<|al (cs:=[.v (.bool false),slc 1 (List.map af []),.v (.bool false),slc 1 (List.map af [])]) (by exact⟨SV.aa _,imp_nil,SV.aa _,imp_nil,trivial⟩) rfl<|so rfl rfl rfl<|RT.done ?_
 refine ae.n ⟨rfl,?_⟩
 dsimp only[AS.wY]
 refine aq<|ai mixed<|RT.dR .none (s:=.row _) rfl rfl rfl T<|lV rfl rfl rfl<|ld rfl rfl (.cons rfl (.cons rfl (.cons rfl (.cons rfl (.nil)))))<|ld rfl rfl (.cons rfl (.cons rfl (.cons rfl (.cons rfl (.nil))))) ?_
 obtain⟨⟨⟨gQ,gR⟩,⟨mI,mJ⟩⟩,pB,h⟩:=bS h
 refine cl (DB pB) ⟨rfl,rfl,trivial⟩<|bl (l:=[⟨⟨gQ,gR⟩,⟨mI,mJ⟩⟩]) (e:=eQ) (.agg rfl (.nil)) rfl rfl rfl rfl rfl rfl<|bE h fun lf oR h=>aR (k:=[⟨⟨gQ,gR⟩,⟨mI,mJ⟩⟩]) (e:=eQ) rfl rfl rfl oR<|RT.gA (cells:=[_]) .none rfl rfl rfl rfl T rfl ?_
 refine RT.done ⟨by kernel_rfl,?_⟩
 refine aH.n ?_
 replace h:=Option.some.inj h
 refine⟨trivial,rfl,rfl,?_⟩
 try dsimp only
 rw[←h]
 try dsimp only
 exact dm (fun i=>bif Nat.beq i 302 then 27 else i) rfl rfl rfl rfl rfl ⟨.ptr,.ptr,.sv (SV.aa _),trivial⟩ ⟨⟨_,rfl,⟨.row rfl,trivial⟩⟩,⟨_,rfl,⟨.sv (SV.aa _),trivial⟩⟩,trivial⟩ ⟨⟨_,rfl,bT.refl _⟩,trivial⟩ (fun i hi=>by rw[bU (show i≠302 by omega)];rfl)
 rw[Rl]
 try dsimp only
 refine aH.n<|ae.n<|sr<|RT.dR .none (s:=.row _) rfl rfl rfl T<|an (s:=.row _) rfl<|dn<|bt (dH (i:=302) (E1:=52) (n:=4) (e:=eQ) (l:=gL) rfl)<|aj ?_
 obtain rfl:=O Ri
 exact R1 rfl
theorem tj{x0:Qr}{x1:Qr}{AD:Qr}{r:Qr}(h:fH x0 x1 AD=some r):Pure Try.prog 62 [.agg (eQ x0),.agg (eQ x1),ref (eQ AD)] (.agg (eQ r)):=by
 obtain⟨⟨aC,aD⟩,⟨aL,aM⟩⟩:=x0
 obtain⟨⟨bp,bn⟩,⟨eO,eP⟩⟩:=x1
 obtain⟨⟨Bo,Bp⟩,⟨Bq,Br⟩⟩:=AD
 refine ay Try.func62 rfl (Nat.le_of_ble_eq_true rfl) (fun cS M vs hvs=>?_)
 unfold fH at h
 refine sr<|bx rfl<|bx rfl<|al (cs:=[.v (.bool false),slc 1 (List.map af []),.v (.bool false),slc 1 (List.map af [])]) (by exact⟨SV.aa _,imp_nil,SV.aa _,imp_nil,trivial⟩) rfl<|dn<|qq<|ai mixed<|RT.jk (cs:=[_,_,_,_]) .none rfl T rfl rfl<|ld rfl rfl (.cons rfl (.cons rfl (.cons rfl (.cons rfl (.nil))))) ?_
 obtain⟨⟨⟨uI,uJ⟩,⟨AE,AF⟩⟩,h8,h⟩:=bS h
 refine cl (wK h8) ⟨rfl,rfl,trivial⟩<|ld rfl rfl (.cons rfl (.cons rfl (.cons rfl (.cons rfl (.nil))))) ?_
 obtain⟨⟨⟨yK,yL⟩,⟨J6,J7⟩⟩,fP,h⟩:=bS h
 refine cl (DA fP) ⟨rfl,rfl,trivial⟩<|so rfl rfl rfl ?_
 refine RT.done ⟨by kernel_rfl,?_⟩
 refine ae.n<|aj ?_
 obtain rfl:=O h
 exact RZ (.agg rfl rfl (.cons rfl (.cons rfl (.cons rfl (.cons rfl (.nil))))) rfl (.nil))
theorem uO{x0:List Qr}{x1:List Qr}{Ci:Qr}{r:List Qr}(h:eR x0 x1 Ci=some r):Pure Try.prog 41 [slc 4 (List.map eQ x0),slc 4 (List.map eQ x1),gP 62 [ref (eQ Ci)]] (slc 4 (List.map eQ r)):=by
 obtain⟨⟨zk,zm⟩,⟨zo,zq⟩⟩:=Ci
 refine ay Try.func41 rfl (Nat.le_of_ble_eq_true rfl) (fun cS M vs hvs=>?_)
 unfold eR at h
 refine sr<|RT.uc .none (s:=.sv _) rfl T rfl rfl<|aI rfl (imp_nil (n:=4) (e:=eQ))<|dn<|sr<|mv rfl<|lE h fun iz me h=>ln rfl me<|mv rfl<|lE h fun gC fS h=>ln rfl fS<|lE h fun gY ku h=>RT.max .none _ rfl rfl T (EU (p:=iz) (q:=gC) ku)<|bE h fun fC gG h=>RT.sE (e:=eQ) .none rfl rfl T rfl T gG<|RT.alloc .none T rfl rfl<|RT.gA (cells:=[_]) .none rfl rfl rfl rfl T rfl<|dn<|qq<|sr<|mv rfl ?_
 refine mv rfl<|cl (j0 x0 x1) ⟨rfl,rfl,trivial⟩<|dn<|aq<|bE h fun gL Rh Ri=>?_
 obtain⟨Kc,Rj,Rk,Rl⟩:=jc Rh
 refine fB (j1 x0 x1) (fun _ _ _ _ _=>trivial) rfl (fun k=>AS.bR 29 [(5,.ptr 5 0),(7,.ptr 7 0),(18,.sv (gP 56 [ref [slc 4 (List.map eQ x0)],ref [slc 4 (List.map eQ x1)]]))] [(7,⟨28,[.row 302]⟩),(5,⟨76,[.sv (gP 62 [ref [.v (.bool zk),slc 1 (List.map af zm),.v (.bool zo),slc 1 (List.map af zq)]])]⟩)] [(302,TR 52 4 eQ (Kc k))]) [7,5] rfl (fun _=>⟨rfl,rfl⟩) (nJ rfl) (fun _=>rfl) (nK rfl) (by(try dsimp only);rw[Rj];(try dsimp only);exact dm (fun i=>bif Nat.beq i 302 then 15 else i) rfl rfl rfl rfl rfl ⟨.ptr,.ptr,.sv (SV.aa _),trivial⟩ ⟨⟨_,rfl,⟨.row rfl,trivial⟩⟩,⟨_,rfl,⟨.sv (SV.aa _),trivial⟩⟩,trivial⟩ ⟨⟨_,rfl,bT.refl _⟩,trivial⟩ (fun i hi=>by rw[bU (show i≠302 by omega)];rfl)) (fun k hk D hD=>?_) ?_
 have h:=Rk k hk
 obtain⟨gL,Ff⟩:∃q,Kc k=q:=⟨_,rfl⟩
 rw[Ff]at h⊢
 dsimp only[AS.HX,n8]
 try dsimp only at h
 obtain⟨⟨⟨y9,za⟩,⟨zb,ze⟩⟩,Fx,h⟩:=bS h
 rw[Option.some.inj Fx]
 obtain⟨⟨⟨zf,zg⟩,⟨zh,zj⟩⟩,yQ,h⟩:=bS h
 rw[Option.some.inj yQ]
 refine sr<|al (cs:=[.v (.bool false),slc 1 (List.map af []),.v (.bool false),slc 1 (List.map af [])]) (by exact⟨SV.aa _,imp_nil,SV.aa _,imp_nil,trivial⟩) rfl<|so rfl rfl rfl<|dn<|ah<|al (cs:=[.v (.bool false),slc 1 (List.map af []),.v (.bool false),slc 1 (List.map af [])]) (by exact⟨SV.aa _,imp_nil,SV.aa _,imp_nil,trivial⟩) rfl<|so rfl rfl rfl<|RT.done ?_
 refine ae.n ⟨rfl,?_⟩
 dsimp only[AS.wY]
 refine aq<|ai mixed<|RT.dR .none (s:=.row _) rfl rfl rfl T<|lV rfl rfl rfl<|ld rfl rfl (.cons rfl (.cons rfl (.cons rfl (.cons rfl (.nil)))))<|ld rfl rfl (.cons rfl (.cons rfl (.cons rfl (.cons rfl (.nil))))) ?_
 obtain⟨⟨⟨gQ,gR⟩,⟨mI,mJ⟩⟩,pB,h⟩:=bS h
 refine RT.NR (args:=[_,_]) (caps:=[_]) .none (tj pB) rfl ⟨rfl,rfl,trivial⟩ T<|bl (l:=[⟨⟨gQ,gR⟩,⟨mI,mJ⟩⟩]) (e:=eQ) (.agg rfl (.nil)) rfl rfl rfl rfl rfl rfl<|bE h fun lf oR h=>aR (k:=[⟨⟨gQ,gR⟩,⟨mI,mJ⟩⟩]) (e:=eQ) rfl rfl rfl oR<|RT.gA (cells:=[_]) .none rfl rfl rfl rfl T rfl ?_
 refine RT.done ⟨by kernel_rfl,?_⟩
 refine aH.n ?_
 replace h:=Option.some.inj h
 refine⟨trivial,rfl,rfl,?_⟩
 try dsimp only
 rw[←h]
 try dsimp only
 exact dm (fun i=>bif Nat.beq i 302 then 27 else i) rfl rfl rfl rfl rfl ⟨.ptr,.ptr,.sv (SV.aa _),trivial⟩ ⟨⟨_,rfl,⟨.row rfl,trivial⟩⟩,⟨_,rfl,⟨.sv (SV.aa _),trivial⟩⟩,trivial⟩ ⟨⟨_,rfl,bT.refl _⟩,trivial⟩ (fun i hi=>by rw[bU (show i≠302 by omega)];rfl)
 rw[Rl]
 try dsimp only
 refine aH.n<|ae.n<|sr<|RT.dR .none (s:=.row _) rfl rfl rfl T<|an (s:=.row _) rfl<|dn<|bt (dH (i:=302) (E1:=52) (n:=4) (e:=eQ) (l:=gL) rfl)<|aj ?_
 obtain rfl:=O Ri
 exact R1 rfl
theorem Fy{x0:List Qr}{x1:List Qr}{r:List Qr}(h:kM x0 x1=some r):Pure Try.prog 26 [slc 4 (List.map eQ x0),slc 4 (List.map eQ x1)] (slc 4 (List.map eQ r)):=by
 refine ay Try.func26 rfl (Nat.le_of_ble_eq_true rfl) (fun cS M vs hvs=>?_)
 unfold kM at h
 refine sr<|aI rfl (imp_nil (n:=4) (e:=eQ))<|dn<|sr<|mv rfl<|mv rfl<|bE h fun x7 h7 h=>cl (zB h7) ⟨rfl,rfl,rfl,trivial⟩<|ag rfl<|dn<|aj ?_
 obtain rfl:=O h
 exact R1 rfl
theorem Cj{x0:Qr}{x1:List Qr}{r:List Qr}(h:lD x0 x1=some r):Pure Try.prog 47 [.agg (eQ x0),slc 4 (List.map eQ x1)] (slc 4 (List.map eQ r)):=by
 obtain⟨⟨aC,aD⟩,⟨aL,aM⟩⟩:=x0
 refine ay Try.func47 rfl (Nat.le_of_ble_eq_true rfl) (fun cS M vs hvs=>?_)
 unfold lD at h
 refine sr<|bx rfl<|aI rfl (imp_nil (n:=4) (e:=eQ))<|dn<|sr<|mv rfl<|lE h fun x9 h9 h=>ln rfl h9<|bE h fun dW fP h=>RT.kx (n:=4) (e:=eQ) .none rfl rfl T rfl T (by rfl) (by decide) (by exact⟨SV.aa _,imp_nil,SV.aa _,imp_nil,trivial⟩) fP<|an (s:=.row _) rfl<|dn<|qq<|sr<|mv rfl<|lE h fun eG fE h=>ln rfl fE<|mv rfl<|dn<|bE h fun e8 Dp vN=>?_
 refine aW (fun(zu:(List Qr))=>AS.bR 26 [(5,.row 10)] [] [(10,TR 52 4 eQ zu)]) (fun zu=>zu=e8) ?_ (fun zu Dq=>?_)
 refine aq ?_
 refine aX Dp (fun s8=>AS.bR 26 [(2,.ptr 2 0),(5,.row 10),(11,.sv (slc 4 (List.map eQ x1))),(12,.sv (.v (.int .i64 eG))),(13,.sv (.v (.int .i64 s8.1)))] [(2,⟨52,[.sv (.v (.bool aC)),.sv (slc 1 (List.map af aD)),.sv (.v (.bool aL)),.sv (slc 1 (List.map af aM))]⟩)] [(10,TR 52 4 eQ s8.2)]) (wR []) (fun s8 y8 G8 h Dr Ds=>?_)
 obtain⟨DF,DG⟩:=s8
 try dsimp only
 refine sr<|lE h fun gY ku h=>ls _ rfl rfl ku<|dn<|qq ?_
 cases gY
 refine cF<|bj<|ae.x<|ae.x<|aH.x<|ae.n ?_
 obtain rfl:=O (F h)
 exact⟨DG,Ds _ rfl,wR []⟩
 refine cT<|aG<|ae.n<|qq<|aq<|sr<|mv rfl ?_
 obtain⟨⟨⟨lp,lq⟩,⟨Ob,Od⟩⟩,lA,h⟩:=bS (V h)
 refine ix rfl rfl lA<|RT.jk (cs:=[_,_,_,_]) .none rfl T rfl rfl<|al (cs:=[.v (.bool false),slc 1 (List.map af []),.v (.bool false),slc 1 (List.map af [])]) (by exact⟨SV.aa _,imp_nil,SV.aa _,imp_nil,trivial⟩) rfl<|ag rfl<|so rfl rfl rfl<|dn<|ah<|mo (s:=.row _) rfl<|mv rfl<|ld rfl rfl (.cons rfl (.cons rfl (.cons rfl (.cons rfl (.nil)))))<|ld rfl rfl (.cons rfl (.cons rfl (.cons rfl (.cons rfl (.nil))))) ?_
 obtain⟨⟨⟨uK,uL⟩,⟨uM,uN⟩⟩,nN,h⟩:=bS h
 refine cl (wK nN) ⟨rfl,rfl,trivial⟩<|bE h fun lN sj h=>iR rfl rfl rfl sj<|bE h fun vH om h=>sA ⟨⟨uK,uL⟩,⟨uM,uN⟩⟩ rfl rfl rfl om<|RT.done<|aH.n<|ae.n<|ah<|lE h fun gD lP h=>ad _ rfl rfl lP<|mv rfl<|RT.done ?_
 obtain rfl:=O h
 exact ae.n ⟨(gD,vH),Dr _ rfl,wR []⟩
 subst Dq
 try dsimp only
 refine ae.n<|sr<|mo (s:=.row _) rfl<|an (s:=.row _) rfl<|dn<|bt (dH (i:=10) (E1:=52) (n:=4) (e:=eQ) (l:=zu) rfl)<|aj ?_
 obtain rfl:=O vN
 exact R1 rfl
theorem ou{x0:Qr}{x1:List Qr}{x2:List Qr}{r:List Qr}(h:dN x0 x1 x2=some r):Pure Try.prog 43 [.agg (eQ x0),slc 4 (List.map eQ x1),slc 4 (List.map eQ x2)] (slc 4 (List.map eQ r)):=by
 obtain⟨⟨aC,aD⟩,⟨aL,aM⟩⟩:=x0
 refine ay Try.func43 rfl (Nat.le_of_ble_eq_true rfl) (fun cS M vs hvs=>?_)
 unfold dN at h
 refine sr<|bx rfl<|aI rfl (imp_nil (n:=4) (e:=eQ))<|dn ?_
 refine bt (fX (i:=3) rfl [.v (.bool aC),slc 1 (List.map af aD),.v (.bool aL),slc 1 (List.map af aM)] (.cons rfl (.cons rfl (.cons rfl (.cons rfl (.nil))))) .any 0 [(3,.sv (ref [.v (.bool aC),slc 1 (List.map af aD),.v (.bool aL),slc 1 (List.map af aM)]))] (fun _ _ _=>trivial) (oU.h (l:=[.v (.bool aC),slc 1 (List.map af aD),.v (.bool aL),slc 1 (List.map af aM)])) ⟨@FT.ptr _ _ _ _ _ 3 0 rfl,trivial⟩)<|sr<|mv rfl<|mv rfl<|RT.rS (caps:=[_]) .none ⟨rfl,trivial⟩ T<|bE h fun dW fP h=>?_
 refine cl (uO fP) ⟨rfl,rfl,rfl,trivial⟩<|ag rfl<|dn<|aj ?_
 obtain rfl:=O h
 exact R1 rfl
theorem q9{x0:List Qr}{x1:List Qr}{r:Int}(h:g9 x0 x1=some r):Pure Try.prog 22 [slc 4 (List.map eQ x0),slc 4 (List.map eQ x1)] (.v (.int .i64 r)):=by
 refine ay Try.func22 rfl (Nat.le_of_ble_eq_true rfl) (fun cS M vs hvs=>?_)
 unfold g9 at h
 refine sr<|al (cs:=[.v (.int .i64 0)]) (by exact⟨SV.aa _,trivial⟩) rfl<|dn<|qq<|sr<|mv rfl<|mv rfl<|cl (j0 x0 x1) ⟨rfl,rfl,trivial⟩<|dn<|aq<|bE h fun e3 Pw Rm=>?_
 obtain⟨m3,X1,V0,X2,X3⟩:=A9 Pw
 refine nI (j1 x0 x1) (fun _ _ _ _ _=>trivial) rfl (fun k=>AS.bR 19 [(4,.ptr 4 0),(10,.sv (gP 56 [ref [slc 4 (List.map eQ x0)],ref [slc 4 (List.map eQ x1)]]))] [(4,⟨3,[.sv (.v (.int .i64 0))]⟩)] []) [4] rfl (fun _=>⟨rfl,rfl⟩) (nJ rfl) (fun _=>rfl) (nK rfl) (by(try dsimp only);(try dsimp only);exact dm id rfl rfl rfl rfl rfl ⟨.ptr,.sv (SV.aa _),trivial⟩ ⟨⟨_,rfl,⟨.sv (SV.aa _),trivial⟩⟩,trivial⟩ trivial (fun _ _=>rfl)) m3 (fun k hk hkm D hD=>?_) (fun hdn=>?_)
 obtain⟨y3,h,X5,X6⟩:=X2 k hk hkm
 dsimp only[AS.HX,n8]
 try dsimp only at h
 obtain⟨⟨⟨Oe,Of⟩,⟨Og,Oh⟩⟩,X7,h⟩:=bS h
 rw[Option.some.inj X7]
 obtain⟨⟨⟨Oi,Oj⟩,⟨Ol,Om⟩⟩,X8,h⟩:=bS h
 rw[Option.some.inj X8]
 refine sr<|al (cs:=[.v (.bool false),slc 1 (List.map af []),.v (.bool false),slc 1 (List.map af [])]) (by exact⟨SV.aa _,imp_nil,SV.aa _,imp_nil,trivial⟩) rfl<|so rfl rfl rfl<|dn<|ah<|al (cs:=[.v (.bool false),slc 1 (List.map af []),.v (.bool false),slc 1 (List.map af [])]) (by exact⟨SV.aa _,imp_nil,SV.aa _,imp_nil,trivial⟩) rfl<|so rfl rfl rfl<|RT.done ?_
 refine ae.n ⟨rfl,?_⟩
 dsimp only[AS.wY]
 refine aq<|sr<|ld rfl rfl (.cons rfl (.cons rfl (.cons rfl (.cons rfl (.nil)))))<|ld rfl rfl (.cons rfl (.cons rfl (.cons rfl (.cons rfl (.nil)))))<|bE h fun fC gG h=>cl (DE gG) ⟨rfl,rfl,trivial⟩<|ag rfl<|dn<|sr<|mv rfl<|lE h fun fR kL h=>ne _ rfl rfl (F5 (p:=fC) (q:=0) kL)<|dn ?_
 cases fR
 refine cF<|aG<|aH.n ?_
 obtain rfl:=O (F h)
 obtain⟨X9,hq3⟩:=X5 _ rfl
 exact⟨X9,rfl,rfl,wR []⟩
 refine cT<|sr<|mv rfl<|RT.nF (cells:=[_]) .none (s:=.sv _) rfl rfl rfl T rfl<|dn<|aj<|aH.r ?_
 obtain rfl:=O (V h)
 have Ya:=X6 _ rfl
 subst Ya
 refine⟨rfl,rfl,?_⟩
 refine aH.r<|ae.r ?_
 obtain rfl:=O Rm
 exact RZ (.one rfl rfl rfl (.nil))
 have Yb:=X3 hdn
 subst Yb
 obtain⟨ee3,Rn⟩:∃q,X1 (max x0.length x1.length)=q:=⟨_,rfl⟩
 rw[Rn]at Rm
 try dsimp only
 refine aH.n<|ae.n<|sr<|RT.nF (cells:=[_]) .none (s:=.sv _) rfl rfl rfl T rfl<|dn<|aj ?_
 obtain rfl:=O Rm
 exact RZ (.one rfl rfl rfl (.nil))
theorem DJ{x0:List Qr}{r:Int}(h:mK x0=some r):Pure Try.prog 32 [slc 4 (List.map eQ x0)] (.v (.int .i64 r)):=by
 refine ay Try.func32 rfl (Nat.le_of_ble_eq_true rfl) (fun cS M vs hvs=>?_)
 unfold mK at h
 refine sr<|ag rfl<|dn<|sr<|mv rfl<|bE h fun x4 h4 h=>cl ((q9 h4).w (args':=[_,_]) ⟨(SV.aa _),imp_nil,trivial⟩) ⟨rfl,rfl,trivial⟩<|ag rfl<|dn<|aj ?_
 obtain rfl:=O h
 exact R1 rfl
theorem gM{x0:List Qr}{x1:List Qr}{r:Bool}(h:dx x0 x1=some r):Pure Try.prog 9 [slc 4 (List.map eQ x0),slc 4 (List.map eQ x1)] (.v (.bool r)):=by
 refine ay Try.func9 rfl (Nat.le_of_ble_eq_true rfl) (fun cS M vs hvs=>?_)
 unfold dx at h
 refine sr<|ag rfl<|dn<|sr<|mv rfl<|mv rfl<|bE h fun x7 h7 h=>cl (q9 h7) ⟨rfl,rfl,trivial⟩<|lE h fun x8 h8 h=>eq _ rfl rfl (rR (p:=x7) (q:=0) h8)<|ag rfl<|dn<|aj ?_
 obtain rfl:=O h
 exact R1 rfl
theorem AG{x0:List Qr}{x1:Int}{r:List Qr}(h:jZ x0 x1=some r):Pure Try.prog 35 [slc 4 (List.map eQ x0),.v (.int .i64 x1)] (slc 4 (List.map eQ r)):=by
 refine ay Try.func35 rfl (Nat.le_of_ble_eq_true rfl) (fun cS M vs hvs=>?_)
 unfold jZ at h
 refine sr<|aI rfl (imp_nil (n:=4) (e:=eQ))<|dn<|qq<|sr<|mv rfl<|lE h fun x8 h8 h=>ls _ rfl rfl h8<|dn ?_
 cases x8
 refine fs<|sr<|mv rfl<|lE (F h) fun dW fP h=>RT.min .none _ rfl rfl T (TL (p:=x1) (q:=65536) fP)<|bE h fun iz me h=>RT.kx (n:=4) (e:=eQ) .none rfl rfl T rfl T (by rfl) (by decide) (by exact⟨SV.aa _,imp_nil,SV.aa _,imp_nil,trivial⟩) me<|an (s:=.row _) rfl<|dn<|qq<|sr<|mv rfl<|lE h fun gC fS h=>ln rfl fS<|mo (s:=.row _) rfl<|lE h fun fC gG h=>lL rfl rfl gG<|lE h fun jN lA h=>?_
 refine RT.min .none _ rfl rfl T (TL (p:=gC) (q:=fC) lA)<|mv rfl<|dn<|bE h fun e8 Dp vN=>?_
 refine aW (fun(zw:(List Qr))=>AS.bR 30 [(5,.row 11)] [] [(11,TR 52 4 eQ zw)]) (fun zw=>zw=e8) ?_ (fun zw Dq=>?_)
 refine aq ?_
 refine aX Dp (fun s8=>AS.bR 30 [(0,.sv (slc 4 (List.map eQ x0))),(5,.row 11),(16,.sv (.v (.int .i64 jN))),(17,.sv (.v (.int .i64 s8.1)))] [] [(11,TR 52 4 eQ s8.2)]) (wR []) (fun s8 y8 G8 h Dr Ds=>?_)
 obtain⟨DH,DI⟩:=s8
 try dsimp only
 refine sr<|lE h fun fg ij h=>ls _ rfl rfl ij<|dn<|qq ?_
 cases fg
 refine cF<|bj<|ae.x<|ae.x<|aH.x<|ae.n ?_
 obtain rfl:=O (F h)
 exact⟨DI,Ds _ rfl,wR []⟩
 refine cT<|aG<|ae.n<|qq<|aq<|sr<|mv rfl<|ag rfl<|dn<|ah<|mo (s:=.row _) rfl<|mv rfl<|mv rfl<|mv rfl ?_
 obtain⟨⟨⟨pY,pZ⟩,⟨qa,qb⟩⟩,lP,h⟩:=bS (V h)
 refine ix rfl rfl lP<|RT.jk (cs:=[_,_,_,_]) .none rfl T rfl rfl ?_
 obtain⟨⟨⟨J8,J9⟩,⟨Ka,Kb⟩⟩,nO,h⟩:=bS h
 refine cl (fG nO) ⟨rfl,trivial⟩<|bE h fun lf oR h=>iR rfl rfl rfl oR<|bE h fun vH om h=>sA ⟨⟨J8,J9⟩,⟨Ka,Kb⟩⟩ rfl rfl rfl om<|RT.done<|aH.n<|ae.n<|ah<|lE h fun og uC h=>ad _ rfl rfl uC<|mv rfl<|RT.done ?_
 obtain rfl:=O h
 exact ae.n ⟨(og,vH),Dr _ rfl,wR []⟩
 subst Dq
 try dsimp only
 refine ae.n<|sr<|mo (s:=.row _) rfl<|an (s:=.row _) rfl<|dn<|bt (dH (i:=11) (E1:=52) (n:=4) (e:=eQ) (l:=zw) rfl)<|aj ?_
 obtain rfl:=O vN
 exact R1 rfl
 refine cT<|sr<|aI rfl (imp_nil (n:=4) (e:=eQ))<|dn<|aj<|ae.r ?_
 obtain rfl:=O (V h)
 exact R1 rfl
theorem c7{x0:List Int}{r:List Qr}(h:bY x0=some r):Pure Try.prog 11 [slc 1 (List.map bO x0)] (slc 4 (List.map eQ r)):=by
 refine ay Try.func11 rfl (Nat.le_of_ble_eq_true rfl) (fun cS M vs hvs=>?_)
 unfold bY at h
 refine sr<|aI rfl (imp_nil (n:=4) (e:=eQ))<|dn<|sr<|mv rfl<|lE h fun x7 h7 h=>ln rfl h7<|bE h fun x8 h8 h=>RT.kx (n:=4) (e:=eQ) .none rfl rfl T rfl T (by rfl) (by decide) (by exact⟨SV.aa _,imp_nil,SV.aa _,imp_nil,trivial⟩) h8<|an (s:=.row _) rfl<|dn<|qq<|sr<|mv rfl<|lE h fun dW fP h=>ln rfl fP<|mv rfl<|dn<|bE h fun e8 Dp vN=>?_
 refine aW (fun(th:(List Qr))=>AS.bR 23 [(3,.row 8)] [] [(8,TR 52 4 eQ th)]) (fun th=>th=e8) ?_ (fun th Dq=>?_)
 refine aq ?_
 refine aX Dp (fun s8=>AS.bR 23 [(3,.row 8),(9,.sv (slc 1 (List.map bO x0))),(10,.sv (.v (.int .i64 dW))),(11,.sv (.v (.int .i64 s8.1)))] [] [(8,TR 52 4 eQ s8.2)]) (wR []) (fun s8 y8 G8 h Dr Ds=>?_)
 obtain⟨qZ,zx⟩:=s8
 try dsimp only
 refine sr<|lE h fun eG fE h=>ls _ rfl rfl fE<|dn<|qq ?_
 cases eG
 refine cF<|bj<|ae.x<|ae.x<|aH.x<|ae.n ?_
 obtain rfl:=O (F h)
 exact⟨zx,Ds _ rfl,wR []⟩
 refine cT<|aG<|ae.n<|qq<|aq<|sr<|mv rfl<|bE (V h) fun gY ku h=>ix rfl rfl ku<|lr rfl rfl<|ag rfl<|ag rfl<|dn<|ah<|mo (s:=.row _) rfl<|mv rfl<|mv rfl ?_
 obtain⟨⟨⟨kC,kD⟩,⟨zy,zA⟩⟩,jM,h⟩:=bS h
 refine cl (iB jM) ⟨rfl,trivial⟩<|bE h fun gx lz h=>iR rfl rfl rfl lz<|bE h fun vH om h=>sA ⟨⟨kC,kD⟩,⟨zy,zA⟩⟩ rfl rfl rfl om<|RT.done<|aH.n<|ae.n<|ah<|lE h fun mc qO h=>ad _ rfl rfl qO<|mv rfl<|RT.done ?_
 obtain rfl:=O h
 exact ae.n ⟨(mc,vH),Dr _ rfl,wR []⟩
 subst Dq
 try dsimp only
 refine ae.n<|sr<|mo (s:=.row _) rfl<|an (s:=.row _) rfl<|dn<|bt (dH (i:=8) (E1:=52) (n:=4) (e:=eQ) (l:=th) rfl)<|aj ?_
 obtain rfl:=O vN
 exact R1 rfl
end Go.Proofs.Ytningmnklfpfjaa
namespace Go.Proofs.Ytningmnklfpfjaa
open Go.Fw
noncomputable def ow(x0:List (List Qr))(x1:Int):Option (List Qr):=cQ (fun(Ke:Bool)=>(bif Ke then some []else(dD x0 x1).bind fun fC=>some fC)) fun K3=>(some (decide ((x1:Int)<0))).bind fun x6=>(bif x6 then some true else(some (x0.length:Int)).bind fun dW=>(some (decide ((dW:Int)≤x1))).bind fun iz=>some iz).bind fun On=>K3 On
noncomputable def kN(x0:List (List Qr)):Option (Int):=(some (x0.length:Int)).bind fun x7=>(cq (fun(s6:Int×Int)=>match s6 with|⟨Kf,Ms⟩=>(show Option ((Int×Int)⊕(Int))from(some (decide ((Ms:Int)<x7))).bind fun x9=>(bif x9 then(dD x0 Ms).bind fun dW=>(some (dW.length:Int)).bind fun gY=>(some (max (Kf:Int) gY)).bind fun fC=>(some (IntKind.i64.wrap (Ms+1))).bind fun jN=>some (.inl (fC,jN))else some (.inr Kf)))) (0,0)).bind fun Hp=>some Hp
noncomputable def rf(x0:List (List Qr))(x1:Int)(x2:Int):Option (Qr):=(ow x0 x1).bind fun dW=>cQ (fun(Kg:Bool)=>(bif Kg then some ⟨⟨false,[]⟩,⟨false,[]⟩⟩else(dD dW x2).bind fun⟨⟨uK,uL⟩,⟨uM,uN⟩⟩=>(bM ⟨⟨uK,uL⟩,⟨uM,uN⟩⟩).bind fun⟨⟨pY,pZ⟩,⟨qa,qb⟩⟩=>some ⟨⟨pY,pZ⟩,⟨qa,qb⟩⟩)) fun K3=>(some (decide ((x2:Int)<0))).bind fun eG=>(bif eG then some true else(some (dW.length:Int)).bind fun jN=>(some (decide ((jN:Int)≤x2))).bind fun fR=>some fR).bind fun Oo=>K3 Oo
noncomputable def gb(x0:List (List Int)):Option (List (List Qr)):=(some (x0.length:Int)).bind fun x7=>(A0 24 x7 ([]:List Qr)).bind fun x8=>(some (x0.length:Int)).bind fun dW=>(cq (fun(s8:Int×(List (List Qr)))=>match s8 with|⟨qZ,zx⟩=>(show Option ((Int×(List (List Qr)))⊕((List (List Qr))))from(some (decide ((qZ:Int)<dW))).bind fun eG=>(bif eG then(dD x0 qZ).bind fun gY=>(bY gY).bind fun k8=>(nX zx qZ).bind fun gx=>(stM zx gx k8).bind fun vH=>(some (IntKind.i64.wrap (qZ+1))).bind fun mc=>some (.inl (mc,vH))else some (.inr zx)))) (0,x8)).bind fun th=>some th
end Go.Proofs.Ytningmnklfpfjaa
namespace Go.Proofs.Ytningmnklfpfjaa
open Go.Fw Go.Fw.Z Go.RowKit
theorem Fz{x0:List (List Qr)}{x1:Int}{r:List Qr}(h:ow x0 x1=some r):Pure Try.prog 51 [slc 1 (List.map (eS 4 eQ) x0),.v (.int .i64 x1)] (slc 4 (List.map eQ r)):=by
 refine ay Try.func51 rfl (Nat.le_of_ble_eq_true rfl) (fun cS M vs hvs=>?_)
 unfold ow at h
 refine sr<|aI rfl (imp_nil (n:=4) (e:=eQ))<|dn<|qq<|qq ?_
 refine aF h (fun j3=>AS.bR 17 [(0,.sv (slc 1 (List.map (eS 4 eQ) x0))),(1,.sv (.v (.int .i64 x1))),(12,.sv (.v (.bool j3)))] [] []) (fun h=>?_) (fun Ke h=>?_)
 refine ah<|mv rfl<|lE h fun x6 h6 h=>ls _ rfl rfl h6<|mv rfl<|bE h fun On kS h=>?_
 cases x6
 refine gm rfl<|gm rfl<|lE (F kS) fun dW fP kS=>gn rfl fP<|lE kS fun iz me kS=>RT.geq (.some rfl rfl) _ rfl rfl T me ?_
 obtain rfl:=O kS
 exact pF rfl<|dn<|⟨iz,h,wR []⟩
 obtain rfl:=O (V kS)
 exact ww<|ww<|ww<|ww<|pT rfl<|dn<|⟨true,h,wR []⟩
 try dsimp only
 refine ae.n ?_
 cases Ke
 refine fs<|sr<|mv rfl<|mv rfl<|bE (F h) fun fC gG h=>ix rfl rfl gG<|lr rfl rfl<|ag rfl<|dn<|aj ?_
 obtain rfl:=O h
 exact R1 rfl
 refine cT<|sr<|aI rfl (imp_nil (n:=4) (e:=eQ))<|dn<|aj<|ae.r ?_
 obtain rfl:=O (V h)
 exact R1 rfl
theorem wL{x0:List (List Qr)}{r:Int}(h:kN x0=some r):Pure Try.prog 34 [slc 1 (List.map (eS 4 eQ) x0)] (.v (.int .i64 r)):=by
 refine ay Try.func34 rfl (Nat.le_of_ble_eq_true rfl) (fun cS M vs hvs=>?_)
 unfold kN at h
 refine sr<|ag rfl<|dn<|sr<|ag rfl<|dn<|qq<|sr<|mv rfl<|lE h fun x7 h7 h=>ln rfl h7<|mv rfl<|dn<|bE h fun e6 G9 jn=>?_
 refine aW (fun(Hp:Int)=>AS.bR 18 [(3,.sv (.v (.int .i64 Hp)))] [] []) (fun Hp=>Hp=e6) ?_ (fun Hp He=>?_)
 refine aq ?_
 refine aX G9 (fun s6=>AS.bR 18 [(3,.sv (.v (.int .i64 s6.1))),(6,.sv (slc 1 (List.map (eS 4 eQ) x0))),(7,.sv (.v (.int .i64 x7))),(8,.sv (.v (.int .i64 s6.2)))] [] []) (wR []) (fun s6 y6 G6 h Hf Dl=>?_)
 obtain⟨Kf,Ms⟩:=s6
 try dsimp only
 refine sr<|lE h fun x9 h9 h=>ls _ rfl rfl h9<|dn<|qq ?_
 cases x9
 refine cF<|bj<|ae.x<|ae.x<|aH.x<|ae.n ?_
 obtain rfl:=O (F h)
 exact⟨Kf,Dl _ rfl,wR []⟩
 refine cT<|aG<|ae.n<|qq<|aq<|sr<|bE (V h) fun dW fP h=>ix rfl rfl fP<|lr rfl rfl<|ag rfl<|dn<|ah<|mv rfl<|mv rfl<|lE h fun gY ku h=>ln rfl ku<|lE h fun fC gG h=>RT.max .none _ rfl rfl T (EU (p:=Kf) (q:=gY) gG)<|ag rfl<|RT.done<|aH.n<|ae.n<|ah<|lE h fun jN lA h=>ad _ rfl rfl lA<|mv rfl<|RT.done ?_
 obtain rfl:=O h
 exact ae.n ⟨(fC,jN),Hf _ rfl,wR []⟩
 subst He
 try dsimp only
 refine ae.n<|sr<|mv rfl<|ag rfl<|dn<|aj ?_
 obtain rfl:=O jn
 exact R1 rfl
theorem Hq{x0:List (List Qr)}{x1:Int}{x2:Int}{r:Qr}(h:rf x0 x1 x2=some r):Pure Try.prog 36 [slc 1 (List.map (eS 4 eQ) x0),.v (.int .i64 x1),.v (.int .i64 x2)] (.agg (eQ r)):=by
 refine ay Try.func36 rfl (Nat.le_of_ble_eq_true rfl) (fun cS M vs hvs=>?_)
 unfold rf at h
 refine sr<|al (cs:=[.v (.bool false),slc 1 (List.map af []),.v (.bool false),slc 1 (List.map af [])]) (by exact⟨SV.aa _,imp_nil,SV.aa _,imp_nil,trivial⟩) rfl<|dn<|sr<|mv rfl<|mv rfl<|bE h fun dW fP h=>cl (Fz fP) ⟨rfl,rfl,trivial⟩<|ag rfl<|dn<|qq<|qq ?_
 refine aF h (fun j3=>AS.bR 25 [(2,.sv (.v (.int .i64 x2))),(6,.ptr 6 0),(7,.sv (slc 4 (List.map eQ dW))),(18,.sv (.v (.bool j3)))] [(6,⟨52,[.sv (.v (.bool false)),.sv (slc 1 (List.map af [])),.sv (.v (.bool false)),.sv (slc 1 (List.map af []))]⟩)] []) (fun h=>?_) (fun Kg h=>?_)
 refine ah<|mv rfl<|lE h fun eG fE h=>ls _ rfl rfl fE<|mv rfl<|bE h fun Oo kS h=>?_
 cases eG
 refine gm rfl<|gm rfl<|lE (F kS) fun jN lA kS=>gn rfl lA<|lE kS fun fR kL kS=>RT.geq (.some rfl rfl) _ rfl rfl T kL ?_
 obtain rfl:=O kS
 exact pF rfl<|dn<|⟨fR,h,wR []⟩
 obtain rfl:=O (V kS)
 exact ww<|ww<|ww<|ww<|pT rfl<|dn<|⟨true,h,wR []⟩
 try dsimp only
 refine ae.n ?_
 cases Kg
 refine fs<|sr<|mv rfl<|mv rfl ?_
 obtain⟨⟨⟨uK,uL⟩,⟨uM,uN⟩⟩,nN,h⟩:=bS (F h)
 refine ix rfl rfl nN<|RT.jk (cs:=[_,_,_,_]) .none rfl T rfl rfl ?_
 obtain⟨⟨⟨pY,pZ⟩,⟨qa,qb⟩⟩,lP,h⟩:=bS h
 refine cl (fG lP) ⟨rfl,trivial⟩<|so rfl rfl rfl<|dn<|aj ?_
 obtain rfl:=O h
 exact RZ (.agg rfl rfl (.cons rfl (.cons rfl (.cons rfl (.cons rfl (.nil))))) rfl (.nil))
 refine cT<|sr<|bI (cs:=[_,_,_,_]) (cs':=[.v (.bool false),slc 1 (List.map af []),.v (.bool false),slc 1 (List.map af [])]) (.nil) ⟨SV.aa _,imp_nil,SV.aa _,imp_nil,trivial⟩<|so rfl rfl rfl<|dn<|aj<|ae.r ?_
 obtain rfl:=O (V h)
 exact RZ (.agg rfl rfl (.cons rfl (.cons rfl (.cons rfl (.cons rfl (.nil))))) rfl (.nil))
theorem qc{x0:List (List Int)}{r:List (List Qr)}(h:gb x0=some r):Pure Try.prog 20 [slc 1 (List.map (eS 1 bO) x0)] (slc 1 (List.map (eS 4 eQ) r)):=by
 refine ay Try.func20 rfl (Nat.le_of_ble_eq_true rfl) (fun cS M vs hvs=>?_)
 unfold gb at h
 refine sr<|aI rfl (imp_nil (n:=1) (e:=(eS 4 eQ)))<|dn<|sr<|mv rfl<|lE h fun x7 h7 h=>ln rfl h7<|bE h fun x8 h8 h=>RT.kx (n:=1) (e:=(eS 4 eQ)) .none rfl rfl T rfl T (by rfl) (by decide) (by exact⟨imp_nil,trivial⟩) h8<|an (s:=.row _) rfl<|dn<|qq<|sr<|mv rfl<|lE h fun dW fP h=>ln rfl fP<|mv rfl<|dn<|bE h fun e8 Dp vN=>?_
 refine aW (fun(th:(List (List Qr)))=>AS.bR 23 [(3,.row 8)] [] [(8,TR 28 1 (eS 4 eQ) th)]) (fun th=>th=e8) ?_ (fun th Dq=>?_)
 refine aq ?_
 refine aX Dp (fun s8=>AS.bR 23 [(3,.row 8),(9,.sv (slc 1 (List.map (eS 1 bO) x0))),(10,.sv (.v (.int .i64 dW))),(11,.sv (.v (.int .i64 s8.1)))] [] [(8,TR 28 1 (eS 4 eQ) s8.2)]) (wR []) (fun s8 y8 G8 h Dr Ds=>?_)
 obtain⟨qZ,zx⟩:=s8
 try dsimp only
 refine sr<|lE h fun eG fE h=>ls _ rfl rfl fE<|dn<|qq ?_
 cases eG
 refine cF<|bj<|ae.x<|ae.x<|aH.x<|ae.n ?_
 obtain rfl:=O (F h)
 exact⟨zx,Ds _ rfl,wR []⟩
 refine cT<|aG<|ae.n<|qq<|aq<|sr<|mv rfl<|bE (V h) fun gY ku h=>ix rfl rfl ku<|lr rfl rfl<|ag rfl<|ag rfl<|dn<|ah<|mo (s:=.row _) rfl<|mv rfl<|mv rfl<|bE h fun k8 jM h=>cl (c7 jM) ⟨rfl,trivial⟩<|bE h fun gx lz h=>iR rfl rfl rfl lz<|bE h fun vH om h=>sR k8 rfl rfl rfl rfl om<|RT.done<|aH.n<|ae.n<|ah<|lE h fun mc qO h=>ad _ rfl rfl qO ?_
 refine mv rfl<|RT.done ?_
 obtain rfl:=O h
 exact ae.n ⟨(mc,vH),Dr _ rfl,wR []⟩
 subst Dq
 try dsimp only
 refine ae.n<|sr<|mo (s:=.row _) rfl<|an (s:=.row _) rfl<|dn<|bt (dH (i:=8) (E1:=28) (n:=1) (e:=(eS 4 eQ)) (l:=th) rfl)<|aj ?_
 obtain rfl:=O vN
 exact R1 rfl
end Go.Proofs.Ytningmnklfpfjaa
namespace Go.Fw
open Go.RowKit
class St4 (P:Program) (T:TypeId) (I:outParam TypeId):Prop where
 fs:(match P.underlying T with|some (.struct fs)=>(match fs.toList with|[f1,f2,f3,f4]=>(decide (f1.type=I)&&decide (f1.offset=0)&&decide (f1.name≠ "_"))&&(decide (f2.type=I)&&decide (f2.offset=1)&&decide (f2.name≠ "_"))&&(decide (f3.type=I)&&decide (f3.offset=2)&&decide (f3.name≠ "_"))&&(decide (f4.type=I)&&decide (f4.offset=3)&&decide (f4.name≠ "_"))|_=>false)|_=>false)=true
 hp:P.stoodInHeld T=false
 hI:P.underlying I=some (.int .i64)
 hg:P.eqGuardType P.depth T=false
theorem St4.ex{P:Program}{T I:TypeId}(h:St4 P T I):∃f1 f2 f3 f4:Field,P.underlying T=some (.struct #[f1,f2,f3,f4])∧(f1.type=I∧f1.offset=0∧f1.name≠ "_")∧(f2.type=I∧f2.offset=1∧f2.name≠ "_")∧(f3.type=I∧f3.offset=2∧f3.name≠ "_")∧(f4.type=I∧f4.offset=3∧f4.name≠ "_"):=by
 have h1:=h.fs
 cases hu:P.underlying T with
 |none=>rw[hu]at h1;cases h1
 |some d=>
  rw[hu]at h1
  cases d with
  |struct fs=>
   obtain⟨l⟩:=fs
   match l,h1 with
   |[f1,f2,f3,f4],h1=>
    simp only[Bool.and_eq_true,decide_eq_true_eq]at h1
    obtain⟨⟨⟨⟨⟨a1,a2⟩,a3⟩,⟨⟨b1,b2⟩,b3⟩⟩,⟨⟨c1,c2⟩,c3⟩⟩,⟨⟨d1,d2⟩,d3⟩⟩:=h1
    exact⟨f1,f2,f3,f4,rfl,⟨a1,a2,a3⟩,⟨b1,b2,b3⟩,⟨c1,c2,c3⟩,⟨d1,d2,d3⟩⟩
  |_=>cases h1
section steps
variable {P:Program}{C:Ctx}{ops:Array Oper}{S:AS}{nd:Bool}{K:List Ac→AS→Prop}{rest:List Oper}{acc:List Ac}
variable {gd:Option (Nat×Bool)}{rg:List Nat}{d:Nat}{ty:TypeId}{pos:String}{aft:Array Edge}{x y z:Operand}{T U E0:TypeId}
end steps
end Go.Fw
namespace Go.Fw
open Go.RowKit
def jH:List (Nat×Row×Value)→(Nat→Value)→Nat→Value
 |[],ν,j=>ν j
 |(k,_,v)::l,ν,j=>if j=k then v else jH l ν j
theorem lF{ν:Nat→Value}:∀{l:List (Nat×Row×Value)} {j:Nat},(∀R v,(j,R,v)∉l)→jH l ν j=ν j
 |[],_,_=>rfl
 |(k,R,v)::l,j,h=>by
  have:j≠k:=fun e=>h R v (by rw[e];simp)
  rw[jH,if_neg this]
  exact lF (fun R v hm=>h R v (List.mem_cons_of_mem _ hm))
theorem gV{ν:Nat→Value}:∀{l:List (Nat×Row×Value)} {j:Nat} {R:Row} {v:Value},(l.map (·.1)).Nodup→(j,R,v)∈l→jH l ν j=v
 |(k,R',v')::l,j,R,v,hn,h=>by
  rw[List.map_cons,List.nodup_cons]at hn
  rcases List.mem_cons.1 h with e|e
  ·cases e;rw[jH,if_pos rfl]
  ·have:j≠k:=fun q=>hn.1 (List.mem_map.2 ⟨(j,R,v),e,q⟩)
   rw[jH,if_neg this];exact gV hn.2 e
def uP(olds:List Nat)(news:List (Nat×Row×Value)):List (Nat×jL):=olds.map (fun j=>(j,.dead))++news.map (fun n=>(n.1,.live n.2.1))
theorem pL:∀(l k:List (Nat×jL)) (j:Nat),cP (l++k) j=match cP k j with|some R=>some R|none=>cP l j
 |[],k,j=>by cases h:cP k j<;>simp[h,cP]
 |(i,R)::l,k,j=>by
  rw[List.cons_append,cP,cP,pL l k j]
  cases h:cP k j<;>simp
theorem tq{l:List (Nat×jL)}{j:Nat}(h:∀R,(j,R)∉l):cP l j=none:=by
 induction l with
 |nil=>rfl
 |cons p l ih=>
  obtain⟨i,R⟩:=p
  rw[cP,ih (fun R hm=>h R (List.mem_cons_of_mem _ hm))]
  have:j≠i:=fun e=>h R (by rw[e];simp)
  simp[this]
theorem tu{l:List (Nat×jL)}{j:Nat}{R:jL}(h:cP l j=some R):(j,R)∈l:=by
 induction l with
 |nil=>cases h
 |cons p l ih=>
  obtain⟨i,R'⟩:=p
  rw[cP]at h
  cases e:cP l j with
  |some R2=>rw[e]at h;cases h;exact List.mem_cons_of_mem _ (ih e)
  |none=>
   rw[e]at h
   by_cases q:j=i
   ·subst q;simp at h;subst h;simp
   ·simp[q]at h
theorem zC{l:List (Nat×jL)}{j:Nat}{R:jL}(h:(j,R)∈l):∃R',cP l j=some R':=by
 induction l with
 |nil=>cases h
 |cons p l ih=>
  obtain⟨i,R'⟩:=p
  rw[cP]
  rcases List.mem_cons.1 h with e|e
  ·cases e
   cases q:cP l j with
   |some R2=>exact⟨R2,rfl⟩
   |none=>exact⟨R,by simp⟩
  ·obtain⟨R2,h2⟩:=ih e
   exact⟨R2,by rw[h2]⟩
section swap
variable {C:Ctx}{S:AS}
theorem ax.UD{E:Env}{a:Act}{w w':World}(h:ax C S E a w){i:Nat}{T:TypeId}{cells cells':List AV}{us':List Value}{M':Mem}(hB:S.b i=some ⟨T,cells⟩)(olds:List Nat)(news:List (Nat×Row×Value))
  (hold:∀j∈olds,∃R,S.r j=.live R) (hnew:∀k R v,(k,R,v)∈news→S.r k=.un∧k<1000) (hnd:(news.map (·.1)).Nodup)
  (hM:E.M.le M') (hmn:∀b o x,M' b o=some x→E.M b o=some x∨w.heap.size≤b∨∃j∈olds,(E.ν j).ownBlock=some b) (hin:M'.cm w')
  (Yc:w'.heap[E.β i]? =some (.cells ⟨us'⟩ T (0,0))) (hnb:∀o,M' (E.β i) o=none) (sP:cu {E with M:=M',ν:=jH news E.ν} cells' us')
  (hcb:∀x∈cells',(∀j,¬x.mb j)∧∀j,x.mr j→∃R v,(j,R,v)∈news)
  (hrow:∀k R v,(k,R,v)∈news→(∃vs:List Value,w'.ownsRow 0 R.E R.sz v R.n vs∧SV.dz M' R.cells vs)∧∀g,v.ownBlock=some g→((∃j∈olds,(E.ν j).ownBlock=some g)∨w.heap.size≤g)∧(∀o,M' g o=none)∧g≠E.β i)
  (UE:∀k R v k' R' v' g,(k,R,v)∈news→(k',R',v')∈news→v.ownBlock=some g→v'.ownBlock=some g→k=k')
  (hos:w'.os=w.os) (oz:w'.tape=w.tape) (hout:w'.output=w.output) (hsize:w.heap.size≤w'.heap.size)
  (jE:∀k,k<w.heap.size→k≠E.β i→(∀j∈olds,(E.ν j).ownBlock≠some k)→w'.heap[k]? =w.heap[k]?):
  ax C (AS.bf (uP olds news) (AS.ew [(i,⟨T,cells'⟩)] S)) {E with M:=M',ν:=jH news E.ν} a w':=by
 obtain⟨Hr,Yd,Mt,Iy,Hs,_⟩:=h.bx i _ hB
 have aaG:E.β i<w.heap.size:=(Array.getElem?_eq_some_iff.1 Hs).1
 obtain⟨n1,n2,n3,n4,n5⟩:=dS (uP olds news) (AS.ew [(i,⟨T,cells'⟩)] S)
 have Ye:(AS.bf (uP olds news) (AS.ew [(i,⟨T,cells'⟩)] S)).t=S.t:=n2
 have wU:∀j,(AS.bf (uP olds news) (AS.ew [(i,⟨T,cells'⟩)] S)).b j=if j=i then some ⟨T,cells'⟩else S.b j:=fun j=>by
  rw[n3]
  by_cases e:j=i
  ·subst e;rw[if_pos rfl];exact AS.bW _ _ _
  ·rw[if_neg e];exact AS.aS _ _ _ _ e
 have UF:∀k R v,(k,R,v)∈news→cP (news.map (fun n=>(n.1,jL.live n.2.1))) k=some (.live R):=fun k R v hm=>by
  obtain⟨R',mu⟩:=zC (l:=news.map (fun n=>(n.1,jL.live n.2.1))) (j:=k) (R:=.live R) (List.mem_map.2 ⟨(k,R,v),hm,rfl⟩)
  obtain⟨⟨k2,R2,v2⟩,Ih,e⟩:=List.mem_map.1 (tu mu)
  have e1:k2=k:=congrArg Prod.fst e
  have e2:jL.live R2=R':=congrArg Prod.snd e
  rw[e1]at Ih
  have:R2=R:=by
   have key:∀(l:List (Nat×Row×Value)),(l.map (·.1)).Nodup→(k,R2,v2)∈l→(k,R,v)∈l→R2=R:=by
    intro l
    induction l with
    |nil=>intro _ h;cases h
    |cons p l ih=>
     intro hn h1 h2
     rw[List.map_cons,List.nodup_cons]at hn
     rcases List.mem_cons.1 h1 with e1|e1<;>rcases List.mem_cons.1 h2 with e2|e2
     ·rw[←e1]at e2;cases e2;rfl
     ·exact absurd (List.mem_map.2 ⟨_,e2,by rw[←e1]⟩) hn.1
     ·exact absurd (List.mem_map.2 ⟨_,e1,by rw[←e2]⟩) hn.1
     ·exact ih hn.2 e1 e2
   exact key news hnd Ih hm
  rw[mu,←e2,this]
 have UG:∀k R v,(k,R,v)∈news→(AS.bf (uP olds news) (AS.ew [(i,⟨T,cells'⟩)] S)).r k=.live R:=fun k R v hm=>by
  rw[jx,uP,pL,UF k R v hm];rfl
 have UH:∀j,(∀R v,(j,R,v)∉news)→(AS.bf (uP olds news) (AS.ew [(i,⟨T,cells'⟩)] S)).r j=if j∈olds then .dead else S.r j:=fun j hn=>by
  have e1:cP (news.map (fun n=>(n.1,jL.live n.2.1))) j=none:=tq (fun R hm=>by
   obtain⟨⟨k2,R2,v2⟩,Ih,e⟩:=List.mem_map.1 hm
   cases e;exact hn R2 v2 Ih)
  rw[jx,uP,pL,e1]
  by_cases ho:j∈olds
  ·rw[if_pos ho]
   obtain⟨R',mu⟩:=zC (l:=olds.map (fun j=>(j,jL.dead))) (j:=j) (R:=.dead) (List.mem_map.2 ⟨j,ho,rfl⟩)
   obtain⟨j2,_,e⟩:=List.mem_map.1 (tu mu)
   cases e
   rw[mu];rfl
  ·rw[if_neg ho,tq (fun R hm=>by obtain⟨j2,Ih,e⟩:=List.mem_map.1 hm;cases e;exact ho Ih)];rfl
 have Kh:∀j,S.r j≠ .un→∀R v,(j,R,v)∉news:=fun j hj R v hm=>hj (hnew j R v hm).1
 have rne:∀j,S.r j≠ .un→(AS.bf (uP olds news) (AS.ew [(i,⟨T,cells'⟩)] S)).r j≠ .un:=fun j hj=>by
  rw[UH j (Kh j hj)]
  split
  ·simp
  ·exact hj
 have vS:∀j∈olds,∀g,(E.ν j).ownBlock=some g→(C.w0.heap.size≤g∨C.rN g)∧(∀o,E.M g o=none)∧¬E.O g∧(∀n B,S.b n=some B→E.β n≠g)∧g<w.heap.size∧∃c e,w.heap[g]? =some (Obj.cells c e (0,0)):=fun j hj g hg=>by
  obtain⟨R,hR⟩:=hold j hj
  obtain⟨⟨us,q1,_⟩,q2⟩:=h.rx j R hR
  obtain⟨q3,q4,q5,q6⟩:=q2 g hg
  refine⟨q3,q4,q5,q6,iE h hR hg,?_⟩
  rcases q1.2 with⟨q7,_⟩|⟨g',cap,cur,q7,_,q8,_⟩
  ·rw[q7]at hg;cases hg
  ·rw[q7]at hg;cases hg;exact⟨_,_,q8⟩
 have keep:∀x:AV,(∀j,x.mr j→S.r j≠ .un)→∀v,x.holds E v→x.holds {E with M:=M',ν:=jH news E.ν} v:=fun x hx v hv=>
  AV.bN (E:=E) (E':={E with M:=M',ν:=jH news E.ν}) hM (fun _ _=>rfl) (fun j hj=>lF (Kh j (hx j hj))) hv
 have Ro:∀b,b<w.heap.size→(∀o,E.M b o=none)→(∀j∈olds,(E.ν j).ownBlock≠some b)→∀o,M' b o=none:=fun b h1 h2 h3 o=>by
  cases e:M' b o with
  |none=>rfl
  |some v=>
   rcases hmn b o v e with q|q|⟨j,q1,q2⟩
   ·rw[h2 o]at q;cases q
   ·omega
   ·exact absurd q2 (h3 j q1)
 have live:∀j R,(AS.bf (uP olds news) (AS.ew [(i,⟨T,cells'⟩)] S)).r j=.live R→(∃v,(j,R,v)∈news)∨((∀R v,(j,R,v)∉news)∧j∉olds∧S.r j=.live R):=fun j R hj=>by
  by_cases hn:∃R v,(j,R,v)∈news
  ·obtain⟨R',v,hm⟩:=hn
   rw[UG j R' v hm]at hj;cases hj;exact .inl ⟨v,hm⟩
  ·have hn:∀R v,(j,R,v)∉news:=fun R v hm=>hn ⟨R,v,hm⟩
   rw[UH j hn]at hj
   by_cases ho:j∈olds
   ·rw[if_pos ho]at hj;cases hj
   ·rw[if_neg ho]at hj;exact .inr ⟨hn,ho,hj⟩
 have UI:∀j R,S.r j=.live R→j∉olds→∀g,(E.ν j).ownBlock=some g→∀j'∈olds,(E.ν j').ownBlock≠some g:=fun j R hR ho g hg j' hj' e=>by
  obtain⟨R',mu⟩:=hold j' hj'
  have:=h.eu j j' R R' hR mu g hg e
  subst this;exact ho hj'
 exact{
  wf:=by
   refine⟨fun s j hj=>?_,fun s j hj=>?_,fun j B ey x hx m hm=>?_,fun j B ey x hx m hm=>?_⟩
   ·rw[Ye]at hj
    obtain⟨B,ey⟩:=h.wf.tb s j hj
    rw[wU]
    by_cases e:j=i
    ·exact⟨_,if_pos e⟩
    ·exact⟨B,by rw[if_neg e];exact ey⟩
   ·rw[Ye]at hj
    exact rne j (h.wf.tr s j hj)
   ·rw[wU]at ey⊢
    by_cases e:j=i
    ·rw[if_pos e]at ey;cases ey;exact absurd hm ((hcb x hx).1 m)
    ·rw[if_neg e]at ey
     obtain⟨B2,hB2⟩:=h.wf.bb j B ey x hx m hm
     by_cases e2:m=i
     ·exact⟨_,if_pos e2⟩
     ·exact⟨B2,by rw[if_neg e2];exact hB2⟩
   ·rw[wU]at ey
    by_cases e:j=i
    ·rw[if_pos e]at ey;cases ey
     obtain⟨R,v,Ih⟩:=(hcb x hx).2 m hm
     rw[UG m R v Ih];simp
    ·rw[if_neg e]at ey;exact rne m (h.wf.br j B ey x hx m hm)
  marks:=by
   obtain⟨ds,d1,d2,d3⟩:=h.marks
   refine⟨ds,d1,d2,fun r hr=>?_⟩
   obtain⟨p1,p2,p3⟩:=d3 r hr
   refine⟨p1,p2,?_⟩
   rw[jE r (Array.getElem?_eq_some_iff.1 p3).1 (fun e=>by rw[e,Hs]at p3;cases p3) (fun j hj e=>by
    obtain⟨_,_,_,_,_,c,e2,q⟩:=vS j hj r e
    rw[q]at p3;cases p3)]
   exact p3
  size:=by rw[n1];exact h.size
  os:=hos.trans h.os
  tape:=oz.trans h.tape
  output:=hout.trans h.output
  grown:=Nat.le_trans h.grown hsize
  frame:=fun k hk hown=>by
   rw[jE k (Nat.lt_of_lt_of_le hk h.grown) (fun e=>by
    rcases Hr with q|q
    ·omega
    ·exact hown (C.Ak _ (by rw[e];exact q))) (fun j hj e=>by
    rcases(vS j hj k e).1 with q|q
    ·omega
    ·exact hown (C.Ak _ q))]
   exact h.frame k hk hown
  m0:=Mem.le_trans h.m0 hM
  dO:=fun b o v e=>by
   rcases hmn b o v e with q|q|⟨j,q1,q2⟩
   ·exact h.dO b o v q
   ·exact .inr (.inl (Nat.le_trans h.grown q))
   ·rcases(vS j q1 b q2).1 with q|q
    ·exact .inr (.inl q)
    ·exact .inr (.inr (C.Ak _ q))
  cm:=hin
  tm:=fun s=>by rw[Ye];exact keep _ (h.wf.tr s) _ (h.tm s)
  bx:=fun j B ey=>by
   rw[wU]at ey
   by_cases e:j=i
   ·rw[if_pos e]at ey;cases ey;subst e
    exact⟨Hr,hnb,Mt,us',Yc,sP⟩
   ·rw[if_neg e]at ey
    obtain⟨p1,p2,p3,vs,p4,p5⟩:=h.bx j B ey
    have hlt:=(Array.getElem?_eq_some_iff.1 p4).1
    have hno:∀j'∈olds,(E.ν j').ownBlock≠some (E.β j):=fun j' hj' q=>(vS j' hj' _ q).2.2.2.1 j B ey rfl
    refine⟨p1,Ro _ hlt p2 hno,p3,vs,?_,p5.imp (fun x hx v hv=>keep x (h.wf.br j B ey x hx) v hv)⟩
    show w'.heap[E.β j]? =_
    rw[jE _ hlt (fun q=>e (h.inj j i B _ ey hB q)) hno];exact p4
  inj:=fun j j' B B' h1 h2 e=>by
   have key:∀n B,(AS.bf (uP olds news) (AS.ew [(i,⟨T,cells'⟩)] S)).b n=some B→∃B',S.b n=some B':=fun n B hn=>by
    rw[wU]at hn
    by_cases e:n=i
    ·subst e;exact⟨_,hB⟩
    ·rw[if_neg e]at hn;exact⟨B,hn⟩
   obtain⟨B1,p1⟩:=key j B h1
   obtain⟨B2,p2⟩:=key j' B' h2
   exact h.inj j j' B1 B2 p1 p2 e
  rx:=fun j R hj=>by
   have boxes:∀g,(∀n B,S.b n=some B→E.β n≠g)→∀n B,(AS.bf (uP olds news) (AS.ew [(i,⟨T,cells'⟩)] S)).b n=some B→E.β n≠g:=fun g hg n B hn=>by
    rw[wU]at hn
    by_cases e:n=i
    ·subst e;exact hg _ _ hB
    ·rw[if_neg e]at hn;exact hg n B hn
   rcases live j R hj with⟨v,hm⟩|⟨hn,ho,hR⟩
   ·rw[show({E with M:=M',ν:=jH news E.ν}:Env).ν j=v from gV hnd hm]
    obtain⟨p1,p2⟩:=hrow j R v hm
    refine⟨p1,fun g hg=>?_⟩
    obtain⟨p3,p4,p5⟩:=p2 g hg
    rcases p3 with⟨j',q1,q2⟩|p3
    ·obtain⟨o1,o2,o3,o4,_⟩:=vS j' q1 g q2
     exact⟨o1,p4,o3,boxes g o4⟩
    ·refine⟨.inl (Nat.le_trans h.grown p3),p4,fun q=>?_,boxes g (fun n B hn q=>?_)⟩
     ·have:=(h.jJ g q).1;omega
     ·obtain⟨_,_,_,vs,q4,_⟩:=h.bx n B hn
      have:=(Array.getElem?_eq_some_iff.1 q4).1
      omega
   ·rw[show({E with M:=M',ν:=jH news E.ν}:Env).ν j=E.ν j from lF hn]
    obtain⟨⟨us,p1,p2⟩,p3⟩:=h.rx j R hR
    refine⟨⟨us,cA p1 fun g hg=>jE g (iE h hR hg) (fun e=>(p3 g hg).2.2.2 i _ hB e.symm) (UI j R hR ho g hg),p2.mono hM⟩,fun g hg=>?_⟩
    obtain⟨p4,p5,p6,p7⟩:=p3 g hg
    exact⟨p4,Ro g (iE h hR hg) p5 (UI j R hR ho g hg),p6,boxes g p7⟩
  eu:=fun j j' R R' h1 h2 g e1 e2=>by
   have mixed:∀j R v j' R' g,(j,R,v)∈news→S.r j'=.live R'→j'∉olds→v.ownBlock=some g→(E.ν j').ownBlock=some g→False:=fun j R v j' R' g hm mu ho e1 e2=>by
    rcases((hrow j R v hm).2 g e1).1 with⟨j2,q1,q2⟩|q
    ·exact UI j' R' mu ho g e2 j2 q1 q2
    ·have:=iE h mu e2;omega
   rcases live j R h1 with⟨v,hm⟩|⟨hn,ho,hR⟩<;>rcases live j' R' h2 with⟨v',hm'⟩|⟨hn',ho',mu⟩
   ·rw[show({E with M:=M',ν:=jH news E.ν}:Env).ν j=v from gV hnd hm]at e1
    rw[show({E with M:=M',ν:=jH news E.ν}:Env).ν j'=v' from gV hnd hm']at e2
    exact UE j R v j' R' v' g hm hm' e1 e2
   ·rw[show({E with M:=M',ν:=jH news E.ν}:Env).ν j=v from gV hnd hm]at e1
    rw[show({E with M:=M',ν:=jH news E.ν}:Env).ν j'=E.ν j' from lF hn']at e2
    exact(mixed j R v j' R' g hm mu ho' e1 e2).elim
   ·rw[show({E with M:=M',ν:=jH news E.ν}:Env).ν j=E.ν j from lF hn]at e1
    rw[show({E with M:=M',ν:=jH news E.ν}:Env).ν j'=v' from gV hnd hm']at e2
    exact(mixed j' R' v' j R g hm' hR ho e2 e1).elim
   ·rw[show({E with M:=M',ν:=jH news E.ν}:Env).ν j=E.ν j from lF hn]at e1
    rw[show({E with M:=M',ν:=jH news E.ν}:Env).ν j'=E.ν j' from lF hn']at e2
    exact h.eu j j' R R' hR mu g e1 e2
  fM:=h.fM
  dy:=fun k v e=>by
   rw[show({E with M:=M',ν:=jH news E.ν}:Env).ν k=E.ν k from lF (fun R v hm=>by have:=(hnew k R v hm).2;have:=C.GN k _ e;omega)]
   exact h.dy k v e
  jJ:=fun b hb=>by
   obtain⟨p1,p2,p3⟩:=h.jJ b hb
   exact⟨Nat.lt_of_lt_of_le p1 hsize,Ro b p1 p2 (fun j hj e=>(vS j hj b e).2.2.1 hb),p3⟩
  jj:=by
   have hj:=C.jf S.g S.go E.O E.M M' w w' h.jj hM hin (fun b o v e=>by
    rcases hmn b o v e with q|q|⟨j,q1,q2⟩
    ·exact .inl q
    ·exact .inr ⟨.inl (Nat.le_trans h.grown q),fun q2=>by have:=(h.jJ b q2).1;omega⟩
    ·obtain⟨o1,_,o3,_⟩:=vS j q1 b q2
     exact .inr ⟨o1,o3⟩) (fun b hb=>by
    have hlt:b<w.heap.size∨w.heap.size≤b:=Nat.lt_or_ge _ _
    have hb':b<w.heap.size:=by
     rcases hb with⟨q,_⟩|q
     ·exact Nat.lt_of_lt_of_le q h.grown
     ·exact(h.jJ b q).1
    refine jE b hb' (fun e=>?_) (fun j hj e=>?_)
    ·subst e
     rcases hb with⟨q1,q2⟩|q
     ·rcases Hr with p|p
      ·omega
      ·exact q2 p
     ·exact Mt q
    ·obtain⟨o1,_,o3,_⟩:=vS j hj b e
     rcases hb with⟨q1,q2⟩|q
     ·rcases o1 with p|p
      ·omega
      ·exact q2 p
     ·exact o3 q) hos oz hout hsize
   rw[n4,n5];exact hj}
end swap
end Go.Fw
namespace Go.Fw
open Go.RowKit
inductive Oc where
 |s (x:SV)
 |r (R:Row)
def mL(M:Mem)(w:World):List Oc→List Value→Prop
 |[],[]=>True
 |.s x::l,v::vs=>x.h M v∧mL M w l vs
 |.r R::l,v::vs=>(∃us:List Value,w.ownsRow 0 R.E R.sz v R.n us∧SV.dz M R.cells us)∧mL M w l vs
 |_,_=>False
def rowsOf:List Oc→List Row
 |[]=>[]
 |.s _::l=>rowsOf l
 |.r R::l=>R::rowsOf l
def aZ:List Oc→List Value→List (Row×Value)
 |.s _::l,_::vs=>aZ l vs
 |.r R::l,v::vs=>(R,v)::aZ l vs
 |_,_=>[]
def dA(c:List Oc)(us:List Value)(g:Nat):Prop:=∃p∈aZ c us,p.2.ownBlock=some g
def bz:List Nat→List Oc→List AV
 |ids,.s x::l=>.sv x::bz ids l
 |i::ids,.r _::l=>.row i::bz ids l
 |[],.r _::l=>.sv .any::bz [] l
 |_,[]=>[]
def DK(l:List (Row×Value)):Prop:=l.Pairwise fun p q=>∀g,p.2.ownBlock=some g→q.2.ownBlock≠some g
structure nv (M:Mem) (w:World) (β:Nat) (T:TypeId) (c:List Oc) (us:List Value):Prop where
 hp:w.heap[β]? =some (.cells ⟨us⟩ T (0,0))
 al:mL M w c us
 nb:∀o,M β o=none
 nr:∀g,dA c us g→g≠β∧∀o,M g o=none
 ap:DK (aZ c us)
theorem gz{M:Mem}{w:World}:∀{c:List Oc} {us:List Value},mL M w c us→(aZ c us).map (·.1)=rowsOf c
 |[],[],_=>rfl
 |.s _::l,_::vs,h=>gz (c:=l) (us:=vs) h.2
 |.r R::l,v::vs,h=>congrArg (R:: ·) (gz (c:=l) (us:=vs) h.2)
 |[],_::_,h=>h.elim
 |.s _::_,[],h=>h.elim
 |.r _::_,[],h=>h.elim
theorem jI{M:Mem}{w:World}:∀{c:List Oc} {us:List Value},mL M w c us→∀p∈aZ c us,∃vs:List Value,w.ownsRow 0 p.1.E p.1.sz p.2 p.1.n vs∧SV.dz M p.1.cells vs
 |[],[],_,p,hp=>by cases hp
 |.s _::l,_::vs,h,p,hp=>jI (c:=l) (us:=vs) h.2 p hp
 |.r R::l,v::vs,h,p,hp=>by
  rcases List.mem_cons.1 hp with rfl|hp
  ·exact h.1
  ·exact jI (c:=l) (us:=vs) h.2 p hp
 |[],_::_,h,_,_=>h.elim
 |.s _::_,[],h,_,_=>h.elim
 |.r _::_,[],h,_,_=>h.elim
theorem iC{α β:Type}:∀{l:List α} {k:List β} {a:α} {b:β},(a,b)∈l.zip k→a∈l∧b∈k
 |_::_,_::_,_,_,h=>by
  rw[List.zip_cons_cons]at h
  rcases List.mem_cons.1 h with e|e
  ·cases e;simp
  ·have:=iC e;exact⟨List.mem_cons_of_mem _ this.1,List.mem_cons_of_mem _ this.2⟩
 |[],_,_,_,h=>by simp at h
 |_::_,[],_,_,h=>by simp at h
theorem xK{α β:Type}:∀{l:List α} {k:List β},l.length=k.length→(l.zip k).map (·.1)=l
 |[],[],_=>rfl
 |_::l,_::k,h=>by rw[List.zip_cons_cons,List.map_cons,xK (by simpa using h)]
 |[],_::_,h=>by simp at h
 |_::_,[],h=>by simp at h
theorem vT:∀{ids:List Nat} {l:List (Row×Value)},ids.Nodup→DK l→∀k R v k' R' v' g,(k,R,v)∈ids.zip l→(k',R',v')∈ids.zip l→v.ownBlock=some g→v'.ownBlock=some g→k=k'
 |i::ids,p::l,hn,ha,k,R,v,k',R',v',g,h1,h2,e1,e2=>by
  rw[List.zip_cons_cons]at h1 h2
  rw[List.nodup_cons]at hn
  obtain⟨V1,Yf⟩:=List.pairwise_cons.1 ha
  rcases List.mem_cons.1 h1 with q1|q1<;>rcases List.mem_cons.1 h2 with q2|q2
  ·cases q1;cases q2;rfl
  ·cases q1;exact absurd e2 (V1 (R',v') (iC q2).2 g e1)
  ·cases q2;exact absurd e1 (V1 (R,v) (iC q1).2 g e2)
  ·exact vT hn.2 Yf k R v k' R' v' g q1 q2 e1 e2
 |[],_,_,_,_,_,_,_,_,_,_,h1,_,_,_=>by simp at h1
 |_::_,[],_,_,_,_,_,_,_,_,_,h1,_,_,_=>by simp at h1
theorem mM{E:Env}{w:World}:∀{ids:List Nat} {c:List Oc} {us:List Value},ids.length=(rowsOf c).length→mL E.M w c us→(∀i p,(i,p)∈ids.zip (aZ c us)→E.ν i=p.2)→cu E (bz ids c) us
 |ids,[],[],_,_,_=>by cases ids<;>exact trivial
 |ids,.s x::l,v::vs,hl,h,hv=>by
  have ih:=mM (E:=E) (w:=w) (ids:=ids) (c:=l) (us:=vs) hl h.2 hv
  cases ids<;>exact⟨h.1,ih⟩
 |i::ids,.r R::l,v::vs,hl,h,hv=>by
  refine⟨(hv i (R,v) (by rw[aZ,List.zip_cons_cons];simp)).symm,mM (w:=w) (ids:=ids) (c:=l) (us:=vs) (by simpa[rowsOf]using hl) h.2 (fun j p hm=>hv j p ?_)⟩
  rw[aZ,List.zip_cons_cons];exact List.mem_cons_of_mem _ hm
 |[],.r R::l,_::_,hl,_,_=>by simp[rowsOf]at hl
 |_,[],_::_,_,h,_=>h.elim
 |_,.s _::_,[],_,h,_=>h.elim
 |_,.r _::_,[],_,h,_=>h.elim
theorem mN:∀{ids:List Nat} {c:List Oc} (x:AV),x∈bz ids c→(∀j,¬x.mb j)∧∀j,x.mr j→j∈ids
 |ids,[],x,h=>by cases ids<;>simp[bz]at h
 |ids,.s y::l,x,h=>by
  have h':x∈AV.sv y::bz ids l:=by cases ids<;>exact h
  rcases List.mem_cons.1 h' with rfl|h'
  ·exact⟨fun j e=>e,fun j e=>e.elim⟩
  ·exact mN x h'
 |i::ids,.r _::l,x,h=>by
  rcases List.mem_cons.1 (show x∈AV.row i::bz ids l from h)with rfl|h'
  ·exact⟨fun j e=>e,fun j e=>by cases e;simp⟩
  ·obtain⟨h1,h2⟩:=mN x h'
   exact⟨h1,fun j e=>List.mem_cons_of_mem _ (h2 j e)⟩
 |[],.r _::l,x,h=>by
  rcases List.mem_cons.1 (show x∈AV.sv .any::bz [] l from h)with rfl|h'
  ·exact⟨fun j e=>e,fun j e=>e.elim⟩
  ·exact mN x h'
def Lv(S:AS):List Nat→List Row→Prop
 |[],[]=>True
 |j::js,R::Rs=>S.r j=.live R∧Lv S js Rs
 |_,_=>False
theorem Lv.len{S:AS}:∀{js:List Nat} {Rs:List Row},Lv S js Rs→js.length=Rs.length
 |[],[],_=>rfl
 |_::_,_::_,h=>congrArg (· +1) (Lv.len h.2)
 |[],_::_,h=>h.elim
 |_::_,[],h=>h.elim
theorem Lv.mem{S:AS}:∀{js:List Nat} {Rs:List Row},Lv S js Rs→∀j∈js,∃R,S.r j=.live R
 |j::js,R::Rs,h,k,hk=>by
  rcases List.mem_cons.1 hk with rfl|hk
  ·exact⟨R,h.1⟩
  ·exact Lv.mem h.2 k hk
 |[],_,_,k,hk=>by cases hk
 |_::_,[],h,_,_=>h.elim
theorem ri{C:Ctx}{S:AS}{E:Env}{a:Act}{w:World}(h:ax C S E a w):∀{js:List Nat} {c:List Oc} {us:List Value},Lv S js (rowsOf c)→cu E (bz js c) us→mL E.M w c us∧aZ c us=(rowsOf c).zip (js.map E.ν)
 |[],[],[],_,_=>⟨trivial,rfl⟩
 |js,.s x::l,v::vs,hL,hv=>by
  have r9:cu E (AV.sv x::bz js l) (v::vs):=by cases js<;>exact hv
  obtain⟨h1,h2⟩:=ri h (js:=js) (c:=l) (us:=vs) hL r9.2
  exact⟨⟨r9.1,h1⟩,h2⟩
 |j::js,.r R::l,v::vs,hL,hv=>by
  have hL:S.r j=.live R∧Lv S js (rowsOf l):=hL
  have r9:cu E (AV.row j::bz js l) (v::vs):=hv
  obtain⟨h1,h2⟩:=ri h (js:=js) (c:=l) (us:=vs) hL.2 r9.2
  have e:v=E.ν j:=r9.1
  obtain⟨q1,_⟩:=h.rx j R hL.1
  rw[←e]at q1
  refine⟨⟨q1,h1⟩,?_⟩
  rw[aZ,h2,e];rfl
 |[],.r _::_,_,hL,_=>hL.elim
 |_::_,[],_,hL,_=>hL.elim
 |[],[],_::_,_,hv=>by simp[bz]at hv;exact hv.elim
 |js,.s x::l,[],_,hv=>by
  have r9:cu E (AV.sv x::bz js l) []:=by cases js<;>exact hv
  exact r9.elim
 |_::_,.r _::_,[],_,hv=>hv.elim
theorem rj{α β:Type}:∀{l:List α} {k:List β} {b:β},l.length=k.length→b∈k→∃a,(a,b)∈l.zip k
 |a::l,c::k,b,h,hb=>by
  rcases List.mem_cons.1 hb with rfl|hb
  ·exact⟨a,by rw[List.zip_cons_cons];simp⟩
  ·obtain⟨a',h'⟩:=rj (l:=l) (k:=k) (by simpa using h) hb
   exact⟨a',by rw[List.zip_cons_cons];exact List.mem_cons_of_mem _ h'⟩
 |[],[],_,_,hb=>by cases hb
 |[],_::_,_,h,_=>by simp at h
theorem oA{C:Ctx}{S:AS}{E:Env}{a:Act}{w:World}(h:ax C S E a w){i:Nat}{T:TypeId}{js:List Nat}{c:List Oc}(hB:S.b i=some ⟨T,bz js c⟩)(hL:Lv S js (rowsOf c))(hn:js.Nodup):
  ∃us,nv E.M w (E.β i) T c us∧(∀g,dA c us g↔∃j∈js,(E.ν j).ownBlock=some g):=by
 obtain⟨_,q1,_,us,q2,q3⟩:=h.bx i _ hB
 obtain⟨p1,p2⟩:=ri h hL q3
 have hlen:=hL.len
 have BM:∀g,dA c us g↔∃j∈js,(E.ν j).ownBlock=some g:=fun g=>by
  unfold dA
  rw[p2]
  constructor
  ·rintro⟨⟨R,v⟩,hm,hg⟩
   obtain⟨j,hj,rfl⟩:=List.mem_map.1 (iC hm).2
   exact⟨j,hj,hg⟩
  ·rintro⟨j,hj,hg⟩
   obtain⟨R,hR⟩:=rj (l:=rowsOf c) (k:=js.map E.ν) (by simp[hlen]) (List.mem_map.2 ⟨j,hj,rfl⟩)
   exact⟨(R,E.ν j),hR,hg⟩
 refine⟨us,⟨q2,p1,q1,fun g hg=>?_,?_⟩,BM⟩
 ·obtain⟨j,hj,wE⟩:=(BM g).1 hg
  obtain⟨R,hR⟩:=hL.mem j hj
  obtain⟨_,q4⟩:=h.rx j R hR
  obtain⟨_,q5,_,q6⟩:=q4 g wE
  exact⟨fun e=>q6 i _ hB e.symm,q5⟩
 ·rw[p2]
  have key:∀(js:List Nat) (Rs:List Row),Lv S js Rs→js.Nodup→DK (Rs.zip (js.map E.ν)):=by
   intro js
   induction js with
   |nil=>intro Rs hL _;cases Rs with|nil=>exact List.Pairwise.nil|cons _ _=>exact hL.elim
   |cons j js ih=>
    intro Rs hL hn
    cases Rs with
    |nil=>exact hL.elim
    |cons R Rs=>
     rw[List.nodup_cons]at hn
     rw[List.map_cons,List.zip_cons_cons]
     refine List.pairwise_cons.2 ⟨fun p hp g e1 e2=>?_,ih Rs hL.2 hn.2⟩
     obtain⟨R',v'⟩:=p
     obtain⟨j',hj',rfl⟩:=List.mem_map.1 (iC hp).2
     obtain⟨R2,hR2⟩:=hL.2.mem j' hj'
     have:=h.eu j j' R R2 hL.1 hR2 g e1 e2
     subst this;exact hn.1 hj'
  exact key js _ hL hn
def mO(M:Mem)(β:Nat):Env:=⟨fun _=>β,fun _=>.nilIface,fun _=>False,M⟩
def Fc.oy:Fc→Bool
 |.val _=>true
 |.box i=>Nat.beq i 1000
 |.row _=>false
def AV.oy:AV→Bool
 |.sv _=>true
 |.ptr i _=>Nat.beq i 1000
 |.cmp _ js=>js.all Fc.oy
 |_=>false
def Fc.Oq(i:Nat):Fc→Fc
 |.box _=>.box i
 |c=>c
def AV.Oq(i:Nat):AV→AV
 |.ptr _ o=>.ptr i o
 |.cmp t js=>.cmp t (js.map (Fc.Oq i))
 |x=>x
theorem Ht{E:Env}{i:Nat}{x:AV}{v:Value}(hx:x.oy=true)(h:(x.Oq i).holds E v):x.holds (mO E.M (E.β i)) v:=by
 cases x with
 |sv s=>exact h
 |ptr k o=>exact h
 |cmp t js=>
  obtain⟨vs,rfl,h⟩:=h
  refine⟨vs,rfl,?_⟩
  have key:∀(l:List Fc) (vs:List Value),(l.all Fc.oy)=true→tX E (l.map (Fc.Oq i)) vs→tX (mO E.M (E.β i)) l vs:=by
   intro l
   induction l with
   |nil=>intro vs _ h;cases vs with|nil=>trivial|cons _ _=>exact h.elim
   |cons c l ih=>
    intro vs ho h
    rw[List.all_cons,Bool.and_eq_true]at ho
    cases vs with
    |nil=>exact h.elim
    |cons u vs=>
     refine⟨?_,ih vs ho.2 h.2⟩
     cases c with
     |val s=>exact h.1
     |box k=>exact h.1
     |row k=>exact(Bool.false_ne_true ho.1).elim
  exact key js vs hx h
 |_=>exact(Bool.false_ne_true hx).elim
theorem xL{E:Env}{i:Nat}:∀{l:List AV} {vs:List Value},(l.all AV.oy)=true→cu E (l.map (AV.Oq i)) vs→cu (mO E.M (E.β i)) l vs
 |[],[],_,_=>trivial
 |x::l,v::vs,h,hv=>by
  rw[List.all_cons,Bool.and_eq_true]at h
  exact⟨Ht h.1 hv.1,xL h.2 hv.2⟩
 |[],_::_,_,h=>h.elim
 |_::_,[],_,h=>h.elim
def Mu(P:Program)(f:FuncId)(args:List AV)(T:TypeId)(c0:List Oc)(res:SV)(c1:List Oc):Prop:=
 ∀(M:Mem) (w:World) (β:Nat) (vs us:List Value),M.cm w→nv M w β T c0 us→cu (mO M β) args vs→
  Calls P f ⟨vs⟩ w fun e w'=>∃v M' us',e=.returned v∧M.le M'∧(∀b o x,M' b o=some x→M b o=some x∨w.heap.size≤b∨dA c0 us b)∧M'.cm w'∧res.h M' v∧
   nv M' w' β T c1 us'∧(∀g,dA c1 us' g→dA c0 us g∨w.heap.size≤g)∧w'.os=w.os∧w'.tape=w.tape∧w'.output=w.output∧w.heap.size≤w'.heap.size∧
   ∀k,k<w.heap.size→k≠β→¬dA c0 us k→w'.heap[k]? =w.heap[k]?
def Rp(w:World)(M:Mem)(β:Nat)(c:List Oc)(us:List Value):Ctx:={w0:=w,M0:=M,own:=fun k=>k=β∨dA c us k,rN:=fun k=>k=β∨dA c us k,fM:=fun i=>bif Nat.beq i 1000 then some β else none,dy:=fun _=>none,ro:=none,J:=fun _ _ _ _ _=>True,Ak:=fun _ h=>h,GN:=fun _ _ h=>(by cases h),jf:=fun _ _ _ _ _ _ _ _ _ _ _ _ _ _ _ _=>trivial}
theorem uQ{M:Mem}{w:World}:∀{ids:List Nat} {c:List Oc} {us:List Value},mL M w c us→∀{i:Nat} {R:Row},(i,R)∈ids.zip (rowsOf c)→∃v,(i,R,v)∈ids.zip (aZ c us)
 |ids,.s x::l,v::vs,h,i,R,hm=>by
  have hm':(i,R)∈ids.zip (rowsOf l):=hm
  exact uQ (c:=l) (us:=vs) h.2 hm'
 |k::ids,.r R'::l,v::vs,h,i,R,hm=>by
  have hm':(i,R)∈(k,R')::ids.zip (rowsOf l):=hm
  rw[aZ,List.zip_cons_cons]
  rcases List.mem_cons.1 hm' with e|e
  ·cases e;exact⟨v,by simp⟩
  ·obtain⟨v',h'⟩:=uQ (ids:=ids) (c:=l) (us:=vs) h.2 e
   exact⟨v',List.mem_cons_of_mem _ h'⟩
 |[],.r _::_,_::_,_,_,_,hm=>by simp at hm
 |_,[],[],_,_,_,hm=>by simp[rowsOf]at hm
 |_,[],_::_,h,_,_,_=>h.elim
 |_,.s _::_,[],h,_,_,_=>h.elim
 |_,.r _::_,[],h,_,_,_=>h.elim
theorem Gc{n:Nat}{args:List AV}{T:TypeId}{c:List Oc}{M:Mem}{w:World}{β:Nat}{vs us:List Value}(ids:List Nat)(hM:M.cm w)(ho:nv M w β T c us)(hv:cu (mO M β) args vs)(Ge:args.all AV.oy=true)(hn:args.length≤n)(An:ids.Nodup)(Ot:ids.length=(rowsOf c).length):
  ax (Rp w M β c us) (AS.Af n args [(1000,⟨T,bz ids c⟩)] (ids.zip (rowsOf c))) ⟨fun _=>β,jH (ids.zip (aZ c us)) (fun _=>.nilIface),fun _=>False,M⟩ {tmps:=⟨vs⟩++Array.replicate (n-(⟨vs⟩:Array Value).size) undef,defers:=[]} w:=by
 have hl:=hv.length
 have S4:(aZ c us).length=(rowsOf c).length:=by rw[←gz ho.al,List.length_map]
 have hnd:((ids.zip (aZ c us)).map (·.1)).Nodup:=by rw[xK (by omega)];exact An
 have Ou:∀s,(oW args s).oy=true:=fun s=>by
  rcases uf (l:=args) (k:=s)with e|e
  ·rw[e];rfl
  ·exact List.all_eq_true.1 Ge _ e
 have Yg:∀x:AV,x.oy=true→(∀j,x.mb j→j=1000)∧∀j,¬x.mr j:=fun x hx=>by
  cases x with
  |sv s=>exact⟨fun j e=>e.elim,fun j e=>e⟩
  |ptr k o=>exact⟨fun j e=>by cases e;exact Nat.eq_of_beq_eq_true hx,fun j e=>e⟩
  |cmp t js=>
   refine⟨fun j e=>?_,fun j e=>?_⟩
   ·exact Nat.eq_of_beq_eq_true (List.all_eq_true.1 hx _ e)
   ·exact Bool.false_ne_true (List.all_eq_true.1 hx _ e)
  |_=>exact(Bool.false_ne_true hx).elim
 have hall:cu ⟨fun _=>β,jH (ids.zip (aZ c us)) (fun _=>.nilIface),fun _=>False,M⟩ args vs:=by
  refine hv.imp (fun x hx v hh=>?_)
  exact AV.bN (E:=mO M β) (E':=⟨fun _=>β,jH (ids.zip (aZ c us)) (fun _=>.nilIface),fun _=>False,M⟩) (Mem.le_refl _) (fun _ _=>rfl) (fun j hj=>absurd hj ((Yg x (List.all_eq_true.1 Ge x hx)).2 j)) hh
 have live:∀j R,(AS.Af n args [(1000,⟨T,bz ids c⟩)] (ids.zip (rowsOf c))).r j=.live R→(j,R)∈ids.zip (rowsOf c):=fun j R hj=>by
  have hj:(match Ae (ids.zip (rowsOf c)) j with|some R=>jL.live R|none=>.un)=.live R:=hj
  cases e:Ae (ids.zip (rowsOf c)) j with
  |none=>rw[e]at hj;cases hj
  |some R'=>rw[e]at hj;cases hj;exact xD e
 have isLive:∀j∈ids,(AS.Af n args [(1000,⟨T,bz ids c⟩)] (ids.zip (rowsOf c))).r j≠ .un:=fun j hj=>by
  have key:∀(ids:List Nat) (Rs:List Row),ids.length=Rs.length→j∈ids→∃R,Ae (ids.zip Rs) j=some R:=by
   intro ids
   induction ids with
   |nil=>intro _ _ h;cases h
   |cons k ids ih=>
    intro Rs hl hm
    cases Rs with
    |nil=>simp at hl
    |cons R Rs=>
     rw[List.zip_cons_cons,Ae]
     by_cases e:j=k
     ·subst e;exact⟨R,by simp⟩
     ·rw[bU e]
      rcases List.mem_cons.1 hm with q|q
      ·exact absurd q e
      ·exact ih Rs (by simpa using hl) q
  obtain⟨R,hR⟩:=key ids _ Ot hj
  show(match Ae (ids.zip (rowsOf c)) j with|some R=>jL.live R|none=>.un)≠ .un
  rw[hR];simp
 have box:∀j B,(AS.Af n args [(1000,⟨T,bz ids c⟩)] (ids.zip (rowsOf c))).b j=some B→j=1000∧B=⟨T,bz ids c⟩:=fun j B h=>by
  have:=nc h
  simpa using this
 have IE:(AS.Af n args [(1000,⟨T,bz ids c⟩)] (ids.zip (rowsOf c))).b 1000=some ⟨T,bz ids c⟩:=rfl
 exact{
  wf:=by
   refine⟨fun s j hj=>?_,fun s j hj=>?_,fun i B hB x hx j hj=>?_,fun i B hB x hx j hj=>?_⟩
   ·have:=(Yg _ (Ou s)).1 j hj
    subst this;exact⟨_,IE⟩
   ·exact absurd hj ((Yg _ (Ou s)).2 j)
   ·obtain⟨rfl,rfl⟩:=box i B hB
    exact absurd hj ((mN x hx).1 j)
   ·obtain⟨rfl,rfl⟩:=box i B hB
    exact isLive j ((mN x hx).2 j hj)
  marks:=⟨[],rfl,List.nodup_nil,by simp⟩
  size:=by simp[AS.Af];omega
  os:=rfl
  tape:=rfl
  output:=rfl
  grown:=Nat.le_refl _
  frame:=fun _ _ _=>rfl
  m0:=Mem.le_refl _
  dO:=fun _ _ _ e=>.inl e
  cm:=hM
  tm:=fun s=>EJ hall s
  bx:=fun i B h=>by
   obtain⟨rfl,rfl⟩:=box i B h
   refine⟨.inr (.inl rfl),ho.nb,fun h=>h,us,ho.hp,?_⟩
   exact mM (w:=w) Ot ho.al (fun j p hm=>gV (R:=p.1) (v:=p.2) hnd hm)
  inj:=fun i j B1 B2 hi hj _=>by rw[(box i B1 hi).1,(box j B2 hj).1]
  rx:=fun j R hj=>by
   obtain⟨v,hm⟩:=uQ ho.al (live j R hj)
   have hν:jH (ids.zip (aZ c us)) (fun _=>Value.nilIface) j=v:=gV hnd hm
   show(∃vs:List Value,w.ownsRow 0 R.E R.sz (jH (ids.zip (aZ c us)) (fun _=>.nilIface) j) R.n vs∧SV.dz M R.cells vs)∧_
   rw[hν]
   refine⟨jI ho.al (R,v) (iC hm).2,fun g hg=>?_⟩
   have hg:v.ownBlock=some g:=by rw[←hν];exact hg
   have hb:dA c us g:=⟨(R,v),(iC hm).2,hg⟩
   obtain⟨q1,q2⟩:=ho.nr g hb
   refine⟨.inr (.inr hb),q2,fun h=>h,fun k B _ e=>q1 e.symm⟩
  eu:=fun j j' R R' h1 h2 g e1 e2=>by
   obtain⟨v,hm⟩:=uQ ho.al (live j R h1)
   obtain⟨v',hm'⟩:=uQ ho.al (live j' R' h2)
   have hν:jH (ids.zip (aZ c us)) (fun _=>Value.nilIface) j=v:=gV hnd hm
   have Yh:jH (ids.zip (aZ c us)) (fun _=>Value.nilIface) j'=v':=gV hnd hm'
   exact vT An ho.ap j R v j' R' v' g hm hm' (by rw[←hν];exact e1) (by rw[←Yh];exact e2)
  fM:=fun i b e=>by
   simp only[Rp]at e
   cases h:Nat.beq i 1000 with
   |false=>rw[h]at e;cases e
   |true=>rw[h]at e;cases e;rfl
  dy:=fun i v e=>by cases e
  jJ:=fun b e=>e.elim
  jj:=trivial}
theorem zD{P:Program}{f:FuncId}{fn:Func}{code:Code}{args:List AV}{T:TypeId}{c0 c1:List Oc}{res:SV}(ids:List Nat)(hf:P.funcs[f]? =some fn)(hb:fn.body=some code)(hn:args.length≤fn.ntmps)(Ge:args.all AV.oy=true)(An:ids.Nodup)(Ot:ids.length=(rowsOf c0).length)
  (h:∀(w:World) (M:Mem) (β:Nat) (us:List Value),Ok P (Rp w M β c0 us) code (AS.Af fn.ntmps args [(1000,⟨T,bz ids c0⟩)] (ids.zip (rowsOf c0))) (fun e S=>(e=.normal∨e=.ret)∧Io P S fn.results.toList res∧∃ks:List Nat,S.b 1000=some ⟨T,bz ks c1⟩∧Lv S ks (rowsOf c1)∧ks.Nodup)):Mu P f args T c0 res c1:=by
 intro M w β vs us hM ho hv
 refine fz rfl hf hb (Gc ids hM ho hv Ge hn An Ot) (h w M β us) ?_
 rintro S' E a w' ⟨hr,ks,hB,hL,hk⟩ hh
 obtain⟨v,hv,hx⟩:=(wW.sv hr).run hh
 have hβ:E.β 1000=β:=hh.fM 1000 β rfl
 obtain⟨us',ho',jE⟩:=oA hh hB hL hk
 rw[hβ]at ho'
 refine⟨v,hv,v,E.M,us',rfl,hh.m0,fun b o x e=>?_,hh.cm,hx,ho',fun g hg=>?_,hh.os,hh.tape,hh.output,hh.grown,fun k hk hne hno=>hh.frame k hk (fun e=>e.elim hne hno)⟩
 ·rcases hh.dO b o x e with q|q|q|q
  ·exact .inl q
  ·exact .inr (.inl q)
  ·rw[show b=β from q,ho'.nb o]at e;cases e
  ·exact .inr (.inr q)
 ·obtain⟨j,hj,wE⟩:=(jE g).1 hg
  obtain⟨R,hR⟩:=hL.mem j hj
  obtain⟨_,q⟩:=hh.rx j R hR
  rcases(q g wE).1 with q1|q1|q1
  ·exact .inr q1
  ·exact absurd q1 (ho'.nr g hg).1
  ·exact .inl q1
end Go.Fw
namespace Go.Fw
open Go.RowKit
def Un(S:AS):List Nat→Prop
 |[]=>True
 |k::ks=>(S.r k=.un∧k<1000)∧Un S ks
theorem Un.mem{S:AS}:∀{ks:List Nat},Un S ks→∀k∈ks,S.r k=.un∧k<1000
 |k::ks,h,j,hj=>by
  rcases List.mem_cons.1 hj with rfl|hj
  ·exact h.1
  ·exact Un.mem h.2 j hj
 |[],_,j,hj=>by cases hj
theorem Un.congr{S S':AS}:∀{ks:List Nat},(∀k∈ks,S'.r k=S.r k)→Un S ks→Un S' ks
 |[],_,_=>trivial
 |k::ks,h,hu=>⟨by rw[h k (by simp)];exact hu.1,Un.congr (fun j hj=>h j (List.mem_cons_of_mem _ hj)) hu.2⟩
theorem Lv.congr{S S':AS}:∀{js:List Nat} {Rs:List Row},(∀k∈js,S'.r k=S.r k)→Lv S js Rs→Lv S' js Rs
 |[],[],_,_=>trivial
 |j::js,R::Rs,h,hl=>⟨by rw[h j (by simp)];exact hl.1,Lv.congr (fun k hk=>h k (List.mem_cons_of_mem _ hk)) hl.2⟩
 |[],_::_,_,h=>h.elim
 |_::_,[],_,h=>h.elim
def uR(js ks:List Nat)(c:List Oc):List (Nat×jL):=js.map (fun j=>(j,jL.dead))++(ks.zip (rowsOf c)).map (fun p=>(p.1,.live p.2))
theorem DL:∀(ks:List Nat) (l:List (Row×Value)),(ks.zip l).map (fun n=>(n.1,jL.live n.2.1))=(ks.zip (l.map (·.1))).map (fun p=>(p.1,.live p.2))
 |[],_=>rfl
 |_::_,[]=>rfl
 |k::ks,p::l=>by rw[List.map_cons,List.zip_cons_cons,List.zip_cons_cons,List.map_cons,List.map_cons,DL ks l]
theorem DM{M:Mem}{w:World}{c:List Oc}{us:List Value}(h:mL M w c us)(js ks:List Nat):uP js (ks.zip (aZ c us))=uR js ks c:=by
 unfold uP uR
 rw[DL,gz h]
section steps
variable {P:Program}{C:Ctx}{ops:Array Oper}{S:AS}{nd:Bool}{K:List Ac→AS→Prop}{rest:List Oper}{acc:List Ac}
variable {gd:Option (Nat×Bool)}{rg:List Nat}{d:Nat}{ty:TypeId}{pos:String}{aft:Array Edge}{x y z:Operand}{T U E0:TypeId}
theorem ax.Mw{E:Env}{a:Act}{w w':World}(h:ax C S E a w){i:Nat}{js ks:List Nat}{c0 c1:List Oc}{us us':List Value}{M':Mem}(hB:S.b i=some ⟨T,bz js c0⟩)(hL:Lv S js (rowsOf c0))(hks:ks.Nodup)(Ar:ks.length=(rowsOf c1).length)(My:Un S ks)
  (zE:∀g,dA c0 us g↔∃j∈js,(E.ν j).ownBlock=some g) (hM:E.M.le M') (hn:∀b o x,M' b o=some x→E.M b o=some x∨w.heap.size≤b∨dA c0 us b) (hin:M'.cm w') (ho:nv M' w' (E.β i) T c1 us') (hg:∀g,dA c1 us' g→dA c0 us g∨w.heap.size≤g)
  (hos:w'.os=w.os) (oz:w'.tape=w.tape) (hout:w'.output=w.output) (hsize:w.heap.size≤w'.heap.size) (jE:∀k,k<w.heap.size→k≠E.β i→¬dA c0 us k→w'.heap[k]? =w.heap[k]?):
  ∃E':Env,E'.M=M'∧E'.β=E.β∧ax C (AS.bf (uR js ks c1) (AS.ew [(i,⟨T,bz ks c1⟩)] S)) E' a w':=by
 have S4:(aZ c1 us').length=(rowsOf c1).length:=by rw[←gz ho.al,List.length_map]
 have hnd:((ks.zip (aZ c1 us')).map (·.1)).Nodup:=by rw[xK (by omega)];exact hks
 rw[←DM ho.al js ks]
 refine⟨{E with M:=M',ν:=jH (ks.zip (aZ c1 us')) E.ν},rfl,rfl,h.UD hB js (ks.zip (aZ c1 us')) (fun j hj=>hL.mem j hj) (fun k R v hm=>My.mem k (iC hm).1) hnd hM (fun b o x e=>?_) hin ho.hp ho.nb ?_ (fun x hx=>?_) (fun k R v hm=>?_) (vT hks ho.ap) hos oz hout hsize (fun k hk hne hno=>jE k hk hne (fun q=>?_))⟩
 ·rcases hn b o x e with q|q|q
  ·exact .inl q
  ·exact .inr (.inl q)
  ·exact .inr (.inr ((zE b).1 q))
 ·exact mM (E:={E with M:=M',ν:=jH (ks.zip (aZ c1 us')) E.ν}) (w:=w') Ar ho.al (fun j p hm=>gV (R:=p.1) (v:=p.2) hnd hm)
 ·obtain⟨q1,q2⟩:=mN x hx
  refine⟨q1,fun j hj=>?_⟩
  have hj:=q2 j hj
  have key:∀(ks:List Nat) (l:List (Row×Value)),ks.length=l.length→j∈ks→∃R v,(j,R,v)∈ks.zip l:=by
   intro ks
   induction ks with
   |nil=>intro _ _ h;cases h
   |cons k ks ih=>
    intro l hl hm
    cases l with
    |nil=>simp at hl
    |cons p l=>
     rw[List.zip_cons_cons]
     rcases List.mem_cons.1 hm with q|q
     ·subst q;exact⟨p.1,p.2,by simp⟩
     ·obtain⟨R,v,h⟩:=ih l (by simpa using hl) q
      exact⟨R,v,List.mem_cons_of_mem _ h⟩
  exact key ks _ (by omega) hj
 ·refine⟨jI ho.al (R,v) (iC hm).2,fun g CQ=>?_⟩
  have hb:dA c1 us' g:=⟨(R,v),(iC hm).2,CQ⟩
  obtain⟨q1,q2⟩:=ho.nr g hb
  refine⟨?_,q2,q1⟩
  rcases hg g hb with q|q
  ·exact .inl ((zE g).1 q)
  ·exact .inr q
 ·obtain⟨j,hj,e⟩:=(zE k).1 q
  exact hno j hj e
theorem RT.Ki(hg:Gd ops S gd rg){f:FuncId}[dj P f]{g:Operand}{xs:Array Operand}{at_:Array TypeId}{args:List AV}{T:TypeId}{c0 c1:List Oc}{res:SV}(hp:Mu P f args T c0 res c1)(i:Nat)(js ks:List Nat)(hB:S.b i=some ⟨T,bz js c0⟩)(hL:Lv S js (rowsOf c0))(Ov:js.Nodup)(hks:ks.Nodup)(Ar:ks.length=(rowsOf c1).length)(My:Un S ks)
  (Ge:args.all AV.oy=true) (hf:S.ev g=.sv (.v (.func (.func f) #[] #[]))) (hargs:sS S xs.toList (args.map (AV.Oq i))) (hd:d<S.n)
  (next:RunT P C ops nd K rest (⟨rg++(ak g++xs.toList.flatMap ak),[i],js++ks,⟨some (d,.sv res),[(i,⟨T,bz ks c1⟩)],uR js ks c1⟩⟩::acc) ((AS.bf (uR js ks c1) (AS.ew [(i,⟨T,bz ks c1⟩)] S)).set d (.sv res))):RunT P C ops nd K (⟨some d,.call ⟨.value g,xs,at_⟩,ty,pos,aft,gd⟩::rest) acc S:=by
 refine .inl ⟨_,[i],js++ks,_,?_,next⟩
 rintro S' hn ht hb hr k a w L Q ho ⟨E,h⟩ UJ
 refine bD (C:=C) ho (hg.wanted h (fun s hs=>ht s (List.mem_append_left _ hs)) rfl) ?_
 have qt:a.eval g=.func (.func f) #[] ⟨[]⟩:=by
  have h1:=h.ev g;rw[aE (fun _ h=>List.mem_append_right _ (List.mem_append_left _ h)) ht,hf]at h1;exact h1
 have hall:=xL Ge (sS.vals h hargs (fun s hs=>ht s (List.mem_append_right _ (List.mem_append_right _ hs))))
 have ey:S'.b i=some ⟨T,bz js c0⟩:=by rw[hb i (by simp)];exact hB
 have Ox:Lv S' js (rowsOf c0):=hL.congr (fun k hk=>hr k (List.mem_append_left _ hk))
 have Yi:Un S' ks:=My.congr (fun k hk=>hr k (List.mem_append_right _ hk))
 obtain⟨us,Mz,zE⟩:=oA h ey Ox Ov
 refine bB (C:=C) (by intro c h;cases h) (kZ qt) ?_
 rw[List.append_nil]
 refine⟨fun h=>by simp at h,fu ((hp E.M w (E.β i) _ us h.cm Mz hall).mono ?_)⟩
 rintro e w' ⟨v,M',us',rfl,hM,hnew,hin,hv,Gf,LN,hos,oz,hout,hsize,jE⟩
 obtain⟨E',e1,e2,h1⟩:=h.Mw ey Ox hks Ar Yi zE hM hnew hin Gf LN hos oz hout hsize jE
 refine UJ _ _ ⟨_,h1.put (x:=.sv res) (v:=v) (by show res.h E'.M v;rw[e1];exact hv) ?_ dY⟩
 rw[(dS _ _).1];show d<S'.n;omega
theorem RT.dL(hg:Gd ops S gd rg){i o:Nat}(hx:S.ev x=.ptr i o)(hd:d<S.n)
  (next:RunT P C ops nd K rest (⟨rg++ak x,[],[],⟨some (d,.ptr i o),[],[]⟩⟩::acc) (S.set d (.ptr i o))):RunT P C ops nd K (⟨some d,.nilCheck x,ty,pos,aft,gd⟩::rest) acc S:=
 RT.value hg (ak x) [] [] (.ptr i o) hd (by intro c h;cases h) (fun S' ht _ _ E a w h=>by
  have hx':S'.ev x=.ptr i o:=by rw[aE (fun _ h=>h) ht,hx]
  have h1:=h.ev x
  rw[hx']at h1
  have h2:a.eval x=.pointer (some ⟨E.β i,o,none⟩):=h1
  exact⟨a.eval x,by simp[execOp,h2],h1,jP h.wf hx'⟩) next
class zF (P:Program) (T:TypeId):Prop where
 u:P.underlying T=some (.pointer (P.pointee T))
theorem RT.Rr(hg:Gd ops S gd rg)[tT:zF P T]{i o:Nat}(hx:S.ev x=.ptr i o)(hy:S.ev y=.sv (.v (.pointer none)))(hd:d<S.n)
  (next:RunT P C ops nd K rest (⟨rg++(ak x++ak y),[],[],⟨some (d,.sv (.v (.bool false))),[],[]⟩⟩::acc) (S.set d (.sv (.v (.bool false))))):RunT P C ops nd K (⟨some d,.binOp .eql T x y U,ty,pos,aft,gd⟩::rest) acc S:=
 RT.value hg (ak x++ak y) [] [] (.sv (.v (.bool false))) hd (by intro c h;cases h) (fun S' ht _ _ E a w h=>by
  have h1:=h.ev x
  rw[aE (fun _ h=>List.mem_append_left _ h) ht,hx]at h1
  have h2:=h.ev y
  rw[aE (fun _ h=>List.mem_append_right _ h) ht,hy]at h2
  have h1:a.eval x=.pointer (some ⟨E.β i,o,none⟩):=h1
  have h2:a.eval y=.pointer none:=h2
  have e:=run_eql_pointer_nil (P:=P) w T (some ⟨E.β i,o,none⟩) tT.u
  refine⟨.bool false,?_,rfl,dY⟩
  simp[execOp,h1,h2,eqGuard,e]) next
def Fc.av:Fc→AV
 |.val s=>.sv s
 |.box i=>.ptr i 0
 |.row i=>.row i
theorem RT.DN(hg:Gd ops S gd rg){i:Nat}{js:List Fc}{s:Fc}(hx:S.ev x=.cmp .sN js)(hi:js[i]? =some s)(hd:d<S.n)
  (next:RunT P C ops nd K rest (⟨rg++ak x,[],[],⟨some (d,s.av),[],[]⟩⟩::acc) (S.set d s.av)):RunT P C ops nd K (⟨some d,.extract x i,ty,pos,aft,gd⟩::rest) acc S:=
 RT.value hg (ak x) [] [] s.av hd (by intro c h;cases h) (fun S' ht _ _ E a w h=>by
  have hx':S'.ev x=.cmp .sN js:=by rw[aE (fun _ h=>h) ht,hx]
  have h1:=h.ev x
  rw[hx']at h1
  obtain⟨l1,l2⟩:=jP h.wf hx'
  obtain⟨vs,hv,hall⟩:=h1
  have hv:a.eval x=.tuple ⟨vs⟩:=hv
  obtain⟨u,hu,hs⟩:=hall.get hi
  have hm:=List.mem_of_getElem? hi
  refine⟨u,by simp[execOp,hv,Instr.extract,hu],?_,fun j e=>?_,fun j e=>?_⟩
  ·cases s<;>exact hs
  ·cases s with
   |val s=>exact e.elim
   |box k=>have e:j=k:=e;subst e;exact l1 j hm
   |row k=>exact e.elim
  ·cases s with
   |val s=>exact e.elim
   |box k=>exact e.elim
   |row k=>have e:j=k:=e;subst e;exact l2 j hm) next
def Yj(tp:Bool)(p:Value)(rs:List Value):Value:=bif tp then .tuple ⟨p::rs⟩else p
def Hu(P:Program)(f:FuncId)(args:List SV)(tp:Bool)(rest:List SV)(T:TypeId)(c:List Oc):Prop:=
 ∀(M:Mem) (w:World) (vs:List Value),M.cm w→SV.dz M args vs→
  Calls P f ⟨vs⟩ w fun e w'=>∃β rs M' us,e=.returned (Yj tp (.pointer (some ⟨β,0,none⟩)) rs)∧M.le M'∧(∀b o x,M' b o=some x→M b o=some x∨w.heap.size≤b)∧M'.cm w'∧SV.dz M' rest rs∧
   nv M' w' β T c us∧w.heap.size≤β∧(∀g,dA c us g→w.heap.size≤g)∧Below w.heap.size w w'
theorem DO{w:World}{M:Mem}{S':AS}{E:Env}{a:Act}{w':World}{k:Nat}{ks:List Nat}{c:List Oc}(hB:S'.b k=some ⟨T,bz ks c⟩)(hL:Lv S' ks (rowsOf c))(hk:ks.Nodup)(hh:ax (C0 w M) S' E a w'):
  ∃us,M.le E.M∧(∀b o x,E.M b o=some x→M b o=some x∨w.heap.size≤b)∧E.M.cm w'∧nv E.M w' (E.β k) T c us∧w.heap.size≤E.β k∧(∀g,dA c us g→w.heap.size≤g)∧Below w.heap.size w w':=by
 obtain⟨us,ho,jE⟩:=oA hh hB hL hk
 refine⟨us,hh.m0,fun b o x e=>?_,hh.cm,ho,(hh.bx k _ hB).1.elim id (fun h=>h.elim),fun g hg=>?_,hh.os,hh.tape,hh.output,hh.grown,fun k hk=>hh.frame k hk (fun h=>h)⟩
 ·rcases hh.dO b o x e with h|h|h
  ·exact .inl h
  ·exact .inr h
  ·exact h.elim
 ·obtain⟨j,hj,wE⟩:=(jE g).1 hg
  obtain⟨R,hR⟩:=hL.mem j hj
  exact((hh.rx j R hR).2 g wE).1.elim id (fun h=>h.elim)
theorem DP{f:FuncId}{fn:Func}{code:Code}{args:List SV}{c:List Oc}(hf:P.funcs[f]? =some fn)(hb:fn.body=some code)(hn:args.length≤fn.ntmps)
  (h:∀(w:World) (M:Mem) (vs:List Value),SV.dz M args vs→Ok P (C0 w M) code (AS.init fn.ntmps args) (fun e S=>(e=.normal∨e=.ret)∧∃(k:Nat) (ks:List Nat),wW P S fn.results.toList (.ptr k 0)∧S.b k=some ⟨T,bz ks c⟩∧Lv S ks (rowsOf c)∧ks.Nodup)):Hu P f args false [] T c:=by
 intro M w vs hM hvs
 refine fz rfl hf hb (jD hM hvs hn) (h w M vs hvs) ?_
 rintro S' E a w' ⟨k,ks,hr,hB,hL,hk⟩ hh
 obtain⟨v,hv,hx⟩:=hr.run hh
 obtain rfl:v=.pointer (some ⟨E.β k,0,none⟩):=hx
 obtain⟨us,q1,q2,q3,q4,q5,q6,q7⟩:=DO hB hL hk hh
 exact⟨_,hv,E.β k,[],E.M,us,rfl,q1,q2,q3,trivial,q4,q5,q6,q7⟩
theorem DQ{f:FuncId}{fn:Func}{code:Code}{args:List SV}{s:SV}{c:List Oc}{t1 t2:Nat}(hf:P.funcs[f]? =some fn)(hb:fn.body=some code)(hn:args.length≤fn.ntmps)(hres:fn.results=#[.tmp t1,.tmp t2])
  (h:∀(w:World) (M:Mem) (vs:List Value),SV.dz M args vs→Ok P (C0 w M) code (AS.init fn.ntmps args) (fun e S=>(e=.normal∨e=.ret)∧∃(k:Nat) (ks:List Nat),S.t t1=.ptr k 0∧S.t t2=.sv s∧S.b k=some ⟨T,bz ks c⟩∧Lv S ks (rowsOf c)∧ks.Nodup)):Hu P f args true [s] T c:=by
 intro M w vs hM hvs
 refine fz rfl hf hb (jD hM hvs hn) (h w M vs hvs) ?_
 rintro S' E a w' ⟨k,ks,Rt,UL,hB,hL,hk⟩ hh
 have h1:=hh.tm t1
 rw[Rt]at h1
 have h1:a.tmps.getD t1 undef=.pointer (some ⟨E.β k,0,none⟩):=h1
 have h2:=hh.tm t2
 rw[UL]at h2
 obtain⟨us,q1,q2,q3,q4,q5,q6,q7⟩:=DO hB hL hk hh
 refine⟨.tuple #[.pointer (some ⟨E.β k,0,none⟩),a.tmps.getD t2 undef],?_,E.β k,[a.tmps.getD t2 undef],E.M,us,rfl,q1,q2,q3,⟨h2,trivial⟩,q4,q5,q6,q7⟩
 rw[Array.getD_eq_getD_getElem?]at h1
 simp[results,hres,h1]
theorem ax.Gg{a:Act}{w:World}:∀(ks:List Nat) (l:List (Row×Value)) {S:AS} {E:Env},ax C S E a w→ks.length=l.length→ks.Nodup→Un S ks→(∀p∈l,∃vs:List Value,w.ownsRow 0 p.1.E p.1.sz p.2 p.1.n vs∧SV.dz E.M p.1.cells vs)→DK l→(∀p∈l,∀g,p.2.ownBlock=some g→GR C S E g)→
  ∃E':Env,E'.M=E.M∧E'.β=E.β∧E'.O=E.O∧(∀i p,(i,p)∈ks.zip l→E'.ν i=p.2)∧(∀i,i∉ks→E'.ν i=E.ν i)∧ax C (AS.bf ((ks.zip l).map (fun n=>(n.1,.live n.2.1))) S) E' a w
 |[],[],S,E,h,_,_,_,_,_,_=>⟨E,rfl,rfl,rfl,fun i p hm=>(by simp at hm),fun _ _=>rfl,h⟩
 |k::ks,p::l,S,E,h,hl,hn,hu,ho,ha,hf=>by
  obtain⟨R,v⟩:=p
  rw[List.nodup_cons]at hn
  obtain⟨V1,Yf⟩:=List.pairwise_cons.1 ha
  obtain⟨vs,Mz,Gf⟩:=ho (R,v) (by simp)
  have h1:=h.BL hu.1.1 hu.1.2 [] none (.inl ⟨rfl,rfl⟩) (R':=R) Mz Gf (fun g hg=>.inr (hf (R,v) (by simp) g hg)) (oX w none)
  have hu':Un (AS.bf ([]++[(k,.live R)]) S) ks:=hu.2.congr (fun j hj=>by
   show(AS.nE S k _).r j=_
   exact AS.jA _ _ _ _ (fun e=>hn.1 (e▸hj)))
  obtain⟨E',q1,q2,q3,q4,q5,q6⟩:=ax.Gg ks l h1 (by simpa using hl) hn.2 hu' (fun p hp=>ho p (List.mem_cons_of_mem _ hp)) Yf (fun p hp g hg=>by
   obtain⟨f1,f2,f3,f4,f5⟩:=hf p (List.mem_cons_of_mem _ hp) g hg
   refine⟨f1,f2,f3,f4,fun j R' mu e=>?_⟩
   have mu:(AS.nE S k (.live R)).r j=.live R':=mu
   by_cases ej:j=k
   ·subst ej
    have e:(if j=j then v else E.ν j).ownBlock=some g:=e
    rw[if_pos rfl]at e
    exact V1 p hp g e hg
   ·rw[AS.jA _ _ _ _ ej]at mu
    have e:(if j=k then v else E.ν j).ownBlock=some g:=e
    rw[if_neg ej]at e
    exact f5 j R' mu e)
  refine⟨E',q1,q2,q3,fun i p hm=>?_,fun i hi=>?_,q6⟩
  ·rw[List.zip_cons_cons]at hm
   rcases List.mem_cons.1 hm with e|e
   ·cases e
    rw[q5 k hn.1]
    show(if k=k then v else E.ν k)=v
    rw[if_pos rfl]
   ·exact q4 i p e
  ·rw[q5 i (fun hm=>hi (List.mem_cons_of_mem _ hm))]
   show(if i=k then v else E.ν i)=E.ν i
   rw[if_neg (fun e=>hi (by rw[e];simp))]
 |[],_::_,_,_,_,hl,_,_,_,_,_=>by simp at hl
 |_::_,[],_,_,_,hl,_,_,_,_,_=>by simp at hl
theorem zG(i:Nat)(B:l7):∀(l:List (Nat×jL)) (S:AS),AS.bf l (S.ja i B)=(AS.bf l S).ja i B
 |[],_=>rfl
 |(j,R)::l,S=>zG i B l (S.nE j R)
theorem ru{α β:Type}:∀{l:List α} {k:List β} {a:α},l.length=k.length→a∈l→∃b,(a,b)∈l.zip k
 |a::l,c::k,b,h,hb=>by
  rcases List.mem_cons.1 hb with rfl|hb
  ·exact⟨c,by rw[List.zip_cons_cons];simp⟩
  ·obtain⟨a',h'⟩:=ru (l:=l) (k:=k) (by simpa using h) hb
   exact⟨a',by rw[List.zip_cons_cons];exact List.mem_cons_of_mem _ h'⟩
 |[],_,_,_,hb=>by cases hb
 |_::_,[],_,h,_=>by simp at h
theorem ax.newObj{E:Env}{a:Act}{w w':World}(h:ax C S E a w){i:Nat}(hi:S.b i=none)(hp:C.fM i=none){ks:List Nat}{c:List Oc}{us:List Value}{M':Mem}{β:Nat}(hks:ks.Nodup)(Ar:ks.length=(rowsOf c).length)(My:Un S ks)
  (hM:E.M.le M') (hn:∀b o x,M' b o=some x→E.M b o=some x∨w.heap.size≤b) (hin:M'.cm w') (ho:nv M' w' β T c us) (hβ:w.heap.size≤β) (hg:∀g,dA c us g→w.heap.size≤g) (NM:Below w.heap.size w w'):
  ∃E':Env,E'.M=M'∧E'.β i=β∧ax C (AS.bf (uR [] ks c) (AS.ew [(i,⟨T,bz ks c⟩)] S)) E' a w':=by
 have S4:(aZ c us).length=(rowsOf c).length:=by rw[←gz ho.al,List.length_map]
 have h0:=h.grow hM hn hin NM
 obtain⟨E1,q1,q2,q3,q4,q5,h1⟩:=ax.Gg ks (aZ c us) h0 (by omega) hks My (jI ho.al) ho.ap (fun p hp g CQ=>h.xF (hg g ⟨p,hp,CQ⟩) (ho.nr g ⟨p,hp,CQ⟩).2)
 have hS1:AS.bf ((ks.zip (aZ c us)).map (fun n=>(n.1,.live n.2.1))) S=AS.bf (uR [] ks c) S:=by rw[←DM ho.al [] ks];rfl
 rw[hS1]at h1
 obtain⟨f1,f2,f3,f4,f5⟩:=h.xF (M':=M') hβ ho.nb
 have Yk:(AS.bf (uR [] ks c) S).b i=none:=by rw[(dS _ _).2.2.1];exact hi
 have hfree:GR C (AS.bf (uR [] ks c) S) E1 β:=by
  refine⟨f1,by rw[q1];exact f2,by rw[q3];exact f3,fun j B hB=>?_,fun j R hR e=>?_⟩
  ·rw[(dS _ _).2.2.1]at hB;rw[q2];exact f4 j B hB
  ·by_cases hj:j∈ks
   ·obtain⟨p,hm⟩:=ru (l:=ks) (k:=aZ c us) (by omega) hj
    rw[q4 j p hm]at e
    exact(ho.nr β ⟨p,(iC hm).2,e⟩).1 rfl
   ·rw[jx,tq (fun R hm=>by
     obtain⟨x,hx,e⟩:=List.mem_map.1 (show(j,R)∈(ks.zip (rowsOf c)).map (fun p=>(p.1,jL.live p.2))from hm)
     obtain⟨k,R2⟩:=x
     have e:k=j:=congrArg Prod.fst e
     exact hj (e▸(iC hx).1))]at hR
    rw[q5 j hj]at e
    exact f5 j R hR e
 have h2:=h1.F1 Yk hp hfree ho.hp (mM (w:=w') Ar (by rw[q1];exact ho.al) q4) (fun x hx=>by
  obtain⟨p1,p2⟩:=mN x hx
  refine⟨fun j e=>absurd e (p1 j),fun j e=>?_⟩
  obtain⟨R,hm⟩:=ru (l:=ks) (k:=rowsOf c) Ar (p2 j e)
  obtain⟨R',mu⟩:=zC (l:=uR [] ks c) (j:=j) (R:=.live R) (List.mem_map.2 ⟨(j,R),hm,rfl⟩)
  rw[jx,mu]
  obtain⟨x,hx,e⟩:=List.mem_map.1 (show(j,R')∈(ks.zip (rowsOf c)).map (fun p=>(p.1,jL.live p.2))from tu mu)
  rw[←show jL.live x.2=R' from congrArg Prod.snd e]
  simp)
 refine⟨{E1 with β:=fun j=>if j=i then β else E1.β j},q1,?_,?_⟩
 rotate_left 1
 ·rw[show AS.ew [(i,(⟨T,bz ks c⟩:l7))] S=S.ja i ⟨T,bz ks c⟩from rfl,zG]
  exact h2
 ·show(if i=i then β else E1.β i)=β
  rw[if_pos rfl]
theorem RT.Ru(hg:Gd ops S gd rg){f:FuncId}[dj P f]{g:Operand}{xs:Array Operand}{at_:Array TypeId}{args:List SV}{T:TypeId}{c:List Oc}(hp:Hu P f args false [] T c)(ks:List Nat)(hks:ks.Nodup)(Ar:ks.length=(rowsOf c).length)(My:Un S ks)(hf:S.ev g=.sv (.v (.func (.func f) #[] #[])))(hargs:fj S xs.toList args)(hd:d<S.n)(hdb:S.b d=none)(EO:C.fM d=none)
  (next:RunT P C ops nd K rest (⟨rg++(ak g++xs.toList.flatMap ak),[d],ks,⟨some (d,.ptr d 0),[(d,⟨T,bz ks c⟩)],uR [] ks c⟩⟩::acc) ((AS.bf (uR [] ks c) (AS.ew [(d,⟨T,bz ks c⟩)] S)).set d (.ptr d 0))):RunT P C ops nd K (⟨some d,.call ⟨.value g,xs,at_⟩,ty,pos,aft,gd⟩::rest) acc S:=by
 refine .inl ⟨_,[d],ks,_,?_,next⟩
 rintro S' hn ht hb hr i a w L Q ho ⟨E,h⟩ hL
 refine bD (C:=C) ho (hg.wanted h (fun s hs=>ht s (List.mem_append_left _ hs)) rfl) ?_
 have qt:a.eval g=.func (.func f) #[] ⟨[]⟩:=by
  have h1:=h.ev g;rw[aE (fun _ h=>List.mem_append_right _ (List.mem_append_left _ h)) ht,hf]at h1;exact h1
 have hall:=fj.vals h hargs (fun s hs=>ht s (List.mem_append_right _ (List.mem_append_right _ hs)))
 have hdn:S'.b d=none:=by rw[hb d (by simp)];exact hdb
 refine bB (C:=C) (by intro c h;cases h) (kZ qt) ?_
 rw[List.append_nil]
 refine⟨fun h=>by simp at h,fu ((hp E.M w _ h.cm hall).mono ?_)⟩
 rintro e w' ⟨β,rs,M',us,rfl,hM,hnew,hin,S5,Gf,hβ,LN,NM⟩
 obtain⟨E',e1,e2,h1⟩:=h.newObj hdn EO hks Ar (My.congr hr) hM hnew hin Gf hβ LN NM
 refine hL _ _ ⟨_,h1.put (x:=.ptr d 0) (v:=.pointer (some ⟨β,0,none⟩)) (by show _=Value.pointer (some ⟨E'.β d,0,none⟩);rw[e2]) ?_ ⟨fun j e=>?_,fun j e=>e.elim⟩⟩
 ·rw[(dS _ _).1];show d<S'.n;omega
 ·have e:j=d:=e
  subst e
  rw[(dS _ _).2.2.1]
  exact⟨_,AS.bW _ _ _⟩
theorem RT.MA(hg:Gd ops S gd rg){f:FuncId}[dj P f]{g:Operand}{xs:Array Operand}{at_:Array TypeId}{args:List SV}{T:TypeId}{c:List Oc}{s:SV}(hp:Hu P f args true [s] T c)(ks:List Nat)(hks:ks.Nodup)(Ar:ks.length=(rowsOf c).length)(My:Un S ks)(hf:S.ev g=.sv (.v (.func (.func f) #[] #[])))(hargs:fj S xs.toList args)(hd:d<S.n)(hdb:S.b d=none)(EO:C.fM d=none)
  (next:RunT P C ops nd K rest (⟨rg++(ak g++xs.toList.flatMap ak),[d],ks,⟨some (d,.cmp .sN [.box d,.val s]),[(d,⟨T,bz ks c⟩)],uR [] ks c⟩⟩::acc) ((AS.bf (uR [] ks c) (AS.ew [(d,⟨T,bz ks c⟩)] S)).set d (.cmp .sN [.box d,.val s]))):RunT P C ops nd K (⟨some d,.call ⟨.value g,xs,at_⟩,ty,pos,aft,gd⟩::rest) acc S:=by
 refine .inl ⟨_,[d],ks,_,?_,next⟩
 rintro S' hn ht hb hr i a w L Q ho ⟨E,h⟩ hL
 refine bD (C:=C) ho (hg.wanted h (fun s hs=>ht s (List.mem_append_left _ hs)) rfl) ?_
 have qt:a.eval g=.func (.func f) #[] ⟨[]⟩:=by
  have h1:=h.ev g;rw[aE (fun _ h=>List.mem_append_right _ (List.mem_append_left _ h)) ht,hf]at h1;exact h1
 have hall:=fj.vals h hargs (fun s hs=>ht s (List.mem_append_right _ (List.mem_append_right _ hs)))
 have hdn:S'.b d=none:=by rw[hb d (by simp)];exact hdb
 refine bB (C:=C) (by intro c h;cases h) (kZ qt) ?_
 rw[List.append_nil]
 refine⟨fun h=>by simp at h,fu ((hp E.M w _ h.cm hall).mono ?_)⟩
 rintro e w' ⟨β,rs,M',us,rfl,hM,hnew,hin,S5,Gf,hβ,LN,NM⟩
 obtain⟨E',e1,e2,h1⟩:=h.newObj hdn EO hks Ar (My.congr hr) hM hnew hin Gf hβ LN NM
 match rs,S5 with
 |[r],S5=>
  refine hL _ _ ⟨_,h1.put (x:=.cmp .sN [.box d,.val s]) (v:=.tuple #[.pointer (some ⟨β,0,none⟩),r]) ⟨[.pointer (some ⟨β,0,none⟩),r],rfl,by show _=Value.pointer (some ⟨E'.β d,0,none⟩);rw[e2],by show s.h E'.M r;rw[e1];exact S5.1,trivial⟩ ?_ ⟨fun j e=>?_,fun j e=>?_⟩⟩
  ·rw[(dS _ _).1];show d<S'.n;omega
  ·have e:j=d:=by simpa[AV.mb]using e
   subst e
   rw[(dS _ _).2.2.1]
   exact⟨_,AS.bW _ _ _⟩
  ·simp[AV.mr]at e
end steps
end Go.Fw
namespace Go.Fw
open Go.RowKit
def zH(P:Program)(f:FuncId)(args:List AV)(T:TypeId)(c:List Oc)(res:SV):Prop:=
 ∀(M:Mem) (w:World) (β:Nat) (vs us:List Value),M.cm w→nv M w β T c us→cu (mO M β) args vs→
  Calls P f ⟨vs⟩ w fun e w'=>∃v M',e=.returned v∧M.le M'∧(∀b o x,M' b o=some x→M b o=some x∨w.heap.size≤b)∧M'.cm w'∧res.h M' v∧
   nv M' w' β T c us∧w'.os=w.os∧w'.tape=w.tape∧w'.output=w.output∧w.heap.size≤w'.heap.size∧∀k,k<w.heap.size→k≠β→¬dA c us k→w'.heap[k]? =w.heap[k]?
def S6:List (Nat×Row×Value)→Nat→Option Value
 |[],_=>none
 |(k,_,v)::l,j=>if j=k then some v else S6 l j
theorem Ck:∀{l:List (Nat×Row×Value)} {j:Nat} {v:Value},S6 l j=some v→∃R,(j,R,v)∈l
 |(k,R,u)::l,j,v,h=>by
  rw[S6]at h
  by_cases e:j=k
  ·rw[if_pos e]at h;cases h;subst e;exact⟨R,by simp⟩
  ·rw[if_neg e]at h
   obtain⟨R',hm⟩:=Ck h
   exact⟨R',List.mem_cons_of_mem _ hm⟩
 |[],_,_,h=>by cases h
theorem Kj:∀{l:List (Nat×Row×Value)} {j:Nat} {R:Row} {v:Value},(l.map (·.1)).Nodup→(j,R,v)∈l→S6 l j=some v
 |(k,R',v')::l,j,R,v,hn,h=>by
  rw[List.map_cons,List.nodup_cons]at hn
  rw[S6]
  rcases List.mem_cons.1 h with e|e
  ·cases e;rw[if_pos rfl]
  ·have:j≠k:=fun q=>hn.1 (List.mem_map.2 ⟨(j,R,v),e,q⟩)
   rw[if_neg this];exact Kj hn.2 e
theorem Rv{ids:List Nat}(h:(ids.all fun i=>Nat.ble 1000 i)=true):∀i∈ids,1000≤i:=fun i hi=>Nat.le_of_ble_eq_true (List.all_eq_true.1 h i hi)
def MB(w:World)(M:Mem)(β:Nat)(c:List Oc)(us:List Value)(ids:List Nat)(An:(ids.all fun i=>Nat.ble 1000 i)=true):Ctx:={w0:=w,M0:=M,own:=fun k=>k=β∨dA c us k,rN:=fun k=>k=β∨dA c us k,fM:=fun i=>bif Nat.beq i 1000 then some β else none,dy:=S6 (ids.zip (aZ c us)),ro:=none,J:=fun _ _ _ _ _=>True,Ak:=fun _ h=>h,GN:=fun _ _ h=>(by obtain⟨R,hm⟩:=Ck h;exact Rv An _ (iC hm).1),jf:=fun _ _ _ _ _ _ _ _ _ _ _ _ _ _ _ _=>trivial}
def Oc.cst:Oc→Prop
 |.s x=>∃v,x=.v v
 |.r _=>True
def Cm:List Oc→Prop
 |[]=>True
 |c::l=>c.cst∧Cm l
theorem Co{M M':Mem}{w w':World}:∀{c:List Oc} {us us':List Value},Cm c→mL M w c us→mL M' w' c us'→aZ c us=aZ c us'→us=us'
 |[],[],[],_,_,_,_=>rfl
 |.s x::l,v::vs,v'::vs',hc,h,h',e=>by
  obtain⟨y,rfl⟩:=hc.1
  have e1:v=y:=h.1
  have e2:v'=y:=h'.1
  rw[e1,e2,Co hc.2 h.2 h'.2 e]
 |.r R::l,v::vs,v'::vs',hc,h,h',e=>by
  rw[aZ,aZ]at e
  have e1:=(List.cons.inj e).1
  have e2:=(List.cons.inj e).2
  rw[Co hc.2 h.2 h'.2 e2]
  rw[(Prod.mk.inj e1).2]
 |[],[],_::_,_,_,h,_=>h.elim
 |[],_::_,_,_,h,_,_=>h.elim
 |.s _::_,[],_,_,h,_,_=>h.elim
 |.r _::_,[],_,_,h,_,_=>h.elim
 |.s _::_,_::_,[],_,_,h,_=>h.elim
 |.r _::_,_::_,[],_,_,h,_=>h.elim
section steps
variable {P:Program}{C:Ctx}{ops:Array Oper}{S:AS}{nd:Bool}{K:List Ac→AS→Prop}{rest:List Oper}{acc:List Ac}
variable {gd:Option (Nat×Bool)}{rg:List Nat}{d:Nat}{ty:TypeId}{pos:String}{aft:Array Edge}{x y z:Operand}{T U E0:TypeId}
theorem ax.Gh{E:Env}{a:Act}{w w':World}(h:ax C S E a w){i:Nat}{js:List Nat}{c:List Oc}{us:List Value}{M':Mem}(hB:S.b i=some ⟨T,bz js c⟩)(hL:Lv S js (rowsOf c))(Ov:js.Nodup)(xB:nv E.M w (E.β i) T c us)
  (hM:E.M.le M') (hn:∀b o x,M' b o=some x→E.M b o=some x∨w.heap.size≤b) (hin:M'.cm w') (ho:nv M' w' (E.β i) T c us)
  (hos:w'.os=w.os) (oz:w'.tape=w.tape) (hout:w'.output=w.output) (hsize:w.heap.size≤w'.heap.size) (jE:∀k,k<w.heap.size→k≠E.β i→¬dA c us k→w'.heap[k]? =w.heap[k]?):
  ax C S {E with M:=M'} a w':=by
 obtain⟨Hr,Yd,Mt,MC,Hs,UM⟩:=h.bx i _ hB
 obtain rfl:MC=us:=by
  rw[xB.hp]at Hs
  have:=Option.some.inj Hs
  injection this with e
  injection e with e
  exact e.symm
 obtain⟨_,S4⟩:=ri h hL UM
 have hlen:=hL.len
 have BM:∀g,dA c MC g↔∃j∈js,(E.ν j).ownBlock=some g:=fun g=>by
  unfold dA
  rw[S4]
  constructor
  ·rintro⟨⟨R,v⟩,hm,hg⟩
   obtain⟨j,hj,rfl⟩:=List.mem_map.1 (iC hm).2
   exact⟨j,hj,hg⟩
  ·rintro⟨j,hj,hg⟩
   obtain⟨R,hR⟩:=rj (l:=rowsOf c) (k:=js.map E.ν) (by simp[hlen]) (List.mem_map.2 ⟨j,hj,rfl⟩)
   exact⟨(R,E.ν j),hR,hg⟩
 have vS:∀g,dA c MC g→(C.w0.heap.size≤g∨C.rN g)∧¬E.O g∧(∀n B,S.b n=some B→E.β n≠g)∧∃c e,w.heap[g]? =some (Obj.cells c e (0,0)):=fun g hg=>by
  obtain⟨j,hj,wE⟩:=(BM g).1 hg
  obtain⟨R,hR⟩:=hL.mem j hj
  obtain⟨⟨us,q1,_⟩,q2⟩:=h.rx j R hR
  obtain⟨q3,q4,q5,q6⟩:=q2 g wE
  refine⟨q3,q5,q6,?_⟩
  rcases q1.2 with⟨q7,_⟩|⟨g',cap,cur,q7,_,q8,_⟩
  ·rw[q7]at wE;cases wE
  ·rw[q7]at wE;cases wE;exact⟨_,_,q8⟩
 have keep:∀x:AV,∀v,x.holds E v→x.holds {E with M:=M'} v:=fun x v hv=>AV.bN (E:=E) (E':={E with M:=M'}) hM (fun _ _=>rfl) (fun _ _=>rfl) hv
 have Ro:∀b,b<w.heap.size→(∀o,E.M b o=none)→∀o,M' b o=none:=fun b h1 h2 o=>by
  cases e:M' b o with
  |none=>rfl
  |some v=>
   rcases hn b o v e with q|q
   ·rw[h2 o]at q;cases q
   ·omega
 exact{
  wf:=h.wf
  marks:=by
   obtain⟨ds,d1,d2,d3⟩:=h.marks
   refine⟨ds,d1,d2,fun r hr=>?_⟩
   obtain⟨p1,p2,p3⟩:=d3 r hr
   refine⟨p1,p2,?_⟩
   rw[jE r (Array.getElem?_eq_some_iff.1 p3).1 (fun e=>by rw[e,Hs]at p3;cases p3) (fun e=>by
    obtain⟨_,_,_,c,e2,q⟩:=vS r e
    rw[q]at p3;cases p3)]
   exact p3
  size:=h.size
  os:=hos.trans h.os
  tape:=oz.trans h.tape
  output:=hout.trans h.output
  grown:=Nat.le_trans h.grown hsize
  frame:=fun k hk hown=>by
   rw[jE k (Nat.lt_of_lt_of_le hk h.grown) (fun e=>by
    rcases Hr with q|q
    ·omega
    ·exact hown (C.Ak _ (by rw[e];exact q))) (fun e=>by
    rcases(vS k e).1 with q|q
    ·omega
    ·exact hown (C.Ak _ q))]
   exact h.frame k hk hown
  m0:=Mem.le_trans h.m0 hM
  dO:=fun b o v e=>by
   rcases hn b o v e with q|q
   ·exact h.dO b o v q
   ·exact .inr (.inl (Nat.le_trans h.grown q))
  cm:=hin
  tm:=fun s=>keep _ _ (h.tm s)
  bx:=fun j B ey=>by
   obtain⟨p1,p2,p3,vs,p4,p5⟩:=h.bx j B ey
   have hlt:=(Array.getElem?_eq_some_iff.1 p4).1
   by_cases e:j=i
   ·subst e
    rw[hB]at ey;cases ey
    refine⟨p1,ho.nb,p3,MC,ho.hp,?_⟩
    exact UM.imp (fun x _ v hv=>keep x v hv)
   ·refine⟨p1,Ro _ hlt p2,p3,vs,?_,p5.imp (fun x _ v hv=>keep x v hv)⟩
    show w'.heap[E.β j]? =_
    rw[jE _ hlt (fun q=>e (h.inj j i B _ ey hB q)) (fun q=>(vS _ q).2.2.1 j B ey rfl)];exact p4
  inj:=h.inj
  rx:=fun j R hR=>by
   obtain⟨⟨vs,p1,p2⟩,p3⟩:=h.rx j R hR
   by_cases hj:j∈js
   ·have hz:(R,E.ν j)∈aZ c MC:=by
     rw[S4]
     have key:∀(js:List Nat) (Rs:List Row),Lv S js Rs→j∈js→(R,E.ν j)∈Rs.zip (js.map E.ν):=by
      intro js
      induction js with
      |nil=>intro _ _ h;cases h
      |cons k js ih=>
       intro Rs hl hm
       cases Rs with
       |nil=>exact hl.elim
       |cons R' Rs=>
        rw[List.map_cons,List.zip_cons_cons]
        rcases List.mem_cons.1 hm with q|q
        ·subst q
         have:=hl.1
         rw[hR]at this;cases this
         simp
        ·exact List.mem_cons_of_mem _ (ih Rs hl.2 q)
     exact key js _ hL hj
    refine⟨jI ho.al _ hz,fun g hg=>?_⟩
    obtain⟨p4,p5,p6,p7⟩:=p3 g hg
    exact⟨p4,(ho.nr g ⟨_,hz,hg⟩).2,p6,p7⟩
   ·have UI:∀g,(E.ν j).ownBlock=some g→¬dA c MC g:=fun g hg q=>by
     obtain⟨j',hj',e⟩:=(BM g).1 q
     obtain⟨R',mu⟩:=hL.mem j' hj'
     have:=h.eu j j' R R' hR mu g hg e
     subst this;exact hj hj'
    refine⟨⟨vs,cA p1 fun g hg=>jE g (iE h hR hg) (fun e=>(p3 g hg).2.2.2 i _ hB e.symm) (UI g hg),p2.mono hM⟩,fun g hg=>?_⟩
    obtain⟨p4,p5,p6,p7⟩:=p3 g hg
    exact⟨p4,Ro g (iE h hR hg) p5,p6,p7⟩
  eu:=h.eu
  fM:=h.fM
  dy:=h.dy
  jJ:=fun b hb=>by
   obtain⟨p1,p2,p3⟩:=h.jJ b hb
   exact⟨Nat.lt_of_lt_of_le p1 hsize,Ro b p1 p2,p3⟩
  jj:=C.jf S.g S.go E.O E.M M' w w' h.jj hM hin (fun b o v e=>by
    rcases hn b o v e with q|q
    ·exact .inl q
    ·exact .inr ⟨.inl (Nat.le_trans h.grown q),fun q2=>by have:=(h.jJ b q2).1;omega⟩) (fun b hb=>by
    have hb':b<w.heap.size:=by
     rcases hb with⟨q,_⟩|q
     ·exact Nat.lt_of_lt_of_le q h.grown
     ·exact(h.jJ b q).1
    refine jE b hb' (fun e=>?_) (fun e=>?_)
    ·subst e
     rcases hb with⟨q1,q2⟩|q
     ·rcases Hr with p|p
      ·omega
      ·exact q2 p
     ·exact Mt q
    ·obtain⟨o1,o3,_⟩:=vS b e
     rcases hb with⟨q1,q2⟩|q
     ·rcases o1 with p|p
      ·omega
      ·exact q2 p
     ·exact o3 q) hos oz hout hsize}
theorem RT.kO(hg:Gd ops S gd rg){f:FuncId}[dj P f]{g:Operand}{xs:Array Operand}{at_:Array TypeId}{args:List AV}{T:TypeId}{c:List Oc}{res:SV}(hp:zH P f args T c res)(i:Nat)(js:List Nat)(hB:S.b i=some ⟨T,bz js c⟩)(hL:Lv S js (rowsOf c))(Ov:js.Nodup)
  (Ge:args.all AV.oy=true) (hf:S.ev g=.sv (.v (.func (.func f) #[] #[]))) (hargs:sS S xs.toList (args.map (AV.Oq i))) (hd:d<S.n)
  (next:RunT P C ops nd K rest (⟨rg++(ak g++xs.toList.flatMap ak),[i],js,⟨some (d,.sv res),[],[]⟩⟩::acc) (S.set d (.sv res))):RunT P C ops nd K (⟨some d,.call ⟨.value g,xs,at_⟩,ty,pos,aft,gd⟩::rest) acc S:=by
 refine .inl ⟨_,[i],js,_,?_,next⟩
 rintro S' hn ht hb hr k a w L Q ho ⟨E,h⟩ UJ
 refine bD (C:=C) ho (hg.wanted h (fun s hs=>ht s (List.mem_append_left _ hs)) rfl) ?_
 have qt:a.eval g=.func (.func f) #[] ⟨[]⟩:=by
  have h1:=h.ev g;rw[aE (fun _ h=>List.mem_append_right _ (List.mem_append_left _ h)) ht,hf]at h1;exact h1
 have hall:=xL Ge (sS.vals h hargs (fun s hs=>ht s (List.mem_append_right _ (List.mem_append_right _ hs))))
 have ey:S'.b i=some ⟨T,bz js c⟩:=by rw[hb i (by simp)];exact hB
 have Ox:Lv S' js (rowsOf c):=hL.congr (fun k hk=>hr k hk)
 obtain⟨us,Mz,zE⟩:=oA h ey Ox Ov
 refine bB (C:=C) (by intro c h;cases h) (kZ qt) ?_
 rw[List.append_nil]
 refine⟨fun h=>by simp at h,fu ((hp E.M w (E.β i) _ us h.cm Mz hall).mono ?_)⟩
 rintro e w' ⟨v,M',rfl,hM,hnew,hin,hv,Gf,hos,oz,hout,hsize,jE⟩
 have h1:=h.Gh ey Ox Ov Mz hM hnew hin Gf hos oz hout hsize jE
 exact UJ _ _ ⟨_,h1.put (x:=.sv res) (v:=v) hv (by show d<S'.n;omega) dY⟩
end steps
end Go.Fw
namespace Go.Fw
open Go.RowKit
section
variable {P:Program}
def Rw(P:Program)(f:FuncId)(args:List SV)(c:List Oc):Prop:=
 ∀(M:Mem) (w:World) (vs:List Value),M.cm w→SV.dz M args vs→
  Calls P f ⟨vs⟩ w fun e w'=>∃us M',e=.returned (.agg ⟨us⟩)∧M.le M'∧(∀b o x,M' b o=some x→M b o=some x∨w.heap.size≤b)∧M'.cm w'∧mL M' w' c us∧
   (∀g,dA c us g→w.heap.size≤g∧∀o,M' g o=none)∧DK (aZ c us)∧Below w.heap.size w w'
theorem Rw.w{f:FuncId}{args args':List SV}{c:List Oc}(h:Rw P f args c)(hi:bT args' args):Rw P f args' c:=fun M w vs hM hv=>h M w vs hM (hi.holds hv)
end
section
variable {P:Program}{C:Ctx}{ops:Array Oper}{S:AS}{nd:Bool}{K:List Ac→AS→Prop}{rest:List Oper}{acc:List Ac}
variable {gd:Option (Nat×Bool)}{rg:List Nat}{d:Nat}{ty:TypeId}{pos:String}{aft:Array Edge}{x y z:Operand}{T U E0:TypeId}
inductive zI (S:AS):List (Nat×Operand)→List (Nat×Fc)→Prop
 |nil:zI S [] []
 |one {i:Nat} {x:Operand} {s:SV} {ps:List (Nat×Operand)} {qs:List (Nat×Fc)} [o:One s] (h:S.ev x=.sv s) (t:zI S ps qs):zI S ((i,x)::ps) ((i,.val s)::qs)
 |row {i j:Nat} {x:Operand} {R:Row} {ps:List (Nat×Operand)} {qs:List (Nat×Fc)} (h:S.ev x=.row j) (hR:S.r j=.live R) (t:zI S ps qs):zI S ((i,x)::ps) ((i,.row j)::qs)
end
end Go.Fw
namespace Go.Proofs.Ytningmnklfpfjaa
open Go.Fw
noncomputable def mg(x0:Lr):Option (Sz):=match x0 with|⟨aC,aD,aL,aM⟩=>(some (aD.length:Int)).bind fun x7=>(some (aL.length:Int)).bind fun dW=>(some (aM.length:Int)).bind fun gC=>some ⟨aC,x7,dW,gC⟩
noncomputable def mP(x0:Lr):Option (Bool):=match x0 with|⟨aC,aD,aL,aM⟩=>(mg ⟨aC,aD,aL,aM⟩).bind fun⟨AA,Dz,AB,Cg⟩=>cQ (fun(Kk:Bool)=>(bif Kk then some false else cQ (fun(FA:Bool)=>(bif FA then some false else cQ (fun(Oy:Bool)=>some Oy) fun Xj=>(kN aD).bind fun oQ=>(some (decide ((oQ:Int)≤AA))).bind fun rX=>(bif rX then(kN aL).bind fun rU=>(some (decide ((rU:Int)≤AA))).bind fun rV=>some rV else some false).bind fun Kl=>Xj Kl)) fun NS=>(some (decide ((128:Int)<AB))).bind fun kz=>(bif kz then some true else(some (decide ((Cg:Int)≠AB))).bind fun ig=>some ig).bind fun Km=>NS Km)) fun Oz=>(some (decide ((AA:Int)<0))).bind fun x8=>(bif x8 then some true else(some (decide ((64:Int)<AA))).bind fun eG=>some eG).bind fun Kn=>(bif Kn then some true else(some (decide ((Dz:Int)<1))).bind fun fR=>some fR).bind fun Rx=>(bif Rx then some true else(some (decide ((4:Int)<Dz))).bind fun jS=>some jS).bind fun Ry=>Oz Ry
end Go.Proofs.Ytningmnklfpfjaa
namespace Go.Proofs.Ytningmnklfpfjaa
open Go.Fw Go.Fw.Z Go.RowKit
theorem AH{x0:Lr}{r:Sz}(h:mg x0=some r):Pure Try.prog 33 [.agg (Py x0)] (.agg (WT r)):=by
 obtain⟨aC,aD,aL,aM⟩:=x0
 refine ay Try.func33 rfl (Nat.le_of_ble_eq_true rfl) (fun cS M vs hvs=>?_)
 unfold mg at h
 refine sr<|bx rfl<|al (cs:=[.v (.int .i64 0),.v (.int .i64 0),.v (.int .i64 0),.v (.int .i64 0)]) (by exact⟨SV.aa _,SV.aa _,SV.aa _,SV.aa _,trivial⟩) rfl<|dn<|sr<|fa rfl rfl<|lV rfl rfl rfl<|fa rfl rfl<|lV rfl rfl rfl<|lE h fun x7 h7 h=>ln rfl h7<|fa rfl rfl<|lV rfl rfl rfl<|lE h fun dW fP h=>ln rfl fP<|fa rfl rfl ?_
 refine lV rfl rfl rfl<|lE h fun gC fS h=>ln rfl fS<|bI (cs:=[_,_,_,_]) (cs':=[.v (.int .i64 aC),.v (.int .i64 x7),.v (.int .i64 dW),.v (.int .i64 gC)]) (.one rfl (.one rfl (.one rfl (.one rfl (.nil))))) ⟨SV.aa _,SV.aa _,SV.aa _,SV.aa _,trivial⟩<|so rfl rfl rfl<|dn<|aj ?_
 obtain rfl:=O h
 exact RZ (.agg rfl rfl (.cons rfl (.cons rfl (.cons rfl (.cons rfl (.nil))))) rfl (.nil))
theorem DR{x0:Lr}{r:Bool}(h:mP x0=some r):Pure Try.prog 18 [.agg (Py x0)] (.v (.bool r)):=by
 obtain⟨aC,aD,aL,aM⟩:=x0
 refine ay Try.func18 rfl (Nat.le_of_ble_eq_true rfl) (fun cS M vs hvs=>?_)
 unfold mP at h
 refine sr<|bx rfl<|ag rfl<|dn<|sr<|ld rfl rfl (.cons rfl (.cons rfl (.cons rfl (.cons rfl (.nil))))) ?_
 obtain⟨⟨AA,Dz,AB,Cg⟩,h5,h⟩:=bS h
 refine cl (AH h5) ⟨rfl,trivial⟩<|al (cs:=[.v (.int .i64 0),.v (.int .i64 0),.v (.int .i64 0),.v (.int .i64 0)]) (by exact⟨SV.aa _,SV.aa _,SV.aa _,SV.aa _,trivial⟩) rfl<|so rfl rfl rfl<|dn<|qq<|qq ?_
 refine aF h (fun Rz=>AS.bR 48 [(1,.ptr 1 0),(3,.ptr 3 0),(23,.sv (.v (.bool Rz)))] [(3,⟨63,[.sv (.v (.int .i64 AA)),.sv (.v (.int .i64 Dz)),.sv (.v (.int .i64 AB)),.sv (.v (.int .i64 Cg))]⟩),(1,⟨30,[.sv (.v (.int .i64 aC)),.sv (slc 1 (List.map (eS 4 eQ) aD)),.sv (slc 1 (List.map (eS 4 eQ) aL)),.sv (slc 4 (List.map eQ aM))]⟩)] []) (fun h=>?_) (fun Kk h=>?_)
 refine ah<|fa rfl rfl<|lV rfl rfl rfl<|lE h fun x8 h8 h=>ls _ rfl rfl h8<|mv rfl<|bE h fun Kn MD h=>?_
 cases x8
 refine RT.fieldAddr (.some rfl rfl) rfl T rfl<|RT.NI (.some rfl rfl) rfl rfl rfl T<|lE (F MD) fun eG fE MD=>gg _ rfl rfl fE ?_
 obtain rfl:=O MD
 refine pF rfl<|mv rfl<|bE h fun Yl ME h=>?_
 cases eG
 refine RT.fieldAddr (.some rfl rfl) rfl T rfl<|RT.NI (.some rfl rfl) rfl rfl rfl T<|lE (F ME) fun fR kL ME=>RT.lss (.some rfl rfl) _ rfl rfl T kL ?_
 obtain rfl:=O ME
 refine pF rfl<|mv rfl<|bE h fun Ym MF h=>?_
 cases fR
 refine RT.fieldAddr (.some rfl rfl) rfl T rfl<|RT.NI (.some rfl rfl) rfl rfl rfl T<|lE (F MF) fun jS nN MF=>gg _ rfl rfl nN ?_
 obtain rfl:=O MF
 exact pF rfl<|dn<|⟨jS,h,wR []⟩
 obtain rfl:=O (V MF)
 exact ww<|ww<|ww<|pT rfl<|dn<|⟨true,h,wR []⟩
 obtain rfl:=O (V ME)
 refine ww<|ww<|ww<|pT rfl<|mv rfl<|bE h fun Yn tw h=>?_
 obtain rfl:=O (V tw)
 exact ww<|ww<|ww<|pT rfl<|dn<|⟨true,h,wR []⟩
 obtain rfl:=O (V MD)
 refine ww<|ww<|ww<|pT rfl<|mv rfl<|bE h fun Yo Yp h=>?_
 obtain rfl:=O (V Yp)
 refine ww<|ww<|ww<|pT rfl<|mv rfl<|bE h fun Yq Yr h=>?_
 obtain rfl:=O (V Yr)
 exact ww<|ww<|ww<|pT rfl<|dn<|⟨true,h,wR []⟩
 try dsimp only
 refine ae.n ?_
 cases Kk
 refine fs<|qq<|qq ?_
 refine aF (F h) (fun Ml=>AS.bR 48 [(1,.ptr 1 0),(3,.ptr 3 0),(33,.sv (.v (.bool Ml)))] [(3,⟨63,[.sv (.v (.int .i64 AA)),.sv (.v (.int .i64 Dz)),.sv (.v (.int .i64 AB)),.sv (.v (.int .i64 Cg))]⟩),(1,⟨30,[.sv (.v (.int .i64 aC)),.sv (slc 1 (List.map (eS 4 eQ) aD)),.sv (slc 1 (List.map (eS 4 eQ) aL)),.sv (slc 4 (List.map eQ aM))]⟩)] []) (fun h=>?_) (fun FA h=>?_)
 refine ah<|fa rfl rfl<|lV rfl rfl rfl<|lE h fun kz nO h=>gt _ rfl rfl nO<|mv rfl<|bE h fun Km qh h=>?_
 cases kz
 refine RT.fieldAddr (.some rfl rfl) rfl T rfl<|RT.NI (.some rfl rfl) rfl rfl rfl T<|RT.fieldAddr (.some rfl rfl) rfl T rfl<|RT.NI (.some rfl rfl) rfl rfl rfl T<|lE (F qh) fun ig jK qh=>gq _ rfl rfl (F5 (p:=Cg) (q:=AB) jK) ?_
 obtain rfl:=O qh
 exact pF rfl<|dn<|⟨ig,h,wR []⟩
 obtain rfl:=O (V qh)
 exact ww<|ww<|ww<|ww<|ww<|pT rfl<|dn<|⟨true,h,wR []⟩
 try dsimp only
 refine ae.n ?_
 cases FA
 refine fs<|qq ?_
 refine aF (F h) (fun Uu=>AS.bR 48 [(2,.sv (.v (.bool Uu)))] [] []) (fun h=>?_) (fun Oy h=>?_)
 refine ai mixed<|fa rfl rfl<|lV rfl rfl rfl<|bE h fun oQ ot h=>cl (wL ot) ⟨rfl,trivial⟩<|fa rfl rfl<|lV rfl rfl rfl<|lE h fun rX Ay h=>RT.leq .none _ rfl rfl T Ay<|mv rfl<|bE h fun Kl lB h=>?_
 cases rX
 obtain rfl:=O (F lB)
 refine ww<|ww<|ww<|ww<|ww<|ww<|pF rfl<|ag rfl ?_
 refine RT.done ⟨by kernel_rfl,?_⟩
 exact ae.n<|⟨false,h,wR []⟩
 refine RT.fieldAddr (.some rfl rfl) rfl T rfl<|RT.NI (.some rfl rfl) rfl rfl rfl T<|bE (V lB) fun rU Aj lB=>gc (wL Aj) ⟨rfl,trivial⟩<|RT.fieldAddr (.some rfl rfl) rfl T rfl<|RT.NI (.some rfl rfl) rfl rfl rfl T<|lE lB fun rV h46 lB=>RT.leq (.some rfl rfl) _ rfl rfl T h46 ?_
 obtain rfl:=O lB
 refine pT rfl<|ag rfl ?_
 refine RT.done ⟨by kernel_rfl,?_⟩
 exact ae.n<|⟨rV,h,wR []⟩
 try dsimp only
 refine ae.n<|aj ?_
 obtain rfl:=O h
 exact R1 rfl
 refine cT<|sr<|ag rfl<|dn<|aj<|ae.r ?_
 obtain rfl:=O (V h)
 exact R1 rfl
 refine cT<|sr<|ag rfl<|dn<|aj<|ae.r ?_
 obtain rfl:=O (V h)
 exact R1 rfl
end Go.Proofs.Ytningmnklfpfjaa
namespace Go.Fw
open Go.RowKit
def Mem.fr(M:Mem)(N:Nat):Mem:=fun b o=>if N≤b then M b o else none
theorem Mem.UN(M:Mem)(N:Nat):(M.fr N).le M:=fun b o v h=>by
 unfold Mem.fr at h
 split at h
 ·exact h
 ·cases h
theorem Mem.Gi{M M':Mem}(h:M.le M')(N:Nat):(M.fr N).le (M'.fr N):=fun b o v e=>by
 unfold Mem.fr at*
 split at e
 ·rename_i hn;rw[if_pos hn];exact h b o v e
 ·cases e
theorem Mem.Ko(M:Mem)(N:Nat):(M.fr N).fr N=M.fr N:=by
 funext b o;unfold Mem.fr;split<;>rfl
def nw(N:Nat)(s:SV):SV:=⟨fun M v=>s.h (M.fr N) v∧∀g,v.ownBlock=some g→∃o,M.fr N g o=some (.agg #[]),fun hM h=>⟨s.mono (Mem.Gi hM N) h.1,fun g e=>by obtain⟨o,q⟩:=h.2 g e;exact⟨o,Mem.Gi hM N _ _ _ q⟩⟩⟩
theorem ee{N:Nat}{s:SV}:SV.imp (nw N s) s:=fun M _ h=>s.mono (Mem.UN M N) h.1
instance{N:Nat}{s:SV}{n:Nat}[h:SK s n]:SK (nw N s) n:=⟨fun M v hv=>h.h M v (ee M v hv)⟩
instance{N:Nat}{s:SV}{n:Nat}{rows:List (List SV)}[h:LX s n rows]:LX (nw N s) n rows:=⟨fun M v hv=>h.h M v (ee M v hv)⟩
instance{N:Nat}{s:SV}{n sz:Nat}{f:Nat→Nat→SV}[h:Sub s n sz f]:Sub (nw N s) n sz (fun a b=>nw N (f a b)):=⟨fun M v hv=>by
 obtain⟨a,c,e,hc,hs⟩:=h.h (M.fr N) v hv.1
 refine⟨a,c,e,hc,fun lo hi h1 h2=>⟨hs lo hi h1 h2,fun g hg=>hv.2 g ?_⟩⟩
 subst e
 cases a with
 |none=>split at hg<;>cases hg
 |some a=>
  split at hg
  ·exact hg
  ·have e:(a.add (lo*sz)).block=a.block:=by unfold Addr.add;split<;>rfl
   rw[show(Value.slice (Option.map (fun x=>x.add (lo*sz)) (some a)) (hi-lo) (c-lo)).ownBlock=some (a.add (lo*sz)).block from rfl,e]at hg
   exact hg⟩
instance{N:Nat}{s:SV}[h:One s]:One (nw N s):=⟨fun M v hv=>h.h _ v hv.1⟩
class Ys (N:Nat) (s:SV):Prop where
 h:∀M v,s.h M v→s.h (M.fr N) v
instance{N:Nat}{x:Value}:Ys N (.v x):=⟨fun _ _ h=>h⟩
instance{N:Nat}{s:SV}:Ys N (nw N s):=⟨fun M v h=>by show s.h ((M.fr N).fr N) v∧∀g,v.ownBlock=some g→∃o,(M.fr N).fr N g o=some (.agg #[]);rw[Mem.Ko];exact h⟩
class MG (N:Nat) (l:List SV):Prop where
 h:∀s∈l,∀M v,s.h M v→s.h (M.fr N) v
instance{N:Nat}:MG N []:=⟨fun s h=>by cases h⟩
instance{N:Nat}{s:SV}{l:List SV}[a:Ys N s][b:MG N l]:MG N (s::l):=⟨fun t ht=>by
 rcases List.mem_cons.1 ht with rfl|ht
 ·exact a.h
 ·exact b.h t ht⟩
class AI (N:Nat) {α:Type} (e:α→List SV):Prop where
 h:∀x,MG N (e x)
instance{N:Nat}:AI N af:=⟨fun _=>inferInstance⟩
instance{N:Nat}:AI N bO:=⟨fun _=>inferInstance⟩
instance{N:Nat}:AI N eB:=⟨fun _=>inferInstance⟩
abbrev fZ(N:Nat)(z:Zr):List SV:=[.v (.bool z.neg),nw N (slc 1 (z.w.map af))]
abbrev fQ(N:Nat)(q:Qr):List SV:=[.v (.bool q.num.neg),nw N (slc 1 (q.num.w.map af)),.v (.bool q.den.neg),nw N (slc 1 (q.den.w.map af))]
instance{N:Nat}:EL (fZ N) 2:=⟨fun _=>rfl,fun _=>inferInstance⟩
instance{N:Nat}:EL (fQ N) 4:=⟨fun _=>rfl,fun _=>inferInstance⟩
instance{N:Nat}:AI N (fZ N):=⟨fun _=>inferInstance⟩
instance{N:Nat}:AI N (fQ N):=⟨fun _=>inferInstance⟩
theorem aA{α:Type}{N n:Nat}{e:α→List SV}:SV.imp (.v (.slice none 0 0)) (nw N (slc n (([]:List α).map e))):=fun _ _ h=>⟨.inl ⟨none,h,rfl⟩,fun g e=>by rw[show _=Value.slice none 0 0 from h]at e;cases e⟩
theorem bT.at:∀{l l':List SV},bT l l'→∀(k:Nat) (s':SV),l'[k]? =some s'→∃s,l[k]? =some s∧SV.imp s s':=fun h _ _ e=>bT.get h e
theorem MH{α:Type}{n:Nat}{e e':α→List SV}(h:∀x,bT (e' x) (e x))(l:List α):SV.imp (slc n (l.map e')) (slc n (l.map e)):=by
 rintro M v (⟨a,h1,h2⟩|⟨b,o,c,h1,h2,h3,h4⟩)
 ·exact .inl ⟨a,h1,by have:=List.map_eq_nil_iff.1 h2;rw[this];rfl⟩
 ·refine .inr ⟨b,o,c,by simpa using h1,by simpa using h2,by simpa using h3,fun i row hr=>?_⟩
  rw[List.getElem?_map]at hr
  cases hx:l[i]? with
  |none=>rw[hx]at hr;cases hr
  |some x=>
   rw[hx]at hr
   have hr:e x=row:=Option.some.inj hr
   subst hr
   obtain⟨g1,g2⟩:=h4 i (e' x) (by rw[List.getElem?_map,hx];rfl)
   refine⟨by rw[bT.len (h x)];exact g1,fun k s hs=>?_⟩
   obtain⟨s2,Ap,hi⟩:=bT.get (h x) hs
   obtain⟨y,hy,ho,hh⟩:=g2 k s2 Ap
   exact⟨y,hy,ho,hi M y hh⟩
theorem qI(N:Nat)(q:Qr):bT (fQ N q) (eQ q):=⟨SV.aa _,ee,SV.aa _,ee,trivial⟩
theorem UO{N:Nat}{l:List Qr}:SV.imp (nw N (slc 4 (l.map (fQ N)))) (slc 4 (l.map eQ)):=fun M v h=>MH (qI N) l M v (ee M v h)
theorem Cp{N n:Nat}{α:Type}{e:α→List SV}[he:AI N e]{l:List α}{M:Mem}{v:Value}(h:(slc n (l.map e)).h M v)(hb:∀g,v.ownBlock=some g→N≤g∧∃o,M g o=some (.agg #[])):(nw N (slc n (l.map e))).h M v:=by
 refine⟨?_,fun g hg=>by obtain⟨h1,o,h2⟩:=hb g hg;exact⟨o,by unfold Mem.fr;rw[if_pos h1];exact h2⟩⟩
 rcases h with⟨a,h1,h2⟩|⟨b,o,c,h1,h2,h3,h4⟩
 ·exact .inl ⟨a,h1,h2⟩
 ·have hN:N≤b:=(hb b (by rw[h1];rfl)).1
  refine .inr ⟨b,o,c,h1,h2,h3,fun i row hr=>⟨(h4 i row hr).1,fun k s hs=>?_⟩⟩
  obtain⟨y,hy,ho,hh⟩:=(h4 i row hr).2 k s hs
  refine⟨y,by unfold Mem.fr;rw[if_pos hN];exact hy,ho,?_⟩
  rw[List.getElem?_map]at hr
  cases hx:l[i]? with
  |none=>rw[hx]at hr;cases hr
  |some x=>
   rw[hx]at hr
   have hr:e x=row:=Option.some.inj hr
   subst hr
   exact(he.h x).h s (List.mem_of_getElem? hs) M y hh
section
variable {P:Program}{C:Ctx}{S:AS}{Q:Exit→AS→Prop}
theorem ax.MI{E:Env}{a:Act}{w:World}(h:ax C S E a w)(vs:List Value)(T:TypeId)(hone:∀v∈vs,v.oneCell'=true):ax C S {E with M:=fun b o=>if b=w.heap.size then(vs++[.agg #[]])[o]? else E.M b o} a (w.alloc (.cells ⟨vs⟩ T)):=by
 have hno:∀o,E.M w.heap.size o=none:=fun o=>by
  cases e:E.M w.heap.size o with
  |none=>rfl
  |some v=>have:=lK h.cm e;omega
 refine h.grow (fun b o v e=>?_) (fun b o v e=>?_) (fun b o v e=>?_) (((Below.refl _ _).alloc (Nat.le_refl _) _))
 ·have:b≠w.heap.size:=by rintro rfl;rw[hno o]at e;cases e
  simp[this,e]
 ·by_cases hb:b=w.heap.size
  ·exact .inr (by omega)
  ·simp only[if_neg hb]at e;exact .inl e
 ·by_cases hb:b=w.heap.size
  ·subst hb
   simp only[if_true]at e
   by_cases ho:o<vs.length
   ·rw[List.getElem?_append_left ho]at e
    refine .of ?_ (hone v (List.mem_of_getElem? e))
    rw[World.cell?_alloc_new];simpa using e
   ·rw[List.getElem?_append_right (by omega)]at e
    cases Gf:o-vs.length with
    |succ k=>rw[Gf]at e;simp at e
    |zero=>
     rw[Gf]at e
     simp at e
     subst e
     exact⟨⟨vs⟩,T,by show(w.heap.push _)[w.heap.size]? =_;rw[Array.getElem?_push,if_pos rfl]⟩
  ·simp only[if_neg hb]at e
   refine(h.cm b o v e).same ?_
   show(w.heap.push _)[b]? =_
   rw[Array.getElem?_push,if_neg hb]
theorem jy{c:Code}{i n N:Nat}{E1:TypeId}{α:Type}{e:α→List SV}{l:List α}[el:EL e n][he:AI N e](hN:N≤C.w0.heap.size)(hb:∀k,¬C.rN k)(hR:S.r i=.live (TR E1 n e l))(hk:Ok P C c (S.lU i (nw N (slc n (l.map e)))) Q):Ok P C c S Q:=fun a w hs=>by
 obtain⟨E,h⟩:=hs
 have hlen:l.length≤9223372036854775807:=by
  obtain⟨⟨vs,ho,hv⟩,_⟩:=h.rx i _ hR
  rcases ho.2 with⟨_,q2⟩|⟨g',cap,cur,q1,_,q2,q3,q4,q5,q6⟩
  ·have q2:l.length=0:=q2
   omega
  ·have q3:l.length≤cap:=q3
   have:maxLen=9223372036854775807:=by decide
   omega
 exact hk a w (h.lU hR (oa l) (by rw[List.length_map]) hlen (kH l) (fun M v hv hg=>Cp hv (fun g e=>⟨(hg g e).1.elim (fun q=>Nat.le_trans hN q) (fun q=>absurd q (hb g)),(hg g e).2⟩)))
def cz(P:Program)(f:FuncId)(N:Nat)(args:List SV)(r:SV):Prop:=
 ∀(M:Mem) (w:World) (vs:List Value),N≤w.heap.size→M.cm w→SV.dz M args vs→
  Calls P f ⟨vs⟩ w fun e w'=>∃v M',e=.returned v∧M.le M'∧(∀b o x,M' b o=some x→M b o=some x∨w.heap.size≤b)∧M'.cm w'∧r.h M' v∧Below w.heap.size w w'
theorem cz.w{f:FuncId}{N:Nat}{args args':List SV}{r:SV}(h:cz P f N args r)(hi:bT args' args):cz P f N args' r:=fun M w vs hN hM hv=>h M w vs hN hM (hi.holds hv)
theorem aJ{f:FuncId}{fn:Func}{code:Code}{N:Nat}{args:List SV}{r:SV}(hf:P.funcs[f]? =some fn)(hb:fn.body=some code)(hn:args.length≤fn.ntmps)
  (h:∀(w:World) (M:Mem) (vs:List Value),N≤w.heap.size→SV.dz M args vs→Ok P (C0 w M) code (AS.init fn.ntmps args) (fun e S=>(e=.normal∨e=.ret)∧Io P S fn.results.toList r)):cz P f N args r:=by
 intro M w vs hN hM hvs
 refine(callsIn_wide (n:=0)).1 (callsIn_of_wp_marks (F:=Fence.wide) hf hb trivial ?_)
 refine wpIn_mono (h w M vs hN hvs _ w ⟨_,jD hM hvs hn⟩) ?_
 rintro e a' w' ⟨S',⟨he,ss,ND,himp⟩,E,hh⟩
 have key:LeavesInM Fence.wide 0 P fn a'.tmps (fun e w'=>∃v M',e=.returned v∧M.le M'∧(∀b o x,M' b o=some x→M b o=some x∨w.heap.size≤b)∧M'.cm w'∧r.h M' v∧Below w.heap.size w w') a'.defers .returning w':=by
  obtain⟨ds,h1,h2,h3⟩:=hh.marks
  rw[h1]
  refine l8 ds w' h2 (fun r hr=>(h3 r hr).2.2) (fun w2 g1 g2 g3 g4 g5=>?_)
  have Ao:=hh.yd h3 g1 g2 g3 g4 g5
  obtain⟨v,hv,hs⟩:=BK Ao ND
  refine⟨v,hv,v,E.M,rfl,Ao.m0,fun b o x e=>?_,Ao.cm,himp _ _ hs,Ao.os,Ao.tape,Ao.output,Ao.grown,fun k hk=>Ao.frame k hk (fun h=>h)⟩
  rcases Ao.dO b o x e with h|h|h
  ·exact .inl h
  ·exact .inr h
  ·exact h.elim
 rcases he with rfl|rfl
 ·exact key
 ·exact key
theorem MJ{f:FuncId}{N:Nat}{args:List SV}{E1:TypeId}{n:Nat}{α:Type}{e:α→List SV}{l:List α}[el:EL e n][he:AI N e](hp:BO P f args (TR E1 n e l)):cz P f N args (nw N (slc n (l.map e))):=by
 intro M w vs hN hM hvs
 refine(hp M w vs hM hvs).mono ?_
 rintro ex w' ⟨v,M',us,rfl,hle,hnew,hin,hown,xB,jE,UP⟩
 have iF:Rows n (l.map e) (l.flatMap e):=oa l
 have sy:=qw iF
 rcases hown.2 with⟨h1,h2⟩|⟨g,cap,cur,h1,_,h2,h3,_,h5,h6⟩
 ·exact⟨v,M',rfl,hle,hnew,hin,⟨.inl ⟨none,h1,by have h2:l.length=0:=h2;rw[List.length_eq_zero_iff.1 h2];rfl⟩,fun g e=>by rw[h1]at e;cases e⟩,UP⟩
 ·have hg:v.ownBlock=some g:=by rw[h1];rfl
  obtain⟨hge,hno⟩:=jE g hg
  have h3:l.length≤cap:=h3
  have abP:maxLen=9223372036854775807:=by decide
  refine⟨v,fun b o=>if b=g∧o<l.length*n then us[o]? else if b=g∧o=l.length*n then some (.agg #[])else M' b o,rfl,fun b o x q=>?_,fun b o x q=>?_,fun b o x q=>?_,?_,UP⟩
  ·have:=hle b o x q
   have:b≠g:=by rintro rfl;rw[hno o]at this;cases this
   simp[this];assumption
  ·simp only at q
   split at q
   ·rename_i hc;exact .inr (by rw[hc.1];exact hge)
   ·split at q
    ·rename_i hc;exact .inr (by rw[hc.1];exact hge)
    ·exact hnew b o x q
  ·simp only at q
   split at q
   ·rename_i hc
    obtain⟨rfl,CZ⟩:=hc
    refine .of ?_ (kH l _ _ xB x (List.mem_of_getElem? q))
    simp only[World.cell?,h2]
    have h6:cur.toList.take (l.length*n)=us:=h6
    rw[←h6,List.getElem?_take,if_pos CZ]at q
    simpa using q
   ·split at q
    ·rename_i hc
     cases q
     rw[hc.1];exact⟨_,_,h2⟩
    ·exact hin b o x q
  ·refine Cp ?_ (fun g' e'=>by rw[hg]at e';cases e';exact⟨Nat.le_trans hN hge,l.length*n,by simp⟩)
   refine .inr ⟨g,0,cap,by rw[h1,List.length_map],by rw[List.length_map];exact h3,by rw[List.length_map];omega,fun k row hk=>?_⟩
   obtain⟨q1,q2⟩:=n7 iF k row hk
   refine⟨q1,fun j s hs=>?_⟩
   have Ap:=q2 j s hs
   obtain⟨y,hy,hys⟩:=xB.get Ap
   have hlt:k*n+j<l.length*n:=by
    have:=(List.getElem?_eq_some_iff.1 Ap).1
    rw[sy,List.length_map]at this;exact this
   refine⟨y,by simp[hlt,hy],kH l _ _ xB y (List.mem_of_getElem? hy),s.mono (fun b o x q=>?_) hys⟩
   have:b≠g:=by rintro rfl;rw[hno o]at q;cases q
   simp[this,q]
end
section
variable {P:Program}{C:Ctx}{ops:Array Oper}{S:AS}{nd:Bool}{K:List Ac→AS→Prop}{rest:List Oper}{acc:List Ac}
variable {gd:Option (Nat×Bool)}{rg:List Nat}{d:Nat}{ty:TypeId}{pos:String}{aft:Array Edge}{x y z:Operand}{T U E0:TypeId}
variable {α:Type}{l l' k:List α}{e:α→List SV}{n by_ N:Nat}{zv:Value}
theorem RT.aQ(hg:Gd ops S gd rg){f:FuncId}[dj P f]{g:Operand}{xs:Array Operand}{at_:Array TypeId}{args:List SV}{r:SV}(hp:cz P f N args r)(hN:N≤C.w0.heap.size)(hf:S.ev g=.sv (.v (.func (.func f) #[] #[])))(hargs:fj S xs.toList args)(hd:d<S.n)
  (next:RunT P C ops nd K rest (⟨rg++(ak g++xs.toList.flatMap ak),[],[],⟨some (d,.sv r),[],[]⟩⟩::acc) (S.set d (.sv r))):RunT P C ops nd K (⟨some d,.call ⟨.value g,xs,at_⟩,ty,pos,aft,gd⟩::rest) acc S:=by
 refine .inl ⟨_,[],[],_,?_,next⟩
 rintro S' hn ht _ _ i a w L Q ho ⟨E,h⟩ hL
 refine bD (C:=C) ho (hg.wanted h (fun s hs=>ht s (List.mem_append_left _ hs)) rfl) ?_
 have qt:a.eval g=.func (.func f) #[] #[]:=by
  have h1:=h.ev g;rw[aE (fun _ h=>List.mem_append_right _ (List.mem_append_left _ h)) ht,hf]at h1;exact h1
 have hall:=fj.vals h hargs (fun s hs=>ht s (List.mem_append_right _ (List.mem_append_right _ hs)))
 have hr:(execOp a.eval ⟨some d,.call ⟨.value g,xs,at_⟩,ty,pos,aft,gd⟩).run P w=.ok (.enter f ⟨xs.toList.map a.eval⟩) w:=by
  have e2:xs.map a.eval=⟨xs.toList.map a.eval⟩:=by apply Array.ext';simp
  have e1:=dj.run (P:=P) (f:=f) (xs.map a.eval) w
  rw[←e2]
  simp[execOp,resolve,qt,Deferred.ofValue,invoke,e1]
 refine bB (C:=C) (by intro c h;cases h) hr ?_
 refine⟨fun h=>by simp at h,fu ((hp E.M w _ (Nat.le_trans hN h.grown) h.cm hall).mono ?_)⟩
 rintro e w' ⟨v,M',rfl,hM,hnew,hin,hv,hb⟩
 exact hL _ _ ⟨_,(h.grow hM hnew hin hb).put (x:=.sv r) hv (by show d<S'.n;omega) dY⟩
theorem RT.Bs(hg:Gd ops S gd rg){m:Nat}[tS:dX P T E0 m]{c:Int}(hx:S.ev x=.sv (nw N (slc n (l.map e))))(hd:d<S.n)(hc:(l.length:Int)=c)
  (next:RunT P C ops nd K rest (⟨rg++ak x,[],[],⟨some (d,.sv (.v (.int .i64 c))),[],[]⟩⟩::acc) (S.set d (.sv (.v (.int .i64 c))))):RunT P C ops nd K (⟨some d,.call ⟨.builtin .len,#[x],#[T]⟩,ty,pos,aft,gd⟩::rest) acc S:=
 RT.len hg hx hd (by rw[List.length_map,hc];exact next)
theorem RT.UQ(hg:Gd ops S gd rg)[tS:dX P T E0 n]{kk:IntKind}{i:Int}{a:α}(hx:S.ev x=.sv (nw N (slc n (l.map e))))(hy:S.ev y=.sv (.v (.int kk i)))(hd:d<S.n)(ha:dD l i=some a)
  (next:RunT P C ops nd K rest (⟨rg++(ak x++ak y),[],[],⟨some (d,.sv (ref (e a))),[],[]⟩⟩::acc) (S.set d (.sv (ref (e a))))):RunT P C ops nd K (⟨some d,.indexAddr T x y,ty,pos,aft,gd⟩::rest) acc S:=
 RT.indexAddr hg (e a) hx hy hd (n9 ha).1 (by rw[List.getElem?_map,(n9 ha).2];rfl) next
theorem RT.MK(hg:Gd ops S gd rg)[tS:dX P T E0 n]{lo hi:Option Operand}(a b:Int)(hx:S.ev x=.sv (nw N (slc n (l.map e))))(hlo:yj S 0 lo a)(hhi:yj S l.length hi b)(hd:d<S.n)(h:BP l a b=some l')
  (next:RunT P C ops nd K rest (⟨rg++(ak x++(lX lo++lX hi)),[],[],⟨some (d,.sv (nw N (slc n (l'.map e)))),[],[]⟩⟩::acc) (S.set d (.sv (nw N (slc n (l'.map e)))))):RunT P C ops nd K (⟨some d,.slice T x lo hi none,ty,pos,aft,gd⟩::rest) acc S:=by
 obtain⟨h0,h1,h2,h3⟩:=A4 h
 exact RT.slice hg hx a b hlo (by rw[List.length_map];exact hhi) hd h0 h1 (by rw[List.length_map];exact h2) _ (by rw[FY,h3]) next
theorem RT.UR(hg:Gd ops S gd rg)[tS:dX P T E0 n][tE:aN P E0 n by_ zv][el:EL e n][he:AI N e]{i:Nat}(hN:N≤C.w0.heap.size)(hb:∀k,¬C.rN k)(hx:S.ev x=.row i)(hR:S.r i=.live (TR E0 n e l))(hy:S.ev y=.sv (slc n (k.map e)))(hd:d<S.n)(vw:S.r d=.un)(tR:d<1000)(h:yu by_ l k=some l')
  (next:RunT P C ops nd K rest (⟨rg++(ak x++ak y),[],[d,i],⟨some (d,.sv (nw N (slc n (l'.map e)))),[],[(i,.dead),(d,.dead)]⟩⟩::acc) ((AS.bf [(i,.dead),(d,.dead)] S).set d (.sv (nw N (slc n (l'.map e)))))):RunT P C ops nd K (⟨some d,.call ⟨.builtin .append,#[x,y],#[T,T]⟩,ty,pos,aft,gd⟩::rest) acc S:=by
 obtain⟨h1,h2,rfl⟩:=qA h
 have hf:l.flatMap e++(k.map e).flatten=(l++k).flatMap e:=by simp[qC]
 exact RT.F3 hg (.row hx hR) hy hd vw tR (by simpa using h1) (by simpa using h2) _ (rows':=(l++k).map e) (fun _ _ hv hg=>Cp hv (fun g e=>⟨(hg g e).1.elim (fun q=>Nat.le_trans hN q) (fun q=>absurd q (hb g)),(hg g e).2⟩)) (by rw[hf];exact oa _) (by simp) (by rw[hf];exact kH _) next
theorem RT.uS(hg:Gd ops S gd rg)[tS:dX P T E0 n][tE:aN P E0 n by_ zv][he:AI N e](hN:N≤C.w0.heap.size){len:Nat}{parts:Array (Nat×Operand)}{qs:List (Nat×List SV)}(hp:lW S parts.toList qs)(hd:d<S.n)
  (hc:nH 0 qs=true) (hl:qs.length=len) (hsz:(qs.all fun q=>Nat.beq q.2.length n)=true) (hlen:Nat.ble (len*n) 16777216=true) (GU:(zv.cells.toList.all fun v=>v.oneCell')=true) (iF:qs.map (·.2)=l.map e)
  (next:RunT P C ops nd K rest (⟨rg++jR parts.toList,[],[],⟨some (d,.sv (nw N (slc n (l.map e)))),[],[]⟩⟩::acc) (S.set d (.sv (nw N (slc n (l.map e)))))):RunT P C ops nd K (⟨some d,.buildSlice T len parts,ty,pos,aft,gd⟩::rest) acc S:=by
 refine .inl ⟨_,[],[],_,?_,next⟩
 rintro S' hn ht _ _ i a w L Q ho ⟨E,h⟩ hL
 refine bD (C:=C) ho (hg.wanted h (fun s hs=>ht s (List.mem_append_left _ hs)) rfl) ?_
 obtain⟨vs,hr,hall,hone⟩:=my (P:=P) (T:=T) (E0:=E0) (n:=n) (by_:=by_) (zv:=zv) (d:=d) (ty:=ty) (pos:=pos) (aft:=aft) (gd:=gd) h hp (fun s hs=>ht s (List.mem_append_right _ hs)) hc hl hsz (Nat.le_of_ble_eq_true hlen) (List.all_eq_true.1 GU)
 refine bB (C:=C) (by intro c h;cases h) hr (hL _ _ ⟨_,(h.MI vs E0 hone).put (d:=d) (x:=.sv (nw N (slc n (l.map e)))) (v:=.slice (some ⟨w.heap.size,0,none⟩) len len) ?_ (by show d<S'.n;omega) dY⟩)
 have hrw:Rows n (qs.map (·.2)) (qs.map (·.2)).flatten:=⟨rfl,fun r hr=>by
  obtain⟨q,hq,rfl⟩:=List.mem_map.1 hr
  exact Nat.eq_of_beq_eq_true (List.all_eq_true.1 hsz q hq)⟩
 have Iz:=tE.p
 have hlb:len≤16777216:=Nat.le_trans (Nat.le_mul_of_pos_right _ Iz) (Nat.le_of_ble_eq_true hlen)
 refine Cp ?_ (fun g e=>by cases e;exact⟨Nat.le_trans hN h.grown,vs.length,by simp⟩)
 rw[←iF]
 refine .inr ⟨w.heap.size,0,len,by rw[List.length_map,hl],by rw[List.length_map,hl];exact Nat.le_refl _,by rw[List.length_map,hl];omega,fun k row hk=>?_⟩
 obtain⟨q1,q2⟩:=n7 hrw k row hk
 refine⟨q1,fun j s hs=>?_⟩
 obtain⟨y,hy,hys⟩:=hall.get (q2 j s hs)
 refine⟨y,by show(if w.heap.size=w.heap.size then(vs++[Value.agg #[]])[0+k*n+j]? else _)=_;rw[if_pos rfl,Nat.zero_add,List.getElem?_append_left (List.getElem?_eq_some_iff.1 hy).1];exact hy,hone y (List.mem_of_getElem? hy),s.mono (fun b o v e=>?_) hys⟩
 have:b≠w.heap.size:=by rintro rfl;have:=lK h.cm e;omega
 simp[this,e]
end
end Go.Fw
namespace Go.Proofs.Ytningmnklfpfjaa
open Go.Fw Go.Fw.Z Go.RowKit
theorem lQ{x0:List Nat}(N:Nat){r:List Nat}(h:cG x0=some r):cz Try.prog 75 N [slc 1 (List.map af x0)] (nw N (slc 1 (List.map af r))):=MJ (kK h)
theorem nP{x0:List Nat}(N:Nat){r:List Nat}(h:aB x0=some r):cz Try.prog 65 N [nw N (slc 1 (List.map af x0))] (nw N (slc 1 (List.map af r))):=by
 refine aJ Try.func65 rfl (Nat.le_of_ble_eq_true rfl) (fun cS M vs hN hvs=>?_)
 unfold aB at h
 refine sr<|aI rfl (aA (N:=N) (n:=1) (e:=af))<|dn<|qq<|bE h fun P9 E8 B0=>?_
 refine aW (fun(yA:(List Nat))=>AS.bR 21 [(0,.sv (nw N (slc 1 (List.map af yA))))] [] []) (fun yA=>yA=P9) ?_ (fun yA E9=>?_)
 refine aq ?_
 refine aX E8 (fun Dg=>AS.bR 21 [(0,.sv (nw N (slc 1 (List.map af Dg))))] [] []) (wR []) (fun w5 Xk Xl h Fa Dk=>?_)
 try dsimp only
 refine qq<|qq ?_
 refine aF h (fun Ml=>AS.bR 21 [(0,.sv (nw N (slc 1 (List.map af w5)))),(14,.sv (.v (.bool Ml)))] [] []) (fun h=>?_) (fun yz h=>?_)
 refine ah<|mv rfl<|lE h fun x4 h4 h=>RT.Bs .none rfl T h4<|lE h fun x5 h5 h=>gt _ rfl rfl h5<|mv rfl<|bE h fun EW gu h=>?_
 cases x5
 obtain rfl:=O (F gu)
 exact ww<|ww<|ww<|ww<|ww<|ww<|ww<|pF rfl<|dn<|⟨false,h,wR []⟩
 refine gm rfl<|gm rfl<|lE (V gu) fun x9 h9 gu=>RT.Bs (.some rfl rfl) rfl T h9<|lE gu fun dW fP gu=>RT.sub (.some rfl rfl) _ rfl rfl T fP<|bE gu fun iz me gu=>RT.UQ (.some rfl rfl) rfl rfl T me<|gr rfl rfl<|lE gu fun gC fS gu=>TV _ rfl rfl (SU (p:=iz) (q:=0) fS) ?_
 obtain rfl:=O gu
 exact pT rfl<|dn<|⟨gC,h,wR []⟩
 try dsimp only
 refine ae.n ?_
 cases yz
 refine cF<|bj<|ae.x<|ae.x<|aH.x<|ae.n ?_
 obtain rfl:=O (F h)
 exact⟨w5,Dk _ rfl,wR []⟩
 refine cT<|aG<|ae.n<|aq<|ah<|mv rfl<|mv rfl<|lE (V h) fun fR kL h=>RT.Bs .none rfl T kL<|lE h fun fg ij h=>sb _ rfl rfl ij<|bE h fun k8 jM h=>RT.MK .none 0 fg rfl rfl ⟨_,rfl⟩ T jM<|ag rfl<|RT.done<|aH.n ?_
 obtain rfl:=O h
 exact ae.n ⟨k8,Fa _ rfl,wR []⟩
 subst E9
 try dsimp only
 refine ae.n<|sr<|mv rfl<|ag rfl<|dn<|aj ?_
 obtain rfl:=O B0
 exact R1 rfl
theorem ef{x0:Bool}{x1:List Nat}(N:Nat){r:Zr}(h:bu x0 x1=some r):cz Try.prog 72 N [.v (.bool x0),nw N (slc 1 (List.map af x1))] (.agg ((fZ N) r)):=by
 refine aJ Try.func72 rfl (Nat.le_of_ble_eq_true rfl) (fun cS M vs hN hvs=>?_)
 unfold bu at h
 refine sr<|al (cs:=[.v (.bool false),nw N (slc 1 (List.map af []))]) (by exact⟨SV.aa _,aA,trivial⟩) rfl<|dn<|sr<|mv rfl<|bE h fun x6 h6 h=>RT.aQ .none (nP N h6) hN rfl ⟨rfl,trivial⟩ T<|ag rfl<|dn<|qq<|sr<|mv rfl<|lE h fun x8 h8 h=>RT.Bs .none rfl T h8<|lE h fun x9 h9 h=>eq _ rfl rfl (rR (p:=x8) (q:=0) h9)<|dn ?_
 cases x9
 refine fs<|sr<|mv rfl<|mv rfl<|bI (cs:=[_,_]) (cs':=[.v (.bool x0),nw N (slc 1 (List.map af x6))]) (.one rfl (.one rfl (.nil))) ⟨SV.aa _,SV.aa _,trivial⟩<|so rfl rfl rfl<|dn<|aj ?_
 obtain rfl:=O (F h)
 exact RZ (.agg rfl rfl (.cons rfl (.cons rfl (.nil))) rfl (.nil))
 refine cT<|sr<|bI (cs:=[_,_]) (cs':=[.v (.bool false),nw N (slc 1 (List.map af []))]) (.nil) ⟨SV.aa _,aA,trivial⟩<|so rfl rfl rfl<|dn<|aj<|ae.r ?_
 obtain rfl:=O (V h)
 exact RZ (.agg rfl rfl (.cons rfl (.cons rfl (.nil))) rfl (.nil))
theorem iW{x0:Bool}{x1:Nat}(N:Nat){r:Zr}(h:cX x0 x1=some r):cz Try.prog 60 N [.v (.bool x0),.v (.int .u64 ((x1:Nat):Int))] (.agg ((fZ N) r)):=by
 refine aJ Try.func60 rfl (Nat.le_of_ble_eq_true rfl) (fun cS M vs hN hvs=>?_)
 unfold cX at h
 refine sr<|al (cs:=[.v (.bool false),nw N (slc 1 (List.map af []))]) (by exact⟨SV.aa _,aA,trivial⟩) rfl<|dn<|qq<|aq<|sr<|mv rfl<|lE h fun x7 h7 h=>eq _ rfl rfl (SU (p:=x1) (q:=0) h7)<|ag rfl<|dn ?_
 cases x7
 refine cF<|sr<|mv rfl<|lE (F h) fun iz me h=>RT.shr .none _ rfl rfl T (by decide) (wZ (k:=.u64) (a:=x1) (q:=32) (s:=32) rfl me)<|lE h fun eG fE h=>eq _ rfl rfl (SU (p:=iz) (q:=0) fE)<|ag rfl<|dn ?_
 cases eG
 refine cF<|aG<|aH.n<|ae.n<|sr<|mv rfl<|mv rfl<|lE (F h) fun gx lz h=>cv _ rfl (UK.nat lz)<|mv rfl<|lE h fun jS nN h=>RT.shr .none _ rfl rfl T (by decide) (wZ (k:=.u64) (a:=x1) (q:=32) (s:=32) rfl nN)<|lE h fun lN sj h=>cv _ rfl (UK.nat sj)<|RT.uS (l:=[gx,lN]) (e:=af) .none hN (.one rfl (.one rfl (.nil))) T rfl rfl rfl rfl rfl rfl<|bI (cs:=[_,_]) (cs':=[.v (.bool x0),nw N (slc 1 (List.map af [gx,lN]))]) (.one rfl (.one rfl (.nil))) ⟨SV.aa _,SV.aa _,trivial⟩ ?_
 refine so rfl rfl rfl<|dn<|aj ?_
 obtain rfl:=O h
 exact RZ (.agg rfl rfl (.cons rfl (.cons rfl (.nil))) rfl (.nil))
 refine cT<|sr<|mv rfl<|mv rfl<|lE (V h) fun fC gG h=>cv _ rfl (UK.nat gG)<|RT.uS (l:=[fC]) (e:=af) .none hN (.one rfl (.nil)) T rfl rfl rfl rfl rfl rfl<|bI (cs:=[_,_]) (cs':=[.v (.bool x0),nw N (slc 1 (List.map af [fC]))]) (.one rfl (.one rfl (.nil))) ⟨SV.aa _,SV.aa _,trivial⟩<|so rfl rfl rfl<|dn<|aj<|aH.r<|ae.r ?_
 obtain rfl:=O h
 exact RZ (.agg rfl rfl (.cons rfl (.cons rfl (.nil))) rfl (.nil))
 refine cT<|sr<|bI (cs:=[_,_]) (cs':=[.v (.bool false),nw N (slc 1 (List.map af []))]) (.nil) ⟨SV.aa _,aA,trivial⟩<|so rfl rfl rfl<|dn<|aj<|aH.r<|ae.r ?_
 obtain rfl:=O (V h)
 exact RZ (.agg rfl rfl (.cons rfl (.cons rfl (.nil))) rfl (.nil))
theorem nx{x0:List Nat}{x1:List Nat}(N:Nat){r:List Nat}(h:cK x0 x1=some r):cz Try.prog 77 N [slc 1 (List.map af x0),slc 1 (List.map af x1)] (nw N (slc 1 (List.map af r))):=by
 refine aJ Try.func77 rfl (Nat.le_of_ble_eq_true rfl) (fun cS M vs hN hvs=>?_)
 unfold cK at h
 refine sr<|aI rfl (aA (N:=N) (n:=1) (e:=af))<|dn<|sr<|mv rfl<|lE h fun dW fP h=>ln rfl fP<|mv rfl<|lE h fun eG fE h=>ln rfl fE<|lE h fun gC fS h=>RT.max .none _ rfl rfl T (EU (p:=dW) (q:=eG) fS)<|lE h fun gY ku h=>ad _ rfl rfl ku<|bE h fun fC gG h=>RT.sE (e:=af) .none rfl rfl T rfl T gG<|RT.alloc .none T rfl rfl<|RT.gA (cells:=[_]) .none rfl rfl rfl rfl T rfl<|dn<|sr ?_
 refine RT.qy .none (bX 0) rfl ⟨rfl,trivial⟩ T rfl rfl<|RT.alloc .none T rfl rfl<|RT.nF (cells:=[_]) .none (s:=.dV _ _) rfl rfl rfl T rfl<|dn<|qq<|sr<|mv rfl<|mv rfl<|cl (jT x0 x1) ⟨rfl,rfl,trivial⟩<|dn<|aq<|bE h fun e7 Qb Fb=>?_
 obtain⟨Fe,Qc,Qd,Qe⟩:=jc Qb
 refine fB (jU x0 x1) (fun _ _ _ _ _=>trivial) rfl (fun k=>AS.bR 35 [(5,.ptr 5 0),(6,.ptr 6 0),(19,.sv (gP 95 [ref [slc 1 (List.map af x0)],ref [slc 1 (List.map af x1)]]))] [(6,⟨118,[.dV 89 [.box 16]]⟩),(16,⟨96,[.sv (.v (.int .u64 (((Fe k).1:Nat):Int)))]⟩),(5,⟨48,[.row 302]⟩)] [(302,TR 110 1 af (Fe k).2)]) [6,16,5] rfl (fun _=>⟨rfl,rfl⟩) (nJ rfl) (fun _=>rfl) (nK rfl) (by(try dsimp only);rw[Qc];(try dsimp only);exact dm (fun i=>bif Nat.beq i 302 then 15 else i) rfl rfl rfl rfl rfl ⟨.ptr,.ptr,.sv (SV.aa _),trivial⟩ ⟨⟨_,rfl,⟨.dV,trivial⟩⟩,⟨_,rfl,⟨.sv (SV.aa _),trivial⟩⟩,⟨_,rfl,⟨.row rfl,trivial⟩⟩,trivial⟩ ⟨⟨_,rfl,bT.refl _⟩,trivial⟩ (fun i hi=>by rw[bU (show i≠302 by omega)];rfl)) (fun k hk D hD=>?_) ?_
 have h:=Qd k hk
 obtain⟨sk,Ff⟩:∃q,Fe k=q:=⟨_,rfl⟩
 rw[Ff]at h⊢
 obtain⟨oZ,fo⟩:=sk
 dsimp only[AS.HX,n8]
 try dsimp only at h
 refine lE h fun TW yQ h=>?_
 rw[yQ]
 refine lE h fun TX Qf h=>?_
 rw[Qf]
 refine sr<|ag rfl<|dn<|ah<|ag rfl<|RT.done ?_
 refine ae.n ⟨rfl,?_⟩
 dsimp only[AS.wY]
 refine aq<|ai mixed<|RT.dR .none (s:=.row _) rfl rfl rfl T<|RT.dR .none (s:=.dV _ _) rfl rfl rfl T<|mv rfl<|mv rfl<|lE h fun kz nO h=>ad _ rfl rfl (UK.add (a:=TW) (b:=TX) nO) ?_
 obtain⟨⟨lf,k9⟩,oR,h⟩:=bS h
 refine cB (aO oR) 16 rfl ⟨rfl,trivial⟩<|bl (l:=[lf]) (e:=af) (.one rfl (.nil)) rfl rfl rfl rfl rfl rfl<|bE h fun gO iK h=>aR (k:=[lf]) (e:=af) rfl rfl rfl iK<|RT.gA (cells:=[_]) .none rfl rfl rfl rfl T rfl ?_
 refine RT.done ⟨by kernel_rfl,?_⟩
 refine aH.n ?_
 replace h:=Option.some.inj h
 refine⟨trivial,rfl,rfl,?_⟩
 try dsimp only
 rw[←h]
 try dsimp only
 exact dm (fun i=>bif Nat.beq i 302 then 29 else i) rfl rfl rfl rfl rfl ⟨.ptr,.ptr,.sv (SV.aa _),trivial⟩ ⟨⟨_,rfl,⟨.dV,trivial⟩⟩,⟨_,rfl,⟨.sv (SV.aa _),trivial⟩⟩,⟨_,rfl,⟨.row rfl,trivial⟩⟩,trivial⟩ ⟨⟨_,rfl,bT.refl _⟩,trivial⟩ (fun i hi=>by rw[bU (show i≠302 by omega)];rfl)
 rw[Qe]
 obtain⟨oZ,fo⟩:=e7
 try dsimp only
 refine aH.n<|ae.n<|qq<|ai mixed<|RT.dR .none (s:=.row _) rfl rfl rfl T<|RT.dR .none (s:=.dV _ _) rfl rfl rfl T ?_
 obtain⟨⟨ig,k11⟩,jK,Fb⟩:=bS Fb
 refine cB (aO jK) 16 rfl ⟨rfl,trivial⟩<|bl (l:=[ig]) (e:=af) (.one rfl (.nil)) rfl rfl rfl rfl rfl rfl<|bE Fb fun nY pC Fb=>RT.UR (k:=[ig]) (e:=af) .none hN (fun _ h=>h) rfl rfl rfl T rfl T pC<|ag rfl ?_
 refine RT.done ⟨by kernel_rfl,?_⟩
 refine ae.n<|aj ?_
 obtain rfl:=O Fb
 exact R1 rfl
theorem j9{x0:List Nat}{x1:List Nat}(N:Nat){r:List Nat}(h:bL x0 x1=some r):cz Try.prog 78 N [slc 1 (List.map af x0),slc 1 (List.map af x1)] (nw N (slc 1 (List.map af r))):=by
 refine aJ Try.func78 rfl (Nat.le_of_ble_eq_true rfl) (fun cS M vs hN hvs=>?_)
 unfold bL at h
 refine sr<|aI rfl (aA (N:=N) (n:=1) (e:=af))<|dn<|sr<|mv rfl<|lE h fun dW fP h=>ln rfl fP<|bE h fun iz me h=>RT.sE (e:=af) .none rfl rfl T rfl T me<|RT.alloc .none T rfl rfl<|RT.gA (cells:=[_]) .none rfl rfl rfl rfl T rfl<|dn<|sr<|RT.qy .none (bX 1) rfl ⟨rfl,trivial⟩ T rfl rfl<|RT.alloc .none T rfl rfl<|RT.nF (cells:=[_]) .none (s:=.dV _ _) rfl rfl rfl T rfl<|dn<|qq<|sr<|mv rfl ?_
 refine mv rfl<|cl (jT x0 x1) ⟨rfl,rfl,trivial⟩<|dn<|aq<|bE h fun e7 Qb Fb=>?_
 obtain⟨Fe,Qc,Qd,Qe⟩:=jc Qb
 refine fB (jU x0 x1) (fun _ _ _ _ _=>trivial) rfl (fun k=>AS.bR 28 [(5,.ptr 5 0),(6,.ptr 6 0),(15,.sv (gP 95 [ref [slc 1 (List.map af x0)],ref [slc 1 (List.map af x1)]]))] [(6,⟨118,[.dV 89 [.box 12]]⟩),(12,⟨96,[.sv (.v (.int .u64 (((Fe k).1:Nat):Int)))]⟩),(5,⟨48,[.row 302]⟩)] [(302,TR 110 1 af (Fe k).2)]) [6,12,5] rfl (fun _=>⟨rfl,rfl⟩) (nJ rfl) (fun _=>rfl) (nK rfl) (by(try dsimp only);rw[Qc];(try dsimp only);exact dm (fun i=>bif Nat.beq i 302 then 11 else i) rfl rfl rfl rfl rfl ⟨.ptr,.ptr,.sv (SV.aa _),trivial⟩ ⟨⟨_,rfl,⟨.dV,trivial⟩⟩,⟨_,rfl,⟨.sv (SV.aa _),trivial⟩⟩,⟨_,rfl,⟨.row rfl,trivial⟩⟩,trivial⟩ ⟨⟨_,rfl,bT.refl _⟩,trivial⟩ (fun i hi=>by rw[bU (show i≠302 by omega)];rfl)) (fun k hk D hD=>?_) ?_
 have h:=Qd k hk
 obtain⟨sk,Ff⟩:∃q,Fe k=q:=⟨_,rfl⟩
 rw[Ff]at h⊢
 obtain⟨rT,fo⟩:=sk
 dsimp only[AS.HX,n8]
 try dsimp only at h
 refine lE h fun TY Qg h=>?_
 rw[Qg]
 refine lE h fun TZ Qh h=>?_
 rw[Qh]
 refine sr<|ag rfl<|dn<|ah<|ag rfl<|RT.done ?_
 refine ae.n ⟨rfl,?_⟩
 dsimp only[AS.wY]
 refine aq<|ai mixed<|RT.dR .none (s:=.row _) rfl rfl rfl T<|RT.dR .none (s:=.dV _ _) rfl rfl rfl T<|mv rfl<|mv rfl<|lE h fun jS nN h=>sb _ rfl rfl (UK.sub (a:=4294967295) (b:=TZ) nN)<|lE h fun lN sj h=>ad _ rfl rfl (UK.add (a:=TY) (b:=jS) sj) ?_
 obtain⟨⟨gD,k9⟩,lP,h⟩:=bS h
 refine cB (aO lP) 12 rfl ⟨rfl,trivial⟩<|bl (l:=[gD]) (e:=af) (.one rfl (.nil)) rfl rfl rfl rfl rfl rfl<|bE h fun kz nO h=>aR (k:=[gD]) (e:=af) rfl rfl rfl nO<|RT.gA (cells:=[_]) .none rfl rfl rfl rfl T rfl ?_
 refine RT.done ⟨by kernel_rfl,?_⟩
 refine aH.n ?_
 replace h:=Option.some.inj h
 refine⟨trivial,rfl,rfl,?_⟩
 try dsimp only
 rw[←h]
 try dsimp only
 exact dm (fun i=>bif Nat.beq i 302 then 26 else i) rfl rfl rfl rfl rfl ⟨.ptr,.ptr,.sv (SV.aa _),trivial⟩ ⟨⟨_,rfl,⟨.dV,trivial⟩⟩,⟨_,rfl,⟨.sv (SV.aa _),trivial⟩⟩,⟨_,rfl,⟨.row rfl,trivial⟩⟩,trivial⟩ ⟨⟨_,rfl,bT.refl _⟩,trivial⟩ (fun i hi=>by rw[bU (show i≠302 by omega)];rfl)
 rw[Qe]
 obtain⟨rT,fo⟩:=e7
 try dsimp only
 refine aH.n<|ae.n<|sr<|RT.dR .none (s:=.row _) rfl rfl rfl T<|an (s:=.row _) rfl<|dn<|jy (i:=302) (E1:=110) (n:=1) (e:=af) (l:=fo) hN (fun _ h=>h) rfl<|aj ?_
 obtain rfl:=O Fb
 exact R1 rfl
theorem uT{x0:List Nat}{x1:List Nat}(N:Nat){r:List Nat}(h:dr x0 x1=some r):cz Try.prog 73 N [slc 1 (List.map af x0),slc 1 (List.map af x1)] (nw N (slc 1 (List.map af r))):=by
 refine aJ Try.func73 rfl (Nat.le_of_ble_eq_true rfl) (fun cS M vs hN hvs=>?_)
 unfold dr at h
 refine sr<|aI rfl (aA (N:=N) (n:=1) (e:=af))<|dn<|sr<|mv rfl<|lE h fun eG fE h=>ln rfl fE<|mv rfl<|lE h fun gY ku h=>ln rfl ku<|lE h fun fC gG h=>ad _ rfl rfl gG<|bE h fun jN lA h=>RT.kx (n:=1) (e:=af) .none rfl rfl T rfl T (by rfl) (by decide) (by exact⟨SV.aa _,trivial⟩) lA<|an (s:=.row _) rfl<|dn<|qq<|sr<|mv rfl<|lE h fun fg ij h=>ln rfl ij ?_
 refine mv rfl<|dn<|bE h fun Xm Qi Qj=>?_
 refine aW (fun(kI:(List Nat))=>AS.bR 63 [(5,.row 16)] [] [(16,TR 110 1 af kI)]) (fun kI=>kI=Xm) ?_ (fun kI Qk=>?_)
 refine aq ?_
 refine aX Qi (fun IX=>AS.bR 63 [(1,.sv (slc 1 (List.map af x1))),(5,.row 16),(17,.sv (slc 1 (List.map af x0))),(18,.sv (.v (.int .i64 fg))),(19,.sv (.v (.int .i64 IX.1)))] [] [(16,TR 110 1 af IX.2)]) (wR []) (fun IX y28 G28 h Ql Qm=>?_)
 obtain⟨jm,vG⟩:=IX
 try dsimp only
 refine sr<|lE h fun gx lz h=>ls _ rfl rfl lz<|dn<|qq ?_
 cases gx
 refine cF<|bj<|ae.x<|ae.x<|aH.x<|ae.n ?_
 obtain rfl:=O (F h)
 exact⟨vG,Qm _ rfl,wR []⟩
 refine cT<|aG<|ae.n<|qq<|aq<|sr<|mv rfl<|bE (V h) fun jS nN h=>ix rfl rfl nN<|lr rfl rfl<|ag rfl<|ag rfl<|dn<|sr<|RT.qy .none (bX 0) rfl ⟨rfl,trivial⟩ T rfl rfl<|an (s:=.dV _ _) rfl<|dn<|qq<|sr<|mv rfl<|lE h fun kz nO h=>ln rfl nO<|mv rfl<|dn<|bE h fun PJ Jx dP=>?_
 refine aW (fun(vM:Nat×(List Nat))=>AS.bR 63 [(1,.sv (slc 1 (List.map af x1))),(5,.row 16),(6,.sv (.v (.int .i64 jm))),(8,.dV 89 [.box 24]),(17,.sv (slc 1 (List.map af x0))),(18,.sv (.v (.int .i64 fg))),(19,.sv (.v (.int .i64 jm)))] [(24,⟨96,[.sv (.v (.int .u64 ((vM.1:Nat):Int)))]⟩)] [(16,TR 110 1 af vM.2)]) (fun vM=>vM=PJ) ?_ (fun vM Jy=>?_)
 refine aq ?_
 refine aX Jx (fun Bb=>AS.bR 63 [(1,.sv (slc 1 (List.map af x1))),(5,.row 16),(6,.sv (.v (.int .i64 jm))),(7,.sv (.v (.int .u32 ((jS:Nat):Int)))),(8,.dV 89 [.box 24]),(17,.sv (slc 1 (List.map af x0))),(18,.sv (.v (.int .i64 fg))),(19,.sv (.v (.int .i64 jm))),(25,.sv (slc 1 (List.map af x1))),(26,.sv (.v (.int .i64 kz))),(27,.sv (.v (.int .i64 Bb.1)))] [(24,⟨96,[.sv (.v (.int .u64 ((Bb.2.1:Nat):Int)))]⟩)] [(16,TR 110 1 af Bb.2.2)]) (wR []) (fun Bb y38 G38 h Jz JA=>?_)
 obtain⟨tc,oe,o5⟩:=Bb
 try dsimp only
 refine sr<|lE h fun og uC h=>ls _ rfl rfl uC<|dn<|qq ?_
 cases og
 refine cF<|bj<|ae.x<|ae.x<|aH.x<|ae.n ?_
 obtain rfl:=O (F h)
 exact⟨(oe,o5),JA _ rfl,wR []⟩
 refine cT<|aG<|ae.n<|qq<|aq<|sr<|mv rfl<|bE (V h) fun yB uD h=>ix rfl rfl uD<|lr rfl rfl<|ag rfl<|ag rfl<|dn<|ah<|mo (s:=.row _) rfl<|mv rfl<|mv rfl<|lE h fun uo B3 h=>ad _ rfl rfl B3<|mo (s:=.dV _ _) rfl<|mo (s:=.row _) rfl<|mv rfl<|mv rfl<|lE h fun mw nh h=>ad _ rfl rfl nh<|bE h fun qF w7 h=>iR rfl rfl rfl w7 ?_
 refine bE h fun qj w8 h=>lR rfl rfl w8 rfl<|lE h fun rU Aj h=>cv _ rfl (UK.nat Aj)<|mv rfl<|lE h fun Ah Fg h=>cv _ rfl (UK.nat Fg)<|mv rfl<|lE h fun yC yR h=>cv _ rfl (UK.nat yR)<|lE h fun ur h48 h=>RT.mul .none _ rfl rfl T (UK.mul (a:=Ah) (b:=yC) h48)<|lE h fun PI Mm h=>ad _ rfl rfl (UK.add (a:=rU) (b:=ur) Mm) ?_
 obtain⟨⟨sI,T1⟩,Ax,h⟩:=bS h
 refine cB (aO Ax) 24 rfl ⟨rfl,trivial⟩<|bE h fun BT B4 h=>iR rfl rfl rfl B4<|bE h fun LJ Dn h=>sR sI rfl rfl rfl rfl Dn<|RT.done<|aH.n<|ae.n<|ah<|lE h fun Ai B5 h=>ad _ rfl rfl B5<|mv rfl<|RT.done ?_
 obtain rfl:=O h
 exact ae.n ⟨(Ai,T1,LJ),Jz _ rfl,wR []⟩
 subst Jy
 obtain⟨yD,BU⟩:=vM
 try dsimp only
 refine ae.n<|ah<|mo (s:=.row _) rfl<|mv rfl<|mv rfl<|lE dP fun BV Fh dP=>ln rfl Fh<|lE dP fun LK Qn dP=>ad _ rfl rfl Qn<|mo (s:=.dV _ _) rfl ?_
 obtain⟨⟨EX,k45⟩,Mn,dP⟩:=bS dP
 refine cB (aO Mn) 24 rfl ⟨rfl,trivial⟩<|bE dP fun F9 Hg dP=>iR rfl rfl rfl Hg<|bE dP fun T2 JB dP=>sR EX rfl rfl rfl rfl JB<|RT.done<|aH.n<|ae.n<|ah<|lE dP fun BW JC dP=>ad _ rfl rfl JC<|mv rfl<|RT.done ?_
 obtain rfl:=O dP
 exact ae.n ⟨(BW,T2),Ql _ rfl,wR []⟩
 subst Qk
 try dsimp only
 refine ae.n<|sr<|mo (s:=.row _) rfl<|an (s:=.row _) rfl<|dn<|jy (i:=16) (E1:=110) (n:=1) (e:=af) (l:=kI) hN (fun _ h=>h) rfl<|aj ?_
 obtain rfl:=O Qj
 exact R1 rfl
set_option maxHeartbeats 4000000 in
theorem vU{x0:List Nat}{x1:List Nat}(N:Nat){r:(List Nat)×(List Nat)}(h:eC x0 x1=some r):cz Try.prog 87 N [slc 1 (List.map af x0),slc 1 (List.map af x1)] (.sN [nw N (slc 1 (List.map af r.1)),nw N (slc 1 (List.map af r.2))]):=by
 refine aJ Try.func87 rfl (Nat.le_of_ble_eq_true rfl) (fun cS M vs hN hvs=>?_)
 unfold eC at h
 refine sr<|ag rfl<|ag rfl<|dn<|bt (jo 4 306 110 1 rfl rfl T)<|bt (jo 5 308 110 1 rfl rfl T)<|sr<|mv rfl<|lE h fun fR kL h=>ln rfl kL<|ag rfl<|dn<|sr<|mv rfl<|mv rfl<|lE h fun gx lz h=>sb _ rfl rfl lz<|bE h fun mc qO h=>ix rfl rfl qO<|lr rfl rfl<|bE h fun lN sj h=>cl (iA sj) ⟨rfl,trivial⟩ ?_
 refine lE h fun gD lP h=>cv _ rfl (UK.conv lP)<|ag rfl<|dn<|qq<|ai mixed<|mv rfl<|mv rfl<|bE h fun lf oR h=>cN (lZ oR) ⟨rfl,rfl,trivial⟩<|mv rfl<|mv rfl<|bE h fun yB uD h=>cl (mD uD) ⟨rfl,rfl,trivial⟩<|mv rfl<|bE h fun ig jK h=>RT.EV .none 0 fR rfl rfl ⟨_,rfl⟩ T jK<|an (s:=.row _) rfl<|ag rfl ?_
 refine RT.done ⟨by kernel_rfl,?_⟩
 refine ae.n<|sr<|mv rfl<|lE h fun nY pC h=>ln rfl pC<|mv rfl<|lE h fun oQ ot h=>sb _ rfl rfl ot<|lE h fun si vO h=>ad _ rfl rfl vO<|bE h fun w6 Dm h=>RT.kx (n:=1) (e:=af) .none rfl rfl T rfl T (by rfl) (by decide) (by exact⟨SV.aa _,trivial⟩) Dm<|an (s:=.row _) rfl<|dn<|qq<|sr<|mv rfl<|lE h fun mw nh h=>ln rfl nh<|mv rfl<|lE h fun qj w8 h=>sb _ rfl rfl w8 ?_
 refine ag rfl<|dn<|bE h fun Ug Qo Fo=>?_
 refine aW (fun(vQ:(List Nat)×(List Nat))=>AS.bR 141 [(4,.row 38),(6,.sv (.v (.int .i64 fR))),(7,.sv (.v (.int .u64 ((gD:Nat):Int)))),(8,.row 27)] [] [(38,TR 110 1 af vQ.1),(27,TR 110 1 af vQ.2)]) (fun vQ=>vQ=Ug) ?_ (fun vQ Qp=>?_)
 refine aq ?_
 refine aX Qo (fun G3=>AS.bR 141 [(4,.row 38),(6,.sv (.v (.int .i64 fR))),(7,.sv (.v (.int .u64 ((gD:Nat):Int)))),(8,.row 27),(9,.sv (slc 1 (List.map af ig))),(10,.sv (.v (.int .i64 G3.1)))] [] [(38,TR 110 1 af G3.2.1),(27,TR 110 1 af G3.2.2)]) (wR []) (fun G3 y36 G36 h Qq Qs=>?_)
 obtain⟨eV,kJ,nM⟩:=G3
 try dsimp only
 refine qq<|sr<|mv rfl<|lE h fun vI w9 h=>ge _ rfl rfl w9<|dn ?_
 cases vI
 refine cF<|bj<|ae.x<|ae.x<|aH.x<|ae.n ?_
 obtain rfl:=O (F h)
 exact⟨(kJ,nM),Qs _ rfl,wR []⟩
 refine cT<|aG<|ae.n<|qq<|aq<|sr<|mo (s:=.row _) rfl<|mv rfl<|mv rfl<|mv rfl<|lE (V h) fun BT B4 h=>ad _ rfl rfl B4<|lE h fun Ai B5 h=>ad _ rfl rfl B5 ?_
 obtain⟨⟨Xb,Xc⟩,Mo,h⟩:=bS h
 refine RT.Md .none eV Ai rfl rfl ⟨_,rfl⟩ ⟨_,rfl⟩ T Mo<|mv rfl ?_
 obtain⟨⟨tW,LL⟩,Fi,h⟩:=bS h
 refine bE h fun _ Qt h=>cR (l:=nM) (l':=LL) (e:=af) (nk Fi) (gB Qt) 27 rfl (.cons rfl (.cons rfl (.nil)))<|ag rfl<|dn<|qq<|sr<|mo (s:=.row _) rfl<|mv rfl<|mv rfl<|mv rfl<|lE h fun F9 Hg h=>ad _ rfl rfl Hg<|lE h fun BW JC h=>ad _ rfl rfl JC ?_
 obtain⟨⟨Xd,Xe⟩,Xp,h⟩:=bS h
 refine RT.Md .none eV BW rfl rfl ⟨_,rfl⟩ ⟨_,rfl⟩ T Xp<|mv rfl<|mv rfl ?_
 obtain⟨⟨T7,G4⟩,Xq,h⟩:=bS h
 refine bE h fun _ Qu h=>cR (l:=LL) (l':=G4) (e:=af) (jl Xq) (gB Qu) 27 rfl (.cons rfl (.cons rfl (.cons rfl (.nil))))<|dn ?_
 refine aF h (fun G5=>AS.bR 141 [(4,.row 38),(6,.sv (.v (.int .i64 fR))),(7,.sv (.v (.int .u64 ((gD:Nat):Int)))),(8,.row 27),(9,.sv (slc 1 (List.map af ig))),(10,.sv (.v (.int .i64 eV))),(11,.sv (.v (.int .u64 ((G5.1:Nat):Int))))] [] [(38,TR 110 1 af kJ),(27,TR 110 1 af G5.2)]) (fun h=>?_) (fun G5 h=>?_)
 cases T7
 exact fs<|⟨(tW,G4),(F h),wR []⟩
 refine cT<|sr<|mv rfl<|lE (V h) fun H6 Qv h=>sb _ rfl rfl (UK.sub (a:=tW) (b:=1) Qv)<|ag rfl<|dn<|sr<|RT.qy .none (bX 0) rfl ⟨rfl,trivial⟩ T rfl rfl<|an (s:=.dV _ _) rfl<|dn<|qq<|sr<|mv rfl<|lE h fun I8 Up h=>ln rfl Up<|mv rfl<|dn<|bE h fun Ue Qw iL=>?_
 refine aW (fun(vR:Nat×(List Nat))=>AS.bR 141 [(4,.row 38),(6,.sv (.v (.int .i64 fR))),(7,.sv (.v (.int .u64 ((gD:Nat):Int)))),(8,.row 27),(9,.sv (slc 1 (List.map af ig))),(10,.sv (.v (.int .i64 eV))),(11,.sv (.v (.int .u64 ((H6:Nat):Int)))),(12,.dV 89 [.box 68])] [(68,⟨96,[.sv (.v (.int .u64 ((vR.1:Nat):Int)))]⟩)] [(38,TR 110 1 af kJ),(27,TR 110 1 af vR.2)]) (fun vR=>vR=Ue) ?_ (fun vR Qx=>?_)
 refine aq ?_
 refine aX Qw (fun G7=>AS.bR 141 [(4,.row 38),(6,.sv (.v (.int .i64 fR))),(7,.sv (.v (.int .u64 ((gD:Nat):Int)))),(8,.row 27),(9,.sv (slc 1 (List.map af ig))),(10,.sv (.v (.int .i64 eV))),(11,.sv (.v (.int .u64 ((H6:Nat):Int)))),(12,.dV 89 [.box 68]),(69,.sv (slc 1 (List.map af ig))),(70,.sv (.v (.int .i64 I8))),(71,.sv (.v (.int .i64 G7.1)))] [(68,⟨96,[.sv (.v (.int .u64 ((G7.2.1:Nat):Int)))]⟩)] [(38,TR 110 1 af kJ),(27,TR 110 1 af G7.2.2)]) (wR []) (fun G7 y65 G65 h Qy Qz=>?_)
 obtain⟨td,oh,o9⟩:=G7
 try dsimp only
 refine sr<|lE h fun H7 QA h=>ls _ rfl rfl QA<|dn<|qq ?_
 cases H7
 refine cF<|bj<|ae.x<|ae.x<|aH.x<|ae.n ?_
 obtain rfl:=O (F h)
 exact⟨(oh,o9),Qz _ rfl,wR []⟩
 refine cT<|aG<|ae.n<|qq<|aq<|sr<|mv rfl<|bE (V h) fun Xf Xr h=>ix rfl rfl Xr<|lr rfl rfl<|ag rfl<|ag rfl<|dn<|ah<|mo (s:=.row _) rfl<|mv rfl<|mv rfl<|lE h fun LM QB h=>ad _ rfl rfl QB<|mo (s:=.dV _ _) rfl<|mo (s:=.row _) rfl<|mv rfl<|mv rfl<|lE h fun Xg Xs h=>ad _ rfl rfl Xs<|bE h fun S0 Uq h=>iR rfl rfl rfl Uq ?_
 refine bE h fun PM Ur h=>lR rfl rfl Ur rfl<|lE h fun Mk Us h=>cv _ rfl (UK.nat Us)<|mv rfl<|lE h fun T9 Xt h=>cv _ rfl (UK.nat Xt)<|lE h fun PN Ut h=>ad _ rfl rfl (UK.add (a:=Mk) (b:=T9) Ut) ?_
 obtain⟨⟨Ua,Ub⟩,Xu,h⟩:=bS h
 refine cB (aO Xu) 68 rfl ⟨rfl,trivial⟩<|bE h fun Xh Xv h=>iR rfl rfl rfl Xv<|bE h fun Uc JD h=>sR Ua rfl rfl rfl rfl JD<|RT.done<|aH.n<|ae.n<|ah<|lE h fun Ud Xw h=>ad _ rfl rfl Xw<|mv rfl<|RT.done ?_
 obtain rfl:=O h
 exact ae.n ⟨(Ud,Ub,Uc),Qy _ rfl,wR []⟩
 subst Qx
 obtain⟨yG,vJ⟩:=vR
 try dsimp only
 refine ae.n<|ah<|mo (s:=.row _) rfl<|mv rfl<|mv rfl<|lE iL fun Xi Xx iL=>ad _ rfl rfl Xx<|mo (s:=.dV _ _) rfl<|mo (s:=.row _) rfl<|mv rfl<|mv rfl<|lE iL fun PO QC iL=>ad _ rfl rfl QC<|bE iL fun E5 JE iL=>iR rfl rfl rfl JE<|bE iL fun PR QD iL=>lR rfl rfl QD rfl<|lE iL fun PS QE iL=>cv _ rfl (UK.nat QE) ?_
 obtain⟨⟨I9,k72⟩,QF,iL⟩:=bS iL
 exact cB (aO QF) 68 rfl ⟨rfl,trivial⟩<|bE iL fun PT QG iL=>iR rfl rfl rfl QG<|bE iL fun Uf JF iL=>sR I9 rfl rfl rfl rfl JF<|dn<|⟨(H6,Uf),iL,wR []⟩
 obtain⟨E4,yF⟩:=G5
 try dsimp only
 refine ae.n<|ah<|mo (s:=.row _) rfl<|mv rfl<|mv rfl<|lE h fun I7 QH h=>cv _ rfl (UK.nat QH)<|bE h fun PL QI h=>iR rfl rfl rfl QI<|bE h fun T8 JG h=>sR I7 rfl rfl rfl rfl JG<|RT.done<|aH.n<|ae.n<|ah<|mv rfl<|lE h fun rV h46 h=>sb _ rfl rfl h46<|ag rfl<|RT.done ?_
 obtain rfl:=O h
 exact ae.n ⟨(rV,T8,yF),Qq _ rfl,wR []⟩
 subst Qp
 obtain⟨pg,qG⟩:=vQ
 try dsimp only
 refine ae.n<|sr<|mv rfl<|bE Fo fun PU QJ Fo=>RT.kx (n:=1) (e:=af) .none rfl rfl T rfl T (by rfl) (by decide) (by exact⟨SV.aa _,trivial⟩) QJ<|an (s:=.row _) rfl<|dn<|qq<|sr<|mv rfl<|mv rfl<|dn<|bE Fo fun Xy QK QL=>?_
 refine aW (fun(jd:(List Nat))=>AS.bR 141 [(4,.row 38),(5,.row 114)] [] [(38,TR 110 1 af pg),(114,TR 110 1 af jd)]) (fun jd=>jd=Xy) ?_ (fun jd QM=>?_)
 refine aq ?_
 refine aX QK (fun Ja=>AS.bR 141 [(4,.row 38),(5,.row 114),(7,.sv (.v (.int .u64 ((gD:Nat):Int)))),(8,.row 27),(115,.sv (.v (.int .i64 fR))),(116,.sv (.v (.int .i64 Ja.1)))] [] [(38,TR 110 1 af pg),(114,TR 110 1 af Ja.2),(27,TR 110 1 af qG)]) (wR []) (fun Ja y81 G81 h QN QO=>?_)
 obtain⟨pq,pz⟩:=Ja
 try dsimp only
 refine sr<|lE h fun Jb QS h=>ls _ rfl rfl QS<|dn<|qq ?_
 cases Jb
 refine cF<|bj<|ae.x<|ae.x<|aH.x<|ae.n ?_
 obtain rfl:=O (F h)
 exact⟨pz,QO _ rfl,wR []⟩
 refine cT<|aG<|ae.n<|qq<|aq<|sr<|mv rfl<|ag rfl<|dn<|ai mixed<|mo (s:=.row _) rfl<|mv rfl<|mo (s:=.row _) rfl<|mv rfl<|bE (V h) fun PW QT h=>iR rfl rfl rfl QT<|bE h fun PX QU h=>lR rfl rfl QU rfl<|lE h fun Jc QV h=>cv _ rfl (UK.nat QV)<|mo (s:=.row _) rfl<|mv rfl<|lE h fun PY h128 h=>ad _ rfl rfl h128<|bE h fun PZ QW h=>?_
 refine iR rfl rfl rfl QW<|bE h fun P0 QX h=>lR rfl rfl QX rfl<|lE h fun Jd QY h=>cv _ rfl (UK.nat QY)<|lE h fun Je QZ h=>RT.shl .none _ rfl rfl T (by decide) (UK.shl (a:=Jd) (q:=32) (s:=32) rfl QZ)<|lE h fun Jf Q0 h=>RT.or .none _ rfl rfl T (UK.or (a:=Jc) (b:=Je) Q0)<|mv rfl<|lE h fun P1 Q1 h=>RT.shr .none _ rfl rfl T (Int.natCast_nonneg _) (wZ (k:=.u64) (a:=Jf) (q:=((gD:Nat):Int)) (s:=min gD 64) rfl Q1)<|lE h fun Jg Q2 h=>cv _ rfl (UK.nat Q2) ?_
 refine bE h fun P2 Q3 h=>iR rfl rfl rfl Q3<|bE h fun Uh JH h=>sR Jg rfl rfl rfl rfl JH ?_
 refine RT.done ⟨by kernel_rfl,?_⟩
 refine aH.n<|ae.n<|ah<|lE h fun Jh Q4 h=>ad _ rfl rfl Q4<|mv rfl<|RT.done ?_
 obtain rfl:=O h
 exact ae.n ⟨(Jh,Uh),QN _ rfl,wR []⟩
 subst QM
 try dsimp only
 refine ae.n<|sr<|mo (s:=.row _) rfl<|mo (s:=.row _) rfl<|an (s:=.row _) rfl<|an (s:=.row _) rfl<|dn<|jy (i:=38) (E1:=110) (n:=1) (e:=af) (l:=pg) hN (fun _ h=>h) rfl<|jy (i:=114) (E1:=110) (n:=1) (e:=af) (l:=jd) hN (fun _ h=>h) rfl<|aj ?_
 obtain rfl:=O QL
 exact R2 rfl rfl
theorem ny{x0:List Nat}{x1:List Nat}(N:Nat){r:(List Nat)×(List Nat)}(h:dw x0 x1=some r):cz Try.prog 76 N [slc 1 (List.map af x0),slc 1 (List.map af x1)] (.sN [nw N (slc 1 (List.map af r.1)),nw N (slc 1 (List.map af r.2))]):=by
 refine aJ Try.func76 rfl (Nat.le_of_ble_eq_true rfl) (fun cS M vs hN hvs=>?_)
 unfold dw at h
 refine sr<|ag rfl<|aI rfl (aA (N:=N) (n:=1) (e:=af))<|dn<|bt (jo 4 304 110 1 rfl rfl T)<|qq<|aq<|sr<|mv rfl<|mv rfl<|bE h fun eG fE h=>cl (cW fE) ⟨rfl,rfl,trivial⟩<|lE h fun gC fS h=>ls _ rfl rfl fS<|ag rfl<|dn ?_
 cases gC
 refine cF<|sr<|mv rfl<|lE (F h) fun fg ij h=>ln rfl ij<|lE h fun k8 jM h=>RT.leq .none _ rfl rfl T jM<|ag rfl<|dn ?_
 cases k8
 refine cF<|sr<|mv rfl<|lE (F h) fun oQ ot h=>ln rfl ot<|lE h fun si vO h=>eq _ rfl rfl (rR (p:=oQ) (q:=1) vO)<|ag rfl<|dn ?_
 cases si
 refine cF<|aG<|aH.n<|ae.n<|sr<|mv rfl<|mv rfl ?_
 obtain⟨⟨P3,P4⟩,B5,h⟩:=bS (F h)
 refine RT.aQ .none (vU N B5) hN rfl ⟨rfl,rfl,trivial⟩ T<|ex rfl rfl<|ex rfl rfl<|ag rfl<|ag rfl<|dn<|aj ?_
 obtain rfl:=O h
 exact R2 rfl rfl
 refine cT<|sr<|mv rfl<|bE (V h) fun rX Ay h=>cN (kK Ay) ⟨rfl,trivial⟩<|an (s:=.row _) rfl<|dn<|sr<|mo (s:=.row _) rfl<|mv rfl<|bE h fun qj w8 h=>ix rfl rfl w8<|lr rfl rfl<|lE h fun vI w9 h=>cv _ rfl (UK.nat w9) ?_
 obtain⟨⟨Ah,l5⟩,Fg,h⟩:=bS h
 refine bE h fun _ Xz h=>cR (l:=rX) (l':=l5) (e:=af) (nj Fg) (gB Xz) 39 rfl (.cons rfl (.cons rfl (.nil)))<|ag rfl<|dn<|sr<|mo (s:=.row _) rfl<|mv rfl<|lE h fun ur h48 h=>cv _ rfl (UK.nat h48)<|RT.uS (l:=[ur]) (e:=af) .none hN (.one rfl (.nil)) T rfl rfl rfl rfl rfl rfl<|an (s:=.row _) rfl<|ag rfl<|dn<|jy (i:=39) (E1:=110) (n:=1) (e:=af) (l:=l5) hN (fun _ h=>h) rfl ?_
 refine aj<|aH.r<|ae.r ?_
 obtain rfl:=O h
 exact R2 rfl rfl
 refine cT<|sr<|mv rfl<|bE (V h) fun mc qO h=>cl (cL qO) ⟨rfl,trivial⟩<|mv rfl<|bE h fun lN sj h=>cl (cL sj) ⟨rfl,trivial⟩<|ag rfl<|ag rfl<|dn<|qq<|ai mixed<|mv rfl<|mv rfl<|bE h fun kz nO h=>RT.quo .none _ rfl rfl T (VS nO) (UK.quo nO) ?_
 obtain⟨⟨NT,Ji⟩,oR,h⟩:=bS h
 refine RT.aQ .none (iW N oR) hN rfl ⟨rfl,rfl,trivial⟩ T<|fl rfl rfl<|mv rfl<|mv rfl<|bE h fun qg uA h=>RT.rem .none _ rfl rfl T (SW uA) (GY uA) ?_
 obtain⟨⟨lj,kA⟩,jK,h⟩:=bS h
 refine RT.aQ .none (iW N jK) hN rfl ⟨rfl,rfl,trivial⟩ T<|fl rfl rfl<|ag rfl<|ag rfl ?_
 refine RT.done ⟨by kernel_rfl,?_⟩
 refine ae.n<|aj<|aH.r<|ae.r ?_
 obtain rfl:=O h
 exact R2 rfl rfl
 refine cT<|sr<|mv rfl<|bE (V h) fun fC gG h=>RT.aQ .none (lQ N gG) hN rfl ⟨rfl,trivial⟩ T<|ag rfl<|ag rfl<|dn<|bt (jo 4 310 110 1 rfl rfl T)<|jy (i:=310) (E1:=110) (n:=1) (e:=af) (l:=[]) hN (fun _ h=>h) rfl<|aj<|aH.r<|ae.r ?_
 obtain rfl:=O h
 exact R2 rfl rfl
end Go.Proofs.Ytningmnklfpfjaa
namespace Go.Proofs.Ytningmnklfpfjaa
open Go.Fw Go.Fw.Z Go.RowKit
theorem e5{x0:Int}(N:Nat){r:Zr}(h:aY x0=some r):cz Try.prog 40 N [.v (.int .i64 x0)] (.agg ((fZ N) r)):=by
 refine aJ Try.func40 rfl (Nat.le_of_ble_eq_true rfl) (fun cS M vs hN hvs=>?_)
 unfold aY at h
 refine sr<|al (cs:=[.v (.bool false),nw N (slc 1 (List.map af []))]) (by exact⟨SV.aa _,aA,trivial⟩) rfl<|dn<|sr<|mv rfl<|lE h fun x5 h5 h=>cv _ rfl (UK.conv h5)<|ag rfl<|dn<|qq<|sr<|mv rfl<|lE h fun x7 h7 h=>ls _ rfl rfl h7<|dn ?_
 refine aF h (fun j2=>AS.bR 14 [(0,.sv (.v (.int .i64 x0))),(2,.ptr 2 0),(3,.sv (.v (.int .u64 ((j2:Nat):Int))))] [(2,⟨50,[.sv (.v (.bool false)),.sv (nw N (slc 1 (List.map af [])))]⟩)] []) (fun h=>?_) (fun P5 h=>?_)
 cases x7
 exact fs<|⟨x5,(F h),wR []⟩
 exact cT<|ah<|mv rfl<|lE (V h) fun x9 h9 h=>RT.neg .none _ rfl T (UK.neg h9)<|ag rfl<|dn<|⟨x9,h,wR []⟩
 try dsimp only
 refine ae.n<|sr<|mv rfl<|lE h fun iz me h=>ls _ rfl rfl me<|mv rfl ?_
 obtain⟨⟨Bd,Be⟩,fS,h⟩:=bS h
 refine RT.aQ .none (iW N fS) hN rfl ⟨rfl,rfl,trivial⟩ T<|so rfl rfl rfl<|dn<|aj ?_
 obtain rfl:=O h
 exact RZ (.agg rfl rfl (.cons rfl (.cons rfl (.nil))) rfl (.nil))
theorem mQ{x0:Bool}{x1:List Nat}{x2:Bool}{x3:List Nat}(N:Nat){r:Zr}(h:bP x0 x1 x2 x3=some r):cz Try.prog 90 N [.v (.bool x0),slc 1 (List.map af x1),.v (.bool x2),slc 1 (List.map af x3)] (.agg ((fZ N) r)):=by
 refine aJ Try.func90 rfl (Nat.le_of_ble_eq_true rfl) (fun cS M vs hN hvs=>?_)
 unfold bP at h
 refine sr<|al (cs:=[.v (.bool false),nw N (slc 1 (List.map af []))]) (by exact⟨SV.aa _,aA,trivial⟩) rfl<|dn<|qq<|sr<|mv rfl<|mv rfl<|lE h fun iz me h=>RT.Tl .none _ rfl rfl T me<|dn ?_
 cases iz
 refine fs<|qq<|sr<|mv rfl<|mv rfl<|bE (F h) fun k8 jM h=>cl (cW jM) ⟨rfl,rfl,trivial⟩<|lE h fun gx lz h=>ls _ rfl rfl lz<|dn ?_
 cases gx
 refine fs<|sr<|mv rfl<|mv rfl<|mv rfl<|bE (F h) fun gO iK h=>RT.aQ .none (j9 N iK) hN rfl ⟨rfl,rfl,trivial⟩ T ?_
 obtain⟨⟨mA,mB⟩,uD,h⟩:=bS h
 refine RT.aQ .none (ef N uD) hN rfl ⟨rfl,rfl,trivial⟩ T<|so rfl rfl rfl<|dn<|aj ?_
 obtain rfl:=O h
 exact RZ (.agg rfl rfl (.cons rfl (.cons rfl (.nil))) rfl (.nil))
 refine cT<|sr<|mv rfl<|mv rfl<|mv rfl<|bE (V h) fun gD lP h=>RT.aQ .none (j9 N lP) hN rfl ⟨rfl,rfl,trivial⟩ T ?_
 obtain⟨⟨gQ,gR⟩,pB,h⟩:=bS h
 refine RT.aQ .none (ef N pB) hN rfl ⟨rfl,rfl,trivial⟩ T<|so rfl rfl rfl<|dn<|aj<|ae.r ?_
 obtain rfl:=O h
 exact RZ (.agg rfl rfl (.cons rfl (.cons rfl (.nil))) rfl (.nil))
 refine cT<|sr<|mv rfl<|mv rfl<|mv rfl<|bE (V h) fun fC gG h=>RT.aQ .none (nx N gG) hN rfl ⟨rfl,rfl,trivial⟩ T ?_
 obtain⟨⟨lp,lq⟩,lA,h⟩:=bS h
 refine RT.aQ .none (ef N lA) hN rfl ⟨rfl,rfl,trivial⟩ T<|so rfl rfl rfl<|dn<|aj<|ae.r ?_
 obtain rfl:=O h
 exact RZ (.agg rfl rfl (.cons rfl (.cons rfl (.nil))) rfl (.nil))
theorem Cq{x0:Zr}{x1:Zr}(N:Nat){r:Zr}(h:iH x0 x1=some r):cz Try.prog 81 N [.agg (eZ x0),.agg (eZ x1)] (.agg ((fZ N) r)):=by
 obtain⟨aC,aD⟩:=x0
 obtain⟨bp,bn⟩:=x1
 refine aJ Try.func81 rfl (Nat.le_of_ble_eq_true rfl) (fun cS M vs hN hvs=>?_)
 unfold iH at h
 refine sr<|bx rfl<|bx rfl<|al (cs:=[.v (.bool false),nw N (slc 1 (List.map af []))]) (by exact⟨SV.aa _,aA,trivial⟩) rfl<|dn<|sr<|ld rfl rfl (.cons rfl (.cons rfl (.nil))) ?_
 obtain⟨⟨uz,yH⟩,fE,h⟩:=bS h
 refine cl (cw fE) ⟨rfl,trivial⟩<|mv rfl<|ex rfl rfl<|ex rfl rfl<|ag rfl<|ag rfl<|dn<|sr<|ld rfl rfl (.cons rfl (.cons rfl (.nil))) ?_
 obtain⟨⟨vK,yI⟩,kL,h⟩:=bS h
 refine cl (cw kL) ⟨rfl,trivial⟩<|mv rfl<|ex rfl rfl<|ex rfl rfl<|ag rfl<|ag rfl<|dn<|qq<|qq ?_
 refine aF h (fun j3=>AS.bR 48 [(2,.ptr 2 0),(3,.ptr 3 0),(4,.ptr 4 0),(5,.sv (.v (.int .i64 uz))),(7,.sv (.v (.int .i64 vK))),(23,.sv (.v (.bool j3)))] [(4,⟨50,[.sv (.v (.bool false)),.sv (nw N (slc 1 (List.map af [])))]⟩),(3,⟨50,[.sv (.v (.bool bp)),.sv (slc 1 (List.map af bn))]⟩),(2,⟨50,[.sv (.v (.bool aC)),.sv (slc 1 (List.map af aD))]⟩)] []) (fun h=>?_) (fun qH h=>?_)
 refine ah<|mv rfl<|mv rfl<|bE h fun yJ xb h=>?_
 cases yH
 obtain rfl:=O (F xb)
 exact ww<|pF rfl<|dn<|⟨false,h,wR []⟩
 refine gm rfl ?_
 obtain rfl:=O (V xb)
 exact pT rfl<|dn<|⟨yI,h,wR []⟩
 try dsimp only
 refine ae.n ?_
 refine aF h (fun j5=>AS.bR 48 [(2,.ptr 2 0),(3,.ptr 3 0),(4,.ptr 4 0)] [(4,⟨50,[.sv (.v (.bool false)),.sv (nw N (slc 1 (List.map af [])))]⟩),(3,⟨50,[.sv (.v (.bool bp)),.sv (slc 1 (List.map af bn))]⟩),(2,⟨50,[.sv (.v (.bool aC)),.sv (slc 1 (List.map af aD))]⟩)] []) (fun h=>?_) (fun j5 h=>?_)
 cases qH
 exact fs<|⟨(),(F h),wR []⟩
 refine cT<|sr<|mv rfl<|mv rfl<|lE (V h) fun kz nO h=>ad _ rfl rfl nO<|ag rfl<|dn<|sr<|mv rfl<|mv rfl<|lE h fun gO iK h=>RT.xor .none _ rfl rfl T iK<|mv rfl<|mv rfl<|lE h fun ig jK h=>RT.xor .none _ rfl rfl T jK<|lE h fun o8 pD h=>RT.and .none _ rfl rfl T pD<|lE h fun nY pC h=>ge _ rfl rfl pC<|dn ?_
 cases nY
 exact fs<|⟨(),(F h),wR []⟩
 refine cT<|sr<|mv rfl ?_
 obtain⟨⟨qJ,qK⟩,ot,h⟩:=bS (V h)
 refine RT.aQ .none (e5 N ot) hN rfl ⟨rfl,trivial⟩ T<|so rfl rfl rfl<|dn<|aj<|ae.r<|ae.r ?_
 obtain rfl:=O h
 exact RZ (.agg rfl rfl (.cons rfl (.cons rfl (.nil))) rfl (.nil))
 try dsimp only
 refine ae.n<|qq<|ai mixed<|fa rfl rfl<|lV rfl rfl rfl<|fa rfl rfl<|lV rfl rfl rfl<|bE h fun qF w7 h=>cl (aK w7) ⟨rfl,trivial⟩<|fa rfl rfl<|lV rfl rfl rfl<|fa rfl rfl<|lV rfl rfl rfl<|bE h fun rV h46 h=>cl (aK h46) ⟨rfl,trivial⟩ ?_
 obtain⟨⟨Bf,Bg⟩,yR,h⟩:=bS h
 refine RT.aQ .none (mQ N yR) hN rfl ⟨rfl,rfl,rfl,rfl,trivial⟩ T<|so rfl rfl rfl ?_
 refine RT.done ⟨by kernel_rfl,?_⟩
 refine ae.n<|aj ?_
 obtain rfl:=O h
 exact RZ (.agg rfl rfl (.cons rfl (.cons rfl (.nil))) rfl (.nil))
theorem Cr{x0:Zr}{x1:Zr}(N:Nat){r:Zr}(h:iI x0 x1=some r):cz Try.prog 83 N [.agg (eZ x0),.agg (eZ x1)] (.agg ((fZ N) r)):=by
 obtain⟨aC,aD⟩:=x0
 obtain⟨bp,bn⟩:=x1
 refine aJ Try.func83 rfl (Nat.le_of_ble_eq_true rfl) (fun cS M vs hN hvs=>?_)
 unfold iI at h
 refine sr<|bx rfl<|bx rfl<|al (cs:=[.v (.bool false),nw N (slc 1 (List.map af []))]) (by exact⟨SV.aa _,aA,trivial⟩) rfl<|dn<|sr<|ld rfl rfl (.cons rfl (.cons rfl (.nil))) ?_
 obtain⟨⟨uz,yH⟩,fE,h⟩:=bS h
 refine cl (cw fE) ⟨rfl,trivial⟩<|mv rfl<|ex rfl rfl<|ex rfl rfl<|ag rfl<|ag rfl<|dn<|sr<|ld rfl rfl (.cons rfl (.cons rfl (.nil))) ?_
 obtain⟨⟨vK,yI⟩,kL,h⟩:=bS h
 refine cl (cw kL) ⟨rfl,trivial⟩<|mv rfl<|ex rfl rfl<|ex rfl rfl<|ag rfl<|ag rfl<|dn<|qq<|qq ?_
 refine aF h (fun j3=>AS.bR 49 [(2,.ptr 2 0),(3,.ptr 3 0),(4,.ptr 4 0),(5,.sv (.v (.int .i64 uz))),(7,.sv (.v (.int .i64 vK))),(23,.sv (.v (.bool j3)))] [(4,⟨50,[.sv (.v (.bool false)),.sv (nw N (slc 1 (List.map af [])))]⟩),(3,⟨50,[.sv (.v (.bool bp)),.sv (slc 1 (List.map af bn))]⟩),(2,⟨50,[.sv (.v (.bool aC)),.sv (slc 1 (List.map af aD))]⟩)] []) (fun h=>?_) (fun qH h=>?_)
 refine ah<|mv rfl<|mv rfl<|bE h fun yJ xb h=>?_
 cases yH
 obtain rfl:=O (F xb)
 exact ww<|pF rfl<|dn<|⟨false,h,wR []⟩
 refine gm rfl ?_
 obtain rfl:=O (V xb)
 exact pT rfl<|dn<|⟨yI,h,wR []⟩
 try dsimp only
 refine ae.n ?_
 refine aF h (fun j5=>AS.bR 49 [(2,.ptr 2 0),(3,.ptr 3 0),(4,.ptr 4 0)] [(4,⟨50,[.sv (.v (.bool false)),.sv (nw N (slc 1 (List.map af [])))]⟩),(3,⟨50,[.sv (.v (.bool bp)),.sv (slc 1 (List.map af bn))]⟩),(2,⟨50,[.sv (.v (.bool aC)),.sv (slc 1 (List.map af aD))]⟩)] []) (fun h=>?_) (fun j5 h=>?_)
 cases qH
 exact fs<|⟨(),(F h),wR []⟩
 refine cT<|sr<|mv rfl<|mv rfl<|lE (V h) fun kz nO h=>sb _ rfl rfl nO<|ag rfl<|dn<|sr<|mv rfl<|mv rfl<|lE h fun gO iK h=>RT.xor .none _ rfl rfl T iK<|mv rfl<|mv rfl<|lE h fun ig jK h=>RT.xor .none _ rfl rfl T jK<|lE h fun o8 pD h=>RT.and .none _ rfl rfl T pD<|lE h fun nY pC h=>ge _ rfl rfl pC<|dn ?_
 cases nY
 exact fs<|⟨(),(F h),wR []⟩
 refine cT<|sr<|mv rfl ?_
 obtain⟨⟨qJ,qK⟩,ot,h⟩:=bS (V h)
 refine RT.aQ .none (e5 N ot) hN rfl ⟨rfl,trivial⟩ T<|so rfl rfl rfl<|dn<|aj<|ae.r<|ae.r ?_
 obtain rfl:=O h
 exact RZ (.agg rfl rfl (.cons rfl (.cons rfl (.nil))) rfl (.nil))
 try dsimp only
 refine ae.n<|qq<|ai mixed<|fa rfl rfl<|lV rfl rfl rfl<|fa rfl rfl<|lV rfl rfl rfl<|bE h fun qF w7 h=>cl (aK w7) ⟨rfl,trivial⟩<|fa rfl rfl<|lV rfl rfl rfl<|lE h fun vI w9 h=>nt rfl _ w9<|fa rfl rfl<|lV rfl rfl rfl<|bE h fun yC yR h=>cl (aK yR) ⟨rfl,trivial⟩ ?_
 obtain⟨⟨Jj,Jk⟩,h48,h⟩:=bS h
 refine RT.aQ .none (mQ N h48) hN rfl ⟨rfl,rfl,rfl,rfl,trivial⟩ T<|so rfl rfl rfl ?_
 refine RT.done ⟨by kernel_rfl,?_⟩
 refine ae.n<|aj ?_
 obtain rfl:=O h
 exact RZ (.agg rfl rfl (.cons rfl (.cons rfl (.nil))) rfl (.nil))
theorem fI{x0:Zr}{x1:Zr}(N:Nat){r:Zr}(h:bV x0 x1=some r):cz Try.prog 59 N [.agg (eZ x0),.agg (eZ x1)] (.agg ((fZ N) r)):=by
 obtain⟨aC,aD⟩:=x0
 obtain⟨bp,bn⟩:=x1
 refine aJ Try.func59 rfl (Nat.le_of_ble_eq_true rfl) (fun cS M vs hN hvs=>?_)
 unfold bV at h
 refine sr<|bx rfl<|bx rfl<|al (cs:=[.v (.bool false),nw N (slc 1 (List.map af []))]) (by exact⟨SV.aa _,aA,trivial⟩) rfl<|dn<|qq<|ai mixed<|fa rfl rfl<|lV rfl rfl rfl<|bE h fun x9 h9 h=>cl (aK h9) ⟨rfl,trivial⟩<|fa rfl rfl<|lV rfl rfl rfl<|bE h fun eG fE h=>cl (aK fE) ⟨rfl,trivial⟩<|ag rfl<|ag rfl ?_
 refine RT.done ⟨by kernel_rfl,?_⟩
 refine ae.n<|qq<|qq ?_
 refine aF h (fun j3=>AS.bR 41 [(2,.ptr 2 0),(3,.ptr 3 0),(4,.ptr 4 0),(5,.sv (slc 1 (List.map af x9))),(6,.sv (slc 1 (List.map af eG))),(20,.sv (.v (.bool j3)))] [(4,⟨50,[.sv (.v (.bool false)),.sv (nw N (slc 1 (List.map af [])))]⟩),(3,⟨50,[.sv (.v (.bool bp)),.sv (slc 1 (List.map af bn))]⟩),(2,⟨50,[.sv (.v (.bool aC)),.sv (slc 1 (List.map af aD))]⟩)] []) (fun h=>?_) (fun Dh h=>?_)
 refine ah<|mv rfl<|lE h fun gY ku h=>ln rfl ku<|lE h fun fC gG h=>RT.leq .none _ rfl rfl T gG<|mv rfl<|bE h fun Jn kS h=>?_
 cases fC
 obtain rfl:=O (F kS)
 exact ww<|ww<|ww<|pF rfl<|dn<|⟨false,h,wR []⟩
 refine gm rfl<|lE (V kS) fun fg ij kS=>gn rfl ij<|lE kS fun k8 jM kS=>RT.leq (.some rfl rfl) _ rfl rfl T jM ?_
 obtain rfl:=O kS
 exact pT rfl<|dn<|⟨k8,h,wR []⟩
 try dsimp only
 refine ae.n ?_
 cases Dh
 refine fs<|qq<|ai mixed<|fa rfl rfl<|lV rfl rfl rfl<|fa rfl rfl<|lV rfl rfl rfl<|lE (F h) fun oQ ot h=>RT.GP .none _ rfl rfl T ot<|mv rfl<|mv rfl<|bE h fun rX Ay h=>RT.aQ .none (uT N Ay) hN rfl ⟨rfl,rfl,trivial⟩ T ?_
 obtain⟨⟨qL,qM⟩,nh,h⟩:=bS h
 refine RT.aQ .none (ef N nh) hN rfl ⟨rfl,rfl,trivial⟩ T<|so rfl rfl rfl ?_
 refine RT.done ⟨by kernel_rfl,?_⟩
 refine ae.n<|aj ?_
 obtain rfl:=O h
 exact RZ (.agg rfl rfl (.cons rfl (.cons rfl (.nil))) rfl (.nil))
 refine cT<|qq<|ai mixed<|fa rfl rfl<|lV rfl rfl rfl<|fa rfl rfl<|lV rfl rfl rfl<|lE (V h) fun vp pB h=>RT.GP .none _ rfl rfl T pB<|mv rfl<|bE h fun lf oR h=>cl (cL oR) ⟨rfl,trivial⟩<|mv rfl<|bE h fun gO iK h=>cl (cL iK) ⟨rfl,trivial⟩<|lE h fun yB uD h=>RT.mul .none _ rfl rfl T (UK.mul (a:=lf) (b:=gO) uD) ?_
 obtain⟨⟨Jl,Jm⟩,uA,h⟩:=bS h
 refine RT.aQ .none (iW N uA) hN rfl ⟨rfl,rfl,trivial⟩ T<|so rfl rfl rfl ?_
 refine RT.done ⟨by kernel_rfl,?_⟩
 refine ae.n<|aj<|ae.r ?_
 obtain rfl:=O h
 exact RZ (.agg rfl rfl (.cons rfl (.cons rfl (.nil))) rfl (.nil))
theorem uU{x0:Zr}(N:Nat){r:Zr}(h:dZ x0=some r):cz Try.prog 66 N [.agg (eZ x0)] (.agg ((fZ N) r)):=by
 obtain⟨aC,aD⟩:=x0
 refine aJ Try.func66 rfl (Nat.le_of_ble_eq_true rfl) (fun cS M vs hN hvs=>?_)
 unfold dZ at h
 refine sr<|bx rfl<|al (cs:=[.v (.bool false),nw N (slc 1 (List.map af []))]) (by exact⟨SV.aa _,aA,trivial⟩) rfl<|dn<|qq<|ai mixed<|fa rfl rfl<|lV rfl rfl rfl<|lE h fun x5 h5 h=>nt rfl _ h5<|fa rfl rfl<|lV rfl rfl rfl<|bE h fun x8 h8 h=>cl (aK h8) ⟨rfl,trivial⟩<|bE h fun x9 h9 h=>RT.aQ .none (lQ N h9) hN rfl ⟨rfl,trivial⟩ T ?_
 obtain⟨⟨yK,yL⟩,fP,h⟩:=bS h
 refine RT.aQ .none (ef N fP) hN rfl ⟨rfl,rfl,trivial⟩ T<|so rfl rfl rfl ?_
 refine RT.done ⟨by kernel_rfl,?_⟩
 refine ae.n<|aj ?_
 obtain rfl:=O h
 exact RZ (.agg rfl rfl (.cons rfl (.cons rfl (.nil))) rfl (.nil))
theorem qe{x0:Zr}{x1:Zr}(N:Nat){r:Zr×Zr×Int}(h:cY x0 x1=some r):cz Try.prog 69 N [.agg (eZ x0),.agg (eZ x1)] (.sN [.agg ((fZ N) r.1),.agg ((fZ N) r.2.1),.v (.int .i64 r.2.2)]):=by
 obtain⟨aC,aD⟩:=x0
 obtain⟨bp,bn⟩:=x1
 refine aJ Try.func69 rfl (Nat.le_of_ble_eq_true rfl) (fun cS M vs hN hvs=>?_)
 unfold cY at h
 refine sr<|bx rfl<|bx rfl<|al (cs:=[.v (.bool false),nw N (slc 1 (List.map af []))]) (by exact⟨SV.aa _,aA,trivial⟩) rfl<|al (cs:=[.v (.bool false),nw N (slc 1 (List.map af []))]) (by exact⟨SV.aa _,aA,trivial⟩) rfl<|ag rfl<|dn<|qq<|ai mixed<|fa rfl rfl<|lV rfl rfl rfl<|bE h fun gC fS h=>cl (aK fS) ⟨rfl,trivial⟩<|fa rfl rfl ?_
 refine lV rfl rfl rfl<|bE h fun jN lA h=>cl (aK lA) ⟨rfl,trivial⟩<|ag rfl<|ag rfl ?_
 refine RT.done ⟨by kernel_rfl,?_⟩
 refine ae.n<|qq<|sr<|mv rfl<|lE h fun fg ij h=>ln rfl ij<|lE h fun k8 jM h=>eq _ rfl rfl (rR (p:=fg) (q:=0) jM)<|dn ?_
 cases k8
 refine fs<|sr<|mv rfl<|mv rfl ?_
 obtain⟨⟨Di,P6⟩,pB,h⟩:=bS (F h)
 refine RT.aQ .none (ny N pB) hN rfl ⟨rfl,rfl,trivial⟩ T<|mv rfl<|ex rfl rfl<|ex rfl rfl<|ag rfl<|ag rfl<|dn<|sr<|mv rfl<|bE h fun gO iK h=>RT.aQ .none (nP N iK) hN rfl ⟨rfl,trivial⟩ T<|ag rfl<|dn<|qq<|qq ?_
 refine aF h (fun j3=>AS.bR 52 [(2,.ptr 2 0),(3,.ptr 3 0),(4,.ptr 4 0),(5,.ptr 5 0),(8,.sv (slc 1 (List.map af jN))),(9,.sv (nw N (slc 1 (List.map af Di)))),(10,.sv (nw N (slc 1 (List.map af gO)))),(36,.sv (.v (.bool j3.1)))] [(5,⟨50,[.sv (.v (.bool false)),.sv (nw N (slc 1 (List.map af [])))]⟩),(4,⟨50,[.sv (.v (.bool false)),.sv (nw N (slc 1 (List.map af [])))]⟩),(3,⟨50,[.sv (.v (.bool bp)),.sv (slc 1 (List.map af bn))]⟩),(2,⟨50,[.sv (.v (.bool j3.2)),.sv (slc 1 (List.map af aD))]⟩)] []) (fun h=>?_) (fun j3 h=>?_)
 refine ah<|fa rfl rfl<|lV rfl rfl rfl<|mv rfl<|bE h fun Jr xb h=>?_
 cases aC
 obtain rfl:=O (F xb)
 exact ww<|ww<|ww<|pF rfl<|dn<|⟨(false,false),h,wR []⟩
 refine gm rfl<|lE (V xb) fun nY pC xb=>RT.Bs (.some rfl rfl) rfl T pC<|lE xb fun uo B3 xb=>gg _ rfl rfl B3 ?_
 obtain rfl:=O xb
 exact pT rfl<|dn<|⟨(uo,true),h,wR []⟩
 obtain⟨Dj,yM⟩:=j3
 try dsimp only
 refine ae.n ?_
 refine aF h (fun j5=>AS.bR 52 [(2,.ptr 2 0),(3,.ptr 3 0),(4,.ptr 4 0),(5,.ptr 5 0),(9,.sv (nw N (slc 1 (List.map af j5.1)))),(10,.sv (nw N (slc 1 (List.map af j5.2))))] [(5,⟨50,[.sv (.v (.bool false)),.sv (nw N (slc 1 (List.map af [])))]⟩),(4,⟨50,[.sv (.v (.bool false)),.sv (nw N (slc 1 (List.map af [])))]⟩),(3,⟨50,[.sv (.v (.bool bp)),.sv (slc 1 (List.map af bn))]⟩),(2,⟨50,[.sv (.v (.bool yM)),.sv (slc 1 (List.map af aD))]⟩)] []) (fun h=>?_) (fun j5 h=>?_)
 cases Dj
 exact fs<|⟨(Di,gO),(F h),wR []⟩
 exact cT<|sr<|mv rfl<|RT.uS (l:=[1]) (e:=af) .none hN (.one rfl (.nil)) T rfl rfl rfl rfl rfl rfl<|bE (V h) fun rX Ay h=>RT.aQ .none ((nx N Ay).w (args':=[_,_]) ⟨ee,ee,trivial⟩) hN rfl ⟨rfl,rfl,trivial⟩ T<|ag rfl<|dn<|ah<|mv rfl<|mv rfl<|bE h fun qj w8 h=>RT.aQ .none ((j9 N w8).w (args':=[_,_]) ⟨(SV.aa _),ee,trivial⟩) hN rfl ⟨rfl,rfl,trivial⟩ T<|ag rfl<|dn<|⟨(rX,qj),h,wR []⟩
 obtain⟨P7,Jo⟩:=j5
 try dsimp only
 refine ae.n<|sr<|fa rfl rfl<|lV rfl rfl rfl<|fa rfl rfl<|lV rfl rfl rfl<|lE h fun yC yR h=>RT.GP .none _ rfl rfl T yR<|mv rfl ?_
 obtain⟨⟨Jp,Jq⟩,Mm,h⟩:=bS h
 refine RT.aQ .none (ef N Mm) hN rfl ⟨rfl,rfl,trivial⟩ T<|mv rfl ?_
 obtain⟨⟨yN,yO⟩,B4,h⟩:=bS h
 refine RT.aQ .none (ef N B4) hN rfl ⟨rfl,rfl,trivial⟩ T<|so rfl rfl rfl<|so rfl rfl rfl<|ag rfl<|dn<|aj ?_
 obtain rfl:=O h
 exact RZ (.agg rfl rfl (.cons rfl (.cons rfl (.nil))) rfl (.agg rfl rfl (.cons rfl (.cons rfl (.nil))) rfl (.tmp rfl (.nil))))
 refine cT<|sr<|bI (cs:=[_,_]) (cs':=[.v (.bool false),nw N (slc 1 (List.map af []))]) (.nil) ⟨SV.aa _,aA,trivial⟩<|bI (cs:=[_,_]) (cs':=[.v (.bool false),nw N (slc 1 (List.map af []))]) (.nil) ⟨SV.aa _,aA,trivial⟩<|so rfl rfl rfl<|so rfl rfl rfl<|ag rfl<|dn<|aj<|ae.r ?_
 obtain rfl:=O (V h)
 exact RZ (.agg rfl rfl (.cons rfl (.cons rfl (.nil))) rfl (.agg rfl rfl (.cons rfl (.cons rfl (.nil))) rfl (.tmp rfl (.nil))))
theorem Cs{x0:Zr}{x1:Zr}(N:Nat){r:Zr}(h:gy x0 x1=some r):cz Try.prog 68 N [.agg (eZ x0),.agg (eZ x1)] (.agg ((fZ N) r)):=by
 obtain⟨aC,aD⟩:=x0
 obtain⟨bp,bn⟩:=x1
 refine aJ Try.func68 rfl (Nat.le_of_ble_eq_true rfl) (fun cS M vs hN hvs=>?_)
 unfold gy at h
 refine sr<|bx rfl<|bx rfl<|al (cs:=[.v (.bool false),nw N (slc 1 (List.map af []))]) (by exact⟨SV.aa _,aA,trivial⟩) rfl<|dn<|qq<|ai mixed<|fa rfl rfl<|lV rfl rfl rfl<|bE h fun gC fS h=>cl (aK fS) ⟨rfl,trivial⟩<|fa rfl rfl<|lV rfl rfl rfl<|bE h fun jN lA h=>cl (aK lA) ⟨rfl,trivial⟩<|ag rfl<|ag rfl ?_
 refine RT.done ⟨by kernel_rfl,?_⟩
 refine ae.n<|qq<|bE h fun I5 Fj ik=>?_
 refine aW (fun(oq:(List Nat)×(List Nat))=>AS.bR 57 [(4,.ptr 4 0),(5,.sv (slc 1 (List.map af oq.1))),(6,.sv (slc 1 (List.map af oq.2)))] [(4,⟨50,[.sv (.v (.bool false)),.sv (nw N (slc 1 (List.map af [])))]⟩)] []) (fun oq=>oq=I5) ?_ (fun oq Fk=>?_)
 refine aq ?_
 refine aX Fj (fun uw=>AS.bR 57 [(4,.ptr 4 0),(5,.sv (slc 1 (List.map af uw.1))),(6,.sv (slc 1 (List.map af uw.2)))] [(4,⟨50,[.sv (.v (.bool false)),.sv (nw N (slc 1 (List.map af [])))]⟩)] []) (wR []) (fun uw Xn Xo h Fl Fm=>?_)
 obtain⟨BZ,vL⟩:=uw
 try dsimp only
 refine qq<|qq ?_
 refine aF h (fun Uu=>AS.bR 57 [(4,.ptr 4 0),(5,.sv (slc 1 (List.map af BZ))),(6,.sv (slc 1 (List.map af vL))),(29,.sv (.v (.bool Uu)))] [(4,⟨50,[.sv (.v (.bool false)),.sv (nw N (slc 1 (List.map af [])))]⟩)] []) (fun h=>?_) (fun yP h=>?_)
 refine ah<|mv rfl<|lE h fun fg ij h=>ln rfl ij<|lE h fun k8 jM h=>gt _ rfl rfl jM<|mv rfl<|bE h fun E7 lB h=>?_
 cases k8
 obtain rfl:=O (F lB)
 exact ww<|ww<|ww<|ww<|wu<|wu<|wu<|ww<|pF rfl<|dn<|⟨false,h,wR []⟩
 refine gm rfl<|lE (V lB) fun jS nN lB=>gn rfl nN<|lE lB fun lN sj lB=>gg _ rfl rfl sj<|gm rfl<|bE lB fun E6 qh lB=>?_
 cases lN
 refine gm rfl<|lE (F qh) fun kz nO qh=>gn rfl nO<|lE qh fun lf oR qh=>gg _ rfl rfl oR ?_
 obtain rfl:=O qh
 refine gF rfl ?_
 obtain rfl:=O lB
 exact pT rfl<|dn<|⟨lf,h,wR []⟩
 obtain rfl:=O (V qh)
 refine ww<|ww<|ww<|gT rfl ?_
 obtain rfl:=O lB
 exact pT rfl<|dn<|⟨true,h,wR []⟩
 try dsimp only
 refine ae.n ?_
 cases yP
 refine cF<|bj<|ae.x<|ae.x<|aH.x<|ae.n ?_
 obtain rfl:=O (F h)
 exact⟨(BZ,vL),Fm _ rfl,wR []⟩
 refine cT<|aG<|ae.n<|aq<|sr<|mv rfl<|mv rfl ?_
 obtain⟨⟨Ui,P8⟩,pD,h⟩:=bS (V h)
 refine RT.aQ .none (ny N pD) hN rfl ⟨rfl,rfl,trivial⟩ T<|mv rfl<|ex rfl rfl<|ex rfl rfl<|ag rfl<|ag rfl<|dn<|ah<|mv rfl<|mv rfl<|bE h fun w6 Dm h=>RT.aQ .none (nP N Dm) hN rfl ⟨rfl,trivial⟩ T<|ag rfl<|ag rfl<|RT.done<|aH.n ?_
 obtain rfl:=O h
 exact ae.n ⟨(vL,w6),Fl _ rfl,dm id rfl rfl rfl rfl rfl ⟨.ptr,.sv (SV.aa _),.sv ee,trivial⟩ ⟨⟨_,rfl,⟨.sv (SV.aa _),.sv (SV.aa _),trivial⟩⟩,trivial⟩ trivial (fun _ _=>rfl)⟩
 subst Fk
 obtain⟨Ga,Gb⟩:=oq
 try dsimp only
 refine ae.n<|qq<|sr<|mv rfl<|lE ik fun mw nh ik=>ln rfl nh<|lE ik fun qF w7 ik=>eq _ rfl rfl (rR (p:=mw) (q:=0) w7)<|dn ?_
 cases qF
 refine fs<|sr<|mv rfl<|bE (F ik) fun rV h46 ik=>cl (cL h46) ⟨rfl,trivial⟩<|mv rfl<|bE ik fun ur h48 ik=>cl (cL h48) ⟨rfl,trivial⟩<|ag rfl<|ag rfl<|dn<|qq<|bE ik fun XA Q5 Fp=>?_
 refine aW (fun(qN:Nat)=>AS.bR 57 [(4,.ptr 4 0),(9,.sv (.v (.int .u64 ((qN:Nat):Int))))] [(4,⟨50,[.sv (.v (.bool false)),.sv (nw N (slc 1 (List.map af [])))]⟩)] []) (fun qN=>qN=XA) ?_ (fun qN Q6=>?_)
 refine aq ?_
 refine aX Q5 (fun Js=>AS.bR 57 [(4,.ptr 4 0),(9,.sv (.v (.int .u64 ((Js.1:Nat):Int)))),(10,.sv (.v (.int .u64 ((Js.2:Nat):Int))))] [(4,⟨50,[.sv (.v (.bool false)),.sv (nw N (slc 1 (List.map af [])))]⟩)] []) (wR []) (fun Js y24 G24 h Q7 Q8=>?_)
 obtain⟨Bj,pA⟩:=Js
 try dsimp only
 refine qq<|sr<|mv rfl<|lE h fun sI Ax h=>gt _ rfl rfl (TK (p:=0) (q:=pA) Ax)<|dn ?_
 cases sI
 refine cF<|bj<|ae.x<|ae.x<|aH.x<|ae.n ?_
 obtain rfl:=O (F h)
 exact⟨Bj,Q8 _ rfl,wR []⟩
 refine cT<|aG<|ae.n<|aq<|ai mixed<|mv rfl<|mv rfl<|mv rfl<|bE (V h) fun Jt Mp h=>RT.rem .none _ rfl rfl T (SW Mp) (GY Mp)<|ag rfl<|ag rfl ?_
 refine RT.done ⟨by kernel_rfl,?_⟩
 refine aH.n ?_
 obtain rfl:=O h
 exact ae.n ⟨(pA,Jt),Q7 _ rfl,wR []⟩
 subst Q6
 try dsimp only
 refine ae.n<|sr<|mv rfl ?_
 obtain⟨⟨Ju,Jv⟩,Fh,Fp⟩:=bS Fp
 refine RT.aQ .none (iW N Fh) hN rfl ⟨rfl,rfl,trivial⟩ T<|so rfl rfl rfl<|dn<|aj ?_
 obtain rfl:=O Fp
 exact RZ (.agg rfl rfl (.cons rfl (.cons rfl (.nil))) rfl (.nil))
 refine cT<|sr<|mv rfl<|bE (V ik) fun rU Aj ik=>RT.aQ .none (lQ N Aj) hN rfl ⟨rfl,trivial⟩ T ?_
 obtain⟨⟨Bh,Bi⟩,w9,ik⟩:=bS ik
 refine RT.aQ .none (ef N w9) hN rfl ⟨rfl,rfl,trivial⟩ T<|so rfl rfl rfl<|dn<|aj<|ae.r ?_
 obtain rfl:=O ik
 exact RZ (.agg rfl rfl (.cons rfl (.cons rfl (.nil))) rfl (.nil))
end Go.Proofs.Ytningmnklfpfjaa
