/- A part of the proof: the framework, the plain functions, the followed functions, the plain laws. -/
import Derived.Test.YtningmnklfpfjaaPTX3
set_option linter.unusedVariables false
set_option linter.unusedSimpArgs false
namespace Go.Proofs.Ytningmnklfpfjaa
open Go.Fw Go.Fw.Z Go.RowKit
theorem ke{x0:Zr}{x1:Zr}(N:Nat){r:Qr}(h:cZ x0 x1=some r):cz Try.prog 54 N [.agg (eZ x0),.agg (eZ x1)] (.agg ((fQ N) r)):=by
 obtain⟨aC,aD⟩:=x0
 obtain⟨bp,bn⟩:=x1
 refine aJ Try.func54 rfl (Nat.le_of_ble_eq_true rfl) (fun cS M vs hN hvs=>?_)
 unfold cZ at h
 refine sr<|bx rfl<|bx rfl<|al (cs:=[.v (.bool false),nw N (slc 1 (List.map af [])),.v (.bool false),nw N (slc 1 (List.map af []))]) (by exact⟨SV.aa _,aA,SV.aa _,aA,trivial⟩) rfl<|dn<|qq<|sr<|ld rfl rfl (.cons rfl (.cons rfl (.nil)))<|bE h fun x9 h9 h=>cl (dB h9) ⟨rfl,trivial⟩<|lE h fun dW fP h=>ls _ rfl rfl fP<|dn ?_
 refine aF h (fun j2=>AS.bR 46 [(2,.ptr 2 0),(3,.ptr 3 0),(4,.ptr 4 0)] [(4,⟨52,[.sv (.v (.bool false)),.sv (nw N (slc 1 (List.map af []))),.sv (.v (.bool false)),.sv (nw N (slc 1 (List.map af [])))]⟩),(3,⟨50,[.sv (.v (.bool j2.1)),.sv (slc 1 (List.map af j2.2.1))]⟩),(2,⟨50,[.sv (.v (.bool j2.2.2.1)),.sv (slc 1 (List.map af j2.2.2.2))]⟩)] []) (fun h=>?_) (fun j2 h=>?_)
 cases dW
 exact fs<|⟨(bp,bn,aC,aD),(F h),wR []⟩
 refine cT<|ai mixed<|ld rfl rfl (.cons rfl (.cons rfl (.nil))) ?_
 obtain⟨⟨gS,gU⟩,fE,h⟩:=bS (V h)
 refine RT.aQ .none (uU N fE) hN rfl ⟨rfl,trivial⟩ T<|ld rfl rfl (.cons rfl (.cons rfl (.nil))) ?_
 obtain⟨⟨Du,Dv⟩,ku,h⟩:=bS h
 refine RT.aQ .none (uU N ku) hN rfl ⟨rfl,trivial⟩ T<|so rfl rfl rfl<|so rfl rfl rfl ?_
 refine RT.done ⟨by kernel_rfl,?_⟩
 exact ae.n<|⟨(Du,Dv,gS,gU),h,dm id rfl rfl rfl rfl rfl ⟨.ptr,.ptr,.ptr,trivial⟩ ⟨⟨_,rfl,⟨.sv (SV.aa _),.sv (SV.aa _),.sv (SV.aa _),.sv (SV.aa _),trivial⟩⟩,⟨_,rfl,⟨.sv (SV.aa _),.sv ee,trivial⟩⟩,⟨_,rfl,⟨.sv (SV.aa _),.sv ee,trivial⟩⟩,trivial⟩ trivial (fun _ _=>rfl)⟩
 obtain⟨Ca,Cb,Cc,Cd⟩:=j2
 try dsimp only
 refine ae.n<|sr<|ld rfl rfl (.cons rfl (.cons rfl (.nil)))<|ld rfl rfl (.cons rfl (.cons rfl (.nil))) ?_
 obtain⟨⟨uE,uF⟩,kL,h⟩:=bS h
 refine RT.aQ .none (Cs N kL) hN rfl ⟨rfl,rfl,trivial⟩ T<|al (cs:=[.v (.bool false),nw N (slc 1 (List.map af []))]) (by exact⟨SV.aa _,aA,trivial⟩) rfl<|so rfl rfl rfl<|dn<|sr<|ld rfl rfl (.cons rfl (.cons rfl (.nil)))<|ld rfl rfl (.cons rfl (.cons rfl (.nil))) ?_
 obtain⟨⟨⟨pE,pG⟩,⟨JI,JJ⟩,Uv⟩,qO,h⟩:=bS h
 refine RT.aQ .none ((qe N qO).w (args':=[_,_]) ⟨(SV.aa _),(SV.iy (show bT [.v (.bool uE),nw N (slc 1 (List.map af uF))] _ from⟨(SV.aa _),ee,trivial⟩)),trivial⟩) hN rfl ⟨rfl,rfl,trivial⟩ T<|mv rfl<|ex rfl rfl<|ex rfl rfl<|ex rfl rfl<|so rfl rfl rfl<|dn<|sr<|ld rfl rfl (.cons rfl (.cons rfl (.nil)))<|ld rfl rfl (.cons rfl (.cons rfl (.nil))) ?_
 obtain⟨⟨⟨pH,pI⟩,⟨JK,JM⟩,Uw⟩,uC,h⟩:=bS h
 refine RT.aQ .none ((qe N uC).w (args':=[_,_]) ⟨(SV.aa _),(SV.iy (show bT [.v (.bool uE),nw N (slc 1 (List.map af uF))] _ from⟨(SV.aa _),ee,trivial⟩)),trivial⟩) hN rfl ⟨rfl,rfl,trivial⟩ T<|mv rfl<|ex rfl rfl<|ex rfl rfl<|ex rfl rfl<|so rfl rfl rfl<|dn<|qq<|sr<|ld rfl rfl (.cons rfl (.cons rfl (.nil))) ?_
 obtain⟨⟨JN,JO⟩,pC,h⟩:=bS h
 refine cl ((cw pC).w (args':=[_]) ⟨(SV.iy (show bT [.v (.bool pH),nw N (slc 1 (List.map af pI))] _ from⟨(SV.aa _),ee,trivial⟩)),trivial⟩) ⟨rfl,trivial⟩<|mv rfl<|ex rfl rfl<|ex rfl rfl<|ag rfl<|ag rfl<|dn<|qq ?_
 refine aF h (fun j5=>AS.bR 46 [(2,.ptr 2 0),(3,.ptr 3 0),(4,.ptr 4 0),(41,.sv (.v (.bool j5)))] [(4,⟨52,[.sv (.v (.bool false)),.sv (nw N (slc 1 (List.map af []))),.sv (.v (.bool false)),.sv (nw N (slc 1 (List.map af [])))]⟩),(3,⟨50,[.sv (.v (.bool pH)),.sv (nw N (slc 1 (List.map af pI)))]⟩),(2,⟨50,[.sv (.v (.bool pE)),.sv (nw N (slc 1 (List.map af pG)))]⟩)] []) (fun h=>?_) (fun Dt h=>?_)
 refine ah<|mv rfl<|mv rfl<|bE h fun JP y5 h=>?_
 cases JO
 obtain rfl:=O (F y5)
 exact ww<|ww<|pF rfl<|dn<|⟨false,h,wR []⟩
 refine gm rfl<|lE (V y5) fun mw nh y5=>TV _ rfl rfl (rR (p:=JN) (q:=1) nh) ?_
 obtain rfl:=O y5
 exact pT rfl<|dn<|⟨mw,h,wR []⟩
 try dsimp only
 refine ae.n ?_
 refine aF h (fun j7=>AS.bR 46 [(2,.ptr 2 0),(3,.ptr 3 0),(4,.ptr 4 0)] [(4,⟨52,[.sv (.v (.bool false)),.sv (nw N (slc 1 (List.map af []))),.sv (.v (.bool false)),.sv (nw N (slc 1 (List.map af [])))]⟩),(3,⟨50,[.sv (.v (.bool j7.1)),.sv (nw N (slc 1 (List.map af j7.2)))]⟩),(2,⟨50,[.sv (.v (.bool pE)),.sv (nw N (slc 1 (List.map af pG)))]⟩)] []) (fun h=>?_) (fun j7 h=>?_)
 cases Dt
 exact fs<|⟨(pH,pI),(F h),wR []⟩
 exact cT<|ah<|bI (cs:=[_,_]) (cs':=[.v (.bool false),nw N (slc 1 (List.map af []))]) (.nil) ⟨SV.aa _,aA,trivial⟩<|so rfl rfl rfl<|dn<|⟨(false,[]),(V h),wR []⟩
 obtain⟨yS,yT⟩:=j7
 try dsimp only
 refine ae.n<|sr<|ld rfl rfl (.cons rfl (.cons rfl (.nil)))<|ld rfl rfl (.cons rfl (.cons rfl (.nil)))<|bI (cs:=[_,_,_,_]) (cs':=[.v (.bool pE),nw N (slc 1 (List.map af pG)),.v (.bool yS),nw N (slc 1 (List.map af yT))]) (.agg rfl (.agg rfl (.nil))) ⟨SV.aa _,SV.aa _,SV.aa _,SV.aa _,trivial⟩<|so rfl rfl rfl<|dn<|aj ?_
 obtain rfl:=O h
 exact RZ (.agg rfl rfl (.cons rfl (.cons rfl (.cons rfl (.cons rfl (.nil))))) rfl (.nil))
theorem kT{x0:Int}{x1:Int}(N:Nat){r:Qr}(h:dG x0 x1=some r):cz Try.prog 53 N [.v (.int .i64 x0),.v (.int .i64 x1)] (.agg ((fQ N) r)):=by
 refine aJ Try.func53 rfl (Nat.le_of_ble_eq_true rfl) (fun cS M vs hN hvs=>?_)
 unfold dG at h
 refine sr<|al (cs:=[.v (.bool false),nw N (slc 1 (List.map af [])),.v (.bool false),nw N (slc 1 (List.map af []))]) (by exact⟨SV.aa _,aA,SV.aa _,aA,trivial⟩) rfl<|dn<|sr<|mv rfl<|mv rfl<|ag rfl<|ag rfl<|dn<|qq<|bE h fun e6 G9 jn=>?_
 refine aW (fun(tg:Int)=>AS.bR 36 [(0,.sv (.v (.int .i64 x0))),(1,.sv (.v (.int .i64 x1))),(4,.ptr 4 0),(5,.sv (.v (.int .i64 tg)))] [(4,⟨52,[.sv (.v (.bool false)),.sv (nw N (slc 1 (List.map af []))),.sv (.v (.bool false)),.sv (nw N (slc 1 (List.map af [])))]⟩)] []) (fun tg=>tg=e6) ?_ (fun tg He=>?_)
 refine aq ?_
 refine aX G9 (fun s6=>AS.bR 36 [(0,.sv (.v (.int .i64 x0))),(1,.sv (.v (.int .i64 x1))),(4,.ptr 4 0),(5,.sv (.v (.int .i64 s6.1))),(6,.sv (.v (.int .i64 s6.2)))] [(4,⟨52,[.sv (.v (.bool false)),.sv (nw N (slc 1 (List.map af []))),.sv (.v (.bool false)),.sv (nw N (slc 1 (List.map af [])))]⟩)] []) (wR []) (fun s6 y6 G6 h Hf Dl=>?_)
 obtain⟨oc,Cf⟩:=s6
 try dsimp only
 refine qq<|sr<|mv rfl<|lE h fun dW fP h=>ne _ rfl rfl (F5 (p:=Cf) (q:=0) fP)<|dn ?_
 cases dW
 refine cF<|bj<|ae.x<|ae.x<|aH.x<|ae.n ?_
 obtain rfl:=O (F h)
 exact⟨oc,Dl _ rfl,wR []⟩
 refine cT<|aG<|ae.n<|aq<|ai mixed<|mv rfl<|mv rfl<|mv rfl<|bE (V h) fun gY ku h=>RT.rem .none _ rfl rfl T (TM ku) (TN ku)<|ag rfl<|ag rfl ?_
 refine RT.done ⟨by kernel_rfl,?_⟩
 refine aH.n ?_
 obtain rfl:=O h
 exact ae.n ⟨(Cf,gY),Hf _ rfl,wR []⟩
 subst He
 try dsimp only
 refine ae.n<|qq<|sr<|mv rfl<|lE jn fun jN lA jn=>ls _ rfl rfl lA<|dn ?_
 refine aF jn (fun j8=>AS.bR 36 [(0,.sv (.v (.int .i64 x0))),(1,.sv (.v (.int .i64 x1))),(4,.ptr 4 0),(5,.sv (.v (.int .i64 j8)))] [(4,⟨52,[.sv (.v (.bool false)),.sv (nw N (slc 1 (List.map af []))),.sv (.v (.bool false)),.sv (nw N (slc 1 (List.map af [])))]⟩)] []) (fun jn=>?_) (fun Dw jn=>?_)
 cases jN
 exact fs<|⟨tg,(F jn),wR []⟩
 exact cT<|ah<|mv rfl<|lE (V jn) fun fg ij jn=>RT.neg .none _ rfl T ij<|ag rfl<|dn<|⟨fg,jn,wR []⟩
 try dsimp only
 refine ae.n<|qq<|sr<|mv rfl<|mv rfl<|lE jn fun mc qO jn=>eq _ rfl rfl (rR (p:=Dw) (q:=x1) qO)<|dn ?_
 cases mc
 refine fs<|qq<|ai mixed<|mv rfl<|mv rfl<|bE (F jn) fun gO iK jn=>RT.quo .none _ rfl rfl T (SX iK) (GZ iK) ?_
 obtain⟨⟨mA,mB⟩,uD,jn⟩:=bS jn
 refine RT.aQ .none (e5 N uD) hN rfl ⟨rfl,trivial⟩ T<|mv rfl<|mv rfl<|bE jn fun o8 pD jn=>RT.quo .none _ rfl rfl T (SX pD) (GZ pD) ?_
 obtain⟨⟨Dx,Dy⟩,pC,jn⟩:=bS jn
 refine RT.aQ .none (e5 N pC) hN rfl ⟨rfl,trivial⟩ T<|bI (cs:=[_,_,_,_]) (cs':=[.v (.bool mA),nw N (slc 1 (List.map af mB)),.v (.bool Dx),nw N (slc 1 (List.map af Dy))]) (.agg rfl (.agg rfl (.nil))) ⟨SV.aa _,SV.aa _,SV.aa _,SV.aa _,trivial⟩<|so rfl rfl rfl ?_
 refine RT.done ⟨by kernel_rfl,?_⟩
 refine ae.n<|aj ?_
 obtain rfl:=O jn
 exact RZ (.agg rfl rfl (.cons rfl (.cons rfl (.cons rfl (.cons rfl (.nil))))) rfl (.nil))
 refine cT<|sr<|mv rfl<|mv rfl<|bE (V jn) fun gD lP jn=>RT.quo .none _ rfl rfl T (SX lP) (GZ lP) ?_
 obtain⟨⟨gQ,gR⟩,pB,jn⟩:=bS jn
 refine RT.aQ .none (e5 N pB) hN rfl ⟨rfl,trivial⟩ T<|bI (cs:=[_,_,_,_]) (cs':=[.v (.bool gQ),nw N (slc 1 (List.map af gR)),.v (.bool false),nw N (slc 1 (List.map af []))]) (.agg rfl (.nil)) ⟨SV.aa _,SV.aa _,SV.aa _,aA,trivial⟩<|so rfl rfl rfl<|dn<|aj<|ae.r ?_
 obtain rfl:=O jn
 exact RZ (.agg rfl rfl (.cons rfl (.cons rfl (.cons rfl (.cons rfl (.nil))))) rfl (.nil))
theorem ry{x0:Zr}{x1:Zr}{x2:Zr}{x3:Zr}(N:Nat){r:Zr×Zr}(h:dI x0 x1 x2 x3=some r):cz Try.prog 80 N [.agg (eZ x0),.agg (eZ x1),.agg (eZ x2),.agg (eZ x3)] (.sN [.agg ((fZ N) r.1),.agg ((fZ N) r.2)]):=by
 obtain⟨aC,aD⟩:=x0
 obtain⟨bp,bn⟩:=x1
 obtain⟨jX,jY⟩:=x2
 obtain⟨sn,sq⟩:=x3
 refine aJ Try.func80 rfl (Nat.le_of_ble_eq_true rfl) (fun cS M vs hN hvs=>?_)
 unfold dI at h
 refine sr<|bx rfl<|bx rfl<|bx rfl<|bx rfl<|al (cs:=[.v (.bool false),nw N (slc 1 (List.map af []))]) (by exact⟨SV.aa _,aA,trivial⟩) rfl<|al (cs:=[.v (.bool false),nw N (slc 1 (List.map af []))]) (by exact⟨SV.aa _,aA,trivial⟩) rfl<|dn<|qq<|ai mixed<|ld rfl rfl (.cons rfl (.cons rfl (.nil)))<|ld rfl rfl (.cons rfl (.cons rfl (.nil))) ?_
 obtain⟨⟨gS,gU⟩,fE,h⟩:=bS h
 refine RT.aQ .none (fI N fE) hN rfl ⟨rfl,rfl,trivial⟩ T<|ld rfl rfl (.cons rfl (.cons rfl (.nil)))<|ld rfl rfl (.cons rfl (.cons rfl (.nil))) ?_
 obtain⟨⟨iM,iN⟩,gG,h⟩:=bS h
 refine RT.aQ .none (fI N gG) hN rfl ⟨rfl,rfl,trivial⟩ T ?_
 obtain⟨⟨lp,lq⟩,lA,h⟩:=bS h
 refine RT.aQ .none ((Cq N lA).w (args':=[_,_]) ⟨(SV.iy (show bT [.v (.bool gS),nw N (slc 1 (List.map af gU))] _ from⟨(SV.aa _),ee,trivial⟩)),(SV.iy (show bT [.v (.bool iM),nw N (slc 1 (List.map af iN))] _ from⟨(SV.aa _),ee,trivial⟩)),trivial⟩) hN rfl ⟨rfl,rfl,trivial⟩ T<|ld rfl rfl (.cons rfl (.cons rfl (.nil)))<|ld rfl rfl (.cons rfl (.cons rfl (.nil))) ?_
 obtain⟨⟨kC,kD⟩,jM,h⟩:=bS h
 refine RT.aQ .none (fI N jM) hN rfl ⟨rfl,rfl,trivial⟩ T<|so rfl rfl rfl<|so rfl rfl rfl ?_
 refine RT.done ⟨by kernel_rfl,?_⟩
 refine ae.n<|aj ?_
 obtain rfl:=O h
 exact RZ (.agg rfl rfl (.cons rfl (.cons rfl (.nil))) rfl (.agg rfl rfl (.cons rfl (.cons rfl (.nil))) rfl (.nil)))
theorem rz{x0:Zr}{x1:Zr}{x2:Zr}{x3:Zr}(N:Nat){r:Zr×Zr}(h:dJ x0 x1 x2 x3=some r):cz Try.prog 82 N [.agg (eZ x0),.agg (eZ x1),.agg (eZ x2),.agg (eZ x3)] (.sN [.agg ((fZ N) r.1),.agg ((fZ N) r.2)]):=by
 obtain⟨aC,aD⟩:=x0
 obtain⟨bp,bn⟩:=x1
 obtain⟨jX,jY⟩:=x2
 obtain⟨sn,sq⟩:=x3
 refine aJ Try.func82 rfl (Nat.le_of_ble_eq_true rfl) (fun cS M vs hN hvs=>?_)
 unfold dJ at h
 refine sr<|bx rfl<|bx rfl<|bx rfl<|bx rfl<|al (cs:=[.v (.bool false),nw N (slc 1 (List.map af []))]) (by exact⟨SV.aa _,aA,trivial⟩) rfl<|al (cs:=[.v (.bool false),nw N (slc 1 (List.map af []))]) (by exact⟨SV.aa _,aA,trivial⟩) rfl<|dn<|qq<|ai mixed<|ld rfl rfl (.cons rfl (.cons rfl (.nil)))<|ld rfl rfl (.cons rfl (.cons rfl (.nil))) ?_
 obtain⟨⟨gS,gU⟩,fE,h⟩:=bS h
 refine RT.aQ .none (fI N fE) hN rfl ⟨rfl,rfl,trivial⟩ T<|ld rfl rfl (.cons rfl (.cons rfl (.nil)))<|ld rfl rfl (.cons rfl (.cons rfl (.nil))) ?_
 obtain⟨⟨iM,iN⟩,gG,h⟩:=bS h
 refine RT.aQ .none (fI N gG) hN rfl ⟨rfl,rfl,trivial⟩ T ?_
 obtain⟨⟨lp,lq⟩,lA,h⟩:=bS h
 refine RT.aQ .none ((Cr N lA).w (args':=[_,_]) ⟨(SV.iy (show bT [.v (.bool gS),nw N (slc 1 (List.map af gU))] _ from⟨(SV.aa _),ee,trivial⟩)),(SV.iy (show bT [.v (.bool iM),nw N (slc 1 (List.map af iN))] _ from⟨(SV.aa _),ee,trivial⟩)),trivial⟩) hN rfl ⟨rfl,rfl,trivial⟩ T<|ld rfl rfl (.cons rfl (.cons rfl (.nil)))<|ld rfl rfl (.cons rfl (.cons rfl (.nil))) ?_
 obtain⟨⟨kC,kD⟩,jM,h⟩:=bS h
 refine RT.aQ .none (fI N jM) hN rfl ⟨rfl,rfl,trivial⟩ T<|so rfl rfl rfl<|so rfl rfl rfl ?_
 refine RT.done ⟨by kernel_rfl,?_⟩
 refine ae.n<|aj ?_
 obtain rfl:=O h
 exact RZ (.agg rfl rfl (.cons rfl (.cons rfl (.nil))) rfl (.agg rfl rfl (.cons rfl (.cons rfl (.nil))) rfl (.nil)))
theorem rA{x0:Zr}{x1:Zr}{x2:Zr}{x3:Zr}(N:Nat){r:Zr×Zr}(h:dK x0 x1 x2 x3=some r):cz Try.prog 84 N [.agg (eZ x0),.agg (eZ x1),.agg (eZ x2),.agg (eZ x3)] (.sN [.agg ((fZ N) r.1),.agg ((fZ N) r.2)]):=by
 obtain⟨aC,aD⟩:=x0
 obtain⟨bp,bn⟩:=x1
 obtain⟨jX,jY⟩:=x2
 obtain⟨sn,sq⟩:=x3
 refine aJ Try.func84 rfl (Nat.le_of_ble_eq_true rfl) (fun cS M vs hN hvs=>?_)
 unfold dK at h
 refine sr<|bx rfl<|bx rfl<|bx rfl<|bx rfl<|al (cs:=[.v (.bool false),nw N (slc 1 (List.map af []))]) (by exact⟨SV.aa _,aA,trivial⟩) rfl<|al (cs:=[.v (.bool false),nw N (slc 1 (List.map af []))]) (by exact⟨SV.aa _,aA,trivial⟩) rfl<|dn<|qq<|ai mixed<|ld rfl rfl (.cons rfl (.cons rfl (.nil)))<|ld rfl rfl (.cons rfl (.cons rfl (.nil))) ?_
 obtain⟨⟨gS,gU⟩,fE,h⟩:=bS h
 refine RT.aQ .none (fI N fE) hN rfl ⟨rfl,rfl,trivial⟩ T<|ld rfl rfl (.cons rfl (.cons rfl (.nil)))<|ld rfl rfl (.cons rfl (.cons rfl (.nil))) ?_
 obtain⟨⟨iM,iN⟩,gG,h⟩:=bS h
 refine RT.aQ .none (fI N gG) hN rfl ⟨rfl,rfl,trivial⟩ T<|so rfl rfl rfl<|so rfl rfl rfl ?_
 refine RT.done ⟨by kernel_rfl,?_⟩
 refine ae.n<|aj ?_
 obtain rfl:=O h
 exact RZ (.agg rfl rfl (.cons rfl (.cons rfl (.nil))) rfl (.agg rfl rfl (.cons rfl (.cons rfl (.nil))) rfl (.nil)))
theorem xj{x1:Qr}{x2:Qr}(N:Nat){r:Qr}(h:eW x1 x2=some r):cz Try.prog 61 N [.v (.int .u8 ((43:Nat):Int)),.agg (eQ x1),.agg (eQ x2)] (.agg ((fQ N) r)):=by
 obtain⟨⟨bp,bn⟩,⟨eO,eP⟩⟩:=x1
 obtain⟨⟨jX,jY⟩,⟨uG,uH⟩⟩:=x2
 refine aJ Try.func61 rfl (Nat.le_of_ble_eq_true rfl) (fun cS M vs hN hvs=>?_)
 unfold eW at h
 refine sr<|bx rfl<|bx rfl<|al (cs:=[.v (.bool false),nw N (slc 1 (List.map af [])),.v (.bool false),nw N (slc 1 (List.map af []))]) (by exact⟨SV.aa _,aA,SV.aa _,aA,trivial⟩) rfl<|dn<|sr<|ld rfl rfl (.cons rfl (.cons rfl (.cons rfl (.cons rfl (.nil))))) ?_
 obtain⟨⟨⟨gH,gI⟩,⟨iq,ir⟩⟩,fS,h⟩:=bS h
 refine cl (bw fS) ⟨rfl,trivial⟩<|mv rfl<|ex rfl rfl<|ex rfl rfl<|al (cs:=[.v (.bool false),nw N (slc 1 (List.map af []))]) (by exact⟨SV.aa _,aA,trivial⟩) rfl<|al (cs:=[.v (.bool false),nw N (slc 1 (List.map af []))]) (by exact⟨SV.aa _,aA,trivial⟩) rfl<|so rfl rfl rfl<|so rfl rfl rfl<|dn<|sr<|ld rfl rfl (.cons rfl (.cons rfl (.cons rfl (.cons rfl (.nil))))) ?_
 obtain⟨⟨⟨gJ,gK⟩,⟨iu,iv⟩⟩,ij,h⟩:=bS h
 refine cl (bw ij) ⟨rfl,trivial⟩<|mv rfl<|ex rfl rfl<|ex rfl rfl<|al (cs:=[.v (.bool false),nw N (slc 1 (List.map af []))]) (by exact⟨SV.aa _,aA,trivial⟩) rfl<|al (cs:=[.v (.bool false),nw N (slc 1 (List.map af []))]) (by exact⟨SV.aa _,aA,trivial⟩) rfl<|so rfl rfl rfl<|so rfl rfl rfl<|dn<|qq<|ai mixed<|cl dh trivial<|mv rfl ?_
 refine RT.look .none [.func (.func 80) #[] #[]] rfl rfl rfl T<|fl rfl rfl<|ld rfl rfl (.cons rfl (.cons rfl (.nil)))<|ld rfl rfl (.cons rfl (.cons rfl (.nil)))<|ld rfl rfl (.cons rfl (.cons rfl (.nil)))<|ld rfl rfl (.cons rfl (.cons rfl (.nil))) ?_
 obtain⟨⟨⟨iO,iP⟩,⟨iQ,iS⟩⟩,iK,h⟩:=bS h
 refine RT.aQ .none (ry N iK) hN rfl ⟨rfl,rfl,rfl,rfl,trivial⟩ T<|ex rfl rfl<|ex rfl rfl ?_
 obtain⟨⟨⟨lj,kA⟩,⟨nq,nu⟩⟩,jK,h⟩:=bS h
 refine RT.aQ .none ((ke N jK).w (args':=[_,_]) ⟨(SV.iy (show bT [.v (.bool iO),nw N (slc 1 (List.map af iP))] _ from⟨(SV.aa _),ee,trivial⟩)),(SV.iy (show bT [.v (.bool iQ),nw N (slc 1 (List.map af iS))] _ from⟨(SV.aa _),ee,trivial⟩)),trivial⟩) hN rfl ⟨rfl,rfl,trivial⟩ T<|so rfl rfl rfl ?_
 refine RT.done ⟨by kernel_rfl,?_⟩
 refine ae.n<|aj ?_
 obtain rfl:=O h
 exact RZ (.agg rfl rfl (.cons rfl (.cons rfl (.cons rfl (.cons rfl (.nil))))) rfl (.nil))
theorem xk{x1:Qr}{x2:Qr}(N:Nat){r:Qr}(h:eX x1 x2=some r):cz Try.prog 61 N [.v (.int .u8 ((45:Nat):Int)),.agg (eQ x1),.agg (eQ x2)] (.agg ((fQ N) r)):=by
 obtain⟨⟨bp,bn⟩,⟨eO,eP⟩⟩:=x1
 obtain⟨⟨jX,jY⟩,⟨uG,uH⟩⟩:=x2
 refine aJ Try.func61 rfl (Nat.le_of_ble_eq_true rfl) (fun cS M vs hN hvs=>?_)
 unfold eX at h
 refine sr<|bx rfl<|bx rfl<|al (cs:=[.v (.bool false),nw N (slc 1 (List.map af [])),.v (.bool false),nw N (slc 1 (List.map af []))]) (by exact⟨SV.aa _,aA,SV.aa _,aA,trivial⟩) rfl<|dn<|sr<|ld rfl rfl (.cons rfl (.cons rfl (.cons rfl (.cons rfl (.nil))))) ?_
 obtain⟨⟨⟨gH,gI⟩,⟨iq,ir⟩⟩,fS,h⟩:=bS h
 refine cl (bw fS) ⟨rfl,trivial⟩<|mv rfl<|ex rfl rfl<|ex rfl rfl<|al (cs:=[.v (.bool false),nw N (slc 1 (List.map af []))]) (by exact⟨SV.aa _,aA,trivial⟩) rfl<|al (cs:=[.v (.bool false),nw N (slc 1 (List.map af []))]) (by exact⟨SV.aa _,aA,trivial⟩) rfl<|so rfl rfl rfl<|so rfl rfl rfl<|dn<|sr<|ld rfl rfl (.cons rfl (.cons rfl (.cons rfl (.cons rfl (.nil))))) ?_
 obtain⟨⟨⟨gJ,gK⟩,⟨iu,iv⟩⟩,ij,h⟩:=bS h
 refine cl (bw ij) ⟨rfl,trivial⟩<|mv rfl<|ex rfl rfl<|ex rfl rfl<|al (cs:=[.v (.bool false),nw N (slc 1 (List.map af []))]) (by exact⟨SV.aa _,aA,trivial⟩) rfl<|al (cs:=[.v (.bool false),nw N (slc 1 (List.map af []))]) (by exact⟨SV.aa _,aA,trivial⟩) rfl<|so rfl rfl rfl<|so rfl rfl rfl<|dn<|qq<|ai mixed<|cl dh trivial<|mv rfl ?_
 refine RT.look .none [.func (.func 82) #[] #[]] rfl rfl rfl T<|fl rfl rfl<|ld rfl rfl (.cons rfl (.cons rfl (.nil)))<|ld rfl rfl (.cons rfl (.cons rfl (.nil)))<|ld rfl rfl (.cons rfl (.cons rfl (.nil)))<|ld rfl rfl (.cons rfl (.cons rfl (.nil))) ?_
 obtain⟨⟨⟨iO,iP⟩,⟨iQ,iS⟩⟩,iK,h⟩:=bS h
 refine RT.aQ .none (rz N iK) hN rfl ⟨rfl,rfl,rfl,rfl,trivial⟩ T<|ex rfl rfl<|ex rfl rfl ?_
 obtain⟨⟨⟨lj,kA⟩,⟨nq,nu⟩⟩,jK,h⟩:=bS h
 refine RT.aQ .none ((ke N jK).w (args':=[_,_]) ⟨(SV.iy (show bT [.v (.bool iO),nw N (slc 1 (List.map af iP))] _ from⟨(SV.aa _),ee,trivial⟩)),(SV.iy (show bT [.v (.bool iQ),nw N (slc 1 (List.map af iS))] _ from⟨(SV.aa _),ee,trivial⟩)),trivial⟩) hN rfl ⟨rfl,rfl,trivial⟩ T<|so rfl rfl rfl ?_
 refine RT.done ⟨by kernel_rfl,?_⟩
 refine ae.n<|aj ?_
 obtain rfl:=O h
 exact RZ (.agg rfl rfl (.cons rfl (.cons rfl (.cons rfl (.cons rfl (.nil))))) rfl (.nil))
theorem xl{x1:Qr}{x2:Qr}(N:Nat){r:Qr}(h:eY x1 x2=some r):cz Try.prog 61 N [.v (.int .u8 ((42:Nat):Int)),.agg (eQ x1),.agg (eQ x2)] (.agg ((fQ N) r)):=by
 obtain⟨⟨bp,bn⟩,⟨eO,eP⟩⟩:=x1
 obtain⟨⟨jX,jY⟩,⟨uG,uH⟩⟩:=x2
 refine aJ Try.func61 rfl (Nat.le_of_ble_eq_true rfl) (fun cS M vs hN hvs=>?_)
 unfold eY at h
 refine sr<|bx rfl<|bx rfl<|al (cs:=[.v (.bool false),nw N (slc 1 (List.map af [])),.v (.bool false),nw N (slc 1 (List.map af []))]) (by exact⟨SV.aa _,aA,SV.aa _,aA,trivial⟩) rfl<|dn<|sr<|ld rfl rfl (.cons rfl (.cons rfl (.cons rfl (.cons rfl (.nil))))) ?_
 obtain⟨⟨⟨gH,gI⟩,⟨iq,ir⟩⟩,fS,h⟩:=bS h
 refine cl (bw fS) ⟨rfl,trivial⟩<|mv rfl<|ex rfl rfl<|ex rfl rfl<|al (cs:=[.v (.bool false),nw N (slc 1 (List.map af []))]) (by exact⟨SV.aa _,aA,trivial⟩) rfl<|al (cs:=[.v (.bool false),nw N (slc 1 (List.map af []))]) (by exact⟨SV.aa _,aA,trivial⟩) rfl<|so rfl rfl rfl<|so rfl rfl rfl<|dn<|sr<|ld rfl rfl (.cons rfl (.cons rfl (.cons rfl (.cons rfl (.nil))))) ?_
 obtain⟨⟨⟨gJ,gK⟩,⟨iu,iv⟩⟩,ij,h⟩:=bS h
 refine cl (bw ij) ⟨rfl,trivial⟩<|mv rfl<|ex rfl rfl<|ex rfl rfl<|al (cs:=[.v (.bool false),nw N (slc 1 (List.map af []))]) (by exact⟨SV.aa _,aA,trivial⟩) rfl<|al (cs:=[.v (.bool false),nw N (slc 1 (List.map af []))]) (by exact⟨SV.aa _,aA,trivial⟩) rfl<|so rfl rfl rfl<|so rfl rfl rfl<|dn<|qq<|ai mixed<|cl dh trivial<|mv rfl ?_
 refine RT.look .none [.func (.func 84) #[] #[]] rfl rfl rfl T<|fl rfl rfl<|ld rfl rfl (.cons rfl (.cons rfl (.nil)))<|ld rfl rfl (.cons rfl (.cons rfl (.nil)))<|ld rfl rfl (.cons rfl (.cons rfl (.nil)))<|ld rfl rfl (.cons rfl (.cons rfl (.nil))) ?_
 obtain⟨⟨⟨iO,iP⟩,⟨iQ,iS⟩⟩,iK,h⟩:=bS h
 refine RT.aQ .none (rA N iK) hN rfl ⟨rfl,rfl,rfl,rfl,trivial⟩ T<|ex rfl rfl<|ex rfl rfl ?_
 obtain⟨⟨⟨lj,kA⟩,⟨nq,nu⟩⟩,jK,h⟩:=bS h
 refine RT.aQ .none ((ke N jK).w (args':=[_,_]) ⟨(SV.iy (show bT [.v (.bool iO),nw N (slc 1 (List.map af iP))] _ from⟨(SV.aa _),ee,trivial⟩)),(SV.iy (show bT [.v (.bool iQ),nw N (slc 1 (List.map af iS))] _ from⟨(SV.aa _),ee,trivial⟩)),trivial⟩) hN rfl ⟨rfl,rfl,trivial⟩ T<|so rfl rfl rfl ?_
 refine RT.done ⟨by kernel_rfl,?_⟩
 refine ae.n<|aj ?_
 obtain rfl:=O h
 exact RZ (.agg rfl rfl (.cons rfl (.cons rfl (.cons rfl (.cons rfl (.nil))))) rfl (.nil))
theorem uV{x0:Qr}(N:Nat){r:Qr}(h:bM x0=some r):cz Try.prog 37 N [.agg (eQ x0)] (.agg ((fQ N) r)):=by
 obtain⟨⟨aC,aD⟩,⟨aL,aM⟩⟩:=x0
 refine aJ Try.func37 rfl (Nat.le_of_ble_eq_true rfl) (fun cS M vs hN hvs=>?_)
 unfold bM at h
 refine sr<|bx rfl<|al (cs:=[.v (.bool false),nw N (slc 1 (List.map af [])),.v (.bool false),nw N (slc 1 (List.map af []))]) (by exact⟨SV.aa _,aA,SV.aa _,aA,trivial⟩) rfl<|dn<|qq<|sr<|ld rfl rfl (.cons rfl (.cons rfl (.cons rfl (.cons rfl (.nil))))) ?_
 obtain⟨⟨XB,XC,Uz⟩,h8,h⟩:=bS h
 refine cl (bJ h8) ⟨rfl,trivial⟩<|mv rfl<|ex rfl rfl<|ex rfl rfl<|ex rfl rfl<|ag rfl<|ag rfl<|ag rfl<|dn<|sr<|mv rfl<|dn ?_
 cases Uz
 refine fs<|sr<|ld rfl rfl (.cons rfl (.cons rfl (.cons rfl (.cons rfl (.nil))))) ?_
 obtain⟨⟨⟨Fs,Ft⟩,⟨Fu,Fv⟩⟩,kL,h⟩:=bS (F h)
 refine cl (bw kL) ⟨rfl,trivial⟩<|ex rfl rfl<|ex rfl rfl ?_
 obtain⟨⟨⟨JU,JV⟩,⟨JW,JX⟩⟩,lz,h⟩:=bS h
 refine RT.aQ .none (ke N lz) hN rfl ⟨rfl,rfl,trivial⟩ T<|so rfl rfl rfl<|dn<|aj ?_
 obtain rfl:=O h
 exact RZ (.agg rfl rfl (.cons rfl (.cons rfl (.cons rfl (.cons rfl (.nil))))) rfl (.nil))
 refine cT<|sr<|mv rfl<|mv rfl ?_
 obtain⟨⟨⟨iM,iN⟩,⟨Bm,Bn⟩⟩,gG,h⟩:=bS (V h)
 refine RT.aQ .none (kT N gG) hN rfl ⟨rfl,rfl,trivial⟩ T<|so rfl rfl rfl<|dn<|aj<|ae.r ?_
 obtain rfl:=O h
 exact RZ (.agg rfl rfl (.cons rfl (.cons rfl (.cons rfl (.cons rfl (.nil))))) rfl (.nil))
theorem DS{x0:Qr}{x1:Qr}(N:Nat){r:Qr}(h:jF x0 x1=some r):cz Try.prog 63 N [.agg (eQ x0),.agg (eQ x1)] (.agg ((fQ N) r)):=by
 obtain⟨⟨aC,aD⟩,⟨aL,aM⟩⟩:=x0
 obtain⟨⟨bp,bn⟩,⟨eO,eP⟩⟩:=x1
 refine aJ Try.func63 rfl (Nat.le_of_ble_eq_true rfl) (fun cS M vs hN hvs=>?_)
 unfold jF at h
 refine sr<|bx rfl<|bx rfl<|al (cs:=[.v (.bool false),nw N (slc 1 (List.map af [])),.v (.bool false),nw N (slc 1 (List.map af []))]) (by exact⟨SV.aa _,aA,SV.aa _,aA,trivial⟩) rfl<|dn<|sr<|ld rfl rfl (.cons rfl (.cons rfl (.cons rfl (.cons rfl (.nil))))) ?_
 obtain⟨⟨qP,pJ,qQ⟩,fS,h⟩:=bS h
 refine cl (bJ fS) ⟨rfl,trivial⟩<|mv rfl<|ex rfl rfl<|ex rfl rfl<|ex rfl rfl<|ag rfl<|ag rfl<|ag rfl<|dn<|sr<|ld rfl rfl (.cons rfl (.cons rfl (.cons rfl (.cons rfl (.nil))))) ?_
 obtain⟨⟨qR,pK,qS⟩,jM,h⟩:=bS h
 refine cl (bJ jM) ⟨rfl,trivial⟩<|mv rfl<|ex rfl rfl<|ex rfl rfl<|ex rfl rfl<|ag rfl<|ag rfl<|ag rfl<|dn<|qq<|qq ?_
 refine aF h (fun j3=>AS.bR 41 [(2,.ptr 2 0),(3,.ptr 3 0),(4,.ptr 4 0),(5,.sv (.v (.int .i64 qP))),(6,.sv (.v (.int .i64 pJ))),(8,.sv (.v (.int .i64 qR))),(9,.sv (.v (.int .i64 pK))),(26,.sv (.v (.bool j3)))] [(4,⟨52,[.sv (.v (.bool false)),.sv (nw N (slc 1 (List.map af []))),.sv (.v (.bool false)),.sv (nw N (slc 1 (List.map af [])))]⟩),(3,⟨52,[.sv (.v (.bool bp)),.sv (slc 1 (List.map af bn)),.sv (.v (.bool eO)),.sv (slc 1 (List.map af eP))]⟩),(2,⟨52,[.sv (.v (.bool aC)),.sv (slc 1 (List.map af aD)),.sv (.v (.bool aL)),.sv (slc 1 (List.map af aM))]⟩)] []) (fun h=>?_) (fun lC h=>?_)
 refine ah<|mv rfl<|mv rfl<|bE h fun qT kS h=>?_
 cases qQ
 obtain rfl:=O (F kS)
 exact ww<|pF rfl<|dn<|⟨false,h,wR []⟩
 refine gm rfl ?_
 obtain rfl:=O (V kS)
 exact pT rfl<|dn<|⟨qS,h,wR []⟩
 try dsimp only
 refine ae.n ?_
 cases lC
 refine fs<|sr<|ld rfl rfl (.cons rfl (.cons rfl (.cons rfl (.cons rfl (.nil)))))<|ld rfl rfl (.cons rfl (.cons rfl (.cons rfl (.cons rfl (.nil))))) ?_
 obtain⟨⟨⟨qL,qM⟩,⟨yY,yZ⟩⟩,nh,h⟩:=bS (F h)
 refine RT.aQ .none (xj N nh) hN rfl ⟨rfl,rfl,rfl,trivial⟩ T<|so rfl rfl rfl<|dn<|aj ?_
 obtain rfl:=O h
 exact RZ (.agg rfl rfl (.cons rfl (.cons rfl (.cons rfl (.cons rfl (.nil))))) rfl (.nil))
 refine cT<|sr<|mv rfl<|mv rfl<|lE (V h) fun gO iK h=>RT.mul .none _ rfl rfl T iK<|mv rfl<|mv rfl<|lE h fun ig jK h=>RT.mul .none _ rfl rfl T jK<|lE h fun o8 pD h=>ad _ rfl rfl pD<|mv rfl<|mv rfl<|lE h fun oQ ot h=>RT.mul .none _ rfl rfl T ot ?_
 obtain⟨⟨⟨yU,yV⟩,⟨yW,yX⟩⟩,vO,h⟩:=bS h
 refine RT.aQ .none (kT N vO) hN rfl ⟨rfl,rfl,trivial⟩ T<|so rfl rfl rfl<|dn<|aj<|ae.r ?_
 obtain rfl:=O h
 exact RZ (.agg rfl rfl (.cons rfl (.cons rfl (.cons rfl (.cons rfl (.nil))))) rfl (.nil))
theorem DT{x0:Qr}{x1:Qr}(N:Nat){r:Qr}(h:jG x0 x1=some r):cz Try.prog 42 N [.agg (eQ x0),.agg (eQ x1)] (.agg ((fQ N) r)):=by
 obtain⟨⟨aC,aD⟩,⟨aL,aM⟩⟩:=x0
 obtain⟨⟨bp,bn⟩,⟨eO,eP⟩⟩:=x1
 refine aJ Try.func42 rfl (Nat.le_of_ble_eq_true rfl) (fun cS M vs hN hvs=>?_)
 unfold jG at h
 refine sr<|bx rfl<|bx rfl<|al (cs:=[.v (.bool false),nw N (slc 1 (List.map af [])),.v (.bool false),nw N (slc 1 (List.map af []))]) (by exact⟨SV.aa _,aA,SV.aa _,aA,trivial⟩) rfl<|dn<|sr<|ld rfl rfl (.cons rfl (.cons rfl (.cons rfl (.cons rfl (.nil))))) ?_
 obtain⟨⟨qP,pJ,qQ⟩,fS,h⟩:=bS h
 refine cl (bJ fS) ⟨rfl,trivial⟩<|mv rfl<|ex rfl rfl<|ex rfl rfl<|ex rfl rfl<|ag rfl<|ag rfl<|ag rfl<|dn<|sr<|ld rfl rfl (.cons rfl (.cons rfl (.cons rfl (.cons rfl (.nil))))) ?_
 obtain⟨⟨qR,pK,qS⟩,jM,h⟩:=bS h
 refine cl (bJ jM) ⟨rfl,trivial⟩<|mv rfl<|ex rfl rfl<|ex rfl rfl<|ex rfl rfl<|ag rfl<|ag rfl<|ag rfl<|dn<|qq<|qq ?_
 refine aF h (fun j3=>AS.bR 41 [(2,.ptr 2 0),(3,.ptr 3 0),(4,.ptr 4 0),(5,.sv (.v (.int .i64 qP))),(6,.sv (.v (.int .i64 pJ))),(8,.sv (.v (.int .i64 qR))),(9,.sv (.v (.int .i64 pK))),(26,.sv (.v (.bool j3)))] [(4,⟨52,[.sv (.v (.bool false)),.sv (nw N (slc 1 (List.map af []))),.sv (.v (.bool false)),.sv (nw N (slc 1 (List.map af [])))]⟩),(3,⟨52,[.sv (.v (.bool bp)),.sv (slc 1 (List.map af bn)),.sv (.v (.bool eO)),.sv (slc 1 (List.map af eP))]⟩),(2,⟨52,[.sv (.v (.bool aC)),.sv (slc 1 (List.map af aD)),.sv (.v (.bool aL)),.sv (slc 1 (List.map af aM))]⟩)] []) (fun h=>?_) (fun lC h=>?_)
 refine ah<|mv rfl<|mv rfl<|bE h fun qT kS h=>?_
 cases qQ
 obtain rfl:=O (F kS)
 exact ww<|pF rfl<|dn<|⟨false,h,wR []⟩
 refine gm rfl ?_
 obtain rfl:=O (V kS)
 exact pT rfl<|dn<|⟨qS,h,wR []⟩
 try dsimp only
 refine ae.n ?_
 cases lC
 refine fs<|sr<|ld rfl rfl (.cons rfl (.cons rfl (.cons rfl (.cons rfl (.nil)))))<|ld rfl rfl (.cons rfl (.cons rfl (.cons rfl (.cons rfl (.nil))))) ?_
 obtain⟨⟨⟨qL,qM⟩,⟨yY,yZ⟩⟩,nh,h⟩:=bS (F h)
 refine RT.aQ .none (xk N nh) hN rfl ⟨rfl,rfl,rfl,trivial⟩ T<|so rfl rfl rfl<|dn<|aj ?_
 obtain rfl:=O h
 exact RZ (.agg rfl rfl (.cons rfl (.cons rfl (.cons rfl (.cons rfl (.nil))))) rfl (.nil))
 refine cT<|sr<|mv rfl<|mv rfl<|lE (V h) fun gO iK h=>RT.mul .none _ rfl rfl T iK<|mv rfl<|mv rfl<|lE h fun ig jK h=>RT.mul .none _ rfl rfl T jK<|lE h fun o8 pD h=>sb _ rfl rfl pD<|mv rfl<|mv rfl<|lE h fun oQ ot h=>RT.mul .none _ rfl rfl T ot ?_
 obtain⟨⟨⟨yU,yV⟩,⟨yW,yX⟩⟩,vO,h⟩:=bS h
 refine RT.aQ .none (kT N vO) hN rfl ⟨rfl,rfl,trivial⟩ T<|so rfl rfl rfl<|dn<|aj<|ae.r ?_
 obtain rfl:=O h
 exact RZ (.agg rfl rfl (.cons rfl (.cons rfl (.cons rfl (.cons rfl (.nil))))) rfl (.nil))
theorem DU{x0:Qr}{x1:Qr}(N:Nat){r:Qr}(h:iU x0 x1=some r):cz Try.prog 64 N [.agg (eQ x0),.agg (eQ x1)] (.agg ((fQ N) r)):=by
 obtain⟨⟨aC,aD⟩,⟨aL,aM⟩⟩:=x0
 obtain⟨⟨bp,bn⟩,⟨eO,eP⟩⟩:=x1
 refine aJ Try.func64 rfl (Nat.le_of_ble_eq_true rfl) (fun cS M vs hN hvs=>?_)
 unfold iU at h
 refine sr<|bx rfl<|bx rfl<|al (cs:=[.v (.bool false),nw N (slc 1 (List.map af [])),.v (.bool false),nw N (slc 1 (List.map af []))]) (by exact⟨SV.aa _,aA,SV.aa _,aA,trivial⟩) rfl<|dn<|sr<|ld rfl rfl (.cons rfl (.cons rfl (.cons rfl (.cons rfl (.nil))))) ?_
 obtain⟨⟨qP,pJ,qQ⟩,fS,h⟩:=bS h
 refine cl (bJ fS) ⟨rfl,trivial⟩<|mv rfl<|ex rfl rfl<|ex rfl rfl<|ex rfl rfl<|ag rfl<|ag rfl<|ag rfl<|dn<|sr<|ld rfl rfl (.cons rfl (.cons rfl (.cons rfl (.cons rfl (.nil))))) ?_
 obtain⟨⟨qR,pK,qS⟩,jM,h⟩:=bS h
 refine cl (bJ jM) ⟨rfl,trivial⟩<|mv rfl<|ex rfl rfl<|ex rfl rfl<|ex rfl rfl<|ag rfl<|ag rfl<|ag rfl<|dn<|qq<|qq ?_
 refine aF h (fun j3=>AS.bR 37 [(2,.ptr 2 0),(3,.ptr 3 0),(4,.ptr 4 0),(5,.sv (.v (.int .i64 qP))),(6,.sv (.v (.int .i64 pJ))),(8,.sv (.v (.int .i64 qR))),(9,.sv (.v (.int .i64 pK))),(26,.sv (.v (.bool j3)))] [(4,⟨52,[.sv (.v (.bool false)),.sv (nw N (slc 1 (List.map af []))),.sv (.v (.bool false)),.sv (nw N (slc 1 (List.map af [])))]⟩),(3,⟨52,[.sv (.v (.bool bp)),.sv (slc 1 (List.map af bn)),.sv (.v (.bool eO)),.sv (slc 1 (List.map af eP))]⟩),(2,⟨52,[.sv (.v (.bool aC)),.sv (slc 1 (List.map af aD)),.sv (.v (.bool aL)),.sv (slc 1 (List.map af aM))]⟩)] []) (fun h=>?_) (fun lC h=>?_)
 refine ah<|mv rfl<|mv rfl<|bE h fun qT kS h=>?_
 cases qQ
 obtain rfl:=O (F kS)
 exact ww<|pF rfl<|dn<|⟨false,h,wR []⟩
 refine gm rfl ?_
 obtain rfl:=O (V kS)
 exact pT rfl<|dn<|⟨qS,h,wR []⟩
 try dsimp only
 refine ae.n ?_
 cases lC
 refine fs<|sr<|ld rfl rfl (.cons rfl (.cons rfl (.cons rfl (.cons rfl (.nil)))))<|ld rfl rfl (.cons rfl (.cons rfl (.cons rfl (.cons rfl (.nil))))) ?_
 obtain⟨⟨⟨qJ,qK⟩,⟨J2,J3⟩⟩,ot,h⟩:=bS (F h)
 refine RT.aQ .none (xl N ot) hN rfl ⟨rfl,rfl,rfl,trivial⟩ T<|so rfl rfl rfl<|dn<|aj ?_
 obtain rfl:=O h
 exact RZ (.agg rfl rfl (.cons rfl (.cons rfl (.cons rfl (.cons rfl (.nil))))) rfl (.nil))
 refine cT<|sr<|mv rfl<|mv rfl<|lE (V h) fun gO iK h=>RT.mul .none _ rfl rfl T iK<|mv rfl<|mv rfl<|lE h fun ig jK h=>RT.mul .none _ rfl rfl T jK ?_
 obtain⟨⟨⟨JY,JZ⟩,⟨J0,J1⟩⟩,pD,h⟩:=bS h
 refine RT.aQ .none (kT N pD) hN rfl ⟨rfl,rfl,trivial⟩ T<|so rfl rfl rfl<|dn<|aj<|ae.r ?_
 obtain rfl:=O h
 exact RZ (.agg rfl rfl (.cons rfl (.cons rfl (.cons rfl (.cons rfl (.nil))))) rfl (.nil))
end Go.Proofs.Ytningmnklfpfjaa
namespace Go.Fw
open Go.RowKit
section steps
variable {P:Program}{C:Ctx}{ops:Array Oper}{S:AS}{nd:Bool}{K:List Ac→AS→Prop}{rest:List Oper}{acc:List Ac}{N:Nat}
variable {gd:Option (Nat×Bool)}{rg:List Nat}{d:Nat}{ty:TypeId}{pos:String}{aft:Array Edge}{x y z:Operand}{T U E0:TypeId}
theorem RT.RA(hg:Gd ops S gd rg){f:FuncId}[dj P f]{g:Operand}{xs:Array Operand}{at_:Array TypeId}{args caps:List SV}{r:SV}(hp:cz P f N (args++caps) r)(hN:N≤C.w0.heap.size)(hf:S.ev g=.sv (gP f caps))(hargs:fj S xs.toList args)(hd:d<S.n)
  (next:RunT P C ops nd K rest (⟨rg++(ak g++xs.toList.flatMap ak),[],[],⟨some (d,.sv r),[],[]⟩⟩::acc) (S.set d (.sv r))):RunT P C ops nd K (⟨some d,.call ⟨.value g,xs,at_⟩,ty,pos,aft,gd⟩::rest) acc S:=by
 refine .inl ⟨_,[],[],_,?_,next⟩
 rintro S' hn ht _ _ i a w L Q ho ⟨E,h⟩ hL
 refine bD (C:=C) ho (hg.wanted h (fun s hs=>ht s (List.mem_append_left _ hs)) rfl) ?_
 have qt:(gP f caps).h E.M (a.eval g):=by
  have h1:=h.ev g;rw[aE (fun _ h=>List.mem_append_right _ (List.mem_append_left _ h)) ht,hf]at h1;exact h1
 obtain⟨nf,qt,Ag⟩:=qt
 have hall:=SV.dz.append (fj.vals h hargs (fun s hs=>ht s (List.mem_append_right _ (List.mem_append_right _ hs)))) Ag
 have hr:(execOp a.eval ⟨some d,.call ⟨.value g,xs,at_⟩,ty,pos,aft,gd⟩).run P w=.ok (.enter f ⟨xs.toList.map a.eval++nf⟩) w:=by
  have e2:xs.map a.eval++⟨nf⟩=⟨xs.toList.map a.eval++nf⟩:=by apply Array.ext';simp
  have e1:=dj.run (P:=P) (f:=f) (xs.map a.eval++⟨nf⟩) w
  rw[←e2]
  simp[execOp,resolve,qt,Deferred.ofValue,invoke,e1]
 refine bB (C:=C) (by intro c h;cases h) hr ?_
 refine⟨fun h=>by simp at h,fu ((hp E.M w _ (Nat.le_trans hN h.grown) h.cm hall).mono ?_)⟩
 rintro e w' ⟨v,M',rfl,hM,hnew,hin,hv,hb⟩
 exact hL _ _ ⟨_,(h.grow hM hnew hin hb).put (x:=.sv r) hv (by show d<S'.n;omega) dY⟩
end steps
end Go.Fw
namespace Go.Proofs.Ytningmnklfpfjaa
open Go.Fw Go.Fw.Z Go.RowKit
theorem zJ{x0:List Qr}{x1:List Qr}(N:Nat){r:List Qr}(h:gZ x0 x1=some r):cz Try.prog 41 N [slc 4 (List.map eQ x0),slc 4 (List.map eQ x1),.v (.func (.func 42) #[] #[])] (nw N (slc 4 (List.map (fQ N) r))):=by
 refine aJ Try.func41 rfl (Nat.le_of_ble_eq_true rfl) (fun cS M vs hN hvs=>?_)
 unfold gZ at h
 refine sr<|RT.uc .none (s:=.sv _) rfl T rfl rfl<|aI rfl (aA (N:=N) (n:=4) (e:=(fQ N)))<|dn<|sr<|mv rfl<|lE h fun iz me h=>ln rfl me<|mv rfl<|lE h fun gC fS h=>ln rfl fS<|lE h fun gY ku h=>RT.max .none _ rfl rfl T (EU (p:=iz) (q:=gC) ku)<|bE h fun fC gG h=>RT.sE (e:=(fQ N)) .none rfl rfl T rfl T gG<|RT.alloc .none T rfl rfl<|RT.gA (cells:=[_]) .none rfl rfl rfl rfl T rfl<|dn<|qq<|sr ?_
 refine mv rfl<|mv rfl<|cl (j0 x0 x1) ⟨rfl,rfl,trivial⟩<|dn<|aq<|bE h fun gL Rh Ri=>?_
 obtain⟨Kc,Rj,Rk,Rl⟩:=jc Rh
 refine fB (j1 x0 x1) (fun _ _ _ _ _=>trivial) rfl (fun k=>AS.bR 29 [(5,.ptr 5 0),(7,.ptr 7 0),(18,.sv (gP 56 [ref [slc 4 (List.map eQ x0)],ref [slc 4 (List.map eQ x1)]]))] [(7,⟨28,[.row 302]⟩),(5,⟨76,[.sv (.v (.func (.func 42) #[] #[]))]⟩)] [(302,TR 52 4 (fQ N) (Kc k))]) [7,5] rfl (fun _=>⟨rfl,rfl⟩) (nJ rfl) (fun _=>rfl) (nK rfl) (by(try dsimp only);rw[Rj];(try dsimp only);exact dm (fun i=>bif Nat.beq i 302 then 15 else i) rfl rfl rfl rfl rfl ⟨.ptr,.ptr,.sv (SV.aa _),trivial⟩ ⟨⟨_,rfl,⟨.row rfl,trivial⟩⟩,⟨_,rfl,⟨.sv (SV.aa _),trivial⟩⟩,trivial⟩ ⟨⟨_,rfl,bT.refl _⟩,trivial⟩ (fun i hi=>by rw[bU (show i≠302 by omega)];rfl)) (fun k hk D hD=>?_) ?_
 have h:=Rk k hk
 obtain⟨gL,Ff⟩:∃q,Kc k=q:=⟨_,rfl⟩
 rw[Ff]at h⊢
 dsimp only[AS.HX,n8]
 try dsimp only at h
 obtain⟨⟨⟨y9,za⟩,⟨zb,ze⟩⟩,Fx,h⟩:=bS h
 rw[Option.some.inj Fx]
 obtain⟨⟨⟨zf,zg⟩,⟨zh,zj⟩⟩,yQ,h⟩:=bS h
 rw[Option.some.inj yQ]
 refine sr<|al (cs:=[.v (.bool false),nw N (slc 1 (List.map af [])),.v (.bool false),nw N (slc 1 (List.map af []))]) (by exact⟨SV.aa _,aA,SV.aa _,aA,trivial⟩) rfl<|so rfl rfl rfl<|dn<|ah<|al (cs:=[.v (.bool false),nw N (slc 1 (List.map af [])),.v (.bool false),nw N (slc 1 (List.map af []))]) (by exact⟨SV.aa _,aA,SV.aa _,aA,trivial⟩) rfl<|so rfl rfl rfl<|RT.done ?_
 refine ae.n ⟨rfl,?_⟩
 dsimp only[AS.wY]
 refine aq<|ai mixed<|RT.dR .none (s:=.row _) rfl rfl rfl T<|lV rfl rfl rfl<|ld rfl rfl (.cons rfl (.cons rfl (.cons rfl (.cons rfl (.nil)))))<|ld rfl rfl (.cons rfl (.cons rfl (.cons rfl (.cons rfl (.nil))))) ?_
 obtain⟨⟨⟨gQ,gR⟩,⟨mI,mJ⟩⟩,pB,h⟩:=bS h
 refine RT.aQ .none (DT N pB) (Nat.le_trans hN hD) rfl ⟨rfl,rfl,trivial⟩ T<|bl (l:=[⟨⟨gQ,gR⟩,⟨mI,mJ⟩⟩]) (e:=(fQ N)) (.agg rfl (.nil)) rfl rfl rfl rfl rfl rfl<|bE h fun lf oR h=>aR (k:=[⟨⟨gQ,gR⟩,⟨mI,mJ⟩⟩]) (e:=(fQ N)) rfl rfl rfl oR<|RT.gA (cells:=[_]) .none rfl rfl rfl rfl T rfl ?_
 refine RT.done ⟨by kernel_rfl,?_⟩
 refine aH.n ?_
 replace h:=Option.some.inj h
 refine⟨trivial,rfl,rfl,?_⟩
 try dsimp only
 rw[←h]
 try dsimp only
 exact dm (fun i=>bif Nat.beq i 302 then 27 else i) rfl rfl rfl rfl rfl ⟨.ptr,.ptr,.sv (SV.aa _),trivial⟩ ⟨⟨_,rfl,⟨.row rfl,trivial⟩⟩,⟨_,rfl,⟨.sv (SV.aa _),trivial⟩⟩,trivial⟩ ⟨⟨_,rfl,bT.refl _⟩,trivial⟩ (fun i hi=>by rw[bU (show i≠302 by omega)];rfl)
 rw[Rl]
 try dsimp only
 refine aH.n<|ae.n<|sr<|RT.dR .none (s:=.row _) rfl rfl rfl T<|an (s:=.row _) rfl<|dn<|jy (i:=302) (E1:=52) (n:=4) (e:=(fQ N)) (l:=gL) hN (fun _ h=>h) rfl<|aj ?_
 obtain rfl:=O Ri
 exact R1 rfl
theorem tB{x0:Qr}{x1:Qr}{AD:Qr}(N:Nat){r:Qr}(h:fH x0 x1 AD=some r):cz Try.prog 62 N [.agg (eQ x0),.agg (eQ x1),ref (eQ AD)] (.agg ((fQ N) r)):=by
 obtain⟨⟨aC,aD⟩,⟨aL,aM⟩⟩:=x0
 obtain⟨⟨bp,bn⟩,⟨eO,eP⟩⟩:=x1
 obtain⟨⟨Bo,Bp⟩,⟨Bq,Br⟩⟩:=AD
 refine aJ Try.func62 rfl (Nat.le_of_ble_eq_true rfl) (fun cS M vs hN hvs=>?_)
 unfold fH at h
 refine sr<|bx rfl<|bx rfl<|al (cs:=[.v (.bool false),nw N (slc 1 (List.map af [])),.v (.bool false),nw N (slc 1 (List.map af []))]) (by exact⟨SV.aa _,aA,SV.aa _,aA,trivial⟩) rfl<|dn<|qq<|ai mixed<|RT.jk (cs:=[_,_,_,_]) .none rfl T rfl rfl<|ld rfl rfl (.cons rfl (.cons rfl (.cons rfl (.cons rfl (.nil))))) ?_
 obtain⟨⟨⟨uI,uJ⟩,⟨AE,AF⟩⟩,h8,h⟩:=bS h
 refine RT.aQ .none (DU N h8) hN rfl ⟨rfl,rfl,trivial⟩ T<|ld rfl rfl (.cons rfl (.cons rfl (.cons rfl (.cons rfl (.nil))))) ?_
 obtain⟨⟨⟨yK,yL⟩,⟨J6,J7⟩⟩,fP,h⟩:=bS h
 refine RT.aQ .none ((DS N fP).w (args':=[_,_]) ⟨(SV.iy (show bT [.v (.bool uI),nw N (slc 1 (List.map af uJ)),.v (.bool AE),nw N (slc 1 (List.map af AF))] _ from⟨(SV.aa _),ee,(SV.aa _),ee,trivial⟩)),(SV.aa _),trivial⟩) hN rfl ⟨rfl,rfl,trivial⟩ T<|so rfl rfl rfl ?_
 refine RT.done ⟨by kernel_rfl,?_⟩
 refine ae.n<|aj ?_
 obtain rfl:=O h
 exact RZ (.agg rfl rfl (.cons rfl (.cons rfl (.cons rfl (.cons rfl (.nil))))) rfl (.nil))
theorem uW{x0:List Qr}{x1:List Qr}{Ci:Qr}(N:Nat){r:List Qr}(h:eR x0 x1 Ci=some r):cz Try.prog 41 N [slc 4 (List.map eQ x0),slc 4 (List.map eQ x1),gP 62 [ref (eQ Ci)]] (nw N (slc 4 (List.map (fQ N) r))):=by
 obtain⟨⟨zk,zm⟩,⟨zo,zq⟩⟩:=Ci
 refine aJ Try.func41 rfl (Nat.le_of_ble_eq_true rfl) (fun cS M vs hN hvs=>?_)
 unfold eR at h
 refine sr<|RT.uc .none (s:=.sv _) rfl T rfl rfl<|aI rfl (aA (N:=N) (n:=4) (e:=(fQ N)))<|dn<|sr<|mv rfl<|lE h fun iz me h=>ln rfl me<|mv rfl<|lE h fun gC fS h=>ln rfl fS<|lE h fun gY ku h=>RT.max .none _ rfl rfl T (EU (p:=iz) (q:=gC) ku)<|bE h fun fC gG h=>RT.sE (e:=(fQ N)) .none rfl rfl T rfl T gG<|RT.alloc .none T rfl rfl<|RT.gA (cells:=[_]) .none rfl rfl rfl rfl T rfl<|dn<|qq<|sr ?_
 refine mv rfl<|mv rfl<|cl (j0 x0 x1) ⟨rfl,rfl,trivial⟩<|dn<|aq<|bE h fun gL Rh Ri=>?_
 obtain⟨Kc,Rj,Rk,Rl⟩:=jc Rh
 refine fB (j1 x0 x1) (fun _ _ _ _ _=>trivial) rfl (fun k=>AS.bR 29 [(5,.ptr 5 0),(7,.ptr 7 0),(18,.sv (gP 56 [ref [slc 4 (List.map eQ x0)],ref [slc 4 (List.map eQ x1)]]))] [(7,⟨28,[.row 302]⟩),(5,⟨76,[.sv (gP 62 [ref [.v (.bool zk),slc 1 (List.map af zm),.v (.bool zo),slc 1 (List.map af zq)]])]⟩)] [(302,TR 52 4 (fQ N) (Kc k))]) [7,5] rfl (fun _=>⟨rfl,rfl⟩) (nJ rfl) (fun _=>rfl) (nK rfl) (by(try dsimp only);rw[Rj];(try dsimp only);exact dm (fun i=>bif Nat.beq i 302 then 15 else i) rfl rfl rfl rfl rfl ⟨.ptr,.ptr,.sv (SV.aa _),trivial⟩ ⟨⟨_,rfl,⟨.row rfl,trivial⟩⟩,⟨_,rfl,⟨.sv (SV.aa _),trivial⟩⟩,trivial⟩ ⟨⟨_,rfl,bT.refl _⟩,trivial⟩ (fun i hi=>by rw[bU (show i≠302 by omega)];rfl)) (fun k hk D hD=>?_) ?_
 have h:=Rk k hk
 obtain⟨gL,Ff⟩:∃q,Kc k=q:=⟨_,rfl⟩
 rw[Ff]at h⊢
 dsimp only[AS.HX,n8]
 try dsimp only at h
 obtain⟨⟨⟨y9,za⟩,⟨zb,ze⟩⟩,Fx,h⟩:=bS h
 rw[Option.some.inj Fx]
 obtain⟨⟨⟨zf,zg⟩,⟨zh,zj⟩⟩,yQ,h⟩:=bS h
 rw[Option.some.inj yQ]
 refine sr<|al (cs:=[.v (.bool false),nw N (slc 1 (List.map af [])),.v (.bool false),nw N (slc 1 (List.map af []))]) (by exact⟨SV.aa _,aA,SV.aa _,aA,trivial⟩) rfl<|so rfl rfl rfl<|dn<|ah<|al (cs:=[.v (.bool false),nw N (slc 1 (List.map af [])),.v (.bool false),nw N (slc 1 (List.map af []))]) (by exact⟨SV.aa _,aA,SV.aa _,aA,trivial⟩) rfl<|so rfl rfl rfl<|RT.done ?_
 refine ae.n ⟨rfl,?_⟩
 dsimp only[AS.wY]
 refine aq<|ai mixed<|RT.dR .none (s:=.row _) rfl rfl rfl T<|lV rfl rfl rfl<|ld rfl rfl (.cons rfl (.cons rfl (.cons rfl (.cons rfl (.nil)))))<|ld rfl rfl (.cons rfl (.cons rfl (.cons rfl (.cons rfl (.nil))))) ?_
 obtain⟨⟨⟨gQ,gR⟩,⟨mI,mJ⟩⟩,pB,h⟩:=bS h
 refine RT.RA (args:=[_,_]) (caps:=[_]) .none (tB N pB) (Nat.le_trans hN hD) rfl ⟨rfl,rfl,trivial⟩ T<|bl (l:=[⟨⟨gQ,gR⟩,⟨mI,mJ⟩⟩]) (e:=(fQ N)) (.agg rfl (.nil)) rfl rfl rfl rfl rfl rfl<|bE h fun lf oR h=>aR (k:=[⟨⟨gQ,gR⟩,⟨mI,mJ⟩⟩]) (e:=(fQ N)) rfl rfl rfl oR<|RT.gA (cells:=[_]) .none rfl rfl rfl rfl T rfl ?_
 refine RT.done ⟨by kernel_rfl,?_⟩
 refine aH.n ?_
 replace h:=Option.some.inj h
 refine⟨trivial,rfl,rfl,?_⟩
 try dsimp only
 rw[←h]
 try dsimp only
 exact dm (fun i=>bif Nat.beq i 302 then 27 else i) rfl rfl rfl rfl rfl ⟨.ptr,.ptr,.sv (SV.aa _),trivial⟩ ⟨⟨_,rfl,⟨.row rfl,trivial⟩⟩,⟨_,rfl,⟨.sv (SV.aa _),trivial⟩⟩,trivial⟩ ⟨⟨_,rfl,bT.refl _⟩,trivial⟩ (fun i hi=>by rw[bU (show i≠302 by omega)];rfl)
 rw[Rl]
 try dsimp only
 refine aH.n<|ae.n<|sr<|RT.dR .none (s:=.row _) rfl rfl rfl T<|an (s:=.row _) rfl<|dn<|jy (i:=302) (E1:=52) (n:=4) (e:=(fQ N)) (l:=gL) hN (fun _ h=>h) rfl<|aj ?_
 obtain rfl:=O Ri
 exact R1 rfl
theorem vV{x0:Qr}{x1:List Qr}{x2:List Qr}(N:Nat){r:List Qr}(h:dN x0 x1 x2=some r):cz Try.prog 43 N [.agg (eQ x0),slc 4 (List.map eQ x1),slc 4 (List.map eQ x2)] (nw N (slc 4 (List.map (fQ N) r))):=by
 obtain⟨⟨aC,aD⟩,⟨aL,aM⟩⟩:=x0
 refine aJ Try.func43 rfl (Nat.le_of_ble_eq_true rfl) (fun cS M vs hN hvs=>?_)
 unfold dN at h
 refine sr<|bx rfl<|aI rfl (aA (N:=N) (n:=4) (e:=(fQ N)))<|dn ?_
 refine bt (fX (i:=3) rfl [.v (.bool aC),slc 1 (List.map af aD),.v (.bool aL),slc 1 (List.map af aM)] (.cons rfl (.cons rfl (.cons rfl (.cons rfl (.nil))))) .any 0 [(3,.sv (ref [.v (.bool aC),slc 1 (List.map af aD),.v (.bool aL),slc 1 (List.map af aM)]))] (fun _ _ _=>trivial) (oU.h (l:=[.v (.bool aC),slc 1 (List.map af aD),.v (.bool aL),slc 1 (List.map af aM)])) ⟨@FT.ptr _ _ _ _ _ 3 0 rfl,trivial⟩)<|sr<|mv rfl<|mv rfl<|RT.rS (caps:=[_]) .none ⟨rfl,trivial⟩ T<|bE h fun dW fP h=>?_
 refine RT.aQ .none (uW N fP) hN rfl ⟨rfl,rfl,rfl,trivial⟩ T<|ag rfl<|dn<|aj ?_
 obtain rfl:=O h
 exact R1 rfl
theorem FB{x0:List Qr}{x1:List Qr}(N:Nat){r:List Qr}(h:kM x0 x1=some r):cz Try.prog 26 N [slc 4 (List.map eQ x0),slc 4 (List.map eQ x1)] (nw N (slc 4 (List.map (fQ N) r))):=by
 refine aJ Try.func26 rfl (Nat.le_of_ble_eq_true rfl) (fun cS M vs hN hvs=>?_)
 unfold kM at h
 refine sr<|aI rfl (aA (N:=N) (n:=4) (e:=(fQ N)))<|dn<|sr<|mv rfl<|mv rfl<|bE h fun x7 h7 h=>RT.aQ .none (zJ N h7) hN rfl ⟨rfl,rfl,rfl,trivial⟩ T<|ag rfl<|dn<|aj ?_
 obtain rfl:=O h
 exact R1 rfl
end Go.Proofs.Ytningmnklfpfjaa
namespace Go.Fw
open Go.RowKit
def Gj(P:Program)(f:FuncId)(args:Nat→List AV)(T:TypeId)(c:List Oc)(Post:Nat→Mem→World→Value→Prop):Prop:=
 ∀(M:Mem) (w:World) (β:Nat) (vs us:List Value),M.cm w→nv M w β T c us→cu (mO M β) (args β) vs→
  Calls P f ⟨vs⟩ w fun e w'=>∃v M',e=.returned v∧M.le M'∧(∀b o x,M' b o=some x→M b o=some x∨w.heap.size≤b)∧M'.cm w'∧Post w.heap.size M' w' v∧
   nv M' w' β T c us∧w'.os=w.os∧w'.tape=w.tape∧w'.output=w.output∧w.heap.size≤w'.heap.size∧∀k,k<w.heap.size→k≠β→¬dA c us k→w'.heap[k]? =w.heap[k]?
theorem DV{P:Program}{f:FuncId}{fn:Func}{code:Code}{args:Nat→List AV}{T:TypeId}{c:List Oc}{Post:Nat→Mem→World→Value→Prop}(ids:List Nat)(hf:P.funcs[f]? =some fn)(hb:fn.body=some code)(hn:∀β,(args β).length≤fn.ntmps)(Ge:∀β,(args β).all AV.oy=true)(An:ids.Nodup)(Ot:ids.length=(rowsOf c).length)(hge:(ids.all fun i=>Nat.ble 1000 i)=true)(RB:Cm c)(Rq:AS→Prop)
  (h:∀(w:World) (M:Mem) (β:Nat) (us:List Value),Ok P (MB w M β c us ids hge) code (AS.Af fn.ntmps (args β) [(1000,⟨T,bz ids c⟩)] (ids.zip (rowsOf c))) (fun e S=>(e=.normal∨e=.ret)∧Rq S∧S.b 1000=some ⟨T,bz ids c⟩∧Lv S ids (rowsOf c)))
  (hr:∀(w:World) (M:Mem) (β:Nat) (us:List Value) (S':AS) (E:Env) (a:Act) (w':World),Rq S'→ax (MB w M β c us ids hge) S' E a w'→S'.b 1000=some ⟨T,bz ids c⟩→(∀g,dA c us g→∃j∈ids,(E.ν j).ownBlock=some g)→(∀j∈ids,∃R,S'.r j=.live R)→∃v,(results fn a.tmps).run P w'=.ok v w'∧Post w.heap.size E.M w' v):Gj P f args T c Post:=by
 intro M w β vs us hM ho hv
 have S4:(aZ c us).length=(rowsOf c).length:=by rw[←gz ho.al,List.length_map]
 have hnd:((ids.zip (aZ c us)).map (·.1)).Nodup:=by rw[xK (by omega)];exact An
 have Pq:ax (MB w M β c us ids hge) (AS.Af fn.ntmps (args β) [(1000,⟨T,bz ids c⟩)] (ids.zip (rowsOf c))) ⟨fun _=>β,jH (ids.zip (aZ c us)) (fun _=>.nilIface),fun _=>False,M⟩ {tmps:=⟨vs⟩++Array.replicate (fn.ntmps-(⟨vs⟩:Array Value).size) undef,defers:=[]} w:=by
  have h0:=Gc (n:=fn.ntmps) ids hM ho hv (Ge β) (hn β) An Ot
  exact{wf:=h0.wf,marks:=h0.marks,size:=h0.size,os:=h0.os,tape:=h0.tape,output:=h0.output,grown:=h0.grown,frame:=h0.frame,m0:=h0.m0,dO:=h0.dO,cm:=h0.cm,tm:=h0.tm,bx:=h0.bx,inj:=h0.inj,rx:=h0.rx,eu:=h0.eu,fM:=h0.fM,dy:=fun i v e=>(by
   obtain⟨R,hm⟩:=Ck e
   exact gV hnd hm),jJ:=h0.jJ,jj:=trivial}
 refine fz rfl hf hb Pq (h w M β us) ?_
 rintro S' E a w' ⟨hq,hB,hL⟩ hh
 have hβ:E.β 1000=β:=hh.fM 1000 β rfl
 obtain⟨us',ho',jE⟩:=oA hh hB hL An
 rw[hβ]at ho'
 obtain⟨_,_,_,Ts,q2,q3⟩:=hh.bx 1000 _ hB
 rw[hβ,ho'.hp]at q2
 obtain rfl:us'=Ts:=by
  have:=Option.some.inj q2
  injection this with e
  injection e
 obtain⟨_,Yt⟩:=ri hh hL q3
 have iF:aZ c us=aZ c us':=by
  rw[Yt]
  have key:∀(ids:List Nat) (l:List (Row×Value)) (Rs:List Row),ids.length=l.length→l.map (·.1)=Rs→(∀i R v,(i,R,v)∈ids.zip l→E.ν i=v)→l=Rs.zip (ids.map E.ν):=by
   intro ids
   induction ids with
   |nil=>intro l Rs hl hm _;cases l with|nil=>cases hm;rfl|cons _ _=>simp at hl
   |cons i ids ih=>
    intro l Rs hl hm hν
    cases l with
    |nil=>simp at hl
    |cons p l=>
     cases hm
     obtain⟨R,v⟩:=p
     rw[List.map_cons,List.map_cons,List.zip_cons_cons,hν i R v (by rw[List.zip_cons_cons];simp),←ih l _ (by simpa using hl) rfl (fun i R v hm=>hν i R v (by rw[List.zip_cons_cons];exact List.mem_cons_of_mem _ hm))]
  exact key ids _ _ (by omega) (gz ho.al) (fun i R v hm=>hh.dy i v (Kj hnd hm))
 obtain rfl:us=us':=Co RB ho.al ho'.al iF
 obtain⟨v,hv,hx⟩:=hr w M β us S' E a w' hq hh hB (fun g hg=>(jE g).1 hg) (fun j hj=>hL.mem j hj)
 refine⟨v,hv,v,E.M,rfl,hh.m0,fun b o x e=>?_,hh.cm,hx,ho',hh.os,hh.tape,hh.output,hh.grown,fun k hk hne hno=>hh.frame k hk (fun e=>e.elim hne hno)⟩
 rcases hh.dO b o x e with q|q|q|q
 ·exact .inl q
 ·exact .inr q
 ·rw[show b=β from q,ho'.nb o]at e;cases e
 ·rw[(ho'.nr b q).2 o]at e;cases e
section steps
variable {P:Program}{C:Ctx}{ops:Array Oper}{S:AS}{nd:Bool}{K:List Ac→AS→Prop}{rest:List Oper}{acc:List Ac}
variable {gd:Option (Nat×Bool)}{rg:List Nat}{d:Nat}{ty:TypeId}{pos:String}{aft:Array Edge}{x y z:Operand}{T U E0:TypeId}
end steps
end Go.Fw
namespace Go.Fw
open Go.RowKit
section
variable {P:Program}{C:Ctx}{S:AS}{Q:Exit→AS→Prop}
def Mem.ct(M:Mem)(N1 N2:Nat):Mem:=fun b o=>if N1≤b∧b<N2 then none else M b o
def KpS(N1 N2:Nat)(s s':SV):Prop:=∀M v,s.h M v→s'.h (M.ct N1 N2) v
inductive RC (N1 N2:Nat):AV→AV→Prop
 |sv {s s':SV} (h:KpS N1 N2 s s'):RC N1 N2 (.sv s) (.sv s')
 |ptr {i o:Nat}:RC N1 N2 (.ptr i o) (.ptr i o)
theorem RC.holds{N1 N2:Nat}{x y:AV}{E:Env}{v:Value}(h:RC N1 N2 x y)(hx:x.holds E v):y.holds {E with M:=E.M.ct N1 N2} v:=by
 cases h with
 |sv h=>exact h _ _ hx
 |ptr=>exact hx
def Hv(N1 N2:Nat):List AV→List AV→Prop
 |[],[]=>True
 |x::l,y::l'=>RC N1 N2 x y∧Hv N1 N2 l l'
 |_,_=>False
theorem Hv.holds{N1 N2:Nat}{E:Env}:∀{l l':List AV} {vs:List Value},Hv N1 N2 l l'→cu E l vs→cu {E with M:=E.M.ct N1 N2} l' vs
 |[],[],[],_,_=>trivial
 |_::_,_::_,_::_,h,hv=>⟨h.1.holds hv.1,Hv.holds h.2 hv.2⟩
 |[],[],_::_,_,hv=>hv.elim
 |_::_,_::_,[],_,hv=>hv.elim
 |[],_::_,_,h,_=>h.elim
 |_::_,[],_,h,_=>h.elim
def V3(N1 N2:Nat)(S:AS):List (Nat×AV)→Prop
 |[]=>True
 |(k,x)::l=>RC N1 N2 (S.t k) x∧V3 N1 N2 S l
def V4(N1 N2:Nat)(S:AS):List (Nat×l7)→Prop
 |[]=>True
 |(k,x)::l=>(∃cs,S.b k=some ⟨x.T,cs⟩∧Hv N1 N2 cs x.cells)∧V4 N1 N2 S l
theorem V3.mem{N1 N2:Nat}{S:AS}:∀{l:List (Nat×AV)},V3 N1 N2 S l→∀p∈l,RC N1 N2 (S.t p.1) p.2
 |_::_,h,p,hp=>by
  rcases List.mem_cons.1 hp with rfl|hp
  ·exact h.1
  ·exact V3.mem h.2 p hp
theorem V4.mem{N1 N2:Nat}{S:AS}:∀{l:List (Nat×l7)},V4 N1 N2 S l→∀p∈l,∃cs,S.b p.1=some ⟨p.2.T,cs⟩∧Hv N1 N2 cs p.2.cells
 |_::_,h,p,hp=>by
  rcases List.mem_cons.1 hp with rfl|hp
  ·exact h.1
  ·exact V4.mem h.2 p hp
end
section
variable {P:Program}{C:Ctx}{ops:Array Oper}{S:AS}{K:List Ac→AS→Prop}{rest:List Oper}{acc:List Ac}
variable {gd:Option (Nat×Bool)}{rg:List Nat}{d:Nat}{ty:TypeId}{pos:String}{aft:Array Edge}{x y z:Operand}{T U E0:TypeId}
end
end Go.Fw
namespace Go.Fw
open Go.RowKit
structure S7 where
 W:World
 Mx:Mem
 b0:Nat
 o0:Nat
 n:Nat
 sz:Nat
 hin:Mx.cm W
 hb:0<n→∃o,Mx b0 o=some (.agg #[])
 cell:∀i k,i<n→k<sz→∃y,Mx b0 (o0+i*sz+k)=some y∧y.oneCell'=true
def Ow(D:S7)(b:Nat):Prop:=∃o,D.Mx b o=some (.agg #[])
def Bt(D:S7)(g:Nat)(w:World):Prop:=
 (∀i k y,g≤i→i<D.n→k<D.sz→D.Mx D.b0 (D.o0+i*D.sz+k)=some y→w.cell? ⟨D.b0,D.o0+i*D.sz+k,none⟩=some y)∧
 ∀b,Ow D b→∃us vs T,D.W.heap[b]? =some (.cells ⟨us⟩ T (0,0))∧w.heap[b]? =some (.cells ⟨vs⟩ T (0,0))∧vs.length=us.length
theorem Bt.same{D:S7}{g:Nat}{w w':World}(h:Bt D g w)(hs:∀b,Ow D b→w'.heap[b]? =w.heap[b]?):Bt D g w':=by
 refine⟨fun i k y h1 h2 h3 h4=>?_,fun b hb=>?_⟩
 ·rw[World.cell?_of_block (w:=w) (a:=⟨D.b0,D.o0+i*D.sz+k,none⟩) (hs _ (D.hb (by omega)))]
  exact h.1 i k y h1 h2 h3 h4
 ·obtain⟨us,vs,T,q1,q2,q3⟩:=h.2 b hb
  exact⟨us,vs,T,q1,by rw[hs b hb];exact q2,q3⟩
section
variable {P:Program}{D:S7}{M0:Mem}{S:AS}
theorem Gk:∀(xs:List Value) (l:List Value) (k:Nat),(jB l k xs).length=l.length
 |[],_,_=>rfl
 |x::xs,l,k=>by rw[jB,Gk xs];simp
theorem Gl:∀(xs:List Value) (l:List Value) (k j:Nat),(j<k∨k+xs.length≤j)→(jB l k xs)[j]? =l[j]?
 |[],_,_,_,_=>rfl
 |x::xs,l,k,j,h=>by
  rw[List.length_cons]at h
  rw[jB,Gl xs _ _ _ (by omega),List.getElem?_set,if_neg (by omega)]
theorem Bt.put{g g':Nat}{w:World}(h:Bt D g w)(hg:g≤g'){b o:Nat}{us vs:List Value}{T:TypeId}(hw:w.heap[b]? =some (.cells ⟨vs⟩ T (0,0)))
  (hne:∀i k,g'≤i→i<D.n→k<D.sz→b=D.b0→D.o0+i*D.sz+k<o∨o+us.length≤D.o0+i*D.sz+k):Bt D g' (eA w b (jB vs o us) T):=by
 refine⟨fun i k y h1 h2 h3 h4=>?_,fun b' hb=>?_⟩
 ·have e:=h.1 i k y (Nat.le_trans hg h1) h2 h3 h4
  by_cases hb:D.b0=b
  ·subst hb
   have q:=hne i k h1 h2 h3 rfl
   simp only[World.cell?,hw]at e
   simp only[World.cell?,n6 hw]
   simp only[Option.isSome_none,Bool.false_eq_true,if_false,List.getElem?_toArray]at e⊢
   rw[Gl us vs o _ q];exact e
  ·rw[World.cell?_of_block (w:=w) (a:=⟨D.b0,D.o0+i*D.sz+k,none⟩) (eH hb)];exact e
 ·obtain⟨MC,Iy,T0,q1,q2,q3⟩:=h.2 b' hb
  by_cases e:b'=b
  ·subst e
   rw[hw]at q2;cases q2
   exact⟨MC,jB vs o us,T,q1,n6 hw,by rw[Gk];exact q3⟩
  ·exact⟨MC,Iy,T0,q1,by rw[eH e];exact q2,q3⟩
end
section
variable {P:Program}{C:Ctx}{ops:Array Oper}{S:AS}{nd:Bool}{K:List Ac→AS→Prop}{rest:List Oper}{acc:List Ac}
variable {gd:Option (Nat×Bool)}{rg:List Nat}{d:Nat}{ty:TypeId}{pos:String}{aft:Array Edge}{x y z:Operand}{T U E0:TypeId}{D:S7}{M0:Mem}
instance{a:Option Addr}{n c:Nat}:SK (.v (.slice a n c)) n:=⟨fun _ v h=>⟨a,c,h⟩⟩
end
section
variable {P:Program}
structure SpV (D:S7) {α:Type} (e:α→List SV) (l:List α) (v:Value):Prop where
 n:D.n=l.length
 v:∃a c,v=.slice a l.length c∧(l≠[]→a=some ⟨D.b0,D.o0,none⟩)∧l.length≤9223372036854775807
 row:∀(i:Nat) (x:α),l[i]? =some x→(e x).length=D.sz∧∀(k:Nat) (s:SV),(e x)[k]? =some s→∃y,D.Mx D.b0 (D.o0+i*D.sz+k)=some y∧y.oneCell'=true∧s.h D.Mx y
end
end Go.Fw
namespace Go.Fw
open Go.RowKit
instance{cs:List SV}:One (ref cs):=⟨fun _ _ h=>by obtain⟨b,o,rfl,_⟩:=h;rfl⟩
section steps
variable {P:Program}{C:Ctx}{ops:Array Oper}{S:AS}{nd:Bool}{K:List Ac→AS→Prop}{rest:List Oper}{acc:List Ac}
variable {gd:Option (Nat×Bool)}{rg:List Nat}{d:Nat}{ty:TypeId}{pos:String}{aft:Array Edge}{x y z:Operand}{T U E0:TypeId}
theorem RT.bA(hg:Gd ops S gd rg){cs:List SV}(hx:S.ev x=.sv (ref cs))(hd:d<S.n)
  (next:RunT P C ops nd K rest (⟨rg++ak x,[],[],⟨some (d,.sv (ref cs)),[],[]⟩⟩::acc) (S.set d (.sv (ref cs)))):RunT P C ops nd K (⟨some d,.nilCheck x,ty,pos,aft,gd⟩::rest) acc S:=
 RT.value hg (ak x) [] [] (.sv (ref cs)) hd (by intro c h;cases h) (fun S' ht _ _ E a w h=>by
  have h1:=h.ev x
  rw[aE (fun _ h=>h) ht,hx]at h1
  have h1:(ref cs).h E.M (a.eval x):=h1
  obtain⟨b,o,e,h2⟩:=h1
  exact⟨a.eval x,by simp[execOp,e],⟨b,o,e,h2⟩,dY⟩) next
theorem RT.RE(hg:Gd ops S gd rg)[tT:zF P T]{cs:List SV}(hx:S.ev x=.sv (ref cs))(hy:S.ev y=.sv (.v (.pointer none)))(hd:d<S.n)
  (next:RunT P C ops nd K rest (⟨rg++(ak x++ak y),[],[],⟨some (d,.sv (.v (.bool false))),[],[]⟩⟩::acc) (S.set d (.sv (.v (.bool false))))):RunT P C ops nd K (⟨some d,.binOp .eql T x y U,ty,pos,aft,gd⟩::rest) acc S:=
 RT.value hg (ak x++ak y) [] [] (.sv (.v (.bool false))) hd (by intro c h;cases h) (fun S' ht _ _ E a w h=>by
  have h1:=h.ev x
  rw[aE (fun _ h=>List.mem_append_left _ h) ht,hx]at h1
  have h2:=h.ev y
  rw[aE (fun _ h=>List.mem_append_right _ h) ht,hy]at h2
  have h1:(ref cs).h E.M (a.eval x):=h1
  obtain⟨b,o,h1,_⟩:=h1
  have h2:a.eval y=.pointer none:=h2
  have e:=run_eql_pointer_nil (P:=P) w T (some ⟨b,o,none⟩) tT.u
  refine⟨.bool false,?_,rfl,dY⟩
  simp[execOp,h1,h2,eqGuard,e]) next
end steps
end Go.Fw
namespace Go.Fw
open Go.RowKit
noncomputable def sJ(M:Mem)(w:World)(p:Nat→Prop):Mem:=fun b o=>@ite _ (p b) (Classical.propDecidable _) (match w.cell? ⟨b,o,none⟩with|some v=>if v.oneCell'=true then some v else none|none=>none) (M b o)
noncomputable def uX(M:Mem)(p:Nat→Prop):Mem:=fun b o=>@ite _ (p b) (Classical.propDecidable _) none (M b o)
theorem DW{M:Mem}{w:World}{p:Nat→Prop}{b o:Nat}{v:Value}(hb:p b)(hc:w.cell? ⟨b,o,none⟩=some v)(h1:v.oneCell'=true):sJ M w p b o=some v:=by
 unfold sJ;rw[if_pos hb,hc];simp[h1]
theorem Hw{M:Mem}{w:World}{p:Nat→Prop}(h:M.cm w):(sJ M w p).cm w:=fun b o v e=>by
 unfold sJ at e
 split at e
 ·split at e
  ·rename_i q
   split at e
   ·rename_i h1;cases e;exact Fact.of q h1
   ·cases e
  ·cases e
 ·exact h b o v e
theorem uY{M:Mem}{w:World}{p:Nat→Prop}(h:∀b,p b→∀o,M b o=none):M.le (sJ M w p):=fun b o v e=>by
 unfold sJ;rw[if_neg];exact e
 intro hb;rw[h b hb o]at e;cases e
theorem DX{M:Mem}{p:Nat→Prop}:(uX M p).le M:=fun b o v e=>by
 unfold uX at e
 split at e
 ·cases e
 ·exact e
theorem DY{M:Mem}{p:Nat→Prop}{b o:Nat}{v:Value}(hb:¬p b)(e:M b o=some v):uX M p b o=some v:=by unfold uX;rw[if_neg hb];exact e
theorem zK{M:Mem}{p:Nat→Prop}{b:Nat}(hb:p b)(o:Nat):uX M p b o=none:=by unfold uX;rw[if_pos hb]
def V5:List Oc→List SV→Prop
 |[],[]=>True
 |.s x::l,y::k=>(SV.imp x y∧∀M v,x.h M v→v.oneCell'=true)∧V5 l k
 |.r R::l,y::k=>(∃rows,Rows R.sz rows R.cells∧rows.length=R.n∧(∀M vs,SV.dz M R.cells vs→∀v∈vs,v.oneCell'=true)∧SV.imp (slc R.sz rows) y)∧V5 l k
 |_,_=>False
theorem cO{E:TypeId}{n:Nat}{α:Type}{e:α→List SV}{l:List α}[el:EL e n]:∃rows,Rows (TR E n e l).sz rows (TR E n e l).cells∧rows.length=(TR E n e l).n∧(∀M vs,SV.dz M (TR E n e l).cells vs→∀v∈vs,v.oneCell'=true)∧SV.imp (slc (TR E n e l).sz rows) (slc n (l.map e)):=
 ⟨l.map e,oa l,by simp,kH l,SV.aa _⟩
theorem Kp{M:Mem}{w:World}{p:Nat→Prop}{R:Row}{v:Value}{rows:List (List SV)}(hno:∀b,p b→∀o,M b o=none)(hb:∀g,v.ownBlock=some g→p g)(ho:∃vs:List Value,w.ownsRow 0 R.E R.sz v R.n vs∧SV.dz M R.cells vs)
  (iF:Rows R.sz rows R.cells) (hn:rows.length=R.n) (hone:∀M vs,SV.dz M R.cells vs→∀v∈vs,v.oneCell'=true):(slc R.sz rows).h (sJ M w p) v∧v.oneCell'=true:=by
 obtain⟨vs,hown,hvs⟩:=ho
 have sy:=qw iF
 rcases hown.2 with⟨h1,h2⟩|⟨g,cap,cur,h1,_,h2,h3,h4,h5,h6⟩
 ·rw[h2]at hn
  exact⟨.inl ⟨none,h1,List.length_eq_zero_iff.1 hn⟩,by rw[h1];rfl⟩
 ·have hg:p g:=hb g (by rw[h1];rfl)
  have hm:maxLen=9223372036854775807:=by decide
  refine⟨.inr ⟨g,0,cap,by rw[h1,hn],by rw[hn];exact h3,by omega,fun k row hk=>?_⟩,by rw[h1];rfl⟩
  obtain⟨q1,q2⟩:=n7 iF k row hk
  refine⟨q1,fun j s hs=>?_⟩
  have Ap:=q2 j s hs
  obtain⟨y,hy,hys⟩:=hvs.get Ap
  have hlt:k*R.sz+j<R.n*R.sz:=by
   have:=(List.getElem?_eq_some_iff.1 Ap).1
   rw[sy,hn]at this;exact this
  have h1':=hone _ _ hvs y (List.mem_of_getElem? hy)
  refine⟨y,DW hg ?_ h1',h1',s.mono (uY hno) hys⟩
  rw[←h6,List.getElem?_take,if_pos hlt]at hy
  simp only[World.cell?,h2]
  simpa using hy
theorem Ct{M:Mem}{w:World}{p:Nat→Prop}(hno:∀b,p b→∀o,M b o=none):∀{c:List Oc} {cs:List SV} {us:List Value} {k:Nat} {s:SV},V5 c cs→mL M w c us→(∀q∈aZ c us,∀g,q.2.ownBlock=some g→p g)→cs[k]? =some s→∃y,us[k]? =some y∧y.oneCell'=true∧s.h (sJ M w p) y
 |.s x::l,y::cs,u::us,k,s,hi,ho,hb,hk=>by
  cases k with
  |zero=>cases hk;exact⟨u,rfl,hi.1.2 _ _ ho.1,y.mono (uY hno) (hi.1.1 _ _ ho.1)⟩
  |succ k=>exact Ct hno (c:=l) (cs:=cs) (us:=us) (k:=k) hi.2 ho.2 hb hk
 |.r R::l,y::cs,u::us,k,s,hi,ho,hb,hk=>by
  cases k with
  |zero=>
   cases hk
   obtain⟨rows,q1,q2,q3,q4⟩:=hi.1
   obtain⟨r1,r2⟩:=Kp hno (fun g hg=>hb (R,u) (by rw[aZ];simp) g hg) ho.1 q1 q2 q3
   exact⟨u,rfl,r2,q4 _ _ r1⟩
  |succ k=>exact Ct hno (c:=l) (cs:=cs) (us:=us) (k:=k) hi.2 ho.2 (fun q hq=>hb q (by rw[aZ];exact List.mem_cons_of_mem _ hq)) hk
 |[],[],_,_,_,_,_,_,hk=>by simp at hk
 |[],_::_,_,_,_,hi,_,_,_=>hi.elim
 |.s _::_,[],_,_,_,hi,_,_,_=>hi.elim
 |.r _::_,[],_,_,_,hi,_,_,_=>hi.elim
 |.s _::_,_::_,[],_,_,_,ho,_,_=>ho.elim
 |.r _::_,_::_,[],_,_,_,ho,_,_=>ho.elim
theorem tC{M M':Mem}{w w':World}(hM:M.le M'):∀{c:List Oc} {us:List Value},mL M w c us→(∀q∈aZ c us,∀g,q.2.ownBlock=some g→w'.heap[g]? =w.heap[g]?)→mL M' w' c us
 |[],[],_,_=>trivial
 |.s x::l,u::us,h,hs=>⟨x.mono hM h.1,tC hM (c:=l) (us:=us) h.2 hs⟩
 |.r R::l,u::us,h,hs=>by
  obtain⟨vs,h1,h2⟩:=h.1
  exact⟨⟨vs,cA h1 (fun g hg=>hs (R,u) (by rw[aZ];simp) g hg),h2.mono hM⟩,tC hM (c:=l) (us:=us) h.2 (fun q hq=>hs q (by rw[aZ];exact List.mem_cons_of_mem _ hq))⟩
 |[],_::_,h,_=>h.elim
 |.s _::_,[],h,_=>h.elim
 |.r _::_,[],h,_=>h.elim
def AV.US(cells:List SV):AV→SV
 |.sv s=>s
 |_=>ref cells
def AV.OA:AV→Bool
 |.sv _=>true
 |.ptr i o=>Nat.beq i 1000&&Nat.beq o 0
 |_=>false
theorem DZ{M M':Mem}{β:Nat}{cells:List SV}(hM:M.le M')(hc:(ref cells).h M' (.pointer (some ⟨β,0,none⟩))):∀{args:List AV} {vs:List Value},(args.all AV.OA)=true→cu (mO M β) args vs→SV.dz M' (args.map (AV.US cells)) vs
 |[],[],_,_=>trivial
 |x::l,v::vs,hy,h=>by
  rw[List.all_cons,Bool.and_eq_true]at hy
  refine⟨?_,DZ hM hc hy.2 h.2⟩
  cases x with
  |sv s=>exact s.mono hM h.1
  |ptr i o=>
   have h1:=Bool.and_eq_true_iff.1 hy.1
   have e:v=.pointer (some ⟨β,o,none⟩):=h.1
   rw[e,Nat.eq_of_beq_eq_true h1.2];exact hc
  |_=>exact(Bool.false_ne_true hy.1).elim
 |[],_::_,_,h=>h.elim
 |_::_,[],_,h=>h.elim
theorem dU{P:Program}{f:FuncId}{args:List AV}{T:TypeId}{c:List Oc}{cells:List SV}{r:Nat→SV}{res:SV}(hp:∀N,cz P f N (args.map (AV.US cells)) (r N))(hy:args.all AV.OA=true)(hi:V5 c cells)(hr:∀N M v,(r N).h M v→res.h (M.fr N) v):zH P f args T c res:=by
 intro M w β vs us hM ho hv
 have hno:∀b,(b=β∨dA c us b)→∀o,M b o=none:=fun b hb o=>by
  rcases hb with rfl|hb
  ·exact ho.nb o
  ·exact(ho.nr b hb).2 o
 have hlt:∀b,(b=β∨dA c us b)→b<w.heap.size:=fun b hb=>by
  rcases hb with rfl|⟨q,hq,hg⟩
  ·exact(Array.getElem?_eq_some_iff.1 ho.hp).1
  ·obtain⟨ws,h1,_⟩:=jI ho.al q hq
   rcases h1.2 with⟨h2,_⟩|⟨g,cap,cur,h2,_,h3,_⟩
   ·rw[h2]at hg;cases hg
   ·rw[h2]at hg;cases hg;exact(Array.getElem?_eq_some_iff.1 h3).1
 have sy:(ref cells).h (sJ M w (fun b=>b=β∨dA c us b)) (.pointer (some ⟨β,0,none⟩)):=⟨β,0,rfl,fun k s hk=>by
  obtain⟨y,h1,h2,h3⟩:=Ct hno hi ho.al (fun q hq g hg=>.inr ⟨q,hq,hg⟩) hk
  refine⟨y,DW (.inl rfl) ?_ h2,h2,h3⟩
  simp only[World.cell?,ho.hp]
  simpa using h1⟩
 refine(hp w.heap.size _ w vs (Nat.le_refl _) (Hw hM) (DZ (uY hno) sy hy hv)).mono ?_
 rintro e w' ⟨v,M',rfl,hM',hnew,Yu,hres,hb⟩
 have hMM:M.le (uX M' (fun b=>b=β∨dA c us b)):=fun b o x e=>DY (fun hb=>by rw[hno b hb o]at e;cases e) (hM' b o x (uY hno b o x e))
 refine⟨v,uX M' (fun b=>b=β∨dA c us b),rfl,hMM,fun b o x e=>?_,fun b o x e=>Yu b o x (DX b o x e),res.mono (fun b o x e=>?_) (hr _ _ _ hres),?_,hb.os,hb.tape,hb.output,hb.size,fun k hk _ _=>hb.block k hk⟩
 ·rcases hnew b o x (DX b o x e)with q|q
  ·refine .inl ?_
   unfold sJ at q
   split at q
   ·rename_i Aq
    have e2:uX M' (fun b=>b=β∨dA c us b) b o=none:=zK (p:=fun b=>b=β∨dA c us b) Aq o
    rw[e2]at e;cases e
   ·exact q
  ·exact .inr q
 ·unfold Mem.fr at e
  split at e
  ·rename_i hN
   exact DY (fun Aq=>by have:=hlt b Aq;omega) e
  ·cases e
 ·exact⟨by rw[hb.block β (hlt β (.inl rfl))];exact ho.hp,tC hMM ho.al (fun q hq g hg=>hb.block g (hlt g (.inr ⟨q,hq,hg⟩))),fun o=>zK (p:=fun b=>b=β∨dA c us b) (.inl rfl) o,fun g hg=>⟨(ho.nr g hg).1,fun o=>zK (p:=fun b=>b=β∨dA c us b) (.inr hg) o⟩,ho.ap⟩
theorem kU{P:Program}{f:FuncId}{args:List SV}{r:SV}(h:Pure P f args r)(N:Nat):cz P f N args r:=fun M w vs _ hM hv=>h M w vs hM hv
theorem RF{s:SV}:∀(N:Nat) (M:Mem) (v:Value),(nw N s).h M v→s.h (M.fr N) v:=fun _ _ _ h=>h.1
theorem xM{l:List Qr}:∀(N:Nat) (M:Mem) (v:Value),(nw N (slc 4 (l.map (fQ N)))).h M v→(slc 4 (l.map eQ)).h (M.fr N) v:=fun N M v h=>UO (M.fr N) v (by
 obtain⟨h1,h2⟩:=h
 rw[←Mem.Ko]at h1
 exact⟨h1,fun g e=>by rw[Mem.Ko];exact h2 g e⟩)
theorem Gm{x:Value}:∀(N:Nat) (M:Mem) (v:Value),(SV.v x).h M v→(SV.v x).h (M.fr N) v:=fun _ _ _ h=>h
theorem Cu{P:Program}{f:FuncId}{fn:Func}{code:Code}{args:Nat→List AV}{T:TypeId}{c:List Oc}{res:SV}(ids:List Nat)(hf:P.funcs[f]? =some fn)(hb:fn.body=some code)(hn:∀β,(args β).length≤fn.ntmps)(Ge:∀β,(args β).all AV.oy=true)(An:ids.Nodup)(Ot:ids.length=(rowsOf c).length)(hge:(ids.all fun i=>Nat.ble 1000 i)=true)(RB:Cm c)
  (h:∀(w:World) (M:Mem) (β:Nat) (us:List Value),Ok P (MB w M β c us ids hge) code (AS.Af fn.ntmps (args β) [(1000,⟨T,bz ids c⟩)] (ids.zip (rowsOf c))) (fun e S=>(e=.normal∨e=.ret)∧Io P S fn.results.toList res∧S.b 1000=some ⟨T,bz ids c⟩∧Lv S ids (rowsOf c))):Gj P f args T c (fun _ M' _ v=>res.h M' v):=
 DV ids hf hb hn Ge An Ot hge RB _ h (fun w M β us S' E a w' hr hh _ _ _=>by
  obtain⟨v,hv,hx⟩:=(wW.sv hr).run hh
  exact⟨v,hv,hx⟩)
section steps
variable {P:Program}{C:Ctx}{ops:Array Oper}{S:AS}{nd:Bool}{K:List Ac→AS→Prop}{rest:List Oper}{acc:List Ac}{Q:Exit→AS→Prop}
variable {gd:Option (Nat×Bool)}{rg:List Nat}{d:Nat}{ty:TypeId}{pos:String}{aft:Array Edge}{x y z:Operand}{T U E0:TypeId}
theorem ML{c:Code}{i k β:Nat}(hp:C.fM k=some β)(hB:S.b i=some ⟨T,[.ptr k 0]⟩)(h:Ok P C c (S.ja i ⟨T,[.sv (.v (.pointer (some ⟨β,0,none⟩)))]⟩) Q):Ok P C c S Q:=fun a w ⟨E,hh⟩=>by
 refine h a w ⟨E,?_⟩
 have hβ:E.β k=β:=hh.fM k β hp
 have wU:∀j B,(S.ja i ⟨T,[.sv (.v (.pointer (some ⟨β,0,none⟩)))]⟩).b j=some B→(j=i∧B=⟨T,[.sv (.v (.pointer (some ⟨β,0,none⟩)))]⟩)∨(j≠i∧S.b j=some B):=fun j B e=>by
  by_cases hj:j=i
  ·subst hj;rw[AS.bW]at e;cases e;exact .inl ⟨rfl,rfl⟩
  ·rw[AS.aS _ _ _ _ hj]at e;exact .inr ⟨hj,e⟩
 have bTo:∀j,(∃B,S.b j=some B)→∃B,(S.ja i ⟨T,[.sv (.v (.pointer (some ⟨β,0,none⟩)))]⟩).b j=some B:=fun j ⟨B,e⟩=>by
  by_cases hj:j=i
  ·subst hj;exact⟨_,AS.bW _ _ _⟩
  ·exact⟨B,by rw[AS.aS _ _ _ _ hj];exact e⟩
 have RG:∀j B,(S.ja i ⟨T,[.sv (.v (.pointer (some ⟨β,0,none⟩)))]⟩).b j=some B→∃B',S.b j=some B':=fun j B e=>by
  rcases wU j B e with⟨rfl,_⟩|⟨_,q⟩
  ·exact⟨_,hB⟩
  ·exact⟨_,q⟩
 exact{hh with
  wf:=⟨fun s j hj=>bTo j (hh.wf.tb s j hj),hh.wf.tr,fun j B e y hy m hm=>by
    rcases wU j B e with⟨rfl,rfl⟩|⟨_,q⟩
    ·obtain rfl:y=_:=by simpa using hy
     exact(hm:False).elim
    ·exact bTo m (hh.wf.bb j B q y hy m hm),fun j B e y hy m hm=>by
    rcases wU j B e with⟨rfl,rfl⟩|⟨_,q⟩
    ·obtain rfl:y=_:=by simpa using hy
     exact(hm:False).elim
    ·exact hh.wf.br j B q y hy m hm⟩
  bx:=fun j B e=>by
   rcases wU j B e with⟨rfl,rfl⟩|⟨_,q⟩
   ·obtain⟨h1,h2,h3,vs,h4,h5⟩:=hh.bx j _ hB
    refine⟨h1,h2,h3,vs,h4,?_⟩
    match vs,h5 with
    |[v],h5=>exact⟨(show v=.pointer (some ⟨β,0,none⟩)from hβ▸h5.1),trivial⟩
   ·exact hh.bx j B q
  inj:=fun j j' B B' e e' q=>by
   obtain⟨_,h1⟩:=RG j B e
   obtain⟨_,h2⟩:=RG j' B' e'
   exact hh.inj j j' _ _ h1 h2 q
  rx:=fun j R hR=>by
   obtain⟨p1,p2⟩:=hh.rx j R hR
   refine⟨p1,fun g hg=>?_⟩
   obtain⟨q1,q2,q3,q4⟩:=p2 g hg
   refine⟨q1,q2,q3,fun m B e=>?_⟩
   obtain⟨_,h1⟩:=RG m B e
   exact q4 m _ h1}
theorem RT.vW(hg:Gd ops S gd rg)[tV:cU P T]{k β:Nat}{B:l7}(hx:S.ev x=.sv (ref [.v (.pointer (some ⟨β,0,none⟩))]))(hp:C.fM k=some β)(hB:S.b k=some B)(hd:d<S.n)
  (next:RunT P C ops nd K rest (⟨rg++ak x,[k],[],⟨some (d,.ptr k 0),[],[]⟩⟩::acc) (S.set d (.ptr k 0))):RunT P C ops nd K (⟨some d,.load T x,ty,pos,aft,gd⟩::rest) acc S:=
 RT.value hg (ak x) [k] [] (.ptr k 0) hd (by intro c h;cases h) (fun S' ht hb _ E a w h=>by
  have h1:=h.ev x
  rw[aE (fun _ h=>h) ht,hx]at h1
  obtain⟨b,o,e,hc⟩:=h1
  obtain⟨u,hu,Tn,hs⟩:=hc 0 _ rfl
  have hβ:E.β k=β:=h.fM k β hp
  have hs:u=.pointer (some ⟨β,0,none⟩):=hs
  refine⟨u,?_,by show u=.pointer (some ⟨E.β k,0,none⟩);rw[hβ];exact hs,fun j e=>?_,fun j e=>e.elim⟩
  ·have Pd:w.cell? ⟨b,o,none⟩=some u:=(h.cm _ _ _ hu).cell Tn
   simp[execOp,e,Instr.loadAt,Instr.sureAddr,loadVar,tV.isAgg,Pd]
  ·have e:j=k:=e
   subst e
   exact⟨B,by rw[hb j (by simp)];exact hB⟩) next
theorem RT.MM(hg:Gd ops S gd rg){f:FuncId}[dj P f]{g:Operand}{xs:Array Operand}{at_:Array TypeId}{args:List AV}{caps:Nat→List SV}{β:Nat}{T:TypeId}{c:List Oc}{res:SV}(hp:Gj P f (fun β=>args++(caps β).map AV.sv) T c (fun _ M' _ v=>res.h M' v))(i:Nat)(js:List Nat)(EO:C.fM i=some β)(hB:S.b i=some ⟨T,bz js c⟩)(hL:Lv S js (rowsOf c))(Ov:js.Nodup)
  (Ge:args.all AV.oy=true) (hf:S.ev g=.sv (gP f (caps β))) (hargs:sS S xs.toList (args.map (AV.Oq i))) (hd:d<S.n)
  (next:RunT P C ops nd K rest (⟨rg++(ak g++xs.toList.flatMap ak),[i],js,⟨some (d,.sv res),[],[]⟩⟩::acc) (S.set d (.sv res))):RunT P C ops nd K (⟨some d,.call ⟨.value g,xs,at_⟩,ty,pos,aft,gd⟩::rest) acc S:=by
 refine .inl ⟨_,[i],js,_,?_,next⟩
 rintro S' hn ht hb hr k a w L Q ho ⟨E,h⟩ UJ
 refine bD (C:=C) ho (hg.wanted h (fun s hs=>ht s (List.mem_append_left _ hs)) rfl) ?_
 have qt:(gP f (caps β)).h E.M (a.eval g):=by
  have h1:=h.ev g;rw[aE (fun _ h=>List.mem_append_right _ (List.mem_append_left _ h)) ht,hf]at h1;exact h1
 obtain⟨nf,qt,Ag⟩:=qt
 have hβ:E.β i=β:=h.fM i β EO
 have hall:=xL Ge (sS.vals h hargs (fun s hs=>ht s (List.mem_append_right _ (List.mem_append_right _ hs))))
 have ey:S'.b i=some ⟨T,bz js c⟩:=by rw[hb i (by simp)];exact hB
 have Ox:Lv S' js (rowsOf c):=hL.congr (fun k hk=>hr k hk)
 obtain⟨us,Mz,zE⟩:=oA h ey Ox Ov
 have UT:cu (mO E.M (E.β i)) (args++(caps (E.β i)).map AV.sv) (xs.toList.map a.eval++nf):=hall.append (cu.tY (E:=mO E.M (E.β i)) (by rw[hβ];exact Ag))
 have hrun:(execOp a.eval ⟨some d,.call ⟨.value g,xs,at_⟩,ty,pos,aft,gd⟩).run P w=.ok (.enter f ⟨xs.toList.map a.eval++nf⟩) w:=by
  have e2:xs.map a.eval++⟨nf⟩=⟨xs.toList.map a.eval++nf⟩:=by apply Array.ext';simp
  have e1:=dj.run (P:=P) (f:=f) (xs.map a.eval++⟨nf⟩) w
  rw[←e2]
  simp[execOp,resolve,qt,Deferred.ofValue,invoke,e1]
 refine bB (C:=C) (by intro c h;cases h) hrun ?_
 refine⟨fun h=>by simp at h,fu ((hp E.M w (E.β i) _ us h.cm Mz UT).mono ?_)⟩
 rintro e w' ⟨v,M',rfl,hM,hnew,hin,hv,Gf,hos,oz,hout,hsize,jE⟩
 have h1:=h.Gh ey Ox Ov Mz hM hnew hin Gf hos oz hout hsize jE
 exact UJ _ _ ⟨_,h1.put (x:=.sv res) (v:=v) hv (by show d<S'.n;omega) dY⟩
theorem MN{α:Type}(l k:List α):(CR l k).length=l.length:=by unfold CR;simp;omega
theorem Bu{M:Mem}{b:Nat}{α:Type}{e:α→List SV}[el:EL e 1]:∀(k:List α) (o:Nat),(∀(i:Nat) (row:List SV),(k.map e)[i]? =some row→∀(q:Nat) (s:SV),row[q]? =some s→∃y,M b (o+i*1+q)=some y∧y.oneCell'=true∧s.h M y)→∃cs:List Value,cs.length=k.length∧SV.dz M (k.flatMap e) cs∧∀j v,cs[j]? =some v→M b (o+j)=some v∧v.oneCell'=true
 |[],_,_=>⟨[],rfl,trivial,fun j v h=>by simp at h⟩
 |x::k,o,h=>by
  obtain⟨cs,h1,h2,h3⟩:=Bu k (o+1) (fun i row hr q s hs=>by
   have:=h (i+1) row (by simpa using hr) q s hs
   rwa[show o+(i+1)*1+q=o+1+i*1+q by omega]at this)
  have hl:=el.len x
  match he:e x,hl with
  |[s],_=>
   obtain⟨y,q1,q2,q3⟩:=h 0 [s] (by simp[he]) 0 s rfl
   refine⟨y::cs,by simp[h1],?_,fun j v hj=>?_⟩
   ·rw[List.flatMap_cons,he];exact⟨q3,h2⟩
   ·cases j with
    |zero=>cases hj;exact⟨by simpa using q1,q2⟩
    |succ j=>rw[show o+(j+1)=o+1+j by omega];exact h3 j v (by simpa using hj)
theorem D0{M:Mem}{α:Type}{e:α→List SV}[el:EL e 1]:∀(l:List α) (vs:List Value) (m:Nat),SV.dz M (l.flatMap e) vs→SV.dz M ((l.drop m).flatMap e) (vs.drop m)
 |l,vs,0,h=>by simpa using h
 |[],vs,m+1,h=>by
  cases vs with
  |nil=>trivial
  |cons _ _=>exact h.elim
 |x::l,vs,m+1,h=>by
  have hl:=el.len x
  match he:e x,hl with
  |[s],_=>
   rw[List.flatMap_cons,he]at h
   match vs,h with
   |v::vs,h=>exact D0 l vs m h.2
theorem RT.UU(hg:Gd ops S gd rg)[tS:dX P T E0 1]{α:Type}{e:α→List SV}[el:EL e 1]{i:Nat}{E1:TypeId}{l k:List α}{m:Int}(hx:S.ev x=.row i)(hR:S.r i=.live (TR E1 1 e l))(hy:S.ev y=.sv (slc 1 (k.map e)))(hd:d<S.n)(hm:((Min.min k.length l.length:Nat):Int)=m)
  (next:RunT P C ops nd K rest (⟨rg++(ak x++ak y),[],[i],⟨some (d,.sv (.v (.int .i64 m))),[],[(i,.live (TR E1 1 e (CR l k)))]⟩⟩::acc) ((AS.bf [(i,.live (TR E1 1 e (CR l k)))] S).set d (.sv (.v (.int .i64 m))))):RunT P C ops nd K (⟨some d,.call ⟨.builtin .copy,#[x,y],#[T,U]⟩,ty,pos,aft,gd⟩::rest) acc S:=by
 subst hm
 refine .inl ⟨_,[],[i],_,?_,next⟩
 rintro S' hn' ht _ Ik ix a w L Q ho ⟨E,h⟩ hL
 refine bD (C:=C) ho (hg.wanted h (fun s hs=>ht s (List.mem_append_left _ hs)) rfl) ?_
 have mu:S'.r i=.live (TR E1 1 e l):=by rw[Ik i (by simp)];exact hR
 have h1:a.eval x=E.ν i:=by
  have h1:=h.ev x
  rw[aE (fun _ h=>List.mem_append_right _ (List.mem_append_left _ h)) ht,hx]at h1;exact h1
 have h2:(slc 1 (k.map e)).h E.M (a.eval y):=by
  have h2:=h.ev y
  rw[aE (fun _ h=>List.mem_append_right _ (List.mem_append_right _ h)) ht,hy]at h2;exact h2
 have hsrc:∃sa sc,a.eval y=.slice sa k.length sc:=by
  rcases h2 with⟨sa,q1,q2⟩|⟨b,o,c,q1,_⟩
  ·have:k=[]:=List.map_eq_nil_iff.1 q2
   subst this;exact⟨sa,0,q1⟩
  ·rw[List.length_map]at q1;exact⟨_,c,q1⟩
 obtain⟨⟨us,hown,xB⟩,_⟩:=h.rx i _ mu
 have Yv:∃da dc,E.ν i=.slice da l.length dc:=by
  rcases hown.2 with⟨q1,q2⟩|⟨g,cap,cur,q1,_⟩
  ·have q2:l.length=0:=q2
   exact⟨none,0,by rw[q2];exact q1⟩
  ·exact⟨_,cap,q1⟩
 obtain⟨sa,sc,hs⟩:=hsrc
 by_cases h0:Nat.min k.length l.length=0
 ·obtain⟨da,dc,hdv⟩:=Yv
  have hc:CR l k=l:=by
   rcases Nat.eq_zero_or_pos l.length with q|q
   ·have:=List.length_eq_zero_iff.1 q
    subst this;simp[CR]
   ·have:k.length=0:=by
     have h0:Min.min k.length l.length=0:=h0
     omega
    have:=List.length_eq_zero_iff.1 this
    subst this;simp[CR]
  have hr:(execOp a.eval ⟨some d,.call ⟨.builtin .copy,#[x,y],#[T,U]⟩,ty,pos,aft,gd⟩).run P w=.ok (.value (goInt 0)) w:=by
   have:=run_copy_none (P:=P) w T U ty E0 da sa l.length dc k.length sc tS.u tS.s h0
   simp[execOp,resolve,invoke,builtin,h1,hs,hdv,this]
  refine bB (C:=C) (by intro c h;cases h) hr (hL _ _ ⟨E,?_⟩)
  rw[hc]
  have e0:((Min.min k.length l.length:Nat):Int)=0:=by
   have h0:Min.min k.length l.length=0:=h0
   rw[h0];rfl
  rw[e0]
  have:AS.app S' ⟨some (d,.sv (.v (.int .i64 0))),[],[(i,.live (TR E1 1 e l))]⟩=S'.set d (.sv (.v (.int .i64 0))):=by
   show(AS.nE S' i _).set d _=_
   rw[AS.AZ mu]
  rw[this]
  exact h.put (x:=.sv (.v (.int .i64 0))) (v:=.int .i64 0) rfl (by show d<S'.n;omega) dY
 ·have hpos:0<Min.min k.length l.length:=Nat.pos_of_ne_zero h0
  obtain⟨g,wE⟩:∃g,(E.ν i).ownBlock=some g:=by
   rcases hown.2 with⟨_,q2⟩|⟨g,cap,cur,q1,_⟩
   ·have q2:l.length=0:=q2
    omega
   ·exact⟨g,by rw[q1];rfl⟩
  obtain⟨cur,vs,q1,q2,q3,q4,cap,q5,q6,q7,q8⟩:=yl h mu wE
  replace q2:cur.take (l.length*1)=vs:=q2
  replace q3:vs.length=l.length*1:=q3
  replace q6:l.length≤cap:=q6
  replace q8:cur.length=cap*1:=q8
  rcases h2 with⟨sa',r1,r2⟩|⟨b,o,c,r1,_,_,r4⟩
  ·have:k=[]:=List.map_eq_nil_iff.1 r2
   subst this;simp at hpos
  rw[List.length_map]at r1
  rw[hs]at r1
  cases r1
  obtain⟨cs,c1,c2,c3⟩:=Bu (M:=E.M) (b:=b) (e:=e) (k.take (Min.min k.length l.length)) o (fun j row hr q s hq=>by
   refine(r4 j row ?_).2 q s hq
   rw[List.map_take,List.getElem?_take]at hr
   split at hr
   ·exact hr
   ·cases hr)
  have sy:cs.length=Nat.min k.length l.length:=by rw[c1,List.length_take];show Min.min (Min.min k.length l.length) k.length=Min.min k.length l.length;omega
  have RH:cs.length=Min.min k.length l.length:=sy
  have hrun:=run_copy_row (P:=P) w T U ty E0 g 0 l.length cap ⟨b,o,none⟩ k.length sc ⟨cur⟩ E1 cs tS.u tS.s q1 sy (fun j v hj=>by
   rw[eU];exact(h.cm _ _ _ (c3 j v hj).1).cell (c3 j v hj).2) (by simp;omega) (fun v hv=>by
   obtain⟨j,hj,rfl⟩:=List.getElem_of_mem hv
   exact(c3 j _ (List.getElem?_eq_getElem hj)).2)
  have hr:(execOp a.eval ⟨some d,.call ⟨.builtin .copy,#[x,y],#[T,U]⟩,ty,pos,aft,gd⟩).run P w=.ok (.value (goInt cs.length)) (w.setRow g (cs++cur.drop cs.length).toArray):=by
   have hrun:(Builtin.copy_ #[T,U] ty #[.slice (some ⟨g,0,none⟩) l.length cap,.slice (some ⟨b,o,none⟩) k.length sc]).run P w=.ok (goInt cs.length) (w.setRow g (cs++cur.drop cs.length).toArray):=by simpa using hrun
   have q5:E.ν i=.slice (some ⟨g,0,none⟩) l.length cap:=q5
   simp[execOp,resolve,invoke,builtin,h1,hs,q5,hrun]
  have Yw:CR l k=k.take (Min.min k.length l.length)++l.drop (Min.min k.length l.length):=by
   unfold CR
   have e1:k.take l.length=k.take (Min.min k.length l.length):=by rw[List.take_eq_take_iff];omega
   have e2:l.drop k.length=l.drop (Min.min k.length l.length):=by rw[List.drop_eq_drop_iff];omega
   rw[e1,e2]
  have hall:SV.dz E.M ((CR l k).flatMap e) (cs++vs.drop cs.length):=by
   rw[Yw,List.flatMap_append,←RH]
   rw[←RH]at c2
   exact SV.dz.append c2 (D0 l vs cs.length q4)
  have hh:=setRow_heap w g ⟨cur⟩ (cs++cur.drop cs.length).toArray E1 (0,0) q1
  have UW:(w.setRow g (cs++cur.drop cs.length).toArray).ownsRow 0 E1 1 (E.ν i) l.length (cs++vs.drop cs.length):=by
   refine⟨by simp;omega,.inr ⟨g,cap,_,q5,Nat.zero_le _,hh,q6,q7,by simp;omega,?_⟩⟩
   rw[←q2]
   simp only[List.take_append,List.length_take,List.drop_take]
   congr 1
   ·rw[List.take_of_length_le (by omega)]
  have hp:=h.EI mu wE (w':=w.setRow g (cs++cur.drop cs.length).toArray) ⟨_,_,q1⟩ rfl rfl rfl (by simp[World.setRow]) (fun k' hk'=>setRow_other w g k' _ hk') UW hall
  refine bB (C:=C) (by intro c h;cases h) hr (hL _ _ ⟨E,?_⟩)
  have hrow:(⟨(TR E1 1 e l).E,(TR E1 1 e l).sz,(TR E1 1 e l).n,(CR l k).flatMap e⟩:Row)=TR E1 1 e (CR l k):=by
   show Row.mk _ _ l.length _=Row.mk _ _ (CR l k).length _
   rw[MN]
  rw[hrow]at hp
  rw[←RH]
  exact hp.put (x:=.sv (.v (.int .i64 cs.length))) (v:=.int .i64 cs.length) rfl (by show d<S'.n;omega) dY
end steps
end Go.Fw
namespace Go.Proofs.Ytningmnklfpfjaa
open Go.Fw
noncomputable def b9(x0:Tb):Option (Bool):=match x0 with|⟨aC,aD,aL,aM,cD⟩=>cQ (fun(UX:Bool)=>some UX) fun K3=>(bif false then none else(some (!aC)).bind fun dW=>some dW).bind fun OB=>K3 OB
noncomputable def eL(x0:Tb):Option (Int):=match x0 with|⟨aC,aD,aL,aM,cD⟩=>(some (cD.length:Int)).bind fun iz=>(some (IntKind.i64.wrap (aD+iz))).bind fun eG=>some eG
noncomputable def fJ(x0:Tb)(x1:Int):Option (List Qr):=match x0 with|⟨aC,aD,aL,aM,cD⟩=>(some (cD.length:Int)).bind fun eG=>(A0 64 eG (⟨⟨false,[]⟩,⟨false,[]⟩⟩:Qr)).bind fun gC=>(some (cD.length:Int)).bind fun fg=>(cq (fun(s8:Int×(List Qr))=>match s8 with|⟨Bv,zL⟩=>(show Option ((Int×(List Qr))⊕((List Qr)))from(some (decide ((Bv:Int)<fg))).bind fun gx=>(bif gx then(dD cD Bv).bind fun jS=>(dD jS x1).bind fun⟨⟨Kq,Kr⟩,⟨Ks,Kt⟩⟩=>(bM ⟨⟨Kq,Kr⟩,⟨Ks,Kt⟩⟩).bind fun⟨⟨mA,mB⟩,⟨D1,D2⟩⟩=>(nX zL Bv).bind fun qg=>(stM zL qg ⟨⟨mA,mB⟩,⟨D1,D2⟩⟩).bind fun vH=>(some (IntKind.i64.wrap (Bv+1))).bind fun ig=>some (.inl (ig,vH))else some (.inr zL)))) (0,gC)).bind fun oB=>some oB
noncomputable def hG(x0:Tb)(x1:Int):Option (List Qr):=match x0 with|⟨aC,aD,aL,aM,cD⟩=>(some (aL.length:Int)).bind fun eG=>(some (IntKind.i64.wrap (eG+aD))).bind fun fR=>(A0 64 fR (⟨⟨false,[]⟩,⟨false,[]⟩⟩:Qr)).bind fun fg=>(some (decide ((x1:Int)<aD))).bind fun gD=>cQ (fun(Ku:(List Qr))=>some Ku) fun Oz=>(bif gD then(some (aL.length:Int)).bind fun gO=>(cq (fun(S8:Int×(List Qr))=>match S8 with|⟨zM,zN⟩=>(show Option ((Int×(List Qr))⊕((List Qr)))from(some (decide ((zM:Int)<gO))).bind fun qg=>(bif qg then(dD aL zM).bind fun o8=>(dD o8 x1).bind fun⟨⟨Kv,Kw⟩,⟨Kx,Ky⟩⟩=>(nX zN zM).bind fun qF=>(stM zN qF ⟨⟨Kv,Kw⟩,⟨Kx,Ky⟩⟩).bind fun S9=>(some (IntKind.i64.wrap (zM+1))).bind fun qj=>some (.inl (qj,S9))else some (.inr zN)))) (0,fg)).bind fun tD=>(some (aL.length:Int)).bind fun ur=>(some (IntKind.i64.wrap (ur+x1))).bind fun sI=>(cy (-1)).bind fun⟨⟨yN,yO⟩,⟨Kz,KA⟩⟩=>(nX tD sI).bind fun Ai=>(stM tD Ai ⟨⟨yN,yO⟩,⟨Kz,KA⟩⟩).bind fun Ta=>Oz Ta else Oz fg)
noncomputable def ei(x0:Tb)(x1:List Qr):Option (List Qr):=match x0 with|⟨aC,aD,aL,aM,cD⟩=>(some (aL.length:Int)).bind fun eG=>(some (IntKind.i64.wrap (eG+aD))).bind fun fR=>(A0 64 fR (⟨⟨false,[]⟩,⟨false,[]⟩⟩:Qr)).bind fun fg=>(some (x1.length:Int)).bind fun gx=>(cq (fun(Hx:(List Qr)×Int)=>match Hx with|⟨rB,kP⟩=>(show Option (((List Qr)×Int)⊕((List Qr)))from(some (decide ((kP:Int)<gx))).bind fun jS=>(bif jS then(dD x1 kP).bind fun⟨⟨pY,pZ⟩,⟨qa,qb⟩⟩=>cQ (fun(zO:Bool)=>cQ (fun(D3:(List Qr))=>(some (IntKind.i64.wrap (kP+1))).bind fun tW=>some (.inl (D3,tW))) fun VZ=>(bif zO then(dD aM kP).bind fun sI=>(hG ⟨aC,aD,aL,aM,cD⟩ sI).bind fun Ai=>(dN ⟨⟨pY,pZ⟩,⟨qa,qb⟩⟩ Ai rB).bind fun Jt=>VZ Jt else VZ rB)) fun K19=>(dD aM kP).bind fun qg=>(some (decide ((qg:Int)<aD))).bind fun si=>(bif si then(fF ⟨⟨pY,pZ⟩,⟨qa,qb⟩⟩).bind fun mw=>(some (decide ((mw:Int)≠0))).bind fun qF=>some qF else some false).bind fun FC=>K19 FC else some (.inr rB)))) (fg,0)).bind fun rC=>some rC
noncomputable def iX(x0:Tb):Option (List Int):=match x0 with|⟨aC,aD,aL,aM,cD⟩=>(b9 ⟨aC,aD,aL,aM,cD⟩).bind fun x5=>(bif x5 then some []else(some (aM.length:Int)).bind fun dW=>(A0 8 dW (0:Int)).bind fun iz=>some (CR iz aM))
noncomputable def eT(x0:Tb):Option (List Qr):=match x0 with|⟨aC,aD,aL,aM,cD⟩=>(b9 ⟨aC,aD,aL,aM,cD⟩).bind fun x4=>(bif x4 then some []else(eL ⟨aC,aD,aL,aM,cD⟩).bind fun x7=>(fJ ⟨aC,aD,aL,aM,cD⟩ x7).bind fun x8=>some x8)
noncomputable def cC(x0:Tb)(x1:Int):Option (List Qr):=match x0 with|⟨aC,aD,aL,aM,cD⟩=>cQ (fun(D4:Bool)=>(bif D4 then some []else(fJ ⟨aC,aD,aL,aM,cD⟩ x1).bind fun gx=>(ei ⟨aC,aD,aL,aM,cD⟩ gx).bind fun mc=>(hG ⟨aC,aD,aL,aM,cD⟩ x1).bind fun gD=>(kM mc gD).bind fun vp=>some vp)) fun K6=>(b9 ⟨aC,aD,aL,aM,cD⟩).bind fun x6=>(bif x6 then some true else(some (decide ((x1:Int)<0))).bind fun x9=>some x9).bind fun KB=>(bif KB then some true else(eL ⟨aC,aD,aL,aM,cD⟩).bind fun gY=>(some (decide ((gY:Int)≤x1))).bind fun fC=>some fC).bind fun RI=>K6 RI
noncomputable def iY(x0:Tb):Option (List Qr):=match x0 with|⟨aC,aD,aL,aM,cD⟩=>(b9 ⟨aC,aD,aL,aM,cD⟩).bind fun x4=>(bif x4 then some []else(eT ⟨aC,aD,aL,aM,cD⟩).bind fun x7=>(ei ⟨aC,aD,aL,aM,cD⟩ x7).bind fun x8=>some x8)
noncomputable def gh(x0:Tb):Option (List Qr):=match x0 with|⟨aC,aD,aL,aM,cD⟩=>(b9 ⟨aC,aD,aL,aM,cD⟩).bind fun x7=>(bif x7 then some []else(A0 64 aD (⟨⟨false,[]⟩,⟨false,[]⟩⟩:Qr)).bind fun eG=>(eT ⟨aC,aD,aL,aM,cD⟩).bind fun gY=>(some (gY.length:Int)).bind fun fC=>(cq (fun(Dg:Int×(List Qr))=>match Dg with|⟨zP,zQ⟩=>(show Option ((Int×(List Qr))⊕((List Qr)))from(some (decide ((zP:Int)<fC))).bind fun fR=>(bif fR then(dD gY zP).bind fun⟨⟨kC,kD⟩,⟨zy,zA⟩⟩=>(dD aM zP).bind fun kz=>(some (decide ((kz:Int)<aD))).bind fun ig=>cQ (fun(FD:(List Qr))=>(some (IntKind.i64.wrap (zP+1))).bind fun rU=>some (.inl (rU,FD))) fun NS=>(bif ig then(dD aM zP).bind fun rX=>(nX zQ rX).bind fun qj=>(stM zQ qj ⟨⟨kC,kD⟩,⟨zy,zA⟩⟩).bind fun LO=>NS LO else NS zQ)else some (.inr zQ)))) (0,eG)).bind fun zR=>some zR)
noncomputable def gi(x0:Tb):Option (Bool):=match x0 with|⟨aC,aD,aL,aM,cD⟩=>(b9 ⟨aC,aD,aL,aM,cD⟩).bind fun x6=>(bif x6 then some false else(eT ⟨aC,aD,aL,aM,cD⟩).bind fun x8=>(some (x8.length:Int)).bind fun x9=>(cq (fun(Gn:Int)=>(show Option ((Int)⊕((Unit)⊕(Bool)))from(some (decide ((Gn:Int)<x9))).bind fun iz=>(bif iz then(dD x8 Gn).bind fun⟨⟨gS,gU⟩,⟨OC,OD⟩⟩=>(fF ⟨⟨gS,gU⟩,⟨OC,OD⟩⟩).bind fun fC=>(some (decide ((fC:Int)<0))).bind fun jN=>(bif jN then some (.inr (.inr false))else(some (IntKind.i64.wrap (Gn+1))).bind fun fR=>some (.inl fR))else some (.inr (.inl ()))))) 0).bind fun e6=>match e6 with|.inr v6=>some v6|.inl _=>some true)
noncomputable def fN(x0:Tb):Option (Bool):=match x0 with|⟨aC,aD,aL,aM,cD⟩=>(b9 ⟨aC,aD,aL,aM,cD⟩).bind fun x5=>(bif x5 then some false else(mz (fun(k:Nat) (s3:Unit)=>(show Option ((Unit)⊕(Bool))from(some ((k:Nat):Int)).bind fun p8=>(cC ⟨aC,aD,aL,aM,cD⟩ p8).bind fun iz=>(mK iz).bind fun eG=>(some (decide ((eG:Int)<0))).bind fun gC=>(bif gC then some (.inr false)else some (.inl ())))) ((IntKind.i64.wrap (Tb.vars ⟨aC,aD,aL,aM,cD⟩+((Tb.rows ⟨aC,aD,aL,aM,cD⟩).length:Int))).toNat) ()).bind fun e3=>match e3 with|.inr v3=>some v3|.inl _=>some true)
noncomputable def ek(x0:Lr):Option (Bool×Int×(List (List Qr))×(List Int)×(List (List Qr))):=match x0 with|⟨aC,aD,aL,aM⟩=>(some (aD.length:Int)).bind fun fC=>(cq (fun(s6:Int×(List (List Qr)))=>match s6 with|⟨Gp,Cv⟩=>(show Option ((Int×(List (List Qr)))⊕((List (List Qr))))from(some (decide ((Gp:Int)<fC))).bind fun fR=>(bif fR then(dD aD Gp).bind fun fg=>(jZ fg aC).bind fun og=>(yu 24 Cv [og]).bind fun yB=>(some (IntKind.i64.wrap (Gp+1))).bind fun o8=>some (.inl (o8,yB))else some (.inr Cv)))) (0,[])).bind fun nQ=>(some (aL.length:Int)).bind fun oQ=>(cq (fun(RJ:Int×(List Int)×(List (List Qr)))=>match RJ with|⟨mR,rY,rZ⟩=>(show Option ((Int×(List Int)×(List (List Qr)))⊕((List Int)×(List (List Qr))))from(some (decide ((mR:Int)<oQ))).bind fun w6=>(bif w6 then(some (aL.length:Int)).bind fun vI=>(some (IntKind.i64.wrap (aC+vI))).bind fun Ah=>(some (IntKind.i64.wrap (Ah+1))).bind fun rV=>(A0 64 rV (⟨⟨false,[]⟩,⟨false,[]⟩⟩:Qr)).bind fun yC=>(cq (fun(Bb:Int×(List Qr))=>match Bb with|⟨zS,zT⟩=>(show Option ((Int×(List Qr))⊕((List Qr)))from(some (decide ((zS:Int)<aC))).bind fun BT=>(bif BT then(rf aL mR zS).bind fun⟨⟨KC,KD⟩,⟨KE,KF⟩⟩=>(nX zT zS).bind fun F9=>(stM zT F9 ⟨⟨KC,KD⟩,⟨KE,KF⟩⟩).bind fun G4=>(some (IntKind.i64.wrap (zS+1))).bind fun BW=>some (.inl (BW,G4))else some (.inr zT)))) (0,yC)).bind fun tF=>(some (IntKind.i64.wrap (aC+mR))).bind fun HY=>(cy 1).bind fun⟨⟨KG,KH⟩,⟨KI,KJ⟩⟩=>(nX tF HY).bind fun HZ=>(stM tF HZ ⟨⟨KG,KH⟩,⟨KI,KJ⟩⟩).bind fun LJ=>(some (LJ.length:Int)).bind fun UY=>(some (IntKind.i64.wrap (UY-1))).bind fun H7=>(dD aM mR).bind fun⟨⟨OE,OF⟩,⟨OG,OH⟩⟩=>(bM ⟨⟨OE,OF⟩,⟨OG,OH⟩⟩).bind fun⟨⟨KK,KL⟩,⟨KM,KN⟩⟩=>(nX LJ H7).bind fun LM=>(stM LJ LM ⟨⟨KK,KL⟩,⟨KM,KN⟩⟩).bind fun UZ=>(yu 24 rZ [UZ]).bind fun Mk=>(some (IntKind.i64.wrap (aC+mR))).bind fun V6=>(yu 8 rY [V6]).bind fun RK=>(some (IntKind.i64.wrap (mR+1))).bind fun E5=>some (.inl (E5,RK,Mk))else some (.inr (rY,rZ))))) (0,[],[])).bind fun Yx=>match Yx with|⟨Gq,Gr⟩=>some (true,aC,nQ,Gq,Gr)
noncomputable def hH(x0:Lr):Option (Bool×Int×(List (List Qr))×(List Int)×(List (List Qr))):=match x0 with|⟨aC,aD,aL,aM⟩=>(mP ⟨aC,aD,aL,aM⟩).bind fun x5=>(some (!x5)).bind fun x6=>(bif x6 then none else(ek ⟨aC,aD,aL,aM⟩).bind fun⟨uI,uJ,AE,AF,U0⟩=>some (uI,uJ,AE,AF,U0))
noncomputable def lG(x0:List Qr)(AD:Qr):Option (List Qr):=match AD with|⟨⟨Bo,Bp⟩,⟨Bq,Br⟩⟩=>(lD ⟨⟨Bo,Bp⟩,⟨Bq,Br⟩⟩ x0).bind fun x6=>some x6
noncomputable def jg(o0:Bool)(o1:Int)(o2:List (List Qr))(o3:List Int)(o4:List (List Qr))(x0:List Qr)(AD:Int)(V7:Int):Option (List Qr):=(dD x0 AD).bind fun⟨⟨uI,uJ⟩,⟨AE,AF⟩⟩=>(fF ⟨⟨uI,uJ⟩,⟨AE,AF⟩⟩).bind fun dW=>(some (decide ((dW:Int)=0))).bind fun iz=>(bif iz then some x0 else(dD x0 AD).bind fun⟨⟨iM,iN⟩,⟨Bm,Bn⟩⟩=>(mG ⟨⟨iM,iN⟩,⟨Bm,Bn⟩⟩).bind fun⟨⟨uE,uF⟩,⟨OI,OJ⟩⟩=>(nX o4 V7).bind fun lN=>(o4[lN]?).bind fun gD=>(dN ⟨⟨uE,uF⟩,⟨OI,OJ⟩⟩ gD x0).bind fun kz=>some kz)
noncomputable def cI(o0:Bool)(o1:Int)(o2:List (List Qr))(o3:List Int)(o4:List (List Qr))(x1:Int)(x2:Int):Option ((List (List Qr))×(List Int)×(List (List Qr))):=(cy 1).bind fun⟨⟨Bd,Be⟩,⟨OK,OL⟩⟩=>(nX o4 x1).bind fun k8=>(o4[k8]?).bind fun gx=>(dD gx x2).bind fun⟨⟨uK,uL⟩,⟨uM,uN⟩⟩=>(mF ⟨⟨Bd,Be⟩,⟨OK,OL⟩⟩ ⟨⟨uK,uL⟩,⟨uM,uN⟩⟩).bind fun⟨⟨⟨vX,vY⟩,⟨vZ,v9⟩⟩,Hi⟩=>(nX o4 x1).bind fun qF=>(o4[qF]?).bind fun qj=>(lG qj ⟨⟨vX,vY⟩,⟨vZ,v9⟩⟩).bind fun rU=>(nX o4 x1).bind fun vI=>(stM o4 vI rU).bind fun l2=>(some (l2.length:Int)).bind fun BT=>(cq (fun(uw:Int×(List (List Qr)))=>match uw with|⟨nA,ff⟩=>(show Option ((Int×(List (List Qr)))⊕((List (List Qr))))from(some (decide ((nA:Int)<BT))).bind fun OM=>(bif OM then(nX ff nA).bind fun tW=>(ff[tW]?).bind fun BV=>(some (decide ((nA:Int)≠x1))).bind fun EX=>cQ (fun(rD:(List (List Qr)))=>(some (IntKind.i64.wrap (nA+1))).bind fun I8=>some (.inl (I8,rD))) fun U1=>(bif EX then(jg o0 o1 o2 o3 ff BV x2 x1).bind fun HZ=>(nX ff nA).bind fun I2=>(stM ff I2 HZ).bind fun U3=>U1 U3 else U1 ff)else some (.inr ff)))) (0,l2)).bind fun oC=>some (o2,o3,oC)
noncomputable def bG(o0:Bool)(o1:Int)(o2:List (List Qr))(o3:List Int)(o4:List (List Qr))(x1:Int)(x2:Int):Option (Int×(List (List Qr))×(List Int)×(List (List Qr))):=(b9 (⟨o0,o1,o2,o3,o4⟩:Tb)).bind fun dW=>(bif dW then some (2,o2,o3,o4)else cQ (fun(KO:Bool)=>(bif KO then some (1,o2,o3,o4)else(some (o3.length:Int)).bind fun oQ=>(cq (fun(Cw:Int)=>(show Option ((Int)⊕((Unit)⊕(Int×(List (List Qr))×(List Int)×(List (List Qr)))))from(some (decide ((Cw:Int)<oQ))).bind fun w6=>(bif w6 then(nX o3 Cw).bind fun rX=>(o3[rX]?).bind fun mw=>(some (decide ((mw:Int)=x2))).bind fun rU=>(bif rU then some (.inr (.inr (1,o2,o3,o4)))else(some (IntKind.i64.wrap (Cw+1))).bind fun vI=>some (.inl vI))else some (.inr (.inl ()))))) 0).bind fun RL=>match RL with|.inr v16=>some v16|.inl _=>(nX o4 x1).bind fun sI=>(o4[sI]?).bind fun BT=>(dD BT x2).bind fun⟨⟨ON,OO⟩,⟨OP,OQ⟩⟩=>(fF ⟨⟨ON,OO⟩,⟨OP,OQ⟩⟩).bind fun tW=>(some (decide ((tW:Int)=0))).bind fun BV=>(bif BV then some (7,o2,o3,o4)else(cI o0 o1 o2 o3 o4 x1 x2).bind fun⟨S9,Yy,Ta⟩=>(nX Yy x1).bind fun H6=>(stM Yy H6 x2).bind fun l24=>some (0,S9,l24,Ta)))) fun Oz=>(some (decide ((x1:Int)<0))).bind fun eG=>(bif eG then some true else(some (o4.length:Int)).bind fun k8=>(some (decide ((k8:Int)≤x1))).bind fun gx=>some gx).bind fun KP=>(bif KP then some true else(some (decide ((x2:Int)<0))).bind fun gD=>some gD).bind fun RM=>(bif RM then some true else(eL (⟨o0,o1,o2,o3,o4⟩:Tb)).bind fun gO=>(some (decide ((gO:Int)≤x2))).bind fun yB=>some yB).bind fun RN=>Oz RN)
end Go.Proofs.Ytningmnklfpfjaa
namespace Go.Proofs.Ytningmnklfpfjaa
open Go.Fw Go.Fw.Z Go.RowKit
instance:zF Try.prog 15:=⟨by kernel_rfl⟩
instance:zF Try.prog 16:=⟨by kernel_rfl⟩
instance:zF Try.prog 17:=⟨by kernel_rfl⟩
instance:zF Try.prog 23:=⟨by kernel_rfl⟩
instance:zF Try.prog 139:=⟨by kernel_rfl⟩
theorem c5{x0:Tb}{r:Bool}(h:b9 x0=some r):Pure Try.prog 21 [ref (qB x0)] (.v (.bool r)):=by
 obtain⟨aC,aD,aL,aM,cD⟩:=x0
 refine ay Try.func21 rfl (Nat.le_of_ble_eq_true rfl) (fun cS M vs hvs=>?_)
 unfold b9 at h
 refine sr<|ag rfl<|dn<|qq ?_
 refine aF h (fun j3=>AS.bR 12 [(2,.sv (.v (.bool j3)))] [] []) (fun h=>?_) (fun UX h=>?_)
 refine ah<|mv rfl<|RT.RE .none rfl rfl T<|mv rfl<|bE h fun OB kS h=>gm rfl<|RT.bA (.some rfl rfl) rfl T<|RT.bk (.some rfl rfl) rfl T rfl<|gr rfl rfl<|lE (F kS) fun dW fP kS=>PG rfl _ fP ?_
 obtain rfl:=O kS
 exact pF rfl<|ag rfl<|dn<|⟨dW,h,wR []⟩
 try dsimp only
 refine ae.n<|aj ?_
 obtain rfl:=O h
 exact R1 rfl
theorem jh{x0:Tb}{r:Int}(h:eL x0=some r):Pure Try.prog 24 [ref (qB x0)] (.v (.int .i64 r)):=by
 obtain⟨aC,aD,aL,aM,cD⟩:=x0
 refine ay Try.func24 rfl (Nat.le_of_ble_eq_true rfl) (fun cS M vs hvs=>?_)
 unfold eL at h
 refine sr<|ag rfl<|dn<|qq<|ai mixed<|mv rfl<|RT.bA .none rfl T<|RT.bk .none rfl T rfl<|lr rfl rfl<|mv rfl<|RT.bA .none rfl T<|RT.bk .none rfl T rfl<|lr rfl rfl<|lE h fun iz me h=>ln rfl me<|lE h fun eG fE h=>ad _ rfl rfl fE<|ag rfl ?_
 refine RT.done ⟨by kernel_rfl,?_⟩
 refine ae.n<|aj ?_
 obtain rfl:=O h
 exact R1 rfl
theorem sK{x0:Tb}{x1:Int}{r:List Qr}(h:fJ x0 x1=some r):Pure Try.prog 23 [ref (qB x0),.v (.int .i64 x1)] (slc 4 (List.map eQ r)):=by
 obtain⟨aC,aD,aL,aM,cD⟩:=x0
 refine ay Try.func23 rfl (Nat.le_of_ble_eq_true rfl) (fun cS M vs hvs=>?_)
 unfold fJ at h
 refine sr<|aI rfl (imp_nil (n:=4) (e:=eQ))<|dn<|sr<|mv rfl<|RT.bA .none rfl T<|RT.bk .none rfl T rfl<|lr rfl rfl<|lE h fun eG fE h=>ln rfl fE<|bE h fun gC fS h=>RT.kx (n:=4) (e:=eQ) .none rfl rfl T rfl T (by rfl) (by decide) (by exact⟨SV.aa _,imp_nil,SV.aa _,imp_nil,trivial⟩) fS<|an (s:=.row _) rfl<|dn<|qq<|sr<|mv rfl<|RT.bA .none rfl T<|RT.bk .none rfl T rfl ?_
 refine lr rfl rfl<|lE h fun fg ij h=>ln rfl ij<|mv rfl<|dn<|bE h fun e8 Dp vN=>?_
 refine aW (fun(oB:(List Qr))=>AS.bR 34 [(5,.row 13)] [] [(13,TR 52 4 eQ oB)]) (fun oB=>oB=e8) ?_ (fun oB Dq=>?_)
 refine aq ?_
 refine aX Dp (fun s8=>AS.bR 34 [(1,.sv (.v (.int .i64 x1))),(5,.row 13),(17,.sv (slc 1 (List.map (eS 4 eQ) cD))),(18,.sv (.v (.int .i64 fg))),(19,.sv (.v (.int .i64 s8.1)))] [] [(13,TR 52 4 eQ s8.2)]) (wR []) (fun s8 y8 G8 h Dr Ds=>?_)
 obtain⟨Bv,zL⟩:=s8
 try dsimp only
 refine sr<|lE h fun gx lz h=>ls _ rfl rfl lz<|dn<|qq ?_
 cases gx
 refine cF<|bj<|ae.x<|ae.x<|aH.x<|ae.n ?_
 obtain rfl:=O (F h)
 exact⟨zL,Ds _ rfl,wR []⟩
 refine cT<|aG<|ae.n<|qq<|aq<|sr<|mv rfl<|bE (V h) fun jS nN h=>ix rfl rfl nN<|lr rfl rfl<|ag rfl<|ag rfl<|dn<|ah<|mo (s:=.row _) rfl<|mv rfl<|mv rfl<|mv rfl ?_
 obtain⟨⟨⟨Kq,Kr⟩,⟨Ks,Kt⟩⟩,uC,h⟩:=bS h
 refine ix rfl rfl uC<|RT.jk (cs:=[_,_,_,_]) .none rfl T rfl rfl ?_
 obtain⟨⟨⟨mA,mB⟩,⟨D1,D2⟩⟩,uD,h⟩:=bS h
 refine cl (fG uD) ⟨rfl,trivial⟩<|bE h fun qg uA h=>iR rfl rfl rfl uA<|bE h fun vH om h=>sA ⟨⟨mA,mB⟩,⟨D1,D2⟩⟩ rfl rfl rfl om<|RT.done<|aH.n<|ae.n<|ah<|lE h fun ig jK h=>ad _ rfl rfl jK<|mv rfl<|RT.done ?_
 obtain rfl:=O h
 exact ae.n ⟨(ig,vH),Dr _ rfl,wR []⟩
 subst Dq
 try dsimp only
 refine ae.n<|sr<|mo (s:=.row _) rfl<|an (s:=.row _) rfl<|dn<|bt (dH (i:=13) (E1:=52) (n:=4) (e:=eQ) (l:=oB) rfl)<|aj ?_
 obtain rfl:=O vN
 exact R1 rfl
theorem sL{x0:Tb}{x1:Int}(N:Nat){r:List Qr}(h:fJ x0 x1=some r):cz Try.prog 23 N [ref (qB x0),.v (.int .i64 x1)] (nw N (slc 4 (List.map (fQ N) r))):=by
 obtain⟨aC,aD,aL,aM,cD⟩:=x0
 refine aJ Try.func23 rfl (Nat.le_of_ble_eq_true rfl) (fun cS M vs hN hvs=>?_)
 unfold fJ at h
 refine sr<|aI rfl (aA (N:=N) (n:=4) (e:=(fQ N)))<|dn<|sr<|mv rfl<|RT.bA .none rfl T<|RT.bk .none rfl T rfl<|lr rfl rfl<|lE h fun eG fE h=>ln rfl fE<|bE h fun gC fS h=>RT.kx (n:=4) (e:=(fQ N)) .none rfl rfl T rfl T (by rfl) (by decide) (by exact⟨SV.aa _,aA,SV.aa _,aA,trivial⟩) fS<|an (s:=.row _) rfl<|dn<|qq<|sr<|mv rfl<|RT.bA .none rfl T ?_
 refine RT.bk .none rfl T rfl<|lr rfl rfl<|lE h fun fg ij h=>ln rfl ij<|mv rfl<|dn<|bE h fun e8 Dp vN=>?_
 refine aW (fun(oB:(List Qr))=>AS.bR 34 [(5,.row 13)] [] [(13,TR 52 4 (fQ N) oB)]) (fun oB=>oB=e8) ?_ (fun oB Dq=>?_)
 refine aq ?_
 refine aX Dp (fun s8=>AS.bR 34 [(1,.sv (.v (.int .i64 x1))),(5,.row 13),(17,.sv (slc 1 (List.map (eS 4 eQ) cD))),(18,.sv (.v (.int .i64 fg))),(19,.sv (.v (.int .i64 s8.1)))] [] [(13,TR 52 4 (fQ N) s8.2)]) (wR []) (fun s8 y8 G8 h Dr Ds=>?_)
 obtain⟨Bv,zL⟩:=s8
 try dsimp only
 refine sr<|lE h fun gx lz h=>ls _ rfl rfl lz<|dn<|qq ?_
 cases gx
 refine cF<|bj<|ae.x<|ae.x<|aH.x<|ae.n ?_
 obtain rfl:=O (F h)
 exact⟨zL,Ds _ rfl,wR []⟩
 refine cT<|aG<|ae.n<|qq<|aq<|sr<|mv rfl<|bE (V h) fun jS nN h=>ix rfl rfl nN<|lr rfl rfl<|ag rfl<|ag rfl<|dn<|ah<|mo (s:=.row _) rfl<|mv rfl<|mv rfl<|mv rfl ?_
 obtain⟨⟨⟨Kq,Kr⟩,⟨Ks,Kt⟩⟩,uC,h⟩:=bS h
 refine ix rfl rfl uC<|RT.jk (cs:=[_,_,_,_]) .none rfl T rfl rfl ?_
 obtain⟨⟨⟨mA,mB⟩,⟨D1,D2⟩⟩,uD,h⟩:=bS h
 refine RT.aQ .none (uV N uD) hN rfl ⟨rfl,trivial⟩ T<|bE h fun qg uA h=>iR rfl rfl rfl uA<|bE h fun vH om h=>sA ⟨⟨mA,mB⟩,⟨D1,D2⟩⟩ rfl rfl rfl om<|RT.done<|aH.n<|ae.n<|ah<|lE h fun ig jK h=>ad _ rfl rfl jK<|mv rfl<|RT.done ?_
 obtain rfl:=O h
 exact ae.n ⟨(ig,vH),Dr _ rfl,wR []⟩
 subst Dq
 try dsimp only
 refine ae.n<|sr<|mo (s:=.row _) rfl<|an (s:=.row _) rfl<|dn<|jy (i:=13) (E1:=52) (n:=4) (e:=(fQ N)) (l:=oB) hN (fun _ h=>h) rfl<|aj ?_
 obtain rfl:=O vN
 exact R1 rfl
theorem kf{x0:Tb}{x1:Int}{r:List Qr}(h:hG x0 x1=some r):Pure Try.prog 28 [ref (qB x0),.v (.int .i64 x1)] (slc 4 (List.map eQ r)):=by
 obtain⟨aC,aD,aL,aM,cD⟩:=x0
 refine ay Try.func28 rfl (Nat.le_of_ble_eq_true rfl) (fun cS M vs hvs=>?_)
 unfold hG at h
 refine sr<|aI rfl (imp_nil (n:=4) (e:=eQ))<|dn<|qq<|ai mixed<|mv rfl<|RT.bA .none rfl T<|RT.bk .none rfl T rfl<|lr rfl rfl<|lE h fun eG fE h=>ln rfl fE<|mv rfl<|RT.bA .none rfl T<|RT.bk .none rfl T rfl<|lr rfl rfl<|lE h fun fR kL h=>ad _ rfl rfl kL<|bE h fun fg ij h=>RT.kx (n:=4) (e:=eQ) .none rfl rfl T rfl T (by rfl) (by decide) (by exact⟨SV.aa _,imp_nil,SV.aa _,imp_nil,trivial⟩) ij ?_
 refine an (s:=.row _) rfl ?_
 refine RT.done ⟨by kernel_rfl,?_⟩
 refine ae.n<|qq<|sr<|mv rfl<|mv rfl<|RT.bA .none rfl T<|RT.bk .none rfl T rfl<|lr rfl rfl<|lE h fun gD lP h=>ls _ rfl rfl lP<|dn ?_
 refine aF h (fun Rz=>AS.bR 54 [(5,.row 18)] [] [(18,TR 52 4 eQ Rz)]) (fun h=>?_) (fun Ku h=>?_)
 cases gD
 exact fs<|⟨fg,(F h),wR []⟩
 refine cT<|qq<|sr<|mv rfl<|RT.bA .none rfl T<|RT.bk .none rfl T rfl<|lr rfl rfl<|lE (V h) fun gO iK h=>ln rfl iK<|mv rfl<|dn<|bE h fun e18 Yz zU=>?_
 refine aW (fun(tD:(List Qr))=>AS.bR 54 [(0,.sv (ref [.v (.bool aC),.v (.int .i64 aD),slc 1 (List.map (eS 4 eQ) aL),slc 1 (List.map bO aM),slc 1 (List.map (eS 4 eQ) cD)])),(1,.sv (.v (.int .i64 x1))),(5,.row 18)] [] [(18,TR 52 4 eQ tD)]) (fun tD=>tD=e18) ?_ (fun tD YA=>?_)
 refine aq ?_
 refine aX Yz (fun S8=>AS.bR 54 [(0,.sv (ref [.v (.bool aC),.v (.int .i64 aD),slc 1 (List.map (eS 4 eQ) aL),slc 1 (List.map bO aM),slc 1 (List.map (eS 4 eQ) cD)])),(1,.sv (.v (.int .i64 x1))),(5,.row 18),(28,.sv (slc 1 (List.map (eS 4 eQ) aL))),(29,.sv (.v (.int .i64 gO))),(30,.sv (.v (.int .i64 S8.1)))] [] [(18,TR 52 4 eQ S8.2)]) (wR []) (fun S8 y18 G18 h YB YC=>?_)
 obtain⟨zM,zN⟩:=S8
 try dsimp only
 refine sr<|lE h fun qg uA h=>ls _ rfl rfl uA<|dn<|qq ?_
 cases qg
 refine cF<|bj<|ae.x<|ae.x<|aH.x<|ae.n ?_
 obtain rfl:=O (F h)
 exact⟨zN,YC _ rfl,wR []⟩
 refine cT<|aG<|ae.n<|qq<|aq<|sr<|mv rfl<|bE (V h) fun o8 pD h=>ix rfl rfl pD<|lr rfl rfl<|ag rfl<|ag rfl<|dn<|ah<|mo (s:=.row _) rfl<|mv rfl<|mv rfl<|mv rfl ?_
 obtain⟨⟨⟨Kv,Kw⟩,⟨Kx,Ky⟩⟩,Ay,h⟩:=bS h
 refine ix rfl rfl Ay<|RT.jk (cs:=[_,_,_,_]) .none rfl T rfl rfl<|bE h fun qF w7 h=>iR rfl rfl rfl w7<|bE h fun S9 U4 h=>sA ⟨⟨Kv,Kw⟩,⟨Kx,Ky⟩⟩ rfl rfl rfl U4<|RT.done<|aH.n<|ae.n<|ah<|lE h fun qj w8 h=>ad _ rfl rfl w8<|mv rfl<|RT.done ?_
 obtain rfl:=O h
 exact ae.n ⟨(qj,S9),YB _ rfl,wR []⟩
 subst YA
 try dsimp only
 refine ae.n<|ai mixed<|mo (s:=.row _) rfl<|mv rfl<|RT.bA .none rfl T<|RT.bk .none rfl T rfl<|lr rfl rfl<|lE zU fun ur h48 zU=>ln rfl h48<|mv rfl<|lE zU fun sI Ax zU=>ad _ rfl rfl Ax ?_
 obtain⟨⟨⟨yN,yO⟩,⟨Kz,KA⟩⟩,B4,zU⟩:=bS zU
 refine cl (iB B4) ⟨rfl,trivial⟩<|bE zU fun Ai B5 zU=>iR rfl rfl rfl B5<|bE zU fun Ta U5 zU=>sA ⟨⟨yN,yO⟩,⟨Kz,KA⟩⟩ rfl rfl rfl U5 ?_
 refine RT.done ⟨by kernel_rfl,?_⟩
 exact ae.n<|⟨Ta,zU,wR []⟩
 try dsimp only
 refine ae.n<|sr<|mo (s:=.row _) rfl<|an (s:=.row _) rfl<|dn<|bt (dH (i:=18) (E1:=52) (n:=4) (e:=eQ) (l:=Ku) rfl)<|aj ?_
 obtain rfl:=O h
 exact R1 rfl
theorem xm{x0:Tb}{x1:List Qr}{r:List Qr}(h:ei x0 x1=some r):Pure Try.prog 27 [ref (qB x0),slc 4 (List.map eQ x1)] (slc 4 (List.map eQ r)):=by
 obtain⟨aC,aD,aL,aM,cD⟩:=x0
 refine ay Try.func27 rfl (Nat.le_of_ble_eq_true rfl) (fun cS M vs hvs=>?_)
 unfold ei at h
 refine sr<|aI rfl (imp_nil (n:=4) (e:=eQ))<|dn<|qq<|ai mixed<|mv rfl<|RT.bA .none rfl T<|RT.bk .none rfl T rfl<|lr rfl rfl<|lE h fun eG fE h=>ln rfl fE<|mv rfl<|RT.bA .none rfl T<|RT.bk .none rfl T rfl<|lr rfl rfl<|lE h fun fR kL h=>ad _ rfl rfl kL<|bE h fun fg ij h=>RT.kx (n:=4) (e:=eQ) .none rfl rfl T rfl T (by rfl) (by decide) (by exact⟨SV.aa _,imp_nil,SV.aa _,imp_nil,trivial⟩) ij ?_
 refine an (s:=.row _) rfl ?_
 refine RT.done ⟨by kernel_rfl,?_⟩
 refine ae.n<|qq<|sr<|mv rfl<|lE h fun gx lz h=>ln rfl lz<|mv rfl<|dn<|bt (dH (i:=18) (E1:=52) (n:=4) (e:=eQ) (l:=fg) rfl)<|bE h fun RL KQ mS=>?_
 refine aW (fun(rC:(List Qr))=>AS.bR 57 [(5,.sv (slc 4 (List.map eQ rC)))] [] []) (fun rC=>rC=RL) ?_ (fun rC KR=>?_)
 refine aq ?_
 refine aX KQ (fun Hx=>AS.bR 57 [(0,.sv (ref [.v (.bool aC),.v (.int .i64 aD),slc 1 (List.map (eS 4 eQ) aL),slc 1 (List.map bO aM),slc 1 (List.map (eS 4 eQ) cD)])),(5,.sv (slc 4 (List.map eQ Hx.1))),(19,.sv (slc 4 (List.map eQ x1))),(20,.sv (.v (.int .i64 gx))),(21,.sv (.v (.int .i64 Hx.2)))] [] []) (wR []) (fun Hx y16 G16 h KS Hy=>?_)
 obtain⟨rB,kP⟩:=Hx
 try dsimp only
 refine sr<|lE h fun jS nN h=>ls _ rfl rfl nN<|dn<|qq ?_
 cases jS
 refine cF<|bj<|ae.x<|ae.x<|aH.x<|ae.n ?_
 obtain rfl:=O (F h)
 exact⟨rB,Hy _ rfl,wR []⟩
 refine cT<|aG<|ae.n<|qq<|aq<|sr<|mv rfl ?_
 obtain⟨⟨⟨pY,pZ⟩,⟨qa,qb⟩⟩,lP,h⟩:=bS (V h)
 refine ix rfl rfl lP<|RT.jk (cs:=[_,_,_,_]) .none rfl T rfl rfl<|al (cs:=[.v (.bool false),slc 1 (List.map af []),.v (.bool false),slc 1 (List.map af [])]) (by exact⟨SV.aa _,imp_nil,SV.aa _,imp_nil,trivial⟩) rfl<|ag rfl<|so rfl rfl rfl<|dn<|qq ?_
 refine aF h (fun YD=>AS.bR 57 [(0,.sv (ref [.v (.bool aC),.v (.int .i64 aD),slc 1 (List.map (eS 4 eQ) aL),slc 1 (List.map bO aM),slc 1 (List.map (eS 4 eQ) cD)])),(5,.sv (slc 4 (List.map eQ rB))),(6,.sv (.v (.int .i64 kP))),(7,.ptr 7 0),(19,.sv (slc 4 (List.map eQ x1))),(20,.sv (.v (.int .i64 gx))),(21,.sv (.v (.int .i64 kP))),(42,.sv (.v (.bool YD)))] [(7,⟨52,[.sv (.v (.bool pY)),.sv (slc 1 (List.map af pZ)),.sv (.v (.bool qa)),.sv (slc 1 (List.map af qb))]⟩)] []) (fun h=>?_) (fun zO h=>?_)
 refine ai mixed<|mv rfl<|RT.bA .none rfl T<|RT.bk .none rfl T rfl<|lr rfl rfl<|mv rfl<|bE h fun qg uA h=>ix rfl rfl uA<|lr rfl rfl<|mv rfl<|RT.bA .none rfl T<|RT.bk .none rfl T rfl<|lr rfl rfl<|lE h fun si vO h=>ls _ rfl rfl vO<|mv rfl<|bE h fun FC tw h=>?_
 cases si
 obtain rfl:=O (F tw)
 refine ww<|ww<|ww<|pF rfl ?_
 refine RT.done ⟨by kernel_rfl,?_⟩
 exact ae.n<|⟨false,h,wR []⟩
 refine gl rfl rfl (.cons rfl (.cons rfl (.cons rfl (.cons rfl (.nil)))))<|bE (V tw) fun mw nh tw=>gc (je nh) ⟨rfl,trivial⟩<|lE tw fun qF w7 tw=>gq _ rfl rfl (F5 (p:=mw) (q:=0) w7) ?_
 obtain rfl:=O tw
 refine pT rfl ?_
 refine RT.done ⟨by kernel_rfl,?_⟩
 exact ae.n<|⟨qF,h,wR []⟩
 try dsimp only
 refine ae.n ?_
 refine aF h (fun UC=>AS.bR 57 [(0,.sv (ref [.v (.bool aC),.v (.int .i64 aD),slc 1 (List.map (eS 4 eQ) aL),slc 1 (List.map bO aM),slc 1 (List.map (eS 4 eQ) cD)])),(5,.sv (slc 4 (List.map eQ UC))),(19,.sv (slc 4 (List.map eQ x1))),(20,.sv (.v (.int .i64 gx))),(21,.sv (.v (.int .i64 kP)))] [] []) (fun h=>?_) (fun D3 h=>?_)
 cases zO
 exact fs<|⟨rB,(F h),wR []⟩
 refine cT<|ai mixed<|ld rfl rfl (.cons rfl (.cons rfl (.cons rfl (.cons rfl (.nil)))))<|mv rfl<|mv rfl<|RT.bA .none rfl T<|RT.bk .none rfl T rfl<|lr rfl rfl<|mv rfl<|bE (V h) fun sI Ax h=>ix rfl rfl Ax<|lr rfl rfl<|bE h fun Ai B5 h=>cl (kf B5) ⟨rfl,rfl,trivial⟩<|mv rfl<|bE h fun Jt Mp h=>cl (ou Mp) ⟨rfl,rfl,rfl,trivial⟩<|ag rfl ?_
 refine RT.done ⟨by kernel_rfl,?_⟩
 exact ae.n<|⟨Jt,h,wR []⟩
 try dsimp only
 refine aH.n<|ae.n<|ah<|lE h fun tW Fi h=>ad _ rfl rfl Fi<|mv rfl<|RT.done ?_
 obtain rfl:=O h
 exact ae.n ⟨(D3,tW),KS _ rfl,wR []⟩
 subst KR
 try dsimp only
 refine ae.n<|sr<|mv rfl<|ag rfl<|dn<|aj ?_
 obtain rfl:=O mS
 exact R1 rfl
theorem qf{x0:Tb}{x1:List Qr}(N:Nat){r:List Qr}(h:ei x0 x1=some r):cz Try.prog 27 N [ref (qB x0),slc 4 (List.map eQ x1)] (nw N (slc 4 (List.map (fQ N) r))):=by
 obtain⟨aC,aD,aL,aM,cD⟩:=x0
 refine aJ Try.func27 rfl (Nat.le_of_ble_eq_true rfl) (fun cS M vs hN hvs=>?_)
 unfold ei at h
 refine sr<|aI rfl (aA (N:=N) (n:=4) (e:=(fQ N)))<|dn<|qq<|ai mixed<|mv rfl<|RT.bA .none rfl T<|RT.bk .none rfl T rfl<|lr rfl rfl<|lE h fun eG fE h=>ln rfl fE<|mv rfl<|RT.bA .none rfl T<|RT.bk .none rfl T rfl<|lr rfl rfl<|lE h fun fR kL h=>ad _ rfl rfl kL<|bE h fun fg ij h=>RT.kx (n:=4) (e:=(fQ N)) .none rfl rfl T rfl T (by rfl) (by decide) (by exact⟨SV.aa _,aA,SV.aa _,aA,trivial⟩) ij ?_
 refine an (s:=.row _) rfl ?_
 refine RT.done ⟨by kernel_rfl,?_⟩
 refine ae.n<|qq<|sr<|mv rfl<|lE h fun gx lz h=>ln rfl lz<|mv rfl<|dn<|jy (i:=18) (E1:=52) (n:=4) (e:=(fQ N)) (l:=fg) hN (fun _ h=>h) rfl<|bE h fun RL KQ mS=>?_
 refine aW (fun(rC:(List Qr))=>AS.bR 57 [(5,.sv (nw N (slc 4 (List.map (fQ N) rC))))] [] []) (fun rC=>rC=RL) ?_ (fun rC KR=>?_)
 refine aq ?_
 refine aX KQ (fun Hx=>AS.bR 57 [(0,.sv (ref [.v (.bool aC),.v (.int .i64 aD),slc 1 (List.map (eS 4 eQ) aL),slc 1 (List.map bO aM),slc 1 (List.map (eS 4 eQ) cD)])),(5,.sv (nw N (slc 4 (List.map (fQ N) Hx.1)))),(19,.sv (slc 4 (List.map eQ x1))),(20,.sv (.v (.int .i64 gx))),(21,.sv (.v (.int .i64 Hx.2)))] [] []) (wR []) (fun Hx y16 G16 h KS Hy=>?_)
 obtain⟨rB,kP⟩:=Hx
 try dsimp only
 refine sr<|lE h fun jS nN h=>ls _ rfl rfl nN<|dn<|qq ?_
 cases jS
 refine cF<|bj<|ae.x<|ae.x<|aH.x<|ae.n ?_
 obtain rfl:=O (F h)
 exact⟨rB,Hy _ rfl,wR []⟩
 refine cT<|aG<|ae.n<|qq<|aq<|sr<|mv rfl ?_
 obtain⟨⟨⟨pY,pZ⟩,⟨qa,qb⟩⟩,lP,h⟩:=bS (V h)
 refine ix rfl rfl lP<|RT.jk (cs:=[_,_,_,_]) .none rfl T rfl rfl<|al (cs:=[.v (.bool false),nw N (slc 1 (List.map af [])),.v (.bool false),nw N (slc 1 (List.map af []))]) (by exact⟨SV.aa _,aA,SV.aa _,aA,trivial⟩) rfl<|ag rfl<|so rfl rfl rfl<|dn<|qq ?_
 refine aF h (fun YD=>AS.bR 57 [(0,.sv (ref [.v (.bool aC),.v (.int .i64 aD),slc 1 (List.map (eS 4 eQ) aL),slc 1 (List.map bO aM),slc 1 (List.map (eS 4 eQ) cD)])),(5,.sv (nw N (slc 4 (List.map (fQ N) rB)))),(6,.sv (.v (.int .i64 kP))),(7,.ptr 7 0),(19,.sv (slc 4 (List.map eQ x1))),(20,.sv (.v (.int .i64 gx))),(21,.sv (.v (.int .i64 kP))),(42,.sv (.v (.bool YD)))] [(7,⟨52,[.sv (.v (.bool pY)),.sv (slc 1 (List.map af pZ)),.sv (.v (.bool qa)),.sv (slc 1 (List.map af qb))]⟩)] []) (fun h=>?_) (fun zO h=>?_)
 refine ai mixed<|mv rfl<|RT.bA .none rfl T<|RT.bk .none rfl T rfl<|lr rfl rfl<|mv rfl<|bE h fun qg uA h=>ix rfl rfl uA<|lr rfl rfl<|mv rfl<|RT.bA .none rfl T<|RT.bk .none rfl T rfl<|lr rfl rfl<|lE h fun si vO h=>ls _ rfl rfl vO<|mv rfl<|bE h fun FC tw h=>?_
 cases si
 obtain rfl:=O (F tw)
 refine ww<|ww<|ww<|pF rfl ?_
 refine RT.done ⟨by kernel_rfl,?_⟩
 exact ae.n<|⟨false,h,wR []⟩
 refine gl rfl rfl (.cons rfl (.cons rfl (.cons rfl (.cons rfl (.nil)))))<|bE (V tw) fun mw nh tw=>gc (je nh) ⟨rfl,trivial⟩<|lE tw fun qF w7 tw=>gq _ rfl rfl (F5 (p:=mw) (q:=0) w7) ?_
 obtain rfl:=O tw
 refine pT rfl ?_
 refine RT.done ⟨by kernel_rfl,?_⟩
 exact ae.n<|⟨qF,h,wR []⟩
 try dsimp only
 refine ae.n ?_
 refine aF h (fun UC=>AS.bR 57 [(0,.sv (ref [.v (.bool aC),.v (.int .i64 aD),slc 1 (List.map (eS 4 eQ) aL),slc 1 (List.map bO aM),slc 1 (List.map (eS 4 eQ) cD)])),(5,.sv (nw N (slc 4 (List.map (fQ N) UC)))),(19,.sv (slc 4 (List.map eQ x1))),(20,.sv (.v (.int .i64 gx))),(21,.sv (.v (.int .i64 kP)))] [] []) (fun h=>?_) (fun D3 h=>?_)
 cases zO
 exact fs<|⟨rB,(F h),wR []⟩
 refine cT<|ai mixed<|ld rfl rfl (.cons rfl (.cons rfl (.cons rfl (.cons rfl (.nil)))))<|mv rfl<|mv rfl<|RT.bA .none rfl T<|RT.bk .none rfl T rfl<|lr rfl rfl<|mv rfl<|bE (V h) fun sI Ax h=>ix rfl rfl Ax<|lr rfl rfl<|bE h fun Ai B5 h=>cl (kf B5) ⟨rfl,rfl,trivial⟩<|mv rfl<|bE h fun Jt Mp h=>RT.aQ .none ((vV N Mp).w (args':=[_,_,_]) ⟨(SV.aa _),(SV.aa _),UO,trivial⟩) hN rfl ⟨rfl,rfl,rfl,trivial⟩ T ?_
 refine ag rfl ?_
 refine RT.done ⟨by kernel_rfl,?_⟩
 exact ae.n<|⟨Jt,h,wR []⟩
 try dsimp only
 refine aH.n<|ae.n<|ah<|lE h fun tW Fi h=>ad _ rfl rfl Fi<|mv rfl<|RT.done ?_
 obtain rfl:=O h
 exact ae.n ⟨(D3,tW),KS _ rfl,wR []⟩
 subst KR
 try dsimp only
 refine ae.n<|sr<|mv rfl<|ag rfl<|dn<|aj ?_
 obtain rfl:=O mS
 exact R1 rfl
theorem Cx{x0:Tb}(N:Nat){r:List Int}(h:iX x0=some r):cz Try.prog 8 N [ref (qB x0)] (nw N (slc 1 (List.map bO r))):=by
 obtain⟨aC,aD,aL,aM,cD⟩:=x0
 refine aJ Try.func8 rfl (Nat.le_of_ble_eq_true rfl) (fun cS M vs hN hvs=>?_)
 unfold iX at h
 refine sr<|aI rfl (aA (N:=N) (n:=1) (e:=bO))<|dn<|qq<|sr<|mv rfl<|bE h fun x5 h5 h=>cl (c5 h5) ⟨rfl,trivial⟩<|dn ?_
 cases x5
 refine fs<|sr<|mv rfl<|RT.bA .none rfl T<|RT.bk .none rfl T rfl<|lr rfl rfl<|lE (F h) fun dW fP h=>ln rfl fP<|bE h fun iz me h=>RT.kx (n:=1) (e:=bO) .none rfl rfl T rfl T (by rfl) (by decide) (by exact⟨SV.aa _,trivial⟩) me<|an (s:=.row _) rfl<|dn<|sr<|mo (s:=.row _) rfl<|mv rfl<|RT.bA .none rfl T<|RT.bk .none rfl T rfl<|lr rfl rfl ?_
 refine RT.UU (l:=iz) (k:=aM) (e:=bO) .none rfl rfl rfl T rfl<|dn<|sr<|mo (s:=.row _) rfl<|an (s:=.row _) rfl<|dn<|jy (i:=11) (E1:=3) (n:=1) (e:=bO) (l:=(CR iz aM)) hN (fun _ h=>h) rfl<|aj ?_
 obtain rfl:=O h
 exact R1 rfl
 refine cT<|sr<|aI rfl (aA (N:=N) (n:=1) (e:=bO))<|dn<|aj<|ae.r ?_
 obtain rfl:=O (V h)
 exact R1 rfl
theorem FE{x0:Tb}{r:List Qr}(h:eT x0=some r):Pure Try.prog 10 [ref (qB x0)] (slc 4 (List.map eQ r)):=by
 obtain⟨aC,aD,aL,aM,cD⟩:=x0
 refine ay Try.func10 rfl (Nat.le_of_ble_eq_true rfl) (fun cS M vs hvs=>?_)
 unfold eT at h
 refine sr<|aI rfl (imp_nil (n:=4) (e:=eQ))<|dn<|qq<|sr<|mv rfl<|bE h fun x4 h4 h=>cl (c5 h4) ⟨rfl,trivial⟩<|dn ?_
 cases x4
 refine fs<|sr<|mv rfl<|mv rfl<|bE (F h) fun x7 h7 h=>cl (jh h7) ⟨rfl,trivial⟩<|bE h fun x8 h8 h=>cl (sK h8) ⟨rfl,rfl,trivial⟩<|ag rfl<|dn<|aj ?_
 obtain rfl:=O h
 exact R1 rfl
 refine cT<|sr<|aI rfl (imp_nil (n:=4) (e:=eQ))<|dn<|aj<|ae.r ?_
 obtain rfl:=O (V h)
 exact R1 rfl
theorem tG{x0:Tb}(N:Nat){r:List Qr}(h:eT x0=some r):cz Try.prog 10 N [ref (qB x0)] (nw N (slc 4 (List.map (fQ N) r))):=by
 obtain⟨aC,aD,aL,aM,cD⟩:=x0
 refine aJ Try.func10 rfl (Nat.le_of_ble_eq_true rfl) (fun cS M vs hN hvs=>?_)
 unfold eT at h
 refine sr<|aI rfl (aA (N:=N) (n:=4) (e:=(fQ N)))<|dn<|qq<|sr<|mv rfl<|bE h fun x4 h4 h=>cl (c5 h4) ⟨rfl,trivial⟩<|dn ?_
 cases x4
 refine fs<|sr<|mv rfl<|mv rfl<|bE (F h) fun x7 h7 h=>cl (jh h7) ⟨rfl,trivial⟩<|bE h fun x8 h8 h=>RT.aQ .none (sL N h8) hN rfl ⟨rfl,rfl,trivial⟩ T<|ag rfl<|dn<|aj ?_
 obtain rfl:=O h
 exact R1 rfl
 refine cT<|sr<|aI rfl (aA (N:=N) (n:=4) (e:=(fQ N)))<|dn<|aj<|ae.r ?_
 obtain rfl:=O (V h)
 exact R1 rfl
theorem tH{x0:Tb}{x1:Int}{r:List Qr}(h:cC x0 x1=some r):Pure Try.prog 12 [ref (qB x0),.v (.int .i64 x1)] (slc 4 (List.map eQ r)):=by
 obtain⟨aC,aD,aL,aM,cD⟩:=x0
 refine ay Try.func12 rfl (Nat.le_of_ble_eq_true rfl) (fun cS M vs hvs=>?_)
 unfold cC at h
 refine sr<|aI rfl (imp_nil (n:=4) (e:=eQ))<|dn<|qq<|qq ?_
 refine aF h (fun j6=>AS.bR 26 [(0,.sv (ref [.v (.bool aC),.v (.int .i64 aD),slc 1 (List.map (eS 4 eQ) aL),slc 1 (List.map bO aM),slc 1 (List.map (eS 4 eQ) cD)])),(1,.sv (.v (.int .i64 x1))),(16,.sv (.v (.bool j6)))] [] []) (fun h=>?_) (fun D4 h=>?_)
 refine ah<|mv rfl<|bE h fun x6 h6 h=>cl (c5 h6) ⟨rfl,trivial⟩<|mv rfl<|bE h fun KB H8 h=>?_
 cases x6
 refine gm rfl<|lE (F H8) fun x9 h9 H8=>RT.lss (.some rfl rfl) _ rfl rfl T h9 ?_
 obtain rfl:=O H8
 refine pF rfl<|mv rfl<|bE h fun U6 y5 h=>?_
 cases x9
 refine gm rfl<|gm rfl<|bE (F y5) fun gY ku y5=>gc (jh ku) ⟨rfl,trivial⟩<|lE y5 fun fC gG y5=>RT.geq (.some rfl rfl) _ rfl rfl T gG ?_
 obtain rfl:=O y5
 exact pF rfl<|dn<|⟨fC,h,wR []⟩
 obtain rfl:=O (V y5)
 exact ww<|ww<|ww<|ww<|pT rfl<|dn<|⟨true,h,wR []⟩
 obtain rfl:=O (V H8)
 refine ww<|ww<|pT rfl<|mv rfl<|bE h fun U7 YE h=>?_
 obtain rfl:=O (V YE)
 exact ww<|ww<|ww<|ww<|pT rfl<|dn<|⟨true,h,wR []⟩
 try dsimp only
 refine ae.n ?_
 cases D4
 refine fs<|sr<|mv rfl<|mv rfl<|mv rfl<|bE (F h) fun gx lz h=>cl (sK lz) ⟨rfl,rfl,trivial⟩<|bE h fun mc qO h=>cl (xm qO) ⟨rfl,rfl,trivial⟩<|mv rfl<|mv rfl<|bE h fun gD lP h=>cl (kf lP) ⟨rfl,rfl,trivial⟩<|bE h fun vp pB h=>cl (Fy pB) ⟨rfl,rfl,trivial⟩<|ag rfl<|dn<|aj ?_
 obtain rfl:=O h
 exact R1 rfl
 refine cT<|sr<|aI rfl (imp_nil (n:=4) (e:=eQ))<|dn<|aj<|ae.r ?_
 obtain rfl:=O (V h)
 exact R1 rfl
theorem tJ{x0:Tb}{x1:Int}(N:Nat){r:List Qr}(h:cC x0 x1=some r):cz Try.prog 12 N [ref (qB x0),.v (.int .i64 x1)] (nw N (slc 4 (List.map (fQ N) r))):=by
 obtain⟨aC,aD,aL,aM,cD⟩:=x0
 refine aJ Try.func12 rfl (Nat.le_of_ble_eq_true rfl) (fun cS M vs hN hvs=>?_)
 unfold cC at h
 refine sr<|aI rfl (aA (N:=N) (n:=4) (e:=(fQ N)))<|dn<|qq<|qq ?_
 refine aF h (fun j6=>AS.bR 26 [(0,.sv (ref [.v (.bool aC),.v (.int .i64 aD),slc 1 (List.map (eS 4 eQ) aL),slc 1 (List.map bO aM),slc 1 (List.map (eS 4 eQ) cD)])),(1,.sv (.v (.int .i64 x1))),(16,.sv (.v (.bool j6)))] [] []) (fun h=>?_) (fun D4 h=>?_)
 refine ah<|mv rfl<|bE h fun x6 h6 h=>cl (c5 h6) ⟨rfl,trivial⟩<|mv rfl<|bE h fun KB H8 h=>?_
 cases x6
 refine gm rfl<|lE (F H8) fun x9 h9 H8=>RT.lss (.some rfl rfl) _ rfl rfl T h9 ?_
 obtain rfl:=O H8
 refine pF rfl<|mv rfl<|bE h fun U6 y5 h=>?_
 cases x9
 refine gm rfl<|gm rfl<|bE (F y5) fun gY ku y5=>gc (jh ku) ⟨rfl,trivial⟩<|lE y5 fun fC gG y5=>RT.geq (.some rfl rfl) _ rfl rfl T gG ?_
 obtain rfl:=O y5
 exact pF rfl<|dn<|⟨fC,h,wR []⟩
 obtain rfl:=O (V y5)
 exact ww<|ww<|ww<|ww<|pT rfl<|dn<|⟨true,h,wR []⟩
 obtain rfl:=O (V H8)
 refine ww<|ww<|pT rfl<|mv rfl<|bE h fun U7 YE h=>?_
 obtain rfl:=O (V YE)
 exact ww<|ww<|ww<|ww<|pT rfl<|dn<|⟨true,h,wR []⟩
 try dsimp only
 refine ae.n ?_
 cases D4
 refine fs<|sr<|mv rfl<|mv rfl<|mv rfl<|bE (F h) fun gx lz h=>RT.aQ .none (sL N lz) hN rfl ⟨rfl,rfl,trivial⟩ T<|bE h fun mc qO h=>RT.aQ .none ((qf N qO).w (args':=[_,_]) ⟨(SV.aa _),UO,trivial⟩) hN rfl ⟨rfl,rfl,trivial⟩ T<|mv rfl<|mv rfl<|bE h fun gD lP h=>cl (kf lP) ⟨rfl,rfl,trivial⟩<|bE h fun vp pB h=>RT.aQ .none ((FB N pB).w (args':=[_,_]) ⟨UO,(SV.aa _),trivial⟩) hN rfl ⟨rfl,rfl,trivial⟩ T ?_
 refine ag rfl<|dn<|aj ?_
 obtain rfl:=O h
 exact R1 rfl
 refine cT<|sr<|aI rfl (aA (N:=N) (n:=4) (e:=(fQ N)))<|dn<|aj<|ae.r ?_
 obtain rfl:=O (V h)
 exact R1 rfl
theorem Cy{x0:Tb}(N:Nat){r:List Qr}(h:iY x0=some r):cz Try.prog 14 N [ref (qB x0)] (nw N (slc 4 (List.map (fQ N) r))):=by
 obtain⟨aC,aD,aL,aM,cD⟩:=x0
 refine aJ Try.func14 rfl (Nat.le_of_ble_eq_true rfl) (fun cS M vs hN hvs=>?_)
 unfold iY at h
 refine sr<|aI rfl (aA (N:=N) (n:=4) (e:=(fQ N)))<|dn<|qq<|sr<|mv rfl<|bE h fun x4 h4 h=>cl (c5 h4) ⟨rfl,trivial⟩<|dn ?_
 cases x4
 refine fs<|sr<|mv rfl<|mv rfl<|bE (F h) fun x7 h7 h=>RT.aQ .none (tG N h7) hN rfl ⟨rfl,trivial⟩ T<|bE h fun x8 h8 h=>RT.aQ .none ((qf N h8).w (args':=[_,_]) ⟨(SV.aa _),UO,trivial⟩) hN rfl ⟨rfl,rfl,trivial⟩ T<|ag rfl<|dn<|aj ?_
 obtain rfl:=O h
 exact R1 rfl
 refine cT<|sr<|aI rfl (aA (N:=N) (n:=4) (e:=(fQ N)))<|dn<|aj<|ae.r ?_
 obtain rfl:=O (V h)
 exact R1 rfl
theorem xn{x0:Tb}(N:Nat){r:List Qr}(h:gh x0=some r):cz Try.prog 16 N [ref (qB x0)] (nw N (slc 4 (List.map (fQ N) r))):=by
 obtain⟨aC,aD,aL,aM,cD⟩:=x0
 refine aJ Try.func16 rfl (Nat.le_of_ble_eq_true rfl) (fun cS M vs hN hvs=>?_)
 unfold gh at h
 refine sr<|aI rfl (aA (N:=N) (n:=4) (e:=(fQ N)))<|dn<|qq<|sr<|mv rfl<|bE h fun x7 h7 h=>cl (c5 h7) ⟨rfl,trivial⟩<|dn ?_
 cases x7
 refine fs<|sr<|mv rfl<|RT.bA .none rfl T<|RT.bk .none rfl T rfl<|lr rfl rfl<|bE (F h) fun eG fE h=>RT.kx (n:=4) (e:=(fQ N)) .none rfl rfl T rfl T (by rfl) (by decide) (by exact⟨SV.aa _,aA,SV.aa _,aA,trivial⟩) fE<|an (s:=.row _) rfl<|dn<|qq<|sr<|mv rfl<|bE h fun gY ku h=>RT.aQ .none (tG N ku) hN rfl ⟨rfl,trivial⟩ T<|lE h fun fC gG h=>RT.Bs .none rfl T gG<|mv rfl ?_
 refine dn<|bE h fun P9 E8 B0=>?_
 refine aW (fun(zR:(List Qr))=>AS.bR 45 [(3,.row 12)] [] [(12,TR 52 4 (fQ N) zR)]) (fun zR=>zR=P9) ?_ (fun zR E9=>?_)
 refine aq ?_
 refine aX E8 (fun Dg=>AS.bR 45 [(0,.sv (ref [.v (.bool aC),.v (.int .i64 aD),slc 1 (List.map (eS 4 eQ) aL),slc 1 (List.map bO aM),slc 1 (List.map (eS 4 eQ) cD)])),(3,.row 12),(14,.sv (nw N (slc 4 (List.map (fQ N) gY)))),(15,.sv (.v (.int .i64 fC))),(16,.sv (.v (.int .i64 Dg.1)))] [] [(12,TR 52 4 (fQ N) Dg.2)]) (wR []) (fun Dg Xk Xl h Fa Dk=>?_)
 obtain⟨zP,zQ⟩:=Dg
 try dsimp only
 refine sr<|lE h fun fR kL h=>ls _ rfl rfl kL<|dn<|qq ?_
 cases fR
 refine cF<|bj<|ae.x<|ae.x<|aH.x<|ae.n ?_
 obtain rfl:=O (F h)
 exact⟨zQ,Dk _ rfl,wR []⟩
 refine cT<|aG<|ae.n<|qq<|aq<|sr<|mv rfl ?_
 obtain⟨⟨⟨kC,kD⟩,⟨zy,zA⟩⟩,jM,h⟩:=bS (V h)
 refine RT.UQ .none rfl rfl T jM<|RT.jk (cs:=[_,_,_,_]) .none rfl T rfl rfl<|al (cs:=[.v (.bool false),nw N (slc 1 (List.map af [])),.v (.bool false),nw N (slc 1 (List.map af []))]) (by exact⟨SV.aa _,aA,SV.aa _,aA,trivial⟩) rfl<|ag rfl<|so rfl rfl rfl<|dn<|qq<|ai mixed<|mv rfl<|RT.bA .none rfl T<|RT.bk .none rfl T rfl<|lr rfl rfl<|mv rfl<|bE h fun kz nO h=>ix rfl rfl nO ?_
 refine lr rfl rfl<|mv rfl<|RT.bA .none rfl T<|RT.bk .none rfl T rfl<|lr rfl rfl<|lE h fun ig jK h=>ls _ rfl rfl jK ?_
 refine RT.done ⟨by kernel_rfl,?_⟩
 refine ae.n ?_
 refine aF h (fun Ml=>AS.bR 45 [(0,.sv (ref [.v (.bool aC),.v (.int .i64 aD),slc 1 (List.map (eS 4 eQ) aL),slc 1 (List.map bO aM),slc 1 (List.map (eS 4 eQ) cD)])),(3,.row 12),(14,.sv (nw N (slc 4 (List.map (fQ N) gY)))),(15,.sv (.v (.int .i64 fC))),(16,.sv (.v (.int .i64 zP)))] [] [(12,TR 52 4 (fQ N) Ml)]) (fun h=>?_) (fun FD h=>?_)
 cases ig
 exact fs<|⟨zQ,(F h),wR []⟩
 refine cT<|ai mixed<|mo (s:=.row _) rfl<|mv rfl<|RT.bA .none rfl T<|RT.bk .none rfl T rfl<|lr rfl rfl<|mv rfl<|bE (V h) fun rX Ay h=>ix rfl rfl Ay<|lr rfl rfl<|ld rfl rfl (.cons rfl (.cons rfl (.cons rfl (.cons rfl (.nil)))))<|bE h fun qj w8 h=>iR rfl rfl rfl w8<|bE h fun LO U8 h=>sA ⟨⟨kC,kD⟩,⟨zy,zA⟩⟩ rfl rfl rfl U8 ?_
 refine RT.done ⟨by kernel_rfl,?_⟩
 exact ae.n<|⟨LO,h,wR []⟩
 try dsimp only
 refine aH.n<|ae.n<|ah<|lE h fun rU Aj h=>ad _ rfl rfl Aj<|mv rfl<|RT.done ?_
 obtain rfl:=O h
 exact ae.n ⟨(rU,FD),Fa _ rfl,wR []⟩
 subst E9
 try dsimp only
 refine ae.n<|sr<|mo (s:=.row _) rfl<|an (s:=.row _) rfl<|dn<|jy (i:=12) (E1:=52) (n:=4) (e:=(fQ N)) (l:=zR) hN (fun _ h=>h) rfl<|aj ?_
 obtain rfl:=O B0
 exact R1 rfl
 refine cT<|sr<|aI rfl (aA (N:=N) (n:=4) (e:=(fQ N)))<|dn<|aj<|ae.r ?_
 obtain rfl:=O (V h)
 exact R1 rfl
theorem xo{x0:Tb}{r:Bool}(h:gi x0=some r):Pure Try.prog 17 [ref (qB x0)] (.v (.bool r)):=by
 obtain⟨aC,aD,aL,aM,cD⟩:=x0
 refine ay Try.func17 rfl (Nat.le_of_ble_eq_true rfl) (fun cS M vs hvs=>?_)
 unfold gi at h
 refine sr<|ag rfl<|dn<|qq<|sr<|mv rfl<|bE h fun x6 h6 h=>cl (c5 h6) ⟨rfl,trivial⟩<|dn ?_
 cases x6
 refine fs<|qq<|sr<|mv rfl<|bE (F h) fun x8 h8 h=>cl (FE h8) ⟨rfl,trivial⟩<|lE h fun x9 h9 h=>ln rfl h9<|mv rfl<|dn<|bE h fun e6 G9 jn=>?_
 refine aW (fun(Jw:Unit)=>AS.bR 18 [] [] []) (fun Jw=>.inl Jw=e6) ?_ (fun Jw He=>?_)
 refine aq ?_
 refine aX G9 (fun s6=>AS.bR 18 [(8,.sv (slc 4 (List.map eQ x8))),(9,.sv (.v (.int .i64 x9))),(10,.sv (.v (.int .i64 s6)))] [] []) (wR []) (fun Gn y6 G6 h Hf Dl=>?_)
 try dsimp only
 refine sr<|lE h fun iz me h=>ls _ rfl rfl me<|dn<|qq ?_
 cases iz
 refine cF<|bj<|ae.x<|ae.x<|aH.x<|ae.n ?_
 obtain rfl:=O (F h)
 exact⟨(),Dl _ rfl,wR []⟩
 refine cT<|aG<|ae.n<|qq<|aq<|sr ?_
 obtain⟨⟨⟨gS,gU⟩,⟨OC,OD⟩⟩,fE,h⟩:=bS (V h)
 refine ix rfl rfl fE<|RT.jk (cs:=[_,_,_,_]) .none rfl T rfl rfl<|al (cs:=[.v (.bool false),slc 1 (List.map af []),.v (.bool false),slc 1 (List.map af [])]) (by exact⟨SV.aa _,imp_nil,SV.aa _,imp_nil,trivial⟩) rfl<|so rfl rfl rfl<|dn<|sr<|ld rfl rfl (.cons rfl (.cons rfl (.cons rfl (.cons rfl (.nil)))))<|bE h fun fC gG h=>cl (je gG) ⟨rfl,trivial⟩<|lE h fun jN lA h=>ls _ rfl rfl lA<|dn ?_
 cases jN
 refine cF<|aG<|aH.n<|ae.n<|ah<|lE (F h) fun fR kL h=>ad _ rfl rfl kL<|mv rfl<|RT.done ?_
 obtain rfl:=O h
 exact ae.n ⟨fR,Hf _ rfl,wR []⟩
 refine cT<|sr<|ag rfl<|dn<|aj<|aH.r<|ae.r ?_
 obtain rfl:=O (V h)
 have Qa:=Dl _ rfl
 subst Qa
 refine ae.r<|aH.r<|ae.r<|ae.r ?_
 obtain rfl:=O jn
 exact R1 rfl
 subst He
 try dsimp only
 refine ae.n<|sr<|ag rfl<|dn<|aj ?_
 obtain rfl:=O jn
 exact R1 rfl
 refine cT<|sr<|ag rfl<|dn<|aj<|ae.r ?_
 obtain rfl:=O (V h)
 exact R1 rfl
theorem zV(t:Tb):Pure Try.prog 31 [ref (qB t)] (gP 50 [ref [ref (qB t)]]):=by
 refine ay Try.func31 rfl (Nat.le_of_ble_eq_true rfl) (fun cS M vs hvs=>?_)
 exact sr<|RT.uc .none (s:=.sv _) rfl T rfl rfl<|ag rfl<|dn<|sr<|RT.makeFunc .none (.box rfl (.nil)) T<|an (s:=.dV _ _) rfl<|dn<|bt (fX (i:=1) rfl [ref (qB t)] (.cons rfl .nil) .any 0 [(2,.dV 50 [.val (ref [ref (qB t)])])] (fun _ _ _=>trivial) (oU.h (l:=[ref (qB t)])) ⟨@FT.dV _ _ _ _ _ 2 50 [.box 1] rfl,trivial⟩)<|bt (ES 2 (gP 50 [ref [ref (qB t)]]) (fun _ _ h=>ET h))<|aj<|⟨.inr rfl,EH (.tmp rfl (.nil)) rfl⟩
theorem MO(n:Int):IntKind.i64.wrap n≤9223372036854775807:=by
 show(if(true&&decide (n%18446744073709551616≥9223372036854775808))=true then n%18446744073709551616-18446744073709551616 else n%18446744073709551616)≤9223372036854775807
 by_cases h:n%18446744073709551616≥9223372036854775808
 ·simp only[h,decide_true,Bool.and_self,if_true];omega
 ·simp only[h,decide_false,Bool.and_false,Bool.false_eq_true,if_false];omega
theorem width_eq(t:Tb):eL t=some (IntKind.i64.wrap (t.vars+(t.rows.length:Int))):=by
 cases t;rfl
theorem zW(t:Tb):Iter Try.prog 50 [ref [ref (qB t)]] (IntKind.i64.wrap (t.vars+(t.rows.length:Int))).toNat (fun k=>[.v (.int .i64 (k:Int))]):=by
 refine sV Try.func50 rfl rfl (Nat.le_of_ble_eq_true rfl) (fun cS M O l J hJ Ag hr=>?_)
 have hw:=MO (t.vars+(t.rows.length:Int))
 have hwd:=width_eq t
 generalize (IntKind.i64.wrap (t.vars+(t.rows.length:Int)))=W at hw hwd hr⊢
 refine aP ?_
 refine ah ?_
 refine RT.c9 .none rfl rfl (tl rfl) ?_
 refine RT.call .none (jh hwd) rfl ⟨rfl,trivial⟩ (tl rfl) ?_
 refine RT.mv .none rfl (tl rfl) ?_
 refine RT.done ?_
 refine ae.n ?_
 refine aq ?_
 refine xA (I:=fun x:{i:Nat//i≤W.toNat}=>AS.bR 14 [(0,.sv (.v (.func (.yield l) #[] #[]))),(1,.sv (ref [ref (qB t)])),(5,.sv (.v (.int .i64 W))),(6,.sv (.v (.int .i64 ((x.1:Nat):Int))))] [] [] (x.1)) (μ:=fun x=>W.toNat-x.1) ⟨0,by omega⟩ (by(try dsimp only);exact dm id rfl rfl rfl rfl rfl ⟨.sv (by first|exact SV.aa _|exact SV.au (by omega)|exact SV.au (by push_cast;omega)|exact SV.au (by dsimp only;omega)|exact SV.imp_eq (by simp)),.sv (by first|exact SV.aa _|exact SV.au (by omega)|exact SV.au (by push_cast;omega)|exact SV.au (by dsimp only;omega)|exact SV.imp_eq (by simp)),.sv (by first|exact SV.aa _|exact SV.au (by omega)|exact SV.au (by push_cast;omega)|exact SV.au (by dsimp only;omega)|exact SV.imp_eq (by simp)),.sv (by first|exact SV.aa _|exact SV.au (by omega)|exact SV.au (by push_cast;omega)|exact SV.au (by dsimp only;omega)|exact SV.imp_eq (by simp)),trivial⟩ trivial trivial (fun _ _=>rfl)) ?_
 rintro⟨i,Uj⟩
 try dsimp only
 rcases Nat.lt_or_eq_of_le Uj with hi|hi
 ·
  refine aP ?_
  refine ah ?_
  refine RT.lss .none (true) rfl rfl (tl rfl) (by simp;omega) ?_
  refine RT.done ?_
  refine ae.n ?_
  refine aP ?_
  refine cE rfl ?_
  refine aG ?_
  refine ae.n ?_
  refine aP ?_
  refine aq ?_
  refine aP ?_
  refine ah ?_
  refine RT.mv .none rfl (tl rfl) ?_
  refine RT.BN .none rfl (tl rfl) ?_
  refine RT.done ?_
  refine ae.n ?_
  refine aP ?_
  refine ah ?_
  refine RT.mv .none rfl (tl rfl) ?_
  refine RT.mv .none rfl (tl rfl) ?_
  refine RT.yield .none hr rfl (fun _ h=>h) rfl (i) rfl rfl (by omega) (by exact⟨rfl,trivial⟩) (tl rfl) (fun yb=>?_)
  cases yb
  ·
   refine RT.not .none rfl (tl rfl) true rfl ?_
   refine RT.done ?_
   refine ae.n ?_
   refine cE rfl ?_
   refine aj ?_
   refine aH.r ?_
   refine ae.r ?_
   refine ae.r ?_
   refine aH.r ?_
   exact⟨.inr rfl,(fun h=>by cases h)⟩
  ·
   refine RT.not .none rfl (tl rfl) false rfl ?_
   refine RT.done ?_
   refine ae.n ?_
   refine eE rfl ?_
   refine aG ?_
   refine aH.n ?_
   refine ae.n ?_
   refine ah ?_
   refine RT.add .none (((i:Nat):Int)+1) rfl rfl (tl rfl) (lM (by omega)) ?_
   refine RT.mv .none rfl (tl rfl) ?_
   refine RT.done ?_
   refine ae.n ?_
   refine⟨⟨i+1,by omega⟩,(by dsimp only;omega),?_⟩
   try dsimp only
   exact dm id rfl rfl rfl rfl rfl ⟨.sv (by first|exact SV.aa _|exact SV.au (by omega)|exact SV.au (by push_cast;omega)|exact SV.au (by dsimp only;omega)|exact SV.imp_eq (by simp)),.sv (by first|exact SV.aa _|exact SV.au (by omega)|exact SV.au (by push_cast;omega)|exact SV.au (by dsimp only;omega)|exact SV.imp_eq (by simp)),.sv (by first|exact SV.aa _|exact SV.au (by omega)|exact SV.au (by push_cast;omega)|exact SV.au (by dsimp only;omega)|exact SV.imp_eq (by simp)),.sv (by first|exact SV.aa _|exact SV.au (by omega)|exact SV.au (by push_cast;omega)|exact SV.au (by dsimp only;omega)|exact SV.imp_eq (by simp)),trivial⟩ trivial trivial (fun _ _=>rfl)
 ·
  subst hi
  refine aP ?_
  refine ah ?_
  refine RT.lss .none (false) rfl rfl (tl rfl) (by simp;omega) ?_
  refine RT.done ?_
  refine ae.n ?_
  refine aP ?_
  refine eE rfl ?_
  refine bj ?_
  refine ae.x ?_
  refine ae.x ?_
  refine aH.x ?_
  exact⟨.inl rfl,(fun _=>rfl)⟩
theorem zX{x0:Tb}{r:Bool}(h:fN x0=some r):Pure Try.prog 15 [ref (qB x0)] (.v (.bool r)):=by
 obtain⟨aC,aD,aL,aM,cD⟩:=x0
 refine ay Try.func15 rfl (Nat.le_of_ble_eq_true rfl) (fun cS M vs hvs=>?_)
 unfold fN at h
 refine sr<|RT.uc .none (s:=.sv _) rfl T rfl rfl<|al (cs:=[.v (.bool false)]) (by exact⟨SV.aa _,trivial⟩) rfl<|dn<|qq<|sr<|lV rfl rfl rfl<|bE h fun x5 h5 h=>cl (c5 h5) ⟨rfl,trivial⟩<|dn ?_
 cases x5
 refine fs<|qq<|sr<|lV rfl rfl rfl<|cl (zV ⟨aC,aD,aL,aM,cD⟩) ⟨rfl,trivial⟩<|dn<|aq<|bE (F h) fun e3 Pw Rm=>?_
 obtain⟨m3,X1,V0,X2,X3⟩:=A9 Pw
 refine nI (zW ⟨aC,aD,aL,aM,cD⟩) (fun _ _ _ _ _=>trivial) rfl (fun k=>AS.bR 14 [(1,.ptr 1 0),(2,.ptr 2 0),(7,.sv (gP 50 [ref [ref [.v (.bool aC),.v (.int .i64 aD),slc 1 (List.map (eS 4 eQ) aL),slc 1 (List.map bO aM),slc 1 (List.map (eS 4 eQ) cD)]]]))] [(2,⟨4,[.sv (.v (.bool false))]⟩),(1,⟨23,[.sv (ref [.v (.bool aC),.v (.int .i64 aD),slc 1 (List.map (eS 4 eQ) aL),slc 1 (List.map bO aM),slc 1 (List.map (eS 4 eQ) cD)])]⟩)] []) [2,1] rfl (fun _=>⟨rfl,rfl⟩) (nJ rfl) (fun _=>rfl) (nK rfl) (by(try dsimp only);(try dsimp only);exact dm id rfl rfl rfl rfl rfl ⟨.ptr,.ptr,.sv (SV.aa _),trivial⟩ ⟨⟨_,rfl,⟨.sv (SV.aa _),trivial⟩⟩,⟨_,rfl,⟨.sv (SV.aa _),trivial⟩⟩,trivial⟩ trivial (fun _ _=>rfl)) m3 (fun k hk hkm D hD=>?_) (fun hdn=>?_)
 obtain⟨y3,h,X5,X6⟩:=X2 k hk hkm
 dsimp only[AS.HX,n8]
 try dsimp only at h
 refine lE h fun p8 hp8 h=>?_
 rw[hp8]
 refine ah<|ag rfl<|RT.done ?_
 refine ae.n ⟨rfl,?_⟩
 dsimp only[AS.wY]
 refine aq<|sr<|lV rfl rfl rfl<|mv rfl<|bE h fun iz me h=>cl (tH me) ⟨rfl,rfl,trivial⟩<|bE h fun eG fE h=>cl (DJ fE) ⟨rfl,trivial⟩<|lE h fun gC fS h=>ls _ rfl rfl fS<|dn ?_
 cases gC
 refine cF<|aG<|aH.n ?_
 obtain rfl:=O (F h)
 obtain⟨X9,hq3⟩:=X5 _ rfl
 exact⟨X9,rfl,rfl,wR []⟩
 refine cT<|sr<|RT.nF (cells:=[_]) .none (s:=.sv _) rfl rfl rfl T rfl<|dn<|aj<|aH.r ?_
 obtain rfl:=O (V h)
 have Ya:=X6 _ rfl
 subst Ya
 refine⟨rfl,rfl,?_⟩
 refine aH.r<|ae.r ?_
 obtain rfl:=O Rm
 exact RZ (.one rfl rfl rfl (.nil))
 have Yb:=X3 hdn
 subst Yb
 obtain⟨ee3,Rn⟩:∃q,X1 ((IntKind.i64.wrap (Tb.vars ⟨aC,aD,aL,aM,cD⟩+((Tb.rows ⟨aC,aD,aL,aM,cD⟩).length:Int))).toNat)=q:=⟨_,rfl⟩
 rw[Rn]at Rm
 try dsimp only
 refine aH.n<|ae.n<|sr<|RT.nF (cells:=[_]) .none (s:=.sv _) rfl rfl rfl T rfl<|dn<|aj ?_
 obtain rfl:=O Rm
 exact RZ (.one rfl rfl rfl (.nil))
 refine cT<|sr<|RT.nF (cells:=[_]) .none (s:=.sv _) rfl rfl rfl T rfl<|dn<|aj<|ae.r ?_
 obtain rfl:=O (V h)
 exact RZ (.one rfl rfl rfl (.nil))
theorem zY{o0:Bool}{o1:Int}{o2:List (List Qr)}{o3:List Int}{o4:List (List Qr)}{r:Bool}(h:b9 (⟨o0,o1,o2,o3,o4⟩:Tb)=some r):zH Try.prog 21 [.ptr 1000 0] 45 [.s (.v (.bool o0)),.s (.v (.int .i64 o1)),.r (TR 28 1 (eS 4 eQ) o2),.r (TR 3 1 bO o3),.r (TR 28 1 (eS 4 eQ) o4)] (.v (.bool r)):=dU (cells:=qB (⟨o0,o1,o2,o3,o4⟩:Tb)) (r:=fun N=>.v (.bool r)) (fun N=>by exact kU (c5 h) N) rfl ⟨⟨SV.aa _,fun _ _ q=>One.h _ _ q⟩,⟨SV.aa _,fun _ _ q=>One.h _ _ q⟩,cO,cO,cO,trivial⟩ Gm
theorem Cz{o0:Bool}{o1:Int}{o2:List (List Qr)}{o3:List Int}{o4:List (List Qr)}{r:Int}(h:eL (⟨o0,o1,o2,o3,o4⟩:Tb)=some r):zH Try.prog 24 [.ptr 1000 0] 45 [.s (.v (.bool o0)),.s (.v (.int .i64 o1)),.r (TR 28 1 (eS 4 eQ) o2),.r (TR 3 1 bO o3),.r (TR 28 1 (eS 4 eQ) o4)] (.v (.int .i64 r)):=dU (cells:=qB (⟨o0,o1,o2,o3,o4⟩:Tb)) (r:=fun N=>.v (.int .i64 r)) (fun N=>by exact kU (jh h) N) rfl ⟨⟨SV.aa _,fun _ _ q=>One.h _ _ q⟩,⟨SV.aa _,fun _ _ q=>One.h _ _ q⟩,cO,cO,cO,trivial⟩ Gm
theorem CA{o0:Bool}{o1:Int}{o2:List (List Qr)}{o3:List Int}{o4:List (List Qr)}{r:List Int}(h:iX (⟨o0,o1,o2,o3,o4⟩:Tb)=some r):zH Try.prog 8 [.ptr 1000 0] 45 [.s (.v (.bool o0)),.s (.v (.int .i64 o1)),.r (TR 28 1 (eS 4 eQ) o2),.r (TR 3 1 bO o3),.r (TR 28 1 (eS 4 eQ) o4)] (slc 1 (List.map bO r)):=dU (cells:=qB (⟨o0,o1,o2,o3,o4⟩:Tb)) (r:=fun N=>nw N (slc 1 (List.map bO r))) (fun N=>by exact Cx N h) rfl ⟨⟨SV.aa _,fun _ _ q=>One.h _ _ q⟩,⟨SV.aa _,fun _ _ q=>One.h _ _ q⟩,cO,cO,cO,trivial⟩ RF
theorem tK{o0:Bool}{o1:Int}{o2:List (List Qr)}{o3:List Int}{o4:List (List Qr)}{r:List Qr}(h:eT (⟨o0,o1,o2,o3,o4⟩:Tb)=some r):zH Try.prog 10 [.ptr 1000 0] 45 [.s (.v (.bool o0)),.s (.v (.int .i64 o1)),.r (TR 28 1 (eS 4 eQ) o2),.r (TR 3 1 bO o3),.r (TR 28 1 (eS 4 eQ) o4)] (slc 4 (List.map eQ r)):=dU (cells:=qB (⟨o0,o1,o2,o3,o4⟩:Tb)) (r:=fun N=>nw N (slc 4 (List.map (fQ N) r))) (fun N=>by exact tG N h) rfl ⟨⟨SV.aa _,fun _ _ q=>One.h _ _ q⟩,⟨SV.aa _,fun _ _ q=>One.h _ _ q⟩,cO,cO,cO,trivial⟩ xM
theorem tL{o0:Bool}{o1:Int}{o2:List (List Qr)}{o3:List Int}{o4:List (List Qr)}{x1:Int}{r:List Qr}(h:cC (⟨o0,o1,o2,o3,o4⟩:Tb) x1=some r):zH Try.prog 12 [.ptr 1000 0,.sv (.v (.int .i64 x1))] 45 [.s (.v (.bool o0)),.s (.v (.int .i64 o1)),.r (TR 28 1 (eS 4 eQ) o2),.r (TR 3 1 bO o3),.r (TR 28 1 (eS 4 eQ) o4)] (slc 4 (List.map eQ r)):=dU (cells:=qB (⟨o0,o1,o2,o3,o4⟩:Tb)) (r:=fun N=>nw N (slc 4 (List.map (fQ N) r))) (fun N=>by exact tJ N h) rfl ⟨⟨SV.aa _,fun _ _ q=>One.h _ _ q⟩,⟨SV.aa _,fun _ _ q=>One.h _ _ q⟩,cO,cO,cO,trivial⟩ xM
theorem uZ{o0:Bool}{o1:Int}{o2:List (List Qr)}{o3:List Int}{o4:List (List Qr)}{r:List Qr}(h:iY (⟨o0,o1,o2,o3,o4⟩:Tb)=some r):zH Try.prog 14 [.ptr 1000 0] 45 [.s (.v (.bool o0)),.s (.v (.int .i64 o1)),.r (TR 28 1 (eS 4 eQ) o2),.r (TR 3 1 bO o3),.r (TR 28 1 (eS 4 eQ) o4)] (slc 4 (List.map eQ r)):=dU (cells:=qB (⟨o0,o1,o2,o3,o4⟩:Tb)) (r:=fun N=>nw N (slc 4 (List.map (fQ N) r))) (fun N=>by exact Cy N h) rfl ⟨⟨SV.aa _,fun _ _ q=>One.h _ _ q⟩,⟨SV.aa _,fun _ _ q=>One.h _ _ q⟩,cO,cO,cO,trivial⟩ xM
theorem xp{o0:Bool}{o1:Int}{o2:List (List Qr)}{o3:List Int}{o4:List (List Qr)}{r:List Qr}(h:gh (⟨o0,o1,o2,o3,o4⟩:Tb)=some r):zH Try.prog 16 [.ptr 1000 0] 45 [.s (.v (.bool o0)),.s (.v (.int .i64 o1)),.r (TR 28 1 (eS 4 eQ) o2),.r (TR 3 1 bO o3),.r (TR 28 1 (eS 4 eQ) o4)] (slc 4 (List.map eQ r)):=dU (cells:=qB (⟨o0,o1,o2,o3,o4⟩:Tb)) (r:=fun N=>nw N (slc 4 (List.map (fQ N) r))) (fun N=>by exact xn N h) rfl ⟨⟨SV.aa _,fun _ _ q=>One.h _ _ q⟩,⟨SV.aa _,fun _ _ q=>One.h _ _ q⟩,cO,cO,cO,trivial⟩ xM
theorem xq{o0:Bool}{o1:Int}{o2:List (List Qr)}{o3:List Int}{o4:List (List Qr)}{r:Bool}(h:gi (⟨o0,o1,o2,o3,o4⟩:Tb)=some r):zH Try.prog 17 [.ptr 1000 0] 45 [.s (.v (.bool o0)),.s (.v (.int .i64 o1)),.r (TR 28 1 (eS 4 eQ) o2),.r (TR 3 1 bO o3),.r (TR 28 1 (eS 4 eQ) o4)] (.v (.bool r)):=dU (cells:=qB (⟨o0,o1,o2,o3,o4⟩:Tb)) (r:=fun N=>.v (.bool r)) (fun N=>by exact kU (xo h) N) rfl ⟨⟨SV.aa _,fun _ _ q=>One.h _ _ q⟩,⟨SV.aa _,fun _ _ q=>One.h _ _ q⟩,cO,cO,cO,trivial⟩ Gm
theorem rE{o0:Bool}{o1:Int}{o2:List (List Qr)}{o3:List Int}{o4:List (List Qr)}{r:Bool}(h:fN (⟨o0,o1,o2,o3,o4⟩:Tb)=some r):zH Try.prog 15 [.ptr 1000 0] 45 [.s (.v (.bool o0)),.s (.v (.int .i64 o1)),.r (TR 28 1 (eS 4 eQ) o2),.r (TR 3 1 bO o3),.r (TR 28 1 (eS 4 eQ) o4)] (.v (.bool r)):=dU (cells:=qB (⟨o0,o1,o2,o3,o4⟩:Tb)) (r:=fun N=>.v (.bool r)) (fun N=>by exact kU (zX h) N) rfl ⟨⟨SV.aa _,fun _ _ q=>One.h _ _ q⟩,⟨SV.aa _,fun _ _ q=>One.h _ _ q⟩,cO,cO,cO,trivial⟩ Gm
end Go.Proofs.Ytningmnklfpfjaa
namespace Go.Proofs.Ytningmnklfpfjaa
open Go.Fw Go.Fw.Z Go.RowKit
set_option maxHeartbeats 4000000 in
theorem qi{x0:Lr}{r:Bool×Int×(List (List Qr))×(List Int)×(List (List Qr))}(h:ek x0=some r):Hu Try.prog 19 [.agg (Py x0)] false [] 45 [.s (.v (.bool r.1)),.s (.v (.int .i64 r.2.1)),.r (TR 28 1 (eS 4 eQ) r.2.2.1),.r (TR 3 1 bO r.2.2.2.1),.r (TR 28 1 (eS 4 eQ) r.2.2.2.2)]:=by
 obtain⟨aC,aD,aL,aM⟩:=x0
 refine DP Try.func19 rfl (Nat.le_of_ble_eq_true rfl) (fun cS M vs hvs=>?_)
 unfold ek at h
 refine sr<|bx rfl<|ag rfl<|dn<|sr<|fa rfl rfl<|lV rfl rfl rfl<|bI (cs:=[_,_,_,_,_]) (cs':=[.v (.bool true),.v (.int .i64 aC),.v (.slice none 0 0),.v (.slice none 0 0),.v (.slice none 0 0)]) (.one rfl (.one rfl (.nil))) ⟨SV.aa _,SV.aa _,SV.aa _,SV.aa _,SV.aa _,trivial⟩<|bx rfl<|an (s:=.ptr _ _) rfl<|dn<|bt (vF 12 2 304 28 1 rfl rfl rfl T)<|bt (vF 12 3 305 3 1 rfl rfl rfl T) ?_
 refine bt (vF 12 4 306 28 1 rfl rfl rfl T)<|qq<|sr<|fa rfl rfl<|lV rfl rfl rfl<|lE h fun fC gG h=>ln rfl gG<|mv rfl<|dn<|bE h fun e6 G9 jn=>?_
 refine aW (fun(nQ:(List (List Qr)))=>AS.bR 105 [(1,.ptr 1 0),(3,.ptr 12 0)] [(12,⟨45,[.sv (.v (.bool true)),.sv (.v (.int .i64 aC)),.row 308,.row 305,.row 306]⟩),(1,⟨30,[.sv (.v (.int .i64 aC)),.sv (slc 1 (List.map (eS 4 eQ) aD)),.sv (slc 1 (List.map (eS 4 eQ) aL)),.sv (slc 4 (List.map eQ aM))]⟩)] [(308,TR 28 1 (eS 4 eQ) nQ),(305,TR 3 1 bO []),(306,TR 28 1 (eS 4 eQ) [])]) (fun nQ=>nQ=e6) ?_ (fun nQ He=>?_)
 refine aq ?_
 refine aX G9 (fun s6=>AS.bR 105 [(1,.ptr 1 0),(3,.ptr 12 0),(14,.sv (slc 1 (List.map (eS 4 eQ) aD))),(15,.sv (.v (.int .i64 fC))),(16,.sv (.v (.int .i64 s6.1)))] [(12,⟨45,[.sv (.v (.bool true)),.sv (.v (.int .i64 aC)),.row 308,.row 305,.row 306]⟩),(1,⟨30,[.sv (.v (.int .i64 aC)),.sv (slc 1 (List.map (eS 4 eQ) aD)),.sv (slc 1 (List.map (eS 4 eQ) aL)),.sv (slc 4 (List.map eQ aM))]⟩)] [(308,TR 28 1 (eS 4 eQ) s6.2),(305,TR 3 1 bO []),(306,TR 28 1 (eS 4 eQ) [])]) (dm (fun i=>bif Nat.beq i 308 then 304 else i) rfl rfl rfl rfl rfl ⟨.ptr,.ptr,.sv (SV.aa _),.sv (SV.aa _),.sv (SV.aa _),trivial⟩ ⟨⟨_,rfl,⟨.sv (SV.aa _),.sv (SV.aa _),.row rfl,.row rfl,.row rfl,trivial⟩⟩,⟨_,rfl,⟨.sv (SV.aa _),.sv (SV.aa _),.sv (SV.aa _),.sv (SV.aa _),trivial⟩⟩,trivial⟩ ⟨⟨_,rfl,bT.refl _⟩,⟨_,rfl,bT.refl _⟩,⟨_,rfl,bT.refl _⟩,trivial⟩ (fun i hi=>by rw[bU (show i≠308 by omega)];rfl)) (fun s6 y6 G6 h Hf Dl=>?_)
 obtain⟨Gp,Cv⟩:=s6
 try dsimp only
 refine sr<|lE h fun fR kL h=>ls _ rfl rfl kL<|dn<|qq ?_
 cases fR
 refine cF<|bj<|ae.x<|ae.x<|aH.x<|ae.n ?_
 obtain rfl:=O (F h)
 exact⟨Cv,Dl _ rfl,wR []⟩
 refine cT<|aG<|ae.n<|qq<|aq<|sr<|bE (V h) fun fg ij h=>ix rfl rfl ij<|lr rfl rfl<|ag rfl<|dn<|ai mixed<|mo (s:=.ptr _ _) rfl<|mo (s:=.ptr _ _) rfl<|RT.dL .none rfl T<|fa rfl rfl<|RT.dR .none (s:=.row _) rfl rfl rfl T<|mv rfl<|fa rfl rfl<|lV rfl rfl rfl<|bE h fun og uC h=>cl (AG uC) ⟨rfl,rfl,trivial⟩<|bl (l:=[og]) (e:=(eS 4 eQ)) (.one rfl (.nil)) rfl rfl rfl rfl rfl rfl ?_
 refine bE h fun yB uD h=>aR (k:=[og]) (e:=(eS 4 eQ)) rfl rfl rfl uD<|RT.dL .none rfl T<|fa rfl rfl<|RT.gA (cells:=[_,_,_,_,_]) .none rfl rfl rfl rfl T rfl ?_
 refine RT.done ⟨by kernel_rfl,?_⟩
 refine aH.n<|ae.n<|ah<|lE h fun o8 pD h=>ad _ rfl rfl pD<|mv rfl<|RT.done ?_
 obtain rfl:=O h
 exact ae.n ⟨(o8,yB),Hf _ rfl,dm (fun i=>bif Nat.beq i 308 then 30 else i) rfl rfl rfl rfl rfl ⟨.ptr,.ptr,.sv (SV.aa _),.sv (SV.aa _),.sv (SV.aa _),trivial⟩ ⟨⟨_,rfl,⟨.sv (SV.aa _),.sv (SV.aa _),.row rfl,.row rfl,.row rfl,trivial⟩⟩,⟨_,rfl,⟨.sv (SV.aa _),.sv (SV.aa _),.sv (SV.aa _),.sv (SV.aa _),trivial⟩⟩,trivial⟩ ⟨⟨_,rfl,bT.refl _⟩,⟨_,rfl,bT.refl _⟩,⟨_,rfl,bT.refl _⟩,trivial⟩ (fun i hi=>by rw[bU (show i≠308 by omega)];rfl)⟩
 subst He
 try dsimp only
 refine ae.n<|qq<|sr<|fa rfl rfl<|lV rfl rfl rfl<|lE jn fun oQ ot jn=>ln rfl ot<|mv rfl<|dn<|bE jn fun Yx YF YG=>?_
 refine aW (fun(Hz:(List Int)×(List (List Qr)))=>AS.bR 105 [(3,.ptr 12 0)] [(12,⟨45,[.sv (.v (.bool true)),.sv (.v (.int .i64 aC)),.row 308,.row 312,.row 313]⟩)] [(308,TR 28 1 (eS 4 eQ) nQ),(312,TR 3 1 bO Hz.1),(313,TR 28 1 (eS 4 eQ) Hz.2)]) (fun Hz=>Hz=Yx) ?_ (fun Hz YH=>?_)
 refine aq ?_
 refine aX YF (fun RJ=>AS.bR 105 [(1,.ptr 1 0),(3,.ptr 12 0),(36,.sv (.v (.int .i64 oQ))),(37,.sv (.v (.int .i64 RJ.1)))] [(12,⟨45,[.sv (.v (.bool true)),.sv (.v (.int .i64 aC)),.row 308,.row 312,.row 313]⟩),(1,⟨30,[.sv (.v (.int .i64 aC)),.sv (slc 1 (List.map (eS 4 eQ) aD)),.sv (slc 1 (List.map (eS 4 eQ) aL)),.sv (slc 4 (List.map eQ aM))]⟩)] [(308,TR 28 1 (eS 4 eQ) nQ),(312,TR 3 1 bO RJ.2.1),(313,TR 28 1 (eS 4 eQ) RJ.2.2)]) (dm (fun i=>bif Nat.beq i 312 then 305 else bif Nat.beq i 313 then 306 else i) rfl rfl rfl rfl rfl ⟨.ptr,.ptr,.sv (SV.aa _),.sv (SV.aa _),trivial⟩ ⟨⟨_,rfl,⟨.sv (SV.aa _),.sv (SV.aa _),.row rfl,.row rfl,.row rfl,trivial⟩⟩,⟨_,rfl,⟨.sv (SV.aa _),.sv (SV.aa _),.sv (SV.aa _),.sv (SV.aa _),trivial⟩⟩,trivial⟩ ⟨⟨_,rfl,bT.refl _⟩,⟨_,rfl,bT.refl _⟩,⟨_,rfl,bT.refl _⟩,trivial⟩ (fun i hi=>by rw[bU (show i≠312 by omega)];rw[bU (show i≠313 by omega)];rfl)) (fun RJ y30 G30 h YI YJ=>?_)
 obtain⟨mR,rY,rZ⟩:=RJ
 try dsimp only
 refine sr<|lE h fun w6 Dm h=>ls _ rfl rfl Dm<|dn<|qq ?_
 cases w6
 refine cF<|bj<|ae.x<|ae.x<|aH.x<|ae.n ?_
 obtain rfl:=O (F h)
 exact⟨(rY,rZ),YJ _ rfl,wR []⟩
 refine cT<|aG<|ae.n<|qq<|aq<|sr<|mv rfl<|ag rfl<|dn<|sr<|fa rfl rfl<|lV rfl rfl rfl<|fa rfl rfl<|lV rfl rfl rfl<|lE (V h) fun vI w9 h=>ln rfl w9<|lE h fun Ah Fg h=>ad _ rfl rfl Fg<|lE h fun rV h46 h=>ad _ rfl rfl h46<|bE h fun yC yR h=>RT.kx (n:=4) (e:=eQ) .none rfl rfl T rfl T (by rfl) (by decide) (by exact⟨SV.aa _,imp_nil,SV.aa _,imp_nil,trivial⟩) yR ?_
 refine an (s:=.row _) rfl<|dn<|qq<|sr<|fa rfl rfl<|lV rfl rfl rfl<|mv rfl<|dn<|bE h fun PJ Jx dP=>?_
 refine aW (fun(tF:(List Qr))=>AS.bR 105 [(1,.ptr 1 0),(3,.ptr 12 0),(6,.sv (.v (.int .i64 mR))),(7,.row 47),(36,.sv (.v (.int .i64 oQ))),(37,.sv (.v (.int .i64 mR)))] [(12,⟨45,[.sv (.v (.bool true)),.sv (.v (.int .i64 aC)),.row 308,.row 312,.row 313]⟩),(1,⟨30,[.sv (.v (.int .i64 aC)),.sv (slc 1 (List.map (eS 4 eQ) aD)),.sv (slc 1 (List.map (eS 4 eQ) aL)),.sv (slc 4 (List.map eQ aM))]⟩)] [(47,TR 52 4 eQ tF),(308,TR 28 1 (eS 4 eQ) nQ),(312,TR 3 1 bO rY),(313,TR 28 1 (eS 4 eQ) rZ)]) (fun tF=>tF=PJ) ?_ (fun tF Jy=>?_)
 refine aq ?_
 refine aX Jx (fun Bb=>AS.bR 105 [(1,.ptr 1 0),(3,.ptr 12 0),(6,.sv (.v (.int .i64 mR))),(7,.row 47),(36,.sv (.v (.int .i64 oQ))),(37,.sv (.v (.int .i64 mR))),(49,.sv (.v (.int .i64 aC))),(50,.sv (.v (.int .i64 Bb.1)))] [(12,⟨45,[.sv (.v (.bool true)),.sv (.v (.int .i64 aC)),.row 308,.row 312,.row 313]⟩),(1,⟨30,[.sv (.v (.int .i64 aC)),.sv (slc 1 (List.map (eS 4 eQ) aD)),.sv (slc 1 (List.map (eS 4 eQ) aL)),.sv (slc 4 (List.map eQ aM))]⟩)] [(47,TR 52 4 eQ Bb.2),(308,TR 28 1 (eS 4 eQ) nQ),(312,TR 3 1 bO rY),(313,TR 28 1 (eS 4 eQ) rZ)]) (wR []) (fun Bb y38 G38 h Jz JA=>?_)
 obtain⟨zS,zT⟩:=Bb
 try dsimp only
 refine sr<|lE h fun BT B4 h=>ls _ rfl rfl B4<|dn<|qq ?_
 cases BT
 refine cF<|bj<|ae.x<|ae.x<|aH.x<|ae.n ?_
 obtain rfl:=O (F h)
 exact⟨zT,JA _ rfl,wR []⟩
 refine cT<|aG<|ae.n<|qq<|aq<|sr<|mv rfl<|ag rfl<|dn<|ah<|mo (s:=.row _) rfl<|mv rfl<|fa rfl rfl<|lV rfl rfl rfl<|mv rfl<|mv rfl ?_
 obtain⟨⟨⟨KC,KD⟩,⟨KE,KF⟩⟩,Mn,h⟩:=bS (V h)
 refine cl (Hq Mn) ⟨rfl,rfl,rfl,trivial⟩<|bE h fun F9 Hg h=>iR rfl rfl rfl Hg<|bE h fun G4 U9 h=>sA ⟨⟨KC,KD⟩,⟨KE,KF⟩⟩ rfl rfl rfl U9<|RT.done<|aH.n<|ae.n<|ah<|lE h fun BW JC h=>ad _ rfl rfl JC<|mv rfl<|RT.done ?_
 obtain rfl:=O h
 exact ae.n ⟨(BW,G4),Jz _ rfl,wR []⟩
 subst Jy
 try dsimp only
 refine ae.n<|qq<|ai mixed<|mo (s:=.row _) rfl<|fa rfl rfl<|lV rfl rfl rfl<|mv rfl<|lE dP fun HY Uk dP=>ad _ rfl rfl Uk ?_
 obtain⟨⟨⟨KG,KH⟩,⟨KI,KJ⟩⟩,Qv,dP⟩:=bS dP
 refine cl (iB Qv) ⟨rfl,trivial⟩<|bE dP fun HZ Ul dP=>iR rfl rfl rfl Ul<|bE dP fun LJ Dn dP=>sA ⟨⟨KG,KH⟩,⟨KI,KJ⟩⟩ rfl rfl rfl Dn ?_
 refine RT.done ⟨by kernel_rfl,?_⟩
 refine ae.n<|sr<|mo (s:=.row _) rfl<|mo (s:=.row _) rfl<|lE dP fun UY YK dP=>lL rfl rfl YK<|lE dP fun H7 QA dP=>sb _ rfl rfl QA<|fa rfl rfl<|lV rfl rfl rfl<|mv rfl ?_
 obtain⟨⟨⟨OE,OF⟩,⟨OG,OH⟩⟩,YL,dP⟩:=bS dP
 refine ix rfl rfl YL<|RT.jk (cs:=[_,_,_,_]) .none rfl T rfl rfl ?_
 obtain⟨⟨⟨KK,KL⟩,⟨KM,KN⟩⟩,YM,dP⟩:=bS dP
 refine cl (fG YM) ⟨rfl,trivial⟩<|bE dP fun LM QB dP=>iR rfl rfl rfl QB<|bE dP fun UZ Vc dP=>sA ⟨⟨KK,KL⟩,⟨KM,KN⟩⟩ rfl rfl rfl Vc<|dn<|qq<|bt (dH (i:=47) (E1:=52) (n:=4) (e:=eQ) (l:=UZ) rfl)<|ah<|mo (s:=.ptr _ _) rfl<|mo (s:=.ptr _ _) rfl<|RT.dL .none rfl T<|fa rfl rfl<|RT.dR .none (s:=.row _) rfl rfl rfl T<|mv rfl<|bl (l:=[UZ]) (e:=(eS 4 eQ)) (.one rfl (.nil)) rfl rfl rfl rfl rfl rfl ?_
 refine bE dP fun Mk Us dP=>aR (k:=[UZ]) (e:=(eS 4 eQ)) rfl rfl rfl Us<|RT.dL .none rfl T<|fa rfl rfl<|RT.gA (cells:=[_,_,_,_,_]) .none rfl rfl rfl rfl T rfl<|dn<|ai mixed<|mo (s:=.ptr _ _) rfl<|mo (s:=.ptr _ _) rfl<|RT.dL .none rfl T<|fa rfl rfl<|RT.dR .none (s:=.row _) rfl rfl rfl T<|fa rfl rfl<|lV rfl rfl rfl<|mv rfl<|lE dP fun V6 h98 dP=>ad _ rfl rfl h98 ?_
 refine bl (l:=[V6]) (e:=bO) (.one rfl (.nil)) rfl rfl rfl rfl rfl rfl<|bE dP fun RK YN dP=>aR (k:=[V6]) (e:=bO) rfl rfl rfl YN<|RT.dL .none rfl T<|fa rfl rfl<|RT.gA (cells:=[_,_,_,_,_]) .none rfl rfl rfl rfl T rfl ?_
 refine RT.done ⟨by kernel_rfl,?_⟩
 refine aH.n<|ae.n<|ah<|lE dP fun E5 JE dP=>ad _ rfl rfl JE<|mv rfl<|RT.done ?_
 obtain rfl:=O dP
 exact ae.n ⟨(E5,RK,Mk),YI _ rfl,dm (fun i=>bif Nat.beq i 312 then 100 else bif Nat.beq i 313 then 87 else i) rfl rfl rfl rfl rfl ⟨.ptr,.ptr,.sv (SV.aa _),.sv (SV.aa _),trivial⟩ ⟨⟨_,rfl,⟨.sv (SV.aa _),.sv (SV.aa _),.row rfl,.row rfl,.row rfl,trivial⟩⟩,⟨_,rfl,⟨.sv (SV.aa _),.sv (SV.aa _),.sv (SV.aa _),.sv (SV.aa _),trivial⟩⟩,trivial⟩ ⟨⟨_,rfl,bT.refl _⟩,⟨_,rfl,bT.refl _⟩,⟨_,rfl,bT.refl _⟩,trivial⟩ (fun i hi=>by rw[bU (show i≠312 by omega)];rw[bU (show i≠313 by omega)];rfl)⟩
 subst YH
 obtain⟨Gq,Gr⟩:=Hz
 try dsimp only
 refine ae.n<|sr<|mo (s:=.ptr _ _) rfl<|an (s:=.ptr _ _) rfl<|dn<|aj ?_
 obtain rfl:=O YG
 exact⟨.inr rfl,12,[308,312,313],.tmp rfl,rfl,⟨rfl,rfl,rfl,trivial⟩,by decide⟩
theorem zZ{x0:Lr}{r:Bool×Int×(List (List Qr))×(List Int)×(List (List Qr))}(h:hH x0=some r):Hu Try.prog 5 [.agg (Py x0)] true [.v (.int .i64 0)] 45 [.s (.v (.bool r.1)),.s (.v (.int .i64 r.2.1)),.r (TR 28 1 (eS 4 eQ) r.2.2.1),.r (TR 3 1 bO r.2.2.2.1),.r (TR 28 1 (eS 4 eQ) r.2.2.2.2)]:=by
 obtain⟨aC,aD,aL,aM⟩:=x0
 refine DQ (t1:=2) (t2:=3) Try.func5 rfl (Nat.le_of_ble_eq_true rfl) rfl (fun cS M vs hvs=>?_)
 unfold hH at h
 refine sr<|bx rfl<|ag rfl<|ag rfl<|dn<|qq<|sr<|ld rfl rfl (.cons rfl (.cons rfl (.cons rfl (.cons rfl (.nil)))))<|bE h fun x5 h5 h=>cl (DR h5) ⟨rfl,trivial⟩<|lE h fun x6 h6 h=>nt rfl _ h6<|dn ?_
 cases x6
 refine fs<|sr<|ld rfl rfl (.cons rfl (.cons rfl (.cons rfl (.cons rfl (.nil))))) ?_
 obtain⟨⟨uI,uJ,AE,AF,U0⟩,h8,h⟩:=bS (F h)
 refine RT.Ru .none (qi h8) [304,305,306] (by decide) rfl ⟨⟨rfl,T⟩,⟨rfl,T⟩,⟨rfl,T⟩,trivial⟩ rfl ⟨rfl,trivial⟩ T rfl rfl<|an (s:=.ptr _ _) rfl<|ag rfl<|dn<|aj ?_
 obtain rfl:=O h
 exact⟨.inr rfl,8,[304,305,306],rfl,rfl,rfl,⟨rfl,rfl,rfl,trivial⟩,by decide⟩
 refine cT<|sr<|ag rfl<|ag rfl<|dn<|aj<|ae.r ?_
 replace h:=V h
 cases h
theorem CB{x0:List Qr}{AD:Qr}{r:List Qr}(h:lG x0 AD=some r):Pure Try.prog 46 [slc 4 (List.map eQ x0),ref (eQ AD)] (slc 4 (List.map eQ r)):=by
 obtain⟨⟨Bo,Bp⟩,⟨Bq,Br⟩⟩:=AD
 refine ay Try.func46 rfl (Nat.le_of_ble_eq_true rfl) (fun cS M vs hvs=>?_)
 unfold lG at h
 refine sr<|aI rfl (imp_nil (n:=4) (e:=eQ))<|dn<|sr<|RT.jk (cs:=[_,_,_,_]) .none rfl T rfl rfl<|mv rfl<|bE h fun x6 h6 h=>cl (Cj h6) ⟨rfl,rfl,trivial⟩<|ag rfl<|dn<|aj ?_
 obtain rfl:=O h
 exact R1 rfl
theorem AJ{o0:Bool}{o1:Int}{o2:List (List Qr)}{o3:List Int}{o4:List (List Qr)}{x0:List Qr}{AD:Int}{V7:Int}{r:List Qr}(h:jg o0 o1 o2 o3 o4 x0 AD V7=some r):Gj Try.prog 48 (fun β=>[.sv (slc 4 (List.map eQ x0)),.sv (ref [.v (.int .i64 AD)]),.sv (ref [.v (.pointer (some ⟨β,0,none⟩))]),.sv (ref [.v (.int .i64 V7)])]) 45 [.s (.v (.bool o0)),.s (.v (.int .i64 o1)),.r (TR 28 1 (eS 4 eQ) o2),.r (TR 3 1 bO o3),.r (TR 28 1 (eS 4 eQ) o4)] (fun _ M' _ v=>SV.h (slc 4 (List.map eQ r)) M' v):=by
 refine Cu [1001,1002,1003] Try.func48 rfl (fun _=>(Nat.le_of_ble_eq_true rfl)) (fun _=>rfl) (by decide) rfl rfl ⟨⟨_,rfl⟩,⟨_,rfl⟩,trivial,trivial,trivial,trivial⟩ (fun cS M β us=>?_)
 unfold jg at h
 refine sr<|aI rfl (imp_nil (n:=4) (e:=eQ))<|dn<|qq<|sr<|mv rfl<|lr rfl rfl ?_
 obtain⟨⟨⟨uI,uJ⟩,⟨AE,AF⟩⟩,h8,h⟩:=bS h
 refine ix rfl rfl h8<|RT.jk (cs:=[_,_,_,_]) .none rfl T rfl rfl<|bE h fun dW fP h=>cl (je fP) ⟨rfl,trivial⟩<|lE h fun iz me h=>eq _ rfl rfl (rR (p:=dW) (q:=0) me)<|dn ?_
 cases iz
 refine fs<|qq<|ai mixed<|mv rfl<|lr rfl rfl ?_
 obtain⟨⟨⟨iM,iN⟩,⟨Bm,Bn⟩⟩,gG,h⟩:=bS (F h)
 refine ix rfl rfl gG<|RT.jk (cs:=[_,_,_,_]) .none rfl T rfl rfl ?_
 obtain⟨⟨⟨uE,uF⟩,⟨OI,OJ⟩⟩,kL,h⟩:=bS h
 refine cl (DD kL) ⟨rfl,trivial⟩<|RT.vW (k:=1000) .none rfl rfl rfl T<|RT.dL .none rfl T<|fa rfl rfl<|RT.dR .none (s:=.row _) rfl rfl rfl T<|lr rfl rfl<|bE h fun lN sj h=>iR rfl rfl rfl sj<|bE h fun gD lP h=>lR (e:=(eS 4 eQ)) rfl rfl lP rfl<|mv rfl<|bE h fun kz nO h=>cl (ou nO) ⟨rfl,rfl,rfl,trivial⟩<|ag rfl ?_
 refine RT.done ⟨by kernel_rfl,?_⟩
 refine ae.n<|aj ?_
 obtain rfl:=O h
 exact⟨.inr rfl,fT (.tmp rfl (.nil)) (SV.aa _),rfl,⟨rfl,rfl,rfl,trivial⟩⟩
 refine cT<|sr<|mv rfl<|ag rfl<|dn<|aj<|ae.r ?_
 obtain rfl:=O (V h)
 exact⟨.inr rfl,fT (.tmp rfl (.nil)) (SV.aa _),rfl,⟨rfl,rfl,rfl,trivial⟩⟩
set_option maxHeartbeats 4000000 in
theorem mh{o0:Bool}{o1:Int}{o2:List (List Qr)}{o3:List Int}{o4:List (List Qr)}{x1:Int}{x2:Int}{r:(List (List Qr))×(List Int)×(List (List Qr))}(h:cI o0 o1 o2 o3 o4 x1 x2=some r):Mu Try.prog 30 [.ptr 1000 0,.sv (.v (.int .i64 x1)),.sv (.v (.int .i64 x2))] 45 [.s (.v (.bool o0)),.s (.v (.int .i64 o1)),.r (TR 28 1 (eS 4 eQ) o2),.r (TR 3 1 bO o3),.r (TR 28 1 (eS 4 eQ) o4)] (.any) [.s (.v (.bool o0)),.s (.v (.int .i64 o1)),.r (TR 28 1 (eS 4 eQ) r.1),.r (TR 3 1 bO r.2.1),.r (TR 28 1 (eS 4 eQ) r.2.2)]:=by
 refine zD [1001,1002,1003] Try.func30 rfl (Nat.le_of_ble_eq_true rfl) rfl (by decide) rfl (fun cS M β us=>?_)
 unfold cI at h
 refine sr<|RT.uc .none (s:=.ptr _ _) rfl T rfl rfl<|RT.uc .none (s:=.sv _) rfl T rfl rfl<|RT.uc .none (s:=.sv _) rfl T rfl rfl<|dn<|ML (i:=3) rfl rfl<|bt (fX (i:=3) rfl [.v (.pointer (some ⟨β,0,none⟩))] (.cons rfl (.nil)) .any 0 [(3,.sv (ref [.v (.pointer (some ⟨β,0,none⟩))]))] (fun _ _ _=>trivial) (oU.h (l:=[.v (.pointer (some ⟨β,0,none⟩))])) ⟨@FT.ptr _ _ _ _ _ 3 0 rfl,trivial⟩)<|bt (fX (i:=4) rfl [.v (.int .i64 x1)] (.cons rfl (.nil)) .any 0 [(4,.sv (ref [.v (.int .i64 x1)]))] (fun _ _ _=>trivial) (oU.h (l:=[.v (.int .i64 x1)])) ⟨@FT.ptr _ _ _ _ _ 4 0 rfl,trivial⟩) ?_
 refine bt (fX (i:=5) rfl [.v (.int .i64 x2)] (.cons rfl (.nil)) .any 0 [(5,.sv (ref [.v (.int .i64 x2)]))] (fun _ _ _=>trivial) (oU.h (l:=[.v (.int .i64 x2)])) ⟨@FT.ptr _ _ _ _ _ 5 0 rfl,trivial⟩)<|qq<|ai mixed ?_
 obtain⟨⟨⟨Bd,Be⟩,⟨OK,OL⟩⟩,fS,h⟩:=bS h
 refine cl (iB fS) ⟨rfl,trivial⟩<|RT.vW (k:=1000) .none rfl rfl rfl T<|RT.dL .none rfl T<|fa rfl rfl<|RT.dR .none (s:=.row _) rfl rfl rfl T<|lr rfl rfl<|bE h fun k8 jM h=>iR rfl rfl rfl jM<|bE h fun gx lz h=>lR (e:=(eS 4 eQ)) rfl rfl lz rfl<|lr rfl rfl ?_
 obtain⟨⟨⟨uK,uL⟩,⟨uM,uN⟩⟩,nN,h⟩:=bS h
 refine ix rfl rfl nN<|RT.jk (cs:=[_,_,_,_]) .none rfl T rfl rfl ?_
 obtain⟨⟨⟨⟨vX,vY⟩,⟨vZ,v9⟩⟩,Hi⟩,lP,h⟩:=bS h
 refine cl (DC lP) ⟨rfl,rfl,trivial⟩<|mv rfl<|ex rfl rfl<|ex rfl rfl<|al (cs:=[.v (.bool false),slc 1 (List.map af []),.v (.bool false),slc 1 (List.map af [])]) (by exact⟨SV.aa _,imp_nil,SV.aa _,imp_nil,trivial⟩) rfl<|so rfl rfl rfl<|ag rfl ?_
 refine RT.done ⟨by kernel_rfl,?_⟩
 refine ae.n ?_
 refine bt (fX (i:=6) rfl [.v (.bool vX),slc 1 (List.map af vY),.v (.bool vZ),slc 1 (List.map af v9)] (.cons rfl (.cons rfl (.cons rfl (.cons rfl (.nil))))) .any 0 [(6,.sv (ref [.v (.bool vX),slc 1 (List.map af vY),.v (.bool vZ),slc 1 (List.map af v9)]))] (fun _ _ _=>trivial) (oU.h (l:=[.v (.bool vX),slc 1 (List.map af vY),.v (.bool vZ),slc 1 (List.map af v9)])) ⟨@FT.ptr _ _ _ _ _ 6 0 rfl,trivial⟩)<|sr<|RT.rS (caps:=[_]) .none ⟨rfl,trivial⟩ T<|bI (cs:=[_]) (cs':=[gP 46 [ref [.v (.bool vX),slc 1 (List.map af vY),.v (.bool vZ),slc 1 (List.map af v9)]]]) (.one rfl (.nil)) ⟨SV.aa _,trivial⟩ ?_
 refine RT.alloc .none T rfl rfl<|so rfl rfl rfl<|dn<|qq<|ai mixed<|RT.vW (k:=1000) .none rfl rfl rfl T<|RT.dL .none rfl T<|fa rfl rfl<|RT.dR .none (s:=.row _) rfl rfl rfl T<|lr rfl rfl<|fa rfl rfl<|lV rfl rfl rfl<|RT.vW (k:=1000) .none rfl rfl rfl T<|RT.dL .none rfl T<|fa rfl rfl<|RT.dR .none (s:=.row _) rfl rfl rfl T<|lr rfl rfl<|bE h fun qF w7 h=>iR rfl rfl rfl w7 ?_
 refine bE h fun qj w8 h=>lR (e:=(eS 4 eQ)) rfl rfl w8 rfl<|bE h fun rU Aj h=>RT.NR (args:=[_]) (caps:=[_]) .none (CB Aj) rfl ⟨rfl,trivial⟩ T<|bE h fun vI w9 h=>iR rfl rfl rfl w9<|bE h fun l2 YO h=>sR rU rfl rfl rfl rfl YO ?_
 refine RT.done ⟨by kernel_rfl,?_⟩
 refine ae.n<|sr<|RT.rS (caps:=[_,_,_]) .none ⟨rfl,rfl,rfl,trivial⟩ T<|bI (cs:=[_]) (cs':=[gP 48 [ref [.v (.int .i64 x2)],ref [.v (.pointer (some ⟨β,0,none⟩))],ref [.v (.int .i64 x1)]]]) (.one rfl (.nil)) ⟨SV.aa _,trivial⟩<|RT.alloc .none T rfl rfl<|so rfl rfl rfl<|dn<|sr<|RT.vW (k:=1000) .none rfl rfl rfl T<|RT.dL .none rfl T<|fa rfl rfl<|RT.dR .none (s:=.row _) rfl rfl rfl T<|lE h fun BT B4 h=>lL rfl rfl B4 ?_
 refine mv rfl<|dn<|bE h fun I5 Fj ik=>?_
 refine aW (fun(oC:(List (List Qr)))=>AS.bR 71 [] [(1000,⟨45,[.sv (.v (.bool o0)),.sv (.v (.int .i64 o1)),.row 1001,.row 1002,.row 1003]⟩)] [(1001,TR 28 1 (eS 4 eQ) o2),(1002,TR 3 1 bO o3),(1003,TR 28 1 (eS 4 eQ) oC)]) (fun oC=>oC=I5) ?_ (fun oC Fk=>?_)
 refine aq ?_
 refine aX Fj (fun uw=>AS.bR 71 [(3,.sv (ref [.v (.pointer (some ⟨β,0,none⟩))])),(4,.sv (ref [.v (.int .i64 x1)])),(9,.ptr 9 0),(50,.row 1003),(51,.sv (.v (.int .i64 BT))),(52,.sv (.v (.int .i64 uw.1)))] [(1000,⟨45,[.sv (.v (.bool o0)),.sv (.v (.int .i64 o1)),.row 1001,.row 1002,.row 1003]⟩),(9,⟨83,[.sv (gP 48 [ref [.v (.int .i64 x2)],ref [.v (.pointer (some ⟨β,0,none⟩))],ref [.v (.int .i64 x1)]])]⟩)] [(1003,TR 28 1 (eS 4 eQ) uw.2),(1001,TR 28 1 (eS 4 eQ) o2),(1002,TR 3 1 bO o3)]) (wR []) (fun uw Xn Xo h Fl Fm=>?_)
 obtain⟨nA,ff⟩:=uw
 try dsimp only
 refine sr<|lE h fun OM Mo h=>ls _ rfl rfl Mo<|dn<|qq ?_
 cases OM
 refine cF<|bj<|ae.x<|ae.x<|aH.x<|ae.n ?_
 obtain rfl:=O (F h)
 exact⟨ff,Fm _ rfl,wR []⟩
 refine cT<|aG<|ae.n<|qq<|aq<|sr<|mv rfl<|bE (V h) fun tW Fi h=>iR rfl rfl rfl Fi<|bE h fun BV Fh h=>lR (e:=(eS 4 eQ)) rfl rfl Fh rfl<|ag rfl<|ag rfl<|dn<|sr<|mv rfl<|lr rfl rfl<|lE h fun EX Mn h=>ne _ rfl rfl (F5 (p:=nA) (q:=x1) Mn)<|dn ?_
 refine aF h (fun j15=>AS.bR 71 [(3,.sv (ref [.v (.pointer (some ⟨β,0,none⟩))])),(4,.sv (ref [.v (.int .i64 x1)])),(9,.ptr 9 0),(50,.row 1003),(51,.sv (.v (.int .i64 BT))),(52,.sv (.v (.int .i64 nA)))] [(1000,⟨45,[.sv (.v (.bool o0)),.sv (.v (.int .i64 o1)),.row 1001,.row 1002,.row 1003]⟩),(9,⟨83,[.sv (gP 48 [ref [.v (.int .i64 x2)],ref [.v (.pointer (some ⟨β,0,none⟩))],ref [.v (.int .i64 x1)]])]⟩)] [(1003,TR 28 1 (eS 4 eQ) j15),(1001,TR 28 1 (eS 4 eQ) o2),(1002,TR 3 1 bO o3)]) (fun h=>?_) (fun rD h=>?_)
 cases EX
 exact fs<|⟨ff,(F h),wR []⟩
 refine cT<|ai mixed<|RT.vW (k:=1000) .none rfl rfl rfl T<|RT.dL .none rfl T<|fa rfl rfl<|RT.dR .none (s:=.row _) rfl rfl rfl T<|mv rfl<|fa rfl rfl<|lV rfl rfl rfl<|mv rfl<|bE (V h) fun HZ Ul h=>RT.MM (args:=[.sv (slc 4 (List.map eQ BV))]) (caps:=fun β=>[ref [.v (.int .i64 x2)],ref [.v (.pointer (some ⟨β,0,none⟩))],ref [.v (.int .i64 x1)]]) .none (AJ Ul) 1000 [1001,1002,1003] rfl rfl ⟨rfl,rfl,rfl,trivial⟩ (by decide) rfl rfl (.cons rfl (.nil)) T ?_
 refine bE h fun I2 Um h=>iR rfl rfl rfl Um<|bE h fun U3 Vd h=>sR HZ rfl rfl rfl rfl Vd ?_
 refine RT.done ⟨by kernel_rfl,?_⟩
 exact ae.n<|⟨U3,h,wR []⟩
 try dsimp only
 refine aH.n<|ae.n<|ah<|lE h fun I8 Up h=>ad _ rfl rfl Up<|mv rfl<|RT.done ?_
 obtain rfl:=O h
 exact ae.n ⟨(I8,rD),Fl _ rfl,wR []⟩
 subst Fk
 try dsimp only
 obtain rfl:=O ik
 exact⟨.inl rfl,fT .nil (fun _ _ _=>trivial),[1001,1002,1003],rfl,⟨rfl,rfl,rfl,trivial⟩,by decide⟩
set_option maxHeartbeats 4000000 in
theorem jr{o0:Bool}{o1:Int}{o2:List (List Qr)}{o3:List Int}{o4:List (List Qr)}{x1:Int}{x2:Int}{r:Int×(List (List Qr))×(List Int)×(List (List Qr))}(h:bG o0 o1 o2 o3 o4 x1 x2=some r):Mu Try.prog 13 [.ptr 1000 0,.sv (.v (.int .i64 x1)),.sv (.v (.int .i64 x2))] 45 [.s (.v (.bool o0)),.s (.v (.int .i64 o1)),.r (TR 28 1 (eS 4 eQ) o2),.r (TR 3 1 bO o3),.r (TR 28 1 (eS 4 eQ) o4)] (.v (.int .i64 r.1)) [.s (.v (.bool o0)),.s (.v (.int .i64 o1)),.r (TR 28 1 (eS 4 eQ) r.2.1),.r (TR 3 1 bO r.2.2.1),.r (TR 28 1 (eS 4 eQ) r.2.2.2)]:=by
 refine zD [1001,1002,1003] Try.func13 rfl (Nat.le_of_ble_eq_true rfl) rfl (by decide) rfl (fun cS M β us=>?_)
 unfold bG at h
 refine sr<|ag rfl<|dn<|qq<|sr<|mo (s:=.ptr _ _) rfl<|bE h fun dW fP h=>RT.kO .none (zY fP) 1000 [1001,1002,1003] rfl ⟨rfl,rfl,rfl,trivial⟩ (by decide) rfl rfl (.cons rfl (.nil)) T<|dn ?_
 cases dW
 refine fs<|qq<|qq ?_
 refine aF (F h) (fun Rz=>AS.bR 68 [(0,.ptr 1000 0),(1,.sv (.v (.int .i64 x1))),(2,.sv (.v (.int .i64 x2))),(31,.sv (.v (.bool Rz)))] [(1000,⟨45,[.sv (.v (.bool o0)),.sv (.v (.int .i64 o1)),.row 1001,.row 1002,.row 1003]⟩)] [(1001,TR 28 1 (eS 4 eQ) o2),(1002,TR 3 1 bO o3),(1003,TR 28 1 (eS 4 eQ) o4)]) (fun h=>?_) (fun KO h=>?_)
 refine ah<|mv rfl<|lE h fun eG fE h=>ls _ rfl rfl fE<|mv rfl<|bE h fun KP HA h=>?_
 cases eG
 refine gm rfl<|RT.move (.some rfl rfl) (s:=.ptr _ _) rfl T<|RT.dL (.some rfl rfl) rfl T<|RT.fieldAddr (.some rfl rfl) rfl T rfl<|RT.dR (.some rfl rfl) (s:=.row _) rfl rfl rfl T<|lE (F HA) fun k8 jM HA=>RT.NP (.some rfl rfl) rfl rfl T jM<|lE HA fun gx lz HA=>RT.geq (.some rfl rfl) _ rfl rfl T lz ?_
 obtain rfl:=O HA
 refine pF rfl<|mv rfl<|bE h fun YP MP h=>?_
 cases gx
 refine gm rfl<|lE (F MP) fun gD lP MP=>RT.lss (.some rfl rfl) _ rfl rfl T lP ?_
 obtain rfl:=O MP
 refine pF rfl<|mv rfl<|bE h fun YQ y7 h=>?_
 cases gD
 refine gm rfl<|RT.move (.some rfl rfl) (s:=.ptr _ _) rfl T<|bE (F y7) fun gO iK y7=>RT.kO (.some rfl rfl) (Cz iK) 1000 [1001,1002,1003] rfl ⟨rfl,rfl,rfl,trivial⟩ (by decide) rfl rfl (.cons rfl (.nil)) T<|lE y7 fun yB uD y7=>RT.geq (.some rfl rfl) _ rfl rfl T uD ?_
 obtain rfl:=O y7
 exact pF rfl<|dn<|⟨yB,h,wR []⟩
 obtain rfl:=O (V y7)
 exact ww<|ww<|ww<|ww<|pT rfl<|dn<|⟨true,h,wR []⟩
 obtain rfl:=O (V MP)
 refine ww<|ww<|pT rfl<|mv rfl<|bE h fun YR Hj h=>?_
 obtain rfl:=O (V Hj)
 exact ww<|ww<|ww<|ww<|pT rfl<|dn<|⟨true,h,wR []⟩
 obtain rfl:=O (V HA)
 refine ww<|ww<|ww<|ww<|ww<|ww<|ww<|pT rfl<|mv rfl<|bE h fun YS Hl h=>?_
 obtain rfl:=O (V Hl)
 refine ww<|ww<|pT rfl<|mv rfl<|bE h fun YT Ho h=>?_
 obtain rfl:=O (V Ho)
 exact ww<|ww<|ww<|ww<|pT rfl<|dn<|⟨true,h,wR []⟩
 try dsimp only
 refine ae.n ?_
 cases KO
 refine fs<|qq<|sr<|mo (s:=.ptr _ _) rfl<|RT.dL .none rfl T<|fa rfl rfl<|RT.dR .none (s:=.row _) rfl rfl rfl T<|lE (F h) fun oQ ot h=>lL rfl rfl ot<|mv rfl<|dn<|bE h fun RL KQ mS=>?_
 refine aW (fun(RO:Unit)=>AS.bR 68 [(0,.ptr 1000 0),(1,.sv (.v (.int .i64 x1))),(2,.sv (.v (.int .i64 x2)))] [(1000,⟨45,[.sv (.v (.bool o0)),.sv (.v (.int .i64 o1)),.row 1001,.row 1002,.row 1003]⟩)] [(1001,TR 28 1 (eS 4 eQ) o2),(1002,TR 3 1 bO o3),(1003,TR 28 1 (eS 4 eQ) o4)]) (fun RO=>.inl RO=RL) ?_ (fun RO KR=>?_)
 refine aq ?_
 refine aX KQ (fun Hx=>AS.bR 68 [(0,.ptr 1000 0),(1,.sv (.v (.int .i64 x1))),(2,.sv (.v (.int .i64 x2))),(35,.row 1002),(36,.sv (.v (.int .i64 oQ))),(37,.sv (.v (.int .i64 Hx)))] [(1000,⟨45,[.sv (.v (.bool o0)),.sv (.v (.int .i64 o1)),.row 1001,.row 1002,.row 1003]⟩)] [(1002,TR 3 1 bO o3),(1001,TR 28 1 (eS 4 eQ) o2),(1003,TR 28 1 (eS 4 eQ) o4)]) (wR []) (fun Cw y16 G16 h KS Hy=>?_)
 try dsimp only
 refine sr<|lE h fun w6 Dm h=>ls _ rfl rfl Dm<|dn<|qq ?_
 cases w6
 refine cF<|bj<|ae.x<|ae.x<|aH.x<|ae.n ?_
 obtain rfl:=O (F h)
 exact⟨(),Hy _ rfl,wR []⟩
 refine cT<|aG<|ae.n<|qq<|aq<|sr<|bE (V h) fun rX Ay h=>iR rfl rfl rfl Ay<|bE h fun mw nh h=>lR rfl rfl nh rfl<|ag rfl<|dn<|sr<|mv rfl<|mv rfl<|lE h fun rU Aj h=>eq _ rfl rfl (rR (p:=mw) (q:=x2) Aj)<|dn ?_
 cases rU
 refine cF<|aG<|aH.n<|ae.n<|ah<|lE (F h) fun vI w9 h=>ad _ rfl rfl w9<|mv rfl<|RT.done ?_
 obtain rfl:=O h
 exact ae.n ⟨vI,KS _ rfl,wR []⟩
 refine cT<|sr<|ag rfl<|dn<|aj<|aH.r<|ae.r ?_
 obtain rfl:=O (V h)
 have YU:=Hy _ rfl
 subst YU
 refine ae.r<|aH.r<|ae.r<|ae.r ?_
 obtain rfl:=O mS
 exact⟨.inr rfl,fT (.tmp rfl (.nil)) (SV.aa _),[1001,1002,1003],rfl,⟨rfl,rfl,rfl,trivial⟩,by decide⟩
 subst KR
 try dsimp only
 refine ae.n<|qq<|sr<|mo (s:=.ptr _ _) rfl<|RT.dL .none rfl T<|fa rfl rfl<|RT.dR .none (s:=.row _) rfl rfl rfl T<|mv rfl<|bE mS fun sI Ax mS=>iR rfl rfl rfl Ax<|bE mS fun BT B4 mS=>lR (e:=(eS 4 eQ)) rfl rfl B4 rfl<|mv rfl ?_
 obtain⟨⟨⟨ON,OO⟩,⟨OP,OQ⟩⟩,Mo,mS⟩:=bS mS
 refine ix rfl rfl Mo<|RT.jk (cs:=[_,_,_,_]) .none rfl T rfl rfl<|bE mS fun tW Fi mS=>cl (je Fi) ⟨rfl,trivial⟩<|lE mS fun BV Fh mS=>eq _ rfl rfl (rR (p:=tW) (q:=0) Fh)<|dn ?_
 cases BV
 refine fs<|sr<|mo (s:=.ptr _ _) rfl<|mv rfl<|mv rfl ?_
 obtain⟨⟨S9,Yy,Ta⟩,Hg,mS⟩:=bS (F mS)
 refine RT.Ki .none (mh Hg) 1000 [1001,1002,1003] [304,305,306] rfl ⟨rfl,rfl,rfl,trivial⟩ (by decide) (by decide) rfl ⟨⟨rfl,T⟩,⟨rfl,T⟩,⟨rfl,T⟩,trivial⟩ rfl rfl (.cons rfl (.cons rfl (.cons rfl (.nil)))) T<|dn<|sr<|mo (s:=.ptr _ _) rfl<|RT.dL .none rfl T<|fa rfl rfl<|RT.dR .none (s:=.row _) rfl rfl rfl T<|mv rfl<|mv rfl<|bE mS fun H6 Qv mS=>iR rfl rfl rfl Qv<|bE mS fun l24 Ve mS=>sR x2 rfl rfl rfl rfl Ve ?_
 refine dn<|sr<|ag rfl<|dn<|aj ?_
 obtain rfl:=O mS
 exact⟨.inr rfl,fT (.tmp rfl (.nil)) (SV.aa _),[304,305,306],rfl,⟨rfl,rfl,rfl,trivial⟩,by decide⟩
 refine cT<|sr<|ag rfl<|dn<|aj<|ae.r ?_
 obtain rfl:=O (V mS)
 exact⟨.inr rfl,fT (.tmp rfl (.nil)) (SV.aa _),[1001,1002,1003],rfl,⟨rfl,rfl,rfl,trivial⟩,by decide⟩
 refine cT<|sr<|ag rfl<|dn<|aj<|ae.r ?_
 obtain rfl:=O (V h)
 exact⟨.inr rfl,fT (.tmp rfl (.nil)) (SV.aa _),[1001,1002,1003],rfl,⟨rfl,rfl,rfl,trivial⟩,by decide⟩
 refine cT<|sr<|ag rfl<|dn<|aj<|ae.r ?_
 obtain rfl:=O (V h)
 exact⟨.inr rfl,fT (.tmp rfl (.nil)) (SV.aa _),[1001,1002,1003],rfl,⟨rfl,rfl,rfl,trivial⟩,by decide⟩
end Go.Proofs.Ytningmnklfpfjaa
namespace Go.Proofs.Ytningmnklfpfjaa
open Go.Fw
noncomputable def kV:Option (Lr):=(gb [[3,5]]).bind fun x3=>(gb [[1,0],[0,2],[3,2]]).bind fun x8=>(bY [4,12,18]).bind fun dW=>some ⟨2,x3,x8,dW⟩
end Go.Proofs.Ytningmnklfpfjaa
namespace Go.Proofs.Ytningmnklfpfjaa
open Go.Fw Go.Fw.Z Go.RowKit
theorem z1{r:Lr}(h:kV=some r):Pure Try.prog 6 [] (.agg (Py r)):=by
 refine ay Try.func6 rfl (Nat.le_of_ble_eq_true rfl) (fun cS M vs hvs=>?_)
 unfold kV at h
 refine sr<|al (cs:=[.v (.int .i64 0),slc 1 (List.map (eS 4 eQ) []),slc 1 (List.map (eS 4 eQ) []),slc 4 (List.map eQ [])]) (by exact⟨SV.aa _,imp_nil,imp_nil,imp_nil,trivial⟩) rfl<|dn<|sr<|bl (l:=[3,5]) (e:=bO) (.one rfl (.one rfl (.nil))) rfl rfl rfl rfl rfl rfl<|bl (l:=[[3,5]]) (e:=(eS 1 bO)) (.one rfl (.nil)) rfl rfl rfl rfl rfl rfl<|bE h fun x3 h3 h=>cl (qc h3) ⟨rfl,trivial⟩<|bl (l:=[1,0]) (e:=bO) (.one rfl (.one rfl (.nil))) rfl rfl rfl rfl rfl rfl ?_
 refine bl (l:=[0,2]) (e:=bO) (.one rfl (.one rfl (.nil))) rfl rfl rfl rfl rfl rfl<|bl (l:=[3,2]) (e:=bO) (.one rfl (.one rfl (.nil))) rfl rfl rfl rfl rfl rfl<|bl (l:=[[1,0],[0,2],[3,2]]) (e:=(eS 1 bO)) (.one rfl (.one rfl (.one rfl (.nil)))) rfl rfl rfl rfl rfl rfl<|bE h fun x8 h8 h=>cl (qc h8) ⟨rfl,trivial⟩<|bl (l:=[4,12,18]) (e:=bO) (.one rfl (.one rfl (.one rfl (.nil)))) rfl rfl rfl rfl rfl rfl<|bE h fun dW fP h=>cl (c7 fP) ⟨rfl,trivial⟩ ?_
 refine bI (cs:=[_,_,_,_]) (cs':=[.v (.int .i64 2),slc 1 (List.map (eS 4 eQ) x3),slc 1 (List.map (eS 4 eQ) x8),slc 4 (List.map eQ dW)]) (.one rfl (.one rfl (.one rfl (.one rfl (.nil))))) ⟨SV.aa _,SV.aa _,SV.aa _,SV.aa _,trivial⟩<|so rfl rfl rfl<|dn<|aj ?_
 obtain rfl:=O h
 exact RZ (.agg rfl rfl (.cons rfl (.cons rfl (.cons rfl (.cons rfl (.nil))))) rfl (.nil))
end Go.Proofs.Ytningmnklfpfjaa
namespace Go.Proofs.Ytningmnklfpfjaa
open Go.Fw
noncomputable def kg(x0:List Int)(x1:List Int):Option (Bool):=(some (x0.length:Int)).bind fun x7=>(some (x1.length:Int)).bind fun x9=>(some (decide ((x7:Int)≠x9))).bind fun dW=>(bif dW then some false else(cq (fun(oc:Int)=>(show Option ((Int)⊕((Unit)⊕(Bool)))from(some (x0.length:Int)).bind fun gC=>(some (decide ((oc:Int)<gC))).bind fun gY=>(bif gY then(dD x0 oc).bind fun k8=>(dD x1 oc).bind fun lN=>(some (decide ((k8:Int)≠lN))).bind fun vp=>(bif vp then some (.inr (.inr false))else(some (IntKind.i64.wrap (oc+1))).bind fun jN=>some (.inl jN))else some (.inr (.inl ()))))) 0).bind fun e6=>match e6 with|.inr v6=>some v6|.inl _=>some true)
noncomputable def jt:Option (Bool):=(kV).bind fun⟨Vf,Vg,Vh,Vi⟩=>(hH ⟨Vf,Vg,Vh,Vi⟩).bind fun⟨su,sw,HB,HC,HD⟩=>cQ (fun(KT:Bool)=>(bif KT then some false else(bG su sw HB HC HD 1 1).bind fun⟨mw,Tc,LO,Td⟩=>cQ (fun(FF:Bool)=>(bif FF then some false else(bG su sw Tc LO Td 2 0).bind fun⟨YV,Te,Tf,Tg⟩=>cQ (fun(OR:Bool)=>some OR) fun VX=>(some (decide ((YV:Int)=0))).bind fun HY=>(bif HY then(eT (⟨su,sw,Te,Tf,Tg⟩:Tb)).bind fun I2=>(bY [2,6,2]).bind fun UY=>(dx I2 UY).bind fun H7=>some H7 else some false).bind fun KU=>(bif KU then(gh (⟨su,sw,Te,Tf,Tg⟩:Tb)).bind fun x76=>(bY [2,6]).bind fun x78=>(dx x76 x78).bind fun LM=>some LM else some false).bind fun RQ=>(bif RQ then(iY (⟨su,sw,Te,Tf,Tg⟩:Tb)).bind fun x83=>(bY [36,(-2),(-6)]).bind fun S0=>(dx x83 S0).bind fun PM=>some PM else some false).bind fun RR=>(bif RR then(fN (⟨su,sw,Te,Tf,Tg⟩:Tb)).bind fun PN=>some PN else some false).bind fun RU=>(bif RU then(gi (⟨su,sw,Te,Tf,Tg⟩:Tb)).bind fun YW=>some YW else some false).bind fun RV=>VX RV)) fun VY=>(some (decide ((mw:Int)≠0))).bind fun qj=>(bif qj then some true else(eT (⟨su,sw,Tc,LO,Td⟩:Tb)).bind fun Ah=>(bY [4,6,6]).bind fun yC=>(dx Ah yC).bind fun ur=>(some (!ur)).bind fun PI=>some PI).bind fun KV=>(bif KV then some true else(iY (⟨su,sw,Tc,LO,Td⟩:Tb)).bind fun OM=>(bY [30,0,(-6)]).bind fun tW=>(dx OM tW).bind fun BV=>(some (!BV)).bind fun LK=>some LK).bind fun RW=>(bif RW then some true else(fN (⟨su,sw,Tc,LO,Td⟩:Tb)).bind fun BW=>some BW).bind fun RX=>VY RX)) fun Oz=>(bif false then none else some false).bind fun KW=>(bif KW then some true else(iX (⟨su,sw,HB,HC,HD⟩:Tb)).bind fun fg=>(kg fg [2,3,4]).bind fun gx=>(some (!gx)).bind fun mc=>some mc).bind fun RY=>(bif RY then some true else(eT (⟨su,sw,HB,HC,HD⟩:Tb)).bind fun vp=>(bY [4,12,18]).bind fun lf=>(dx vp lf).bind fun og=>(some (!og)).bind fun gO=>some gO).bind fun R3=>(bif R3 then some true else(cC (⟨su,sw,HB,HC,HD⟩:Tb) 0).bind fun o8=>(bY [(-3),1,0]).bind fun uo=>(dx o8 uo).bind fun oQ=>(some (!oQ)).bind fun si=>some si).bind fun R4=>Oz R4
noncomputable def gj:Option (Bool):=(jt).bind fun x1=>some x1
end Go.Proofs.Ytningmnklfpfjaa
namespace Go.Proofs.Ytningmnklfpfjaa
open Go.Fw Go.Fw.Z Go.RowKit
theorem AK{x0:List Int}{x1:List Int}{r:Bool}(h:kg x0 x1=some r):Pure Try.prog 7 [slc 1 (List.map bO x0),slc 1 (List.map bO x1)] (.v (.bool r)):=by
 refine ay Try.func7 rfl (Nat.le_of_ble_eq_true rfl) (fun cS M vs hvs=>?_)
 unfold kg at h
 refine sr<|ag rfl<|dn<|qq<|sr<|mv rfl<|lE h fun x7 h7 h=>ln rfl h7<|mv rfl<|lE h fun x9 h9 h=>ln rfl h9<|lE h fun dW fP h=>ne _ rfl rfl (F5 (p:=x7) (q:=x9) fP)<|dn ?_
 cases dW
 refine fs<|qq<|sr<|ag rfl<|dn<|bE (F h) fun e6 G9 jn=>?_
 refine aW (fun(Jw:Unit)=>AS.bR 26 [] [] []) (fun Jw=>.inl Jw=e6) ?_ (fun Jw He=>?_)
 refine aq ?_
 refine aX G9 (fun s6=>AS.bR 26 [(0,.sv (slc 1 (List.map bO x0))),(1,.sv (slc 1 (List.map bO x1))),(5,.sv (.v (.int .i64 s6)))] [] []) (wR []) (fun oc y6 G6 h Hf Dl=>?_)
 try dsimp only
 refine qq<|sr<|mv rfl<|mv rfl<|lE h fun gC fS h=>ln rfl fS<|lE h fun gY ku h=>ls _ rfl rfl ku<|dn ?_
 cases gY
 refine cF<|bj<|ae.x<|ae.x<|aH.x<|ae.n ?_
 obtain rfl:=O (F h)
 exact⟨(),Dl _ rfl,wR []⟩
 refine cT<|aG<|ae.n<|qq<|aq<|qq<|ai mixed<|mv rfl<|mv rfl<|bE (V h) fun k8 jM h=>ix rfl rfl jM<|lr rfl rfl<|mv rfl<|mv rfl<|bE h fun lN sj h=>ix rfl rfl sj<|lr rfl rfl<|lE h fun vp pB h=>ne _ rfl rfl (F5 (p:=k8) (q:=lN) pB) ?_
 refine RT.done ⟨by kernel_rfl,?_⟩
 refine ae.n ?_
 cases vp
 refine cF<|aG<|aH.n<|ae.n<|ah<|mv rfl<|lE (F h) fun jN lA h=>ad _ rfl rfl lA<|ag rfl<|RT.done ?_
 obtain rfl:=O h
 exact ae.n ⟨jN,Hf _ rfl,wR []⟩
 refine cT<|sr<|ag rfl<|dn<|aj<|aH.r<|ae.r ?_
 obtain rfl:=O (V h)
 have Qa:=Dl _ rfl
 subst Qa
 refine ae.r<|aH.r<|ae.r<|ae.r ?_
 obtain rfl:=O jn
 exact R1 rfl
 subst He
 try dsimp only
 refine ae.n<|sr<|ag rfl<|dn<|aj ?_
 obtain rfl:=O jn
 exact R1 rfl
 refine cT<|sr<|ag rfl<|dn<|aj<|ae.r ?_
 obtain rfl:=O (V h)
 exact R1 rfl
set_option maxHeartbeats 4000000 in
theorem z2{r:Bool}(h:jt=some r):Pure Try.prog 4 [] (.v (.bool r)):=by
 refine ay Try.func4 rfl (Nat.le_of_ble_eq_true rfl) (fun cS M vs hvs=>?_)
 unfold jt at h
 refine sr<|ag rfl<|dn<|sr ?_
 obtain⟨⟨Vf,Vg,Vh,Vi⟩,h6,h⟩:=bS h
 refine cl (z1 h6) trivial ?_
 obtain⟨⟨su,sw,HB,HC,HD⟩,h7,h⟩:=bS h
 refine RT.MA .none (zZ h7) [304,305,306] (by decide) rfl ⟨⟨rfl,T⟩,⟨rfl,T⟩,⟨rfl,T⟩,trivial⟩ rfl ⟨rfl,trivial⟩ T rfl rfl<|mo (s:=.cmp _ _) rfl<|RT.DN .none rfl rfl T<|RT.DN .none rfl rfl T<|an (s:=.ptr _ _) rfl<|ag rfl<|dn<|qq<|qq ?_
 refine aF h (fun Rz=>AS.bR 96 [(1,.ptr 7 0),(38,.sv (.v (.bool Rz)))] [(7,⟨45,[.sv (.v (.bool su)),.sv (.v (.int .i64 sw)),.row 304,.row 305,.row 306]⟩)] [(304,TR 28 1 (eS 4 eQ) HB),(305,TR 3 1 bO HC),(306,TR 28 1 (eS 4 eQ) HD)]) (fun h=>?_) (fun KT h=>?_)
 refine ah<|mv rfl<|ne false rfl rfl (by decide)<|mv rfl<|bE h fun KW YX h=>RT.move (.some rfl rfl) (s:=.ptr _ _) rfl T<|RT.Rr (.some rfl rfl) rfl rfl T ?_
 obtain rfl:=O (F YX)
 refine pF rfl<|mv rfl<|bE h fun YY FG h=>RT.move (.some rfl rfl) (s:=.ptr _ _) rfl T<|bE (F FG) fun fg ij FG=>RT.kO (.some rfl rfl) (CA ij) 7 [304,305,306] rfl ⟨rfl,rfl,rfl,trivial⟩ (by decide) rfl rfl (.cons rfl (.nil)) T<|RT.l9 (l:=[2,3,4]) (e:=bO) (.some rfl rfl) (.one rfl (.one rfl (.one rfl (.nil)))) T rfl rfl rfl rfl rfl rfl<|bE FG fun gx lz FG=>gc (AK lz) ⟨rfl,rfl,trivial⟩<|lE FG fun mc qO FG=>PG rfl _ qO ?_
 obtain rfl:=O FG
 refine pF rfl<|mv rfl<|bE h fun YZ AL h=>?_
 cases mc
 refine RT.move (.some rfl rfl) (s:=.ptr _ _) rfl T<|bE (F AL) fun vp pB AL=>RT.kO (.some rfl rfl) (tK pB) 7 [304,305,306] rfl ⟨rfl,rfl,rfl,trivial⟩ (by decide) rfl rfl (.cons rfl (.nil)) T<|RT.l9 (l:=[4,12,18]) (e:=bO) (.some rfl rfl) (.one rfl (.one rfl (.one rfl (.nil)))) T rfl rfl rfl rfl rfl rfl<|bE AL fun lf oR AL=>gc (c7 oR) ⟨rfl,trivial⟩<|bE AL fun og uC AL=>gc (gM uC) ⟨rfl,rfl,trivial⟩<|lE AL fun gO iK AL=>PG rfl _ iK ?_
 obtain rfl:=O AL
 refine pF rfl<|mv rfl<|bE h fun Y0 AM h=>?_
 cases gO
 refine RT.move (.some rfl rfl) (s:=.ptr _ _) rfl T<|bE (F AM) fun o8 pD AM=>RT.kO (.some rfl rfl) (tL pD) 7 [304,305,306] rfl ⟨rfl,rfl,rfl,trivial⟩ (by decide) rfl rfl (.cons rfl (.cons rfl (.nil))) T<|RT.l9 (l:=[(-3),1,0]) (e:=bO) (.some rfl rfl) (.one rfl (.one rfl (.one rfl (.nil)))) T rfl rfl rfl rfl rfl rfl<|bE AM fun uo B3 AM=>gc (c7 B3) ⟨rfl,trivial⟩<|bE AM fun oQ ot AM=>gc (gM ot) ⟨rfl,rfl,trivial⟩<|lE AM fun si vO AM=>?_
 refine PG rfl _ vO ?_
 obtain rfl:=O AM
 exact pF rfl<|dn<|⟨si,h,wR []⟩
 obtain rfl:=O (V AM)
 exact ww<|ww<|ww<|ww<|ww<|ww<|pT rfl<|dn<|⟨true,h,wR []⟩
 obtain rfl:=O (V AL)
 refine ww<|ww<|ww<|ww<|ww<|ww<|pT rfl<|mv rfl<|bE h fun Y1 Y2 h=>?_
 obtain rfl:=O (V Y2)
 exact ww<|ww<|ww<|ww<|ww<|ww<|pT rfl<|dn<|⟨true,h,wR []⟩
 try dsimp only
 refine ae.n ?_
 cases KT
 refine fs<|sr<|mo (s:=.ptr _ _) rfl ?_
 obtain⟨⟨mw,Tc,LO,Td⟩,nh,h⟩:=bS (F h)
 refine RT.Ki .none (jr nh) 7 [304,305,306] [310,311,312] rfl ⟨rfl,rfl,rfl,trivial⟩ (by decide) (by decide) rfl ⟨⟨rfl,T⟩,⟨rfl,T⟩,⟨rfl,T⟩,trivial⟩ rfl rfl (.cons rfl (.cons rfl (.cons rfl (.nil)))) T<|ag rfl<|dn<|qq<|qq ?_
 refine aF h (fun NY=>AS.bR 96 [(1,.ptr 7 0),(62,.sv (.v (.bool NY)))] [(7,⟨45,[.sv (.v (.bool su)),.sv (.v (.int .i64 sw)),.row 310,.row 311,.row 312]⟩)] [(310,TR 28 1 (eS 4 eQ) Tc),(311,TR 3 1 bO LO),(312,TR 28 1 (eS 4 eQ) Td)]) (fun h=>?_) (fun FF h=>?_)
 refine ah<|mv rfl<|lE h fun qj w8 h=>ne _ rfl rfl (F5 (p:=mw) (q:=0) w8)<|mv rfl<|bE h fun KV AN h=>?_
 cases qj
 refine RT.move (.some rfl rfl) (s:=.ptr _ _) rfl T<|bE (F AN) fun Ah Fg AN=>RT.kO (.some rfl rfl) (tK Fg) 7 [310,311,312] rfl ⟨rfl,rfl,rfl,trivial⟩ (by decide) rfl rfl (.cons rfl (.nil)) T<|RT.l9 (l:=[4,6,6]) (e:=bO) (.some rfl rfl) (.one rfl (.one rfl (.one rfl (.nil)))) T rfl rfl rfl rfl rfl rfl<|bE AN fun yC yR AN=>gc (c7 yR) ⟨rfl,trivial⟩<|bE AN fun ur h48 AN=>gc (gM h48) ⟨rfl,rfl,trivial⟩<|lE AN fun PI Mm AN=>PG rfl _ Mm ?_
 obtain rfl:=O AN
 refine pF rfl<|mv rfl<|bE h fun Y3 AO h=>?_
 cases PI
 refine RT.move (.some rfl rfl) (s:=.ptr _ _) rfl T<|bE (F AO) fun OM Mo AO=>RT.kO (.some rfl rfl) (uZ Mo) 7 [310,311,312] rfl ⟨rfl,rfl,rfl,trivial⟩ (by decide) rfl rfl (.cons rfl (.nil)) T<|RT.l9 (l:=[30,0,(-6)]) (e:=bO) (.some rfl rfl) (.one rfl (.one rfl (.one rfl (.nil)))) T rfl rfl rfl rfl rfl rfl<|bE AO fun tW Fi AO=>gc (c7 Fi) ⟨rfl,trivial⟩<|bE AO fun BV Fh AO=>gc (gM Fh) ⟨rfl,rfl,trivial⟩<|lE AO fun LK Qn AO=>PG rfl _ Qn ?_
 obtain rfl:=O AO
 refine pF rfl<|mv rfl<|bE h fun Y4 MQ h=>?_
 cases LK
 refine RT.move (.some rfl rfl) (s:=.ptr _ _) rfl T<|bE (F MQ) fun BW JC MQ=>RT.kO (.some rfl rfl) (rE JC) 7 [310,311,312] rfl ⟨rfl,rfl,rfl,trivial⟩ (by decide) rfl rfl (.cons rfl (.nil)) T ?_
 obtain rfl:=O MQ
 exact pF rfl<|dn<|⟨BW,h,wR []⟩
 obtain rfl:=O (V MQ)
 exact ww<|ww<|pT rfl<|dn<|⟨true,h,wR []⟩
 obtain rfl:=O (V AO)
 refine ww<|ww<|ww<|ww<|ww<|ww<|pT rfl<|mv rfl<|bE h fun Y5 Y6 h=>?_
 obtain rfl:=O (V Y6)
 exact ww<|ww<|pT rfl<|dn<|⟨true,h,wR []⟩
 obtain rfl:=O (V AN)
 refine ww<|ww<|ww<|ww<|ww<|ww<|pT rfl<|mv rfl<|bE h fun Y7 Y8 h=>?_
 obtain rfl:=O (V Y8)
 refine ww<|ww<|ww<|ww<|ww<|ww<|pT rfl<|mv rfl<|bE h fun Y9 Za h=>?_
 obtain rfl:=O (V Za)
 exact ww<|ww<|pT rfl<|dn<|⟨true,h,wR []⟩
 try dsimp only
 refine ae.n ?_
 cases FF
 refine fs<|sr<|mo (s:=.ptr _ _) rfl ?_
 obtain⟨⟨YV,Te,Tf,Tg⟩,h64,h⟩:=bS (F h)
 refine RT.Ki .none (jr h64) 7 [310,311,312] [316,317,318] rfl ⟨rfl,rfl,rfl,trivial⟩ (by decide) (by decide) rfl ⟨⟨rfl,T⟩,⟨rfl,T⟩,⟨rfl,T⟩,trivial⟩ rfl rfl (.cons rfl (.cons rfl (.cons rfl (.nil)))) T<|ag rfl<|dn<|qq ?_
 refine aF h (fun G5=>AS.bR 96 [(0,.sv (.v (.bool G5)))] [] []) (fun h=>?_) (fun OR h=>?_)
 refine ah<|mv rfl<|lE h fun HY Uk h=>eq _ rfl rfl (rR (p:=YV) (q:=0) Uk)<|mv rfl<|bE h fun KU D5 h=>?_
 cases HY
 obtain rfl:=O (F D5)
 refine ww<|ww<|ww<|ww<|ww<|pF rfl<|mv rfl<|bE h fun Zb Zc h=>?_
 obtain rfl:=O (F Zc)
 refine ww<|ww<|ww<|ww<|ww<|pF rfl<|mv rfl<|bE h fun Zd Ze h=>?_
 obtain rfl:=O (F Ze)
 refine ww<|ww<|ww<|ww<|ww<|pF rfl<|mv rfl<|bE h fun Zf Zg h=>?_
 obtain rfl:=O (F Zg)
 refine ww<|ww<|pF rfl<|mv rfl<|bE h fun Zh Zi h=>?_
 obtain rfl:=O (F Zi)
 exact ww<|ww<|pF rfl<|ag rfl<|dn<|⟨false,h,wR []⟩
 refine RT.move (.some rfl rfl) (s:=.ptr _ _) rfl T<|bE (V D5) fun I2 Um D5=>RT.kO (.some rfl rfl) (tK Um) 7 [316,317,318] rfl ⟨rfl,rfl,rfl,trivial⟩ (by decide) rfl rfl (.cons rfl (.nil)) T<|RT.l9 (l:=[2,6,2]) (e:=bO) (.some rfl rfl) (.one rfl (.one rfl (.one rfl (.nil)))) T rfl rfl rfl rfl rfl rfl<|bE D5 fun UY YK D5=>gc (c7 YK) ⟨rfl,trivial⟩<|bE D5 fun H7 QA D5=>gc (gM QA) ⟨rfl,rfl,trivial⟩ ?_
 obtain rfl:=O D5
 refine pT rfl<|mv rfl<|bE h fun Zj D6 h=>?_
 cases H7
 obtain rfl:=O (F D6)
 refine ww<|ww<|ww<|ww<|ww<|pF rfl<|mv rfl<|bE h fun Zk Zl h=>?_
 obtain rfl:=O (F Zl)
 refine ww<|ww<|ww<|ww<|ww<|pF rfl<|mv rfl<|bE h fun Zm Zn h=>?_
 obtain rfl:=O (F Zn)
 refine ww<|ww<|pF rfl<|mv rfl<|bE h fun Zo Zp h=>?_
 obtain rfl:=O (F Zp)
 exact ww<|ww<|pF rfl<|ag rfl<|dn<|⟨false,h,wR []⟩
 refine RT.move (.some rfl rfl) (s:=.ptr _ _) rfl T<|bE (V D6) fun x76 YL D6=>RT.kO (.some rfl rfl) (xp YL) 7 [316,317,318] rfl ⟨rfl,rfl,rfl,trivial⟩ (by decide) rfl rfl (.cons rfl (.nil)) T<|RT.l9 (l:=[2,6]) (e:=bO) (.some rfl rfl) (.one rfl (.one rfl (.nil))) T rfl rfl rfl rfl rfl rfl<|bE D6 fun x78 YM D6=>gc (c7 YM) ⟨rfl,trivial⟩<|bE D6 fun LM QB D6=>gc (gM QB) ⟨rfl,rfl,trivial⟩ ?_
 obtain rfl:=O D6
 refine pT rfl<|mv rfl<|bE h fun Zq D7 h=>?_
 cases LM
 obtain rfl:=O (F D7)
 refine ww<|ww<|ww<|ww<|ww<|pF rfl<|mv rfl<|bE h fun Zs Zt h=>?_
 obtain rfl:=O (F Zt)
 refine ww<|ww<|pF rfl<|mv rfl<|bE h fun Zu Zv h=>?_
 obtain rfl:=O (F Zv)
 exact ww<|ww<|pF rfl<|ag rfl<|dn<|⟨false,h,wR []⟩
 refine RT.move (.some rfl rfl) (s:=.ptr _ _) rfl T<|bE (V D7) fun x83 h83 D7=>RT.kO (.some rfl rfl) (uZ h83) 7 [316,317,318] rfl ⟨rfl,rfl,rfl,trivial⟩ (by decide) rfl rfl (.cons rfl (.nil)) T<|RT.l9 (l:=[36,(-2),(-6)]) (e:=bO) (.some rfl rfl) (.one rfl (.one rfl (.one rfl (.nil)))) T rfl rfl rfl rfl rfl rfl<|bE D7 fun S0 Uq D7=>gc (c7 Uq) ⟨rfl,trivial⟩<|bE D7 fun PM Ur D7=>gc (gM Ur) ⟨rfl,rfl,trivial⟩ ?_
 obtain rfl:=O D7
 refine pT rfl<|mv rfl<|bE h fun Zw MR h=>?_
 cases PM
 obtain rfl:=O (F MR)
 refine ww<|ww<|pF rfl<|mv rfl<|bE h fun Zx Zy h=>?_
 obtain rfl:=O (F Zy)
 exact ww<|ww<|pF rfl<|ag rfl<|dn<|⟨false,h,wR []⟩
 refine RT.move (.some rfl rfl) (s:=.ptr _ _) rfl T<|bE (V MR) fun PN Ut MR=>RT.kO (.some rfl rfl) (rE Ut) 7 [316,317,318] rfl ⟨rfl,rfl,rfl,trivial⟩ (by decide) rfl rfl (.cons rfl (.nil)) T ?_
 obtain rfl:=O MR
 refine pT rfl<|mv rfl<|bE h fun Zz MS h=>?_
 cases PN
 obtain rfl:=O (F MS)
 exact ww<|ww<|pF rfl<|ag rfl<|dn<|⟨false,h,wR []⟩
 refine RT.move (.some rfl rfl) (s:=.ptr _ _) rfl T<|bE (V MS) fun YW h94 MS=>RT.kO (.some rfl rfl) (xq h94) 7 [316,317,318] rfl ⟨rfl,rfl,rfl,trivial⟩ (by decide) rfl rfl (.cons rfl (.nil)) T ?_
 obtain rfl:=O MS
 exact pT rfl<|ag rfl<|dn<|⟨YW,h,wR []⟩
 try dsimp only
 refine ae.n<|aj ?_
 obtain rfl:=O h
 exact R1 rfl
 refine cT<|sr<|ag rfl<|dn<|aj<|ae.r ?_
 obtain rfl:=O (V h)
 exact R1 rfl
 refine cT<|sr<|ag rfl<|dn<|aj<|ae.r ?_
 obtain rfl:=O (V h)
 exact R1 rfl
end Go.Proofs.Ytningmnklfpfjaa
namespace Go.Proofs.Ytningmnklfpfjaa
open Go.Fw Go.Fw.Z Go.RowKit
theorem nR{r:Bool}(h:gj=some r):Pure Try.prog 3 [] (.v (.bool r)):=by
 refine ay Try.func3 rfl (Nat.le_of_ble_eq_true rfl) (fun cS M vs hvs=>?_)
 unfold gj at h
 refine sr<|ag rfl<|dn<|sr<|bE h fun x1 h1 h=>cl (z2 h1) trivial<|ag rfl<|dn<|aj ?_
 obtain rfl:=O h
 exact R1 rfl
end Go.Proofs.Ytningmnklfpfjaa
namespace Go.Fw
theorem r0{n:Nat}(h:n≤9223372036854775807):IntKind.i64.wrap (n:Int)=n:=lM (by omega)
theorem bZ{x:Int}(h: -9223372036854775808≤x)(h':x≤9223372036854775807):IntKind.i64.wrap x=x:=lM ⟨h,h'⟩
theorem bK{n:Nat}(h:n<9223372036854775807):IntKind.i64.wrap ((n:Int)+1)=((n+1:Nat):Int):=by rw[lM (by omega)];simp
theorem r5{n m:Nat}(h:n+m≤9223372036854775807):IntKind.i64.wrap ((n:Int)+(m:Int))=((n+m:Nat):Int):=by rw[lM (by omega)];simp
theorem D8{n:Nat}(h:n≤9223372036854775807):IntKind.i64.wrap (((n+1:Nat):Int)-1)=(n:Int):=by rw[lM (by omega)];omega
theorem aU{α:Type}{l:List α}{i:Nat}{a:α}(h:l[i]? =some a):dD l (i:Int)=some a:=by simp[dD,h]
theorem wc{α:Type}{l:List α}{a:α}(h:l[0]? =some a):dD l 0=some a:=by simp[dD,h]
theorem KX{α:Type}{l:List α}{a:α}(h:l[1]? =some a):dD l 1=some a:=by simp[dD,h]
theorem cj{α:Type}{l:List α}{i:Nat}(h:i<l.length):nX l (i:Int)=some i:=by simp[nX,h]
theorem e9{α:Type}{l:List α}{i:Nat}{y:α}(h:i<l.length):stM l i y=some (l.set i y):=by simp[stM,h]
theorem KY{α:Type}{b:Nat}{l k:List α}(h:(l.length+k.length)*b≤140737488355328)(h':l.length+k.length≤140737488355328):yu b l k=some (l++k):=by simp[yu,h,h']
theorem AP{α:Type}{b:Nat}{l:List α}{x:α}(hb:b≤100)(h:l.length≤1000000000000):yu b l [x]=some (l++[x]):=by
 apply KY
 ·have:(l.length+[x].length)*b≤1000000000001*100:=Nat.mul_le_mul (by simp;omega) hb
  omega
 ·simp;omega
theorem ZA{α:Type}{b:Nat}{l k:List α}(hb:b≤100)(h:l.length+k.length≤1000000000000):yu b l k=some (l++k):=by
 apply KY
 ·have:(l.length+k.length)*b≤1000000000000*100:=Nat.mul_le_mul h hb
  omega
 ·omega
theorem z3{α:Type}{b:Nat}{n:Nat}(hb:b≤100)(h:n≤1000000000000):IJ (α:=α) b (n:Int)=some []:=by
 have:b*n≤100*1000000000000:=Nat.mul_le_mul hb h
 have h2:(b:Int)*(n:Int)=((b*n:Nat):Int):=by simp
 unfold IJ
 rw[h2,if_pos ⟨by omega,by omega,by omega⟩]
theorem pM{α:Type}{b:Nat}{n:Nat}{z:α}(hb:b≤100)(h:n≤1000000000000):A0 b (n:Int) z=some (List.replicate n z):=by
 have:b*n≤100*1000000000000:=Nat.mul_le_mul hb h
 have h2:(b:Int)*(n:Int)=((b*n:Nat):Int):=by simp
 unfold A0
 rw[h2,if_pos ⟨by omega,by omega,by omega⟩,Int.toNat_natCast]
theorem KZ{α:Type}{l:List α}{i j:Nat}(h:i≤j)(h':j≤l.length):BP l (i:Int) (j:Int)=some (cut l i j):=by
 unfold BP;rw[if_pos ⟨by omega,by omega,by omega⟩];simp
theorem Bw{α:Type}{l:List α}{j:Nat}(h':j≤l.length):BP l 0 (j:Int)=some (l.take j):=by
 have:=KZ (l:=l) (i:=0) (j:=j) (by omega) h'
 simpa[cut]using this
theorem pN{M a b:Nat}(h:b≤a)(h':a<M):m7 M a b=a-b:=by
 unfold m7;rw[show(a:Int)-(b:Int)=((a-b:Nat):Int) by omega,←Int.natCast_emod,Int.toNat_natCast,Nat.mod_eq_of_lt (by omega)]
theorem xN{M a b:Nat}(h:a<b)(h':b≤M):m7 M a b=M+a-b:=by
 unfold m7
 have:((a:Int)-(b:Int))%(M:Int)=((M+a-b:Nat):Int):=by
  rw[←Int.add_emod_right (a:=(a:Int)-b),show(a:Int)-(b:Int)+(M:Int)=((M+a-b:Nat):Int) by omega,←Int.natCast_emod,Nat.mod_eq_of_lt (by omega)]
 rw[this,Int.toNat_natCast]
theorem xO{o n i:Nat}(h:i<n):LI o n (i:Int)=some (o+i):=by simp[LI,h]
theorem oD{α:Type}{l l':List α}(h:l'.length=l.length):sG l l'=some ():=by simp[sG,h]
theorem CC{M a b:Nat}(h:b≠0)(h':a<M):BQ M a b=some (a/b):=by
 unfold BQ;rw[if_neg h,Nat.mod_eq_of_lt (Nat.lt_of_le_of_lt (Nat.div_le_self _ _) h')]
theorem xP{a b:Nat}(h:b≠0):At a b=some (a%b):=by unfold At;rw[if_neg h]
theorem bC{α β:Type}{a:α}{f:α→Option β}:Option.bind (some a) f=f a:=by
 have h:∀o,o=some a→Option.bind o f=f a:=by intro o ho;rw[ho];rfl
 exact h _ rfl
theorem ji{α:Type}{x y:α}:(bif true then x else y)=x:=by
 have h:∀b,b=true→(bif b then x else y)=x:=by intro b hb;rw[hb];rfl
 exact h _ rfl
theorem ju{α:Type}{x y:α}:(bif false then x else y)=y:=by
 have h:∀b,b=false→(bif b then x else y)=y:=by intro b hb;rw[hb];rfl
 exact h _ rfl
theorem oE{S E R:Type}{body:S→Option (S⊕E)}{s:S}{f:E→Option R}{r:R}(I:S→Prop)(Post:E→Prop)(μ:S→Nat)
  (step:∀s,I s→(∃s',body s=some (.inl s')∧I s'∧μ s'<μ s)∨(∃e,body s=some (.inr e)∧Post e)) (h:I s) (hf:∀e,Post e→f e=some r):(cq body s).bind f=some r:=by
 obtain⟨e,h1,h2⟩:=vC I Post μ step h
 rw[h1];exact hf e h2
theorem CD{S E R:Type}{body:S→Option (S⊕E)}{s:S}{f:E→Option R}{Q:R→Prop}(I:S→Prop)(Post:E→Prop)(μ:S→Nat)
  (step:∀s,I s→(∃s',body s=some (.inl s')∧I s'∧μ s'<μ s)∨(∃e,body s=some (.inr e)∧Post e)) (h:I s) (hf:∀e,Post e→∃r,f e=some r∧Q r):∃r,(cq body s).bind f=some r∧Q r:=by
 obtain⟨e,h1,h2⟩:=vC I Post μ step h
 rw[h1];exact hf e h2
theorem bh{S E R:Type}{body:S→Option (S⊕E)}{s:S}{f:E→Option R}{r:R}(st:Nat→S)(n:Nat)(e:E)(h0:s=st 0)(hs:∀k,k<n→body (st k)=some (.inl (st (k+1))))(he:body (st n)=some (.inr e))(hf:f e=some r):(cq body s).bind f=some r:=by
 rw[h0,IN st n hs he];exact hf
theorem pO{S R:Type}{body:Nat→S→Option S}{s:S}{f:S→Option R}{r:R}(st:Nat→S){n:Nat}(h0:s=st 0)(hs:∀k,k<n→body k (st k)=some (st (k+1)))(hf:f (st n)=some r):(nL body n s).bind f=some r:=by
 rw[h0,A7 st n hs];exact hf
theorem bind_eq{α β:Type}{x:Option α}{a:α}{f:α→Option β}{r:Option β}(h:x=some a)(hf:f a=r):x.bind f=r:=by rw[h];exact hf
theorem fk{α:Type}{b:Bool}{x y r:α}(hb:b=true)(h:x=r):(bif b then x else y)=r:=by rw[hb];exact h
theorem bH{α:Type}{b:Bool}{x y r:α}(hb:b=false)(h:y=r):(bif b then x else y)=r:=by rw[hb];exact h
end Go.Fw
namespace Go.Fw
def val(B:Nat):List Nat→Nat
 |[]=>0
 |x::l=>x+B*val B l
def eI(B:Nat):Nat→Nat→List Nat
 |0,_=>[]
 |n+1,v=>v%B::eI B n (v/B)
def kj(ws:List Nat):List Nat:=(ws.reverse.dropWhile (· ==0)).reverse
def can(B v:Nat):List Nat:=kj (eI B v v)
theorem aV(B:Nat):∀n v,(eI B n v).length=n
 |0,_=>rfl
 |n+1,v=>by simp[eI,aV B n]
theorem kn(B:Nat):∀n v,val B (eI B n v)=v%B^n
 |0,v=>by simp[eI,val,Nat.mod_one]
 |n+1,v=>by
  rw[eI,val,kn B n,Nat.pow_succ,Nat.mul_comm (B^n) B,Nat.mod_mul]
theorem lS{B:Nat}(hB:0<B):∀(n v x:Nat),x∈eI B n v→x<B
 |n+1,v,x,h=>by
  rcases List.mem_cons.1 h with rfl|h
  ·exact Nat.mod_lt _ hB
  ·exact lS hB n _ x h
theorem iw{B:Nat}:∀(l:List Nat),(∀x∈l,x<B)→val B l<B^l.length
 |[],_=>by simp[val]
 |x::l,h=>by
  have h1:=iw l (fun y hy=>h y (List.mem_cons_of_mem _ hy))
  have h2:=h x (by simp)
  rw[val,List.length_cons,Nat.pow_succ]
  calc x+B*val B l<B+B*val B l:=by omega
   _=B*(val B l+1):=by rw[Nat.mul_add];omega
   _≤B*B^l.length:=Nat.mul_le_mul_left _ h1
   _=B^l.length*B:=Nat.mul_comm _ _
theorem xQ{B:Nat}:∀(l:List Nat),(∀x∈l,x<B)→eI B l.length (val B l)=l
 |[],_=>rfl
 |x::l,h=>by
  have h2:=h x (by simp)
  have hB:0<B:=by omega
  rw[List.length_cons,eI,val,Nat.add_mul_mod_self_left,Nat.mod_eq_of_lt h2,Nat.add_mul_div_left _ _ hB,Nat.div_eq_of_lt h2,Nat.zero_add,xQ l (fun y hy=>h y (List.mem_cons_of_mem _ hy))]
theorem u0{B:Nat}:∀(n v j:Nat),j<n→(eI B n v)[j]? =some (v/B^j%B)
 |n+1,v,0,_=>by simp[eI]
 |n+1,v,j+1,h=>by
  rw[eI,List.getElem?_cons_succ,u0 n _ j (by omega),Nat.div_div_eq_div_mul,Nat.pow_succ,Nat.mul_comm B]
theorem CE{B:Nat}:∀(a b:List Nat),val B (a++b)=val B a+B^a.length*val B b
 |[],b=>by simp[val]
 |x::a,b=>by
  rw[List.cons_append,val,val,CE a b,List.length_cons,Nat.pow_succ,Nat.mul_add,Nat.add_assoc,Nat.mul_comm (B^a.length) B,Nat.mul_assoc]
theorem mU{B:Nat}:∀(n v:Nat),eI B (n+1) v=eI B n v++[v/B^n%B]
 |0,v=>by simp[eI]
 |n+1,v=>by
  rw[eI,mU n,eI,List.cons_append,Nat.div_div_eq_div_mul,Nat.pow_succ,Nat.mul_comm B]
theorem rF(B:Nat):∀k,eI B k 0=List.replicate k 0
 |0=>rfl
 |k+1=>by rw[eI,Nat.zero_mod,Nat.zero_div,rF B k];rfl
theorem z4{B:Nat}(hB:0<B):∀(n k v:Nat),v<B^n→eI B (n+k) v=eI B n v++List.replicate k 0
 |0,k,v,h=>by
  have:v=0:=by simpa using h
  subst this;rw[Nat.zero_add,rF];rfl
 |n+1,k,v,h=>by
  rw[show n+1+k=n+k+1 by omega,eI,eI,List.cons_append,z4 hB n k (v/B) (by rw[Nat.div_lt_iff_lt_mul hB];rwa[Nat.pow_succ]at h)]
theorem pP{B:Nat}(hB:2≤B):∀v,v<B^v
 |0=>by simp
 |v+1=>by
  have:=pP hB v
  rw[Nat.pow_succ]
  have h2:B^v*2≤B^v*B:=Nat.mul_le_mul_left _ hB
  omega
theorem pQ(l:List Nat):kj (l++[0])=kj l:=by simp[kj]
theorem rG(l:List Nat):∀k,kj (l++List.replicate k 0)=kj l
 |0=>by simp
 |k+1=>by rw[List.replicate_succ',←List.append_assoc,pQ,rG l k]
theorem tN(l:List Nat){x:Nat}(h:x≠0):kj (l++[x])=l++[x]:=by simp[kj,h]
theorem tO(xs:List Nat):xs=[]∨(∃ys,xs=ys++[0])∨(∃ys y,y≠0∧xs=ys++[y]):=by
 rcases List.eq_nil_or_concat xs with rfl|⟨ys,y,rfl⟩
 ·exact .inl rfl
 ·by_cases hy:y=0
  ·subst hy;exact .inr (.inl ⟨ys,by simp⟩)
  ·exact .inr (.inr ⟨ys,y,hy,by simp⟩)
theorem we:∀(n:Nat) (l:List Nat),l.length=n→∃k,l=kj l++List.replicate k 0:=by
 intro n
 induction n with
 |zero=>intro l h;obtain rfl:=List.length_eq_zero_iff.1 h;exact⟨0,rfl⟩
 |succ n ih=>
  intro l h
  rcases tO l with rfl|⟨ys,rfl⟩|⟨ys,y,hy,rfl⟩
  ·simp at h
  ·obtain⟨k,hk⟩:=ih ys (by simpa using h)
   refine⟨k+1,?_⟩
   rw[pQ,List.replicate_succ',←List.append_assoc,←hk]
  ·exact⟨0,by rw[tN _ hy];simp⟩
theorem HE{l:List Nat}{x:Nat}(h:x∈kj l):x∈l:=by
 obtain⟨k,hk⟩:=we _ l rfl
 rw[hk];exact List.mem_append_left _ h
theorem Bx(l:List Nat):(kj l).length≤l.length:=by
 obtain⟨k,hk⟩:=we _ l rfl
 have:=congrArg List.length hk
 rw[List.length_append]at this;omega
theorem By(B:Nat):∀k,val B (List.replicate k 0)=0
 |0=>rfl
 |k+1=>by rw[List.replicate_succ,val,By B k];simp
theorem K0(B:Nat)(l:List Nat):val B (kj l)=val B l:=by
 obtain⟨k,hk⟩:=we _ l rfl
 conv=>rhs;rw[hk,CE,By]
 simp
theorem D9{B:Nat}(hB:2≤B){n v:Nat}(h:v<B^n):kj (eI B n v)=can B v:=by
 have hv:=pP hB v
 rcases Nat.le_total n v with hn|hn
 ·obtain⟨k,rfl⟩:=Nat.exists_eq_add_of_le hn
  rw[can,z4 (by omega) n k _ h,rG]
 ·obtain⟨k,rfl⟩:=Nat.exists_eq_add_of_le hn
  rw[can,z4 (by omega) v k _ hv,rG]
theorem oF{B:Nat}(hB:2≤B){l:List Nat}(h:∀x∈l,x<B):kj l=can B (val B l):=by
 conv=>lhs;rw[←xQ l h]
 exact D9 hB (iw l h)
theorem pR{B:Nat}(hB:2≤B)(v:Nat):val B (can B v)=v:=by
 rw[can,K0,kn,Nat.mod_eq_of_lt (pP hB v)]
theorem ko{B:Nat}(hB:2≤B){v x:Nat}(h:x∈can B v):x<B:=lS (by omega) v v x (HE h)
theorem rH(B:Nat):can B 0=[]:=rfl
theorem CF{B:Nat}(hB:2≤B){v:Nat}(h:can B v=[]):v=0:=by have:=pR hB v;rw[h]at this;exact this.symm
theorem MT{B:Nat}(hB:2≤B){v n:Nat}(h:v<B^n):(can B v).length≤n:=by
 rw[←D9 hB h]
 have:=Bx (eI B n v)
 rwa[aV]at this
theorem MU{B:Nat}(hB:2≤B)(v:Nat):kj (can B v)=can B v:=by
 rw[oF hB (fun x hx=>ko hB hx),pR hB]
theorem MV{B:Nat}(hB:2≤B)(v:Nat):can B v=eI B (can B v).length v:=by
 have:=xQ (can B v) (fun x hx=>ko hB hx)
 rw[pR hB]at this;exact this.symm
theorem di{B:Nat}(hB:2≤B)(v:Nat):v<B^(can B v).length:=by
 have:=iw (can B v) (fun x hx=>ko hB hx)
 rwa[pR hB]at this
theorem CG{B:Nat}(hB:2≤B){v j:Nat}(h:j<(can B v).length):(can B v)[j]? =some (v/B^j%B):=by
 rw[MV hB v]at h⊢
 rw[aV]at h
 exact u0 _ _ _ h
theorem z5{B:Nat}(hB:2≤B){v j:Nat}(h:(can B v).length≤j):v/B^j=0:=by
 refine Nat.div_eq_of_lt (Nat.lt_of_lt_of_le (di hB v) ?_)
 exact Nat.pow_le_pow_right (by omega) h
theorem Ea{B:Nat}(hB:2≤B){v:Nat}(h:v≠0):∃l x,x≠0∧can B v=l++[x]:=by
 rcases tO (can B v)with e|⟨ys,e⟩|⟨ys,y,hy,e⟩
 ·exact absurd (CF hB e) h
 ·exfalso
  have h1:=MU hB v
  rw[e,pQ]at h1
  have h2:=Bx ys
  rw[h1]at h2;simp at h2;omega
 ·exact⟨ys,y,hy,e⟩
theorem sM{B:Nat}(hB:2≤B){v n:Nat}(h:n<(can B v).length):B^n≤v:=by
 by_cases h0:v=0
 ·subst h0;simp[rH]at h
 obtain⟨l,x,hx,e⟩:=Ea hB h0
 have h1:=pR hB v
 rw[e,CE]at h1
 have hl:n≤l.length:=by rw[e]at h;simp at h;omega
 have h2:B^n≤B^l.length:=Nat.pow_le_pow_right (by omega) hl
 have h3:B^l.length≤B^l.length*val B [x]:=Nat.le_mul_of_pos_right _ (by simp[val];omega)
 omega
theorem ep{B:Nat}(hB:2≤B){v n:Nat}:(can B v).length≤n↔v<B^n:=by
 refine⟨fun h=>?_,MT hB⟩
 exact Nat.lt_of_lt_of_le (di hB v) (Nat.pow_le_pow_right (by omega) h)
theorem K1{B:Nat}(hB:2≤B){l:List Nat}{x:Nat}(hx:x≠0)(h:∀y∈l++[x],y<B):l++[x]=can B (val B (l++[x])):=by
 rw[←oF hB h,tN _ hx]
theorem oG{B:Nat}:∀(l:List Nat),(∀x∈l,x<B)→∀k,l.getD k 0=val B l/B^k%B
 |[],_,k=>by simp[val]
 |x::l,h,0=>by
  have h2:=h x (by simp)
  simp[val,Nat.add_mul_mod_self_left,Nat.mod_eq_of_lt h2]
 |x::l,h,k+1=>by
  have h2:=h x (by simp)
  have hB:0<B:=by omega
  rw[List.getD_cons_succ,oG l (fun y hy=>h y (List.mem_cons_of_mem _ hy)) k,val,Nat.pow_succ,Nat.mul_comm (B^k) B,←Nat.div_div_eq_div_mul,Nat.add_mul_div_left _ _ hB,Nat.div_eq_of_lt h2,Nat.zero_add]
theorem fK(B V k:Nat):V%B^(k+1)=V%B^k+B^k*(V/B^k%B):=by
 rw[Nat.pow_succ,Nat.mod_mul]
def CS(B V W k:Nat):Nat:=(V%B^k+W%B^k)/B^k
theorem FH{B:Nat}(hB:0<B)(V W k:Nat):CS B V W k≤1:=by
 have hP:0<B^k:=Nat.pow_pos hB
 have h1:=Nat.mod_lt V hP
 have h2:=Nat.mod_lt W hP
 have:CS B V W k<2:=by rw[CS,Nat.div_lt_iff_lt_mul hP];omega
 omega
theorem Eb{B:Nat}(hB:0<B)(V W k:Nat):(V/B^k%B+W/B^k%B+CS B V W k)/B=CS B V W (k+1):=by
 have hP:0<B^k:=Nat.pow_pos hB
 rw[CS,CS,fK,fK,Nat.pow_succ,←Nat.div_div_eq_div_mul]
 congr 1
 rw[show V%B^k+B^k*(V/B^k%B)+(W%B^k+B^k*(W/B^k%B))=(V%B^k+W%B^k)+B^k*(V/B^k%B+W/B^k%B) by rw[Nat.mul_add];omega,Nat.add_mul_div_left _ _ hP]
 omega
theorem CH{B:Nat}(hB:0<B)(V W k:Nat):(V/B^k%B+W/B^k%B+CS B V W k)%B=(V+W)/B^k%B:=by
 have hP:0<B^k:=Nat.pow_pos hB
 have h:(V+W)/B^k=V/B^k+W/B^k+CS B V W k:=by
  have e1:=Nat.div_add_mod V (B^k)
  have e2:=Nat.div_add_mod W (B^k)
  rw[CS]
  conv=>lhs;rw[←e1,←e2]
  rw[show B^k*(V/B^k)+V%B^k+(B^k*(W/B^k)+W%B^k)=(V%B^k+W%B^k)+B^k*(V/B^k+W/B^k) by rw[Nat.mul_add];omega,Nat.add_mul_div_left _ _ hP]
  omega
 rw[h]
 simp[Nat.add_mod]
theorem MW{B:Nat}{V W k:Nat}(hV:V<B^k)(hW:W<B^k):CS B V W k=(V+W)/B^k:=by
 rw[CS,Nat.mod_eq_of_lt hV,Nat.mod_eq_of_lt hW]
theorem Ec(B V W:Nat):CS B V W 0=0:=by simp[CS,Nat.mod_one]
def xu(B V W k:Nat):Nat:=(V%B^k+B^k-W%B^k)/B^k
theorem Ed(B V W:Nat):xu B V W 0=1:=by simp[xu,Nat.mod_one]
theorem K9{B:Nat}(hB:0<B)(V W k:Nat):xu B V W k≤1:=by
 have hP:0<B^k:=Nat.pow_pos hB
 have h1:=Nat.mod_lt V hP
 have:xu B V W k<2:=by
  rw[xu,Nat.div_lt_iff_lt_mul hP]
  generalize W%B^k=y at*
  generalize V%B^k=x at*
  omega
 omega
theorem Gs{B:Nat}(hB:0<B)(V W k:Nat):V%B^(k+1)+B^(k+1)-W%B^(k+1)=(V%B^k+B^k-W%B^k)+B^k*(V/B^k%B+(B-1-W/B^k%B)):=by
 have hP:0<B^k:=Nat.pow_pos hB
 have h1:=Nat.mod_lt V hP
 have h2:=Nat.mod_lt W hP
 have h3:=Nat.mod_lt (W/B^k) hB
 rw[fK,fK,Nat.pow_succ]
 generalize B^k=p at*
 generalize V/p%B=x at*
 generalize W/p%B=y at*
 obtain⟨z,rfl⟩:∃z,B=y+1+z:=⟨B-y-1,by omega⟩
 have e1:y+1+z-1-y=z:=by omega
 rw[e1,Nat.mul_add p x z,Nat.mul_add p (y+1) z,Nat.mul_add p y 1]
 omega
theorem Ee{B:Nat}(hB:0<B)(V W k:Nat):(V/B^k%B+(B-1-W/B^k%B)+xu B V W k)/B=xu B V W (k+1):=by
 have hP:0<B^k:=Nat.pow_pos hB
 rw[xu,xu,Gs hB,Nat.pow_succ,←Nat.div_div_eq_div_mul,Nat.add_mul_div_left _ _ hP]
 congr 1
 omega
theorem FI{Q V W:Nat}(hQ:0<Q)(h:W≤V):(V%Q+Q-W%Q)%Q=(V-W)%Q:=by
 have e1:=Nat.div_add_mod V Q
 have e2:=Nat.div_add_mod W Q
 have h1:=Nat.mod_lt V hQ
 have h2:=Nat.mod_lt W hQ
 have hq:W/Q≤V/Q:=Nat.div_le_div_right h
 generalize V%Q=r at*
 generalize W%Q=s at*
 generalize V/Q=a at*
 generalize W/Q=b at*
 obtain⟨c,rfl⟩:=Nat.exists_eq_add_of_le hq
 rw[Nat.mul_add]at e1
 rcases Nat.lt_or_ge r s with S5|S5
 ·cases c with
  |zero=>simp at e1;omega
  |succ c=>
   rw[Nat.mul_add,Nat.mul_one]at e1
   rw[show V-W=Q*c+(r+Q-s) by omega,Nat.mul_add_mod]
 ·rw[show V-W=Q*c+(r-s) by omega,Nat.mul_add_mod,show r+Q-s=r-s+Q by omega,Nat.add_mod_right]
theorem Gt{B:Nat}(hB:0<B){V W:Nat}(h:W≤V)(k:Nat):(V/B^k%B+(B-1-W/B^k%B)+xu B V W k)%B=(V-W)/B^k%B:=by
 have hP:0<B^k:=Nat.pow_pos hB
 have hQ:0<B^(k+1):=Nat.pow_pos hB
 have e:=FI hQ h
 have e2:V/B^k%B+(B-1-W/B^k%B)+xu B V W k=(V%B^(k+1)+B^(k+1)-W%B^(k+1))/B^k:=by
  rw[Gs hB,Nat.add_mul_div_left _ _ hP,xu];omega
 rw[e2,←Nat.mod_mul_right_div_self,←Nat.mod_mul_right_div_self,←Nat.pow_succ,e]
end Go.Fw
namespace Go.Fw
theorem Gu{B:Nat}(hB:0<B):∀(j N lo p d hi:Nat),lo<B^j→p<B→d<B→j<N→(eI B N (lo+B^j*(p+B*hi))).set j d=eI B N (lo+B^j*(d+B*hi))
 |0,N+1,lo,p,d,hi,hlo,hp,hd,_=>by
  have:lo=0:=by simpa using hlo
  subst this
  simp only[Nat.pow_zero,Nat.zero_add,Nat.one_mul,eI,List.set_cons_zero,Nat.add_mul_mod_self_left,Nat.mod_eq_of_lt hd]
  rw[Nat.add_mul_div_left _ _ hB,Nat.add_mul_div_left _ _ hB,Nat.div_eq_of_lt hp,Nat.div_eq_of_lt hd]
 |j+1,N+1,lo,p,d,hi,hlo,hp,hd,hN=>by
  have e:∀q,(lo+B^(j+1)*(q+B*hi))%B=lo%B:=fun q=>by
   rw[Nat.pow_succ,Nat.mul_comm (B^j) B,Nat.mul_assoc,Nat.add_mul_mod_self_left]
  have e2:∀q,(lo+B^(j+1)*(q+B*hi))/B=lo/B+B^j*(q+B*hi):=fun q=>by
   rw[Nat.pow_succ,Nat.mul_comm (B^j) B,Nat.mul_assoc,Nat.add_mul_div_left _ _ hB]
  have ZB:lo/B<B^j:=by rw[Nat.div_lt_iff_lt_mul hB];rwa[Nat.pow_succ]at hlo
  rw[eI,eI,List.set_cons_succ,e,e,e2,e2,Gu hB j N (lo/B) p d hi ZB hp hd (by omega)]
theorem r6{B:Nat}(hB:0<B){N j u u' d:Nat}(hj:j<N)(hd:d<B)(hlo:u'%B^j=u%B^j)(R5:u'/B^j%B=d)(hhi:u'/B^(j+1)=u/B^(j+1)):(eI B N u).set j d=eI B N u':=by
 have hP:0<B^j:=Nat.pow_pos hB
 have f:∀u,u=u%B^j+B^j*(u/B^j%B+B*(u/B^(j+1))):=fun u=>by
  have e1:=Nat.mod_add_div u (B^j)
  have e2:=HF B u j
  rw[Nat.add_comm]at e2
  rw[←e2,e1]
 rw[f u,Gu hB j N _ _ d _ (Nat.mod_lt _ hP) (Nat.mod_lt _ hB) hd hj]
 conv=>rhs;rw[f u',hlo,R5,hhi]
where
 HF (B v m:Nat):v/B^m=B*(v/B^(m+1))+v/B^m%B:=by
  rw[Nat.pow_succ,←Nat.div_div_eq_div_mul,Nat.div_add_mod]
def mT(B V W i k:Nat):Nat:=((V%B^i)*W)%B^(i+k)+B^i*(V/B^i%B)*(W%B^k)
def mC(B V W i k:Nat):Nat:=mT B V W i k/B^(i+k)
def mV(B V W i k:Nat):Nat:=mT B V W i k%B^(i+k)+B^(i+k)*(((V%B^i)*W)/B^(i+k))
theorem OS{B:Nat}(hB:0<B)(V W i k:Nat):mT B V W i k<B^(i+k)*B:=by
 have h1:((V%B^i)*W)%B^(i+k)<B^(i+k):=Nat.mod_lt _ (Nat.pow_pos hB)
 have h2:V/B^i%B<B:=Nat.mod_lt _ hB
 have h3:W%B^k<B^k:=Nat.mod_lt _ (Nat.pow_pos hB)
 have h4:B^i*(V/B^i%B)*(W%B^k)≤B^i*(B-1)*B^k:=Nat.mul_le_mul (Nat.mul_le_mul_left _ (by omega)) (Nat.le_of_lt h3)
 have h5:B^i*(B-1)*B^k=B^(i+k)*(B-1):=by rw[Nat.pow_add,Nat.mul_assoc,Nat.mul_assoc,Nat.mul_comm (B-1)]
 have h6:B^(i+k)*B=B^(i+k)*(B-1)+B^(i+k):=by
  obtain⟨b,rfl⟩:∃b,B=b+1:=⟨B-1,by omega⟩
  rw[Nat.add_sub_cancel,Nat.mul_add,Nat.mul_one]
 unfold mT
 omega
theorem OT{B:Nat}(hB:0<B)(V W i k:Nat):mC B V W i k<B:=by
 rw[mC,Nat.div_lt_iff_lt_mul (Nat.pow_pos hB),Nat.mul_comm];exact OS hB V W i k
theorem CI{B:Nat}(V W i k:Nat):mT B V W i (k+1)=mT B V W i k+B^(i+k)*(((V%B^i)*W)/B^(i+k)%B+(V/B^i%B)*(W/B^k%B)):=by
 have e1:((V%B^i)*W)%B^(i+(k+1))=((V%B^i)*W)%B^(i+k)+B^(i+k)*(((V%B^i)*W)/B^(i+k)%B):=by rw[←Nat.add_assoc,fK]
 have e2:W%B^(k+1)=W%B^k+B^k*(W/B^k%B):=fK B W k
 unfold mT
 rw[e1,e2,Nat.mul_add,Nat.mul_add (B^(i+k))]
 have e3:B^i*(V/B^i%B)*(B^k*(W/B^k%B))=B^(i+k)*((V/B^i%B)*(W/B^k%B)):=by
  rw[Nat.pow_add,Nat.mul_assoc,Nat.mul_assoc,Nat.mul_left_comm (V/B^i%B)]
 omega
theorem MX{B:Nat}(hB:0<B)(V W i k:Nat):(((V%B^i)*W)/B^(i+k)%B+(V/B^i%B)*(W/B^k%B)+mC B V W i k)/B=mC B V W i (k+1):=by
 have hP:0<B^(i+k):=Nat.pow_pos hB
 rw[mC,mC,CI,←Nat.add_assoc,Nat.pow_succ,←Nat.div_div_eq_div_mul,Nat.add_mul_div_left _ _ hP]
 congr 1;omega
theorem OU{B:Nat}(V W i k:Nat):mV B V W i k%B^(i+k)=mT B V W i k%B^(i+k):=by
 rw[mV,Nat.add_mul_mod_self_left,Nat.mod_mod]
theorem Gv{B:Nat}(hB:0<B)(V W i k:Nat):mV B V W i k/B^(i+k)=((V%B^i)*W)/B^(i+k):=by
 have hP:0<B^(i+k):=Nat.pow_pos hB
 rw[mV,Nat.add_mul_div_left _ _ hP,Nat.div_eq_of_lt (Nat.mod_lt _ hP),Nat.zero_add]
theorem R6{B:Nat}(hB:0<B){V W i k N:Nat}(h:i+k<N):(eI B N (mV B V W i k))[i+k]? =some (((V%B^i)*W)/B^(i+k)%B):=by
 rw[u0 _ _ _ h,Gv hB]
theorem MY{B:Nat}(hB:0<B){V W i k N:Nat}(h:i+k<N):
  (eI B N (mV B V W i k)).set (i+k) ((((V%B^i)*W)/B^(i+k)%B+(V/B^i%B)*(W/B^k%B)+mC B V W i k)%B)=eI B N (mV B V W i (k+1)):=by
 have hP:0<B^(i+k):=Nat.pow_pos hB
 have hPB:B^(i+(k+1))=B^(i+k)*B:=by rw[←Nat.add_assoc,Nat.pow_succ]
 have hs:mT B V W i (k+1)/B^(i+k)=((V%B^i)*W)/B^(i+k)%B+(V/B^i%B)*(W/B^k%B)+mC B V W i k:=by
  rw[CI,Nat.add_mul_div_left _ _ hP,mC];omega
 have ht:mT B V W i (k+1)%B^(i+k)=mT B V W i k%B^(i+k):=by rw[CI,Nat.add_mul_mod_self_left]
 refine r6 hB h (Nat.mod_lt _ hB) ?_ ?_ ?_
 ·rw[OU,←ht,mV,hPB,Nat.mul_assoc,Nat.add_mul_mod_self_left,Nat.mod_mul_right_mod]
 ·rw[mV,hPB,Nat.mul_assoc,Nat.add_mul_div_left _ _ hP,Nat.add_mul_mod_self_left,Nat.mod_mul_right_div_self,Nat.mod_mod,hs]
 ·rw[show i+k+1=i+(k+1) by omega,Gv hB,show i+(k+1)=i+k+1 by omega,Nat.pow_succ,←Nat.div_div_eq_div_mul,←Nat.div_div_eq_div_mul,Gv hB]
theorem MZ{B:Nat}(V W i:Nat):mV B V W i 0=(V%B^i)*W:=by
 rw[mV,mT,Nat.pow_zero,Nat.mod_one,Nat.mul_zero,Nat.add_zero,Nat.add_zero,Nat.mod_mod,Nat.mod_add_div]
theorem M1{B:Nat}(hB:0<B)(V W i:Nat):mC B V W i 0=0:=by
 rw[mC,mT,Nat.pow_zero,Nat.mod_one,Nat.mul_zero,Nat.add_zero,Nat.add_zero]
 exact Nat.div_eq_of_lt (Nat.mod_lt _ (Nat.pow_pos hB))
theorem R7{B:Nat}(hB:0<B){V W i n N:Nat}(hW:W<B^n)(h:i+n<N):(eI B N (mV B V W i n)).set (i+n) ((0+mC B V W i n)%B)=eI B N ((V%B^(i+1))*W):=by
 have hP:0<B^(i+n):=Nat.pow_pos hB
 have hp:(V%B^i)*W<B^(i+n):=by
  have h1:V%B^i<B^i:=Nat.mod_lt _ (Nat.pow_pos hB)
  rw[Nat.pow_add]
  by_cases h0:W=0
  ·subst h0;rw[Nat.mul_zero];exact Nat.mul_pos (Nat.pow_pos hB) (Nat.pow_pos hB)
  ·calc (V%B^i)*W<B^i*W:=Nat.mul_lt_mul_of_pos_right h1 (by omega)
    _≤B^i*B^n:=Nat.mul_le_mul_left _ (Nat.le_of_lt hW)
 have hT:mT B V W i n=(V%B^(i+1))*W:=by
  rw[mT,Nat.mod_eq_of_lt hp,Nat.mod_eq_of_lt hW,fK,Nat.add_mul]
 have hlt:=OS hB V W i n
 rw[hT]at hlt
 refine r6 hB h (Nat.mod_lt _ hB) ?_ ?_ ?_
 ·rw[OU,hT]
 ·rw[Nat.zero_add,mC,hT]
 ·rw[Nat.pow_succ B (i+n),Nat.div_eq_of_lt hlt,←Nat.div_div_eq_div_mul,Gv hB,Nat.div_eq_of_lt hp,Nat.zero_div]
def sT(B V f e i:Nat):Nat:=V%B^i*f+e
def sC(B V f e i:Nat):Nat:=sT B V f e i/B^i
theorem Gw(B V f e:Nat):sC B V f e 0=e:=by simp[sC,sT,Nat.mod_one]
theorem Gx(B V f e i:Nat):sT B V f e (i+1)=sT B V f e i+B^i*(V/B^i%B*f):=by
 unfold sT
 rw[fK,Nat.add_mul,Nat.mul_assoc];omega
theorem Gy{B:Nat}(hB:0<B)(V f e i:Nat):(V/B^i%B*f+sC B V f e i)/B=sC B V f e (i+1):=by
 have hP:0<B^i:=Nat.pow_pos hB
 rw[sC,sC,Gx,Nat.pow_succ,←Nat.div_div_eq_div_mul,Nat.add_mul_div_left _ _ hP]
 congr 1;omega
theorem La{B:Nat}(hB:0<B)(V f e i:Nat):(V/B^i%B*f+sC B V f e i)%B=(V*f+e)/B^i%B:=by
 have hP:0<B^i:=Nat.pow_pos hB
 have h1:V*f+e=sT B V f e (i+1)+B^i*(B*(V/B^(i+1)*f)):=by
  have e1:=Nat.mod_add_div V (B^(i+1))
  unfold sT
  conv=>lhs;rw[←e1,Nat.add_mul]
  rw[Nat.pow_succ,Nat.mul_assoc,Nat.mul_assoc];omega
 rw[h1,Nat.add_mul_div_left _ _ hP,Nat.add_mul_mod_self_left,Gx,Nat.add_mul_div_left _ _ hP,sC,Nat.add_comm]
theorem OV{B:Nat}(hB:0<B){V f e:Nat}(hf:f<B)(he:e<B)(i:Nat):sC B V f e i<B:=by
 have hP:0<B^i:=Nat.pow_pos hB
 rw[sC,Nat.div_lt_iff_lt_mul hP]
 have h1:V%B^i≤B^i-1:=by have:=Nat.mod_lt V hP;omega
 have h2:V%B^i*f≤(B^i-1)*(B-1):=Nat.mul_le_mul h1 (by omega)
 obtain⟨p,hp⟩:∃p,B^i=p+1:=⟨B^i-1,by omega⟩
 obtain⟨b,rfl⟩:∃b,B=b+1:=⟨B-1,by omega⟩
 unfold sT
 rw[hp]at h2⊢
 rw[Nat.add_sub_cancel,Nat.add_sub_cancel]at h2
 have h3:(b+1)*(p+1)=p*b+b+p+1:=by rw[Nat.add_mul,Nat.mul_add,Nat.mul_comm b p];omega
 omega
theorem R8{B V f e i:Nat}(h:V<B^i):sC B V f e i=(V*f+e)/B^i:=by rw[sC,sT,Nat.mod_eq_of_lt h]
def sU(B V f e i:Nat):Nat:=sT B V f e i%B^i+B^i*(V/B^i)
def qU(B V d n:Nat):Nat:=V%B^n+B^n*(V/B^n/d)
theorem M3(B V d:Nat):qU B V d 0=V/d:=by simp[qU,Nat.mod_one]
theorem R9{B V d n:Nat}(h:V<B^n):qU B V d n=V:=by simp[qU,Nat.mod_eq_of_lt h,Nat.div_eq_of_lt h]
theorem M4(B V m:Nat):V/B^m=B*(V/B^(m+1))+V/B^m%B:=by rw[Nat.pow_succ,←Nat.div_div_eq_div_mul,Nat.div_add_mod]
theorem OW{B d:Nat}(V m:Nat):V/B^m=(V/B^(m+1)%d*B+V/B^m%B)+d*(B*(V/B^(m+1)/d)):=by
 have h1:=M4 B V m
 have h2:=Nat.mod_add_div (V/B^(m+1)) d
 generalize V/B^(m+1)=q at*
 generalize V/B^m%B=y at*
 rw[h1]
 conv=>lhs;rw[←h2]
 rw[Nat.mul_add,Nat.mul_left_comm B d,Nat.mul_comm B (q%d)];omega
theorem Vj{B d:Nat}(hd:0<d)(V m:Nat):V/B^m/d=B*(V/B^(m+1)/d)+(V/B^(m+1)%d*B+V/B^m%B)/d:=by
 conv=>lhs;rw[OW (B:=B) (d:=d) V m]
 rw[Nat.add_mul_div_left _ _ hd,Nat.add_comm]
theorem Vk{B d:Nat}(V m:Nat):V/B^m%d=(V/B^(m+1)%d*B+V/B^m%B)%d:=by
 conv=>lhs;rw[OW (B:=B) (d:=d) V m]
 rw[Nat.add_mul_mod_self_left]
theorem Vl{B d:Nat}(hB:0<B)(hd:0<d)(V m:Nat):V/B^(m+1)%d*B+V/B^m%B<d*B:=by
 have h1:=Nat.mod_lt (V/B^(m+1)) hd
 have h2:=Nat.mod_lt (V/B^m) hB
 have h3:(V/B^(m+1)%d+1)*B≤d*B:=Nat.mul_le_mul_right _ h1
 rw[Nat.add_mul]at h3;omega
theorem Lb{B:Nat}(hB:0<B)(V d n:Nat):qU B V d n/B^n=V/B^n/d:=by
 have hP:0<B^n:=Nat.pow_pos hB
 rw[qU,Nat.add_mul_div_left _ _ hP,Nat.div_eq_of_lt (Nat.mod_lt _ hP),Nat.zero_add]
theorem Vm(B V d n:Nat):qU B V d n%B^n=V%B^n:=by rw[qU,Nat.add_mul_mod_self_left,Nat.mod_mod]
theorem M5{B:Nat}(V d m:Nat):qU B V d (m+1)%B^m=V%B^m:=by
 rw[qU,Nat.pow_succ,Nat.mul_assoc,Nat.add_mul_mod_self_left,Nat.mod_mul_right_mod]
theorem Sa{B:Nat}(hB:0<B){V d m N:Nat}(h:m<N):(eI B N (qU B V d (m+1)))[m]? =some (V/B^m%B):=by
 have hP:0<B^m:=Nat.pow_pos hB
 rw[u0 _ _ _ h,qU,Nat.pow_succ,Nat.mul_assoc,Nat.add_mul_div_left _ _ hP,Nat.add_mul_mod_self_left,Nat.mod_mul_right_div_self,Nat.mod_mod]
theorem M6{B:Nat}(hB:0<B){V d m N:Nat}(hd:0<d)(h:m<N):(eI B N (qU B V d (m+1))).set m ((V/B^(m+1)%d*B+V/B^m%B)/d)=eI B N (qU B V d m):=by
 have hx:(V/B^(m+1)%d*B+V/B^m%B)/d<B:=by rw[Nat.div_lt_iff_lt_mul hd,Nat.mul_comm B d];exact Vl hB hd V m
 have hq:=Vj (B:=B) hd V m
 refine r6 hB h hx ?_ ?_ ?_
 ·rw[Vm,M5]
 ·rw[Lb hB,hq,Nat.mul_add_mod,Nat.mod_eq_of_lt hx]
 ·rw[Lb hB,Nat.pow_succ,←Nat.div_div_eq_div_mul,Lb hB,hq,Nat.mul_add_div hB,Nat.div_eq_of_lt hx,←Nat.pow_succ];rfl
end Go.Fw
namespace Go.Fw
theorem M7{B v:Nat}(hB:2≤B)(h0:v≠0)(h:v<B):can B v=[v]:=by
 have:=K1 hB (l:=[]) h0 (by simpa using h)
 simpa[val]using this.symm
theorem M8{B v:Nat}(hB:2≤B)(h0:v/B≠0)(h:v<B*B):can B v=[v%B,v/B]:=by
 have h1:v/B<B:=by rw[Nat.div_lt_iff_lt_mul (by omega)];exact h
 have h2:v%B<B:=Nat.mod_lt _ (by omega)
 have:=K1 hB (l:=[v%B]) h0 (by simp;exact⟨h2,h1⟩)
 simp only[List.cons_append,List.nil_append,val,Nat.mul_zero,Nat.add_zero]at this
 rw[Nat.mod_add_div]at this
 exact this.symm
theorem nB{B:Nat}{l:List Nat}(h:∀x∈l,x<B){i:Nat}(hi:i<l.length):l[i]? =some (val B l/B^i%B):=by
 rw[←oG l h i];simp[List.getD,hi]
def AQ(v w:Nat):Int:=if v<w then-1 else if v=w then 0 else 1
theorem vc{v w:Nat}(h:v<w):AQ v w=-1:=by simp[AQ,h]
theorem CJ(v:Nat):AQ v v=0:=by simp[AQ]
theorem xR{v w:Nat}(h:w<v):AQ v w=1:=by
 have h1:¬v<w:=by omega
 have h2:¬v=w:=by omega
 simp[AQ,h1,h2]
theorem z6{B v w:Nat}(hB:2≤B)(h:(can B v).length<(can B w).length):v<w:=
 Nat.lt_of_lt_of_le (di hB v) (sM hB h)
theorem Ef(B v m:Nat):v/B^m=B*(v/B^(m+1))+v/B^m%B:=by
 rw[Nat.pow_succ,←Nat.div_div_eq_div_mul,Nat.div_add_mod]
theorem Bz{B v w m:Nat}(h:v/B^m<w/B^m):v<w:=by
 rcases Nat.lt_or_ge v w with h1|h1
 ·exact h1
 ·have:=Nat.div_le_div_right (c:=B^m) h1;omega
theorem HG{B v w m:Nat}(h:v/B^(m+1)=w/B^(m+1)):(v/B^m%B=w/B^m%B∧v/B^m=w/B^m)∨(v/B^m%B<w/B^m%B∧v<w)∨(w/B^m%B<v/B^m%B∧w<v):=by
 have h1:=Ef B v m
 have h2:=Ef B w m
 rw[←h]at h2
 rcases Nat.lt_trichotomy (v/B^m%B) (w/B^m%B)with h3|h3|h3
 ·exact .inr (.inl ⟨h3,Bz (B:=B) (m:=m) (by omega)⟩)
 ·exact .inl ⟨h3,by omega⟩
 ·exact .inr (.inr ⟨h3,Bz (B:=B) (m:=m) (by omega)⟩)
end Go.Fw
namespace Go.Proofs.Ytningmnklfpfjaa
open Go.Fw
theorem xS(l:List Nat)(hl:l.length≤1000000000000):aB l=some (kj l):=by
 unfold aB
 refine oE (fun y=>y.length≤1000000000000∧kj y=kj l) (fun e=>e=kj l) (fun y=>y.length) ?_ ⟨hl,rfl⟩ (fun e he=>by rw[he])
 rintro y ⟨hy,ht⟩
 rcases tO y with rfl|⟨ys,rfl⟩|⟨ys,x,hx,rfl⟩
 ·right;exact⟨[],by simp[cQ],ht⟩
 ·left
  have h1:((ys++[0]).length:Int)=((ys.length+1:Nat):Int):=by simp
  have h2:ys.length≤9223372036854775807:=by simp at hy;omega
  refine⟨ys,?_,⟨by simp at hy⊢;omega,by rw[←ht,pQ]⟩,by simp⟩
  simp only[cQ,Option.bind_some,h1,D8 h2]
  rw[aU (a:=0) (by simp),Bw (by simp)]
  simp
 ·right
  have h1:((ys++[x]).length:Int)=((ys.length+1:Nat):Int):=by simp
  have h2:ys.length≤9223372036854775807:=by simp at hy;omega
  refine⟨ys++[x],?_,by rw[←ht,tN _ hx]⟩
  simp only[cQ,Option.bind_some,h1,D8 h2]
  rw[aU (a:=x) (by simp)]
  simp[hx]
def zc(n:Bool)(v:Nat):Zr:=⟨n&&v != 0,can 4294967296 v⟩
theorem Gz(n:Bool):zc n 0=⟨false,[]⟩:=by simp[zc,rH]
theorem Lc(n:Bool){v:Nat}(h:v≠0):zc n v=⟨n,can 4294967296 v⟩:=by simp[zc,h]
def CT(l:List Nat):Prop:=(∀x∈l,x<4294967296)∧l.length≤100000000000
abbrev vl(l:List Nat):Nat:=val 4294967296 l
theorem jv(n:Bool)(l:List Nat)(h:CT l):bu n l=some (zc n (vl l)):=by
 unfold bu
 rw[xS l (by have:=h.2;omega),oF (by decide) h.1]
 show _=some (zc n (val 4294967296 l))
 by_cases hz:val 4294967296 l=0
 ·rw[hz,Gz];simp[rH]
 ·have:can 4294967296 (val 4294967296 l)≠[]:=fun e=>hz (CF (by decide) e)
  rw[Lc _ hz];simp[this]
theorem oH(n:Bool)(v:Nat)(h:v<18446744073709551616):cX n v=some (zc n v):=by
 unfold cX
 by_cases hz:v=0
 ·subst hz;simp[Gz]
 ·rw[Lc _ hz]
  by_cases h1:v/2^32=0
  ·rw[M7 (by decide) hz (by omega)]
   simp only[Option.bind_some,hz,h1,decide_false,decide_true,cond_false,cond_true]
   rw[Nat.mod_eq_of_lt (by omega)]
  ·rw[M8 (by decide) (by omega) (by omega)]
   simp only[Option.bind_some,hz,h1,decide_false,cond_false]
   rw[Nat.mod_eq_of_lt (a:=v/2^32) (by omega)]
theorem Ld{a b s:Nat}(h:a<2^s):a ||| b*2^s=a+b*2^s:=by
 rw[Nat.or_comm,Nat.mul_comm b,←Nat.two_pow_add_eq_or_of_lt h,Nat.add_comm]
theorem low_eq(l:List Nat)(h:∀x∈l,x<4294967296)(hl:l.length≤2):cV l=some (vl l):=by
 rcases l with _|⟨x,_|⟨y,_|⟨z,l⟩⟩⟩
 ·simp[cV,vl,val]
 ·have hx:=h x (by simp)
  simp only[cV,wc (l:=[x]) (a:=x) rfl]
  simp[vl,val];omega
 ·have hx:=h x (by simp)
  have hy:=h y (by simp)
  simp only[cV,wc (l:=[x,y]) (a:=x) rfl,KX (l:=[x,y]) (a:=y) rfl,Option.bind_some]
  rw[Nat.mod_eq_of_lt (a:=x) (by omega),Nat.mod_eq_of_lt (a:=y) (by omega),Nat.mod_eq_of_lt (a:=y*2^32) (by omega),Ld (by omega),Nat.mod_eq_of_lt (by omega)]
  simp[vl,val];omega
 ·simp at hl
theorem fO(x c:Nat)(h:x+c<18446744073709551616):aT x c=some ((x+c)%4294967296,(x+c)/4294967296):=by
 simp[aT,Nat.mod_eq_of_lt h]
theorem jz(v w:Nat)(hv:(can 4294967296 v).length≤100000000000)(hw:(can 4294967296 w).length≤100000000000):cc (can 4294967296 v) (can 4294967296 w)=some (AQ v w):=by
 unfold cc
 rcases Nat.lt_trichotomy (can 4294967296 v).length (can 4294967296 w).length with hl|hl|hl
 ·rw[vc (z6 (by decide) hl)]
  simp only[Option.bind_some]
  rw[show decide (((can 4294967296 v).length:Int)≠((can 4294967296 w).length:Int))=true by simp;omega,show decide (((can 4294967296 v).length:Int)<((can 4294967296 w).length:Int))=true by simp;omega];rfl
 ·simp only[Option.bind_some]
  rw[show decide (((can 4294967296 v).length:Int)≠((can 4294967296 w).length:Int))=false by simp;omega,cond_false]
  refine oE (fun y=>∃n:Nat,y=(n:Int)-1∧n≤(can 4294967296 v).length∧v/4294967296^n=w/4294967296^n) (fun e=>e=(if v=w then .inl ()else .inr (AQ v w))) (fun y=>(y+1).toNat) ?_ ⟨(can 4294967296 v).length,?_,Nat.le_refl _,?_⟩ ?_
  ·rintro y ⟨n,rfl,hn,he⟩
   cases n with
   |zero=>
    right
    have:v=w:=by simpa using he
    subst this
    exact⟨_,by simp,rfl⟩
   |succ m=>
    have CQ:=CG (B:=4294967296) (by decide) (v:=v) (j:=m) (by omega)
    have ZC:=CG (B:=4294967296) (by decide) (v:=w) (j:=m) (by omega)
    have e0:((m+1:Nat):Int)-1=(m:Int):=by omega
    rw[e0]
    rcases HG he with⟨h1,h2⟩|⟨h1,h2⟩|⟨h1,h2⟩
    ·left
     refine⟨(m:Int)-1,?_,⟨m,rfl,by omega,h2⟩,by omega⟩
     simp only[Option.bind_some,aU CQ,aU ZC,h1]
     rw[bZ (by omega) (by omega)]
     simp
    ·right
     refine⟨.inr (-1),?_,by rw[if_neg (by omega),vc h2]⟩
     simp only[Option.bind_some,aU CQ,aU ZC]
     simp[h1,Nat.ne_of_lt h1]
    ·right
     refine⟨.inr 1,?_,by rw[if_neg (by omega),xR h2]⟩
     simp only[Option.bind_some,aU CQ,aU ZC]
     simp[Nat.not_lt_of_lt h1,Nat.ne_of_gt h1]
  ·rw[bZ (by omega) (by omega)]
  ·rw[z5 (by decide) (Nat.le_refl _),z5 (by decide) (by omega)]
  ·rintro e rfl
   by_cases h:v=w
   ·subst h;simp[CJ]
   ·simp[h]
 ·rw[xR (z6 (by decide) hl)]
  simp only[Option.bind_some]
  rw[show decide (((can 4294967296 v).length:Int)≠((can 4294967296 w).length:Int))=true by simp;omega,show decide (((can 4294967296 v).length:Int)<((can 4294967296 w).length:Int))=false by simp;omega];rfl
theorem xT{l:List Nat}(h:∀x∈l,x<4294967296)(i:Nat):l.getD i 0<4294967296:=by
 rcases Nat.lt_or_ge i l.length with hi|hi
 ·exact h _ (List.mem_of_getElem? (qD hi))
 ·rw[s9 hi];decide
theorem wM(a b:List Nat)(ha:CT a)(hb:CT b):cK a b=some (eI 4294967296 (max a.length b.length+1) (vl a+vl b)):=by
 obtain⟨hA,hla⟩:=ha
 obtain⟨hB,hlb⟩:=hb
 have hV:val 4294967296 a<4294967296^(max a.length b.length):=Nat.lt_of_lt_of_le (iw a hA) (Nat.pow_le_pow_right (by decide) (by omega))
 have hW:val 4294967296 b<4294967296^(max a.length b.length):=Nat.lt_of_lt_of_le (iw b hB) (Nat.pow_le_pow_right (by decide) (by omega))
 unfold cK
 simp only[Option.bind_some]
 rw[show max (a.length:Int) (b.length:Int)=((max a.length b.length:Nat):Int) by omega,bK (by omega),z3 (by decide) (by omega),Option.bind_some]
 refine pO (fun k=>(CS 4294967296 (vl a) (vl b) k,eI 4294967296 k (vl a+vl b))) (by simp[Ec,eI]) (fun k hk=>?_) ?_
 ·have hx:=xT hA k
  have hy:=xT hB k
  have hc:=FH (B:=4294967296) (by decide) (vl a) (vl b) k
  have ZD:=oG a hA k
  have ZE:=oG b hB k
  simp only[Option.bind_some]
  rw[Nat.mod_eq_of_lt (a:=a.getD k 0) (by omega),Nat.mod_eq_of_lt (a:=b.getD k 0) (by omega),Nat.mod_eq_of_lt (a:=a.getD k 0+b.getD k 0) (by omega),fO _ _ (by omega)]
  simp only[Option.bind_some]
  rw[AP (by decide) (by rw[aV];omega),Option.bind_some,ZD,ZE,Eb (by decide),CH (by decide),←mU]
 ·have hc:=FH (B:=4294967296) (by decide) (vl a) (vl b) (max a.length b.length)
  simp only
  rw[fO _ _ (by omega)]
  simp only[Option.bind_some]
  rw[AP (by decide) (by rw[aV];omega),Option.bind_some,Nat.zero_add,MW hV hW,←mU]
theorem wN(a b:List Nat)(ha:CT a)(hb:CT b)(hl:b.length≤a.length)(hle:vl b≤vl a):bL a b=some (eI 4294967296 a.length (vl a-vl b)):=by
 obtain⟨hA,hla⟩:=ha
 obtain⟨hB,hlb⟩:=hb
 have hmx:max a.length b.length=a.length:=by omega
 unfold bL
 simp only[Option.bind_some]
 rw[z3 (by decide) (by omega),Option.bind_some,hmx]
 refine pO (fun k=>(xu 4294967296 (vl a) (vl b) k,eI 4294967296 k (vl a-vl b))) (by simp[Ed,eI]) (fun k hk=>?_) rfl
 have hx:=xT hA k
 have hy:=xT hB k
 have hc:=K9 (B:=4294967296) (by decide) (vl a) (vl b) k
 have ZD:=oG a hA k
 have ZE:=oG b hB k
 simp only[Option.bind_some]
 rw[Nat.mod_eq_of_lt (a:=a.getD k 0) (by omega),Nat.mod_eq_of_lt (a:=b.getD k 0) (by omega),pN (by omega) (by omega),Nat.mod_eq_of_lt (a:=a.getD k 0+(4294967295-b.getD k 0)) (by omega),fO _ _ (by omega)]
 simp only[Option.bind_some]
 rw[AP (by decide) (by rw[aV];omega),Option.bind_some,ZD,ZE,Ee (B:=4294967296) (by decide),Gt (B:=4294967296) (by decide) hle,←mU]
theorem Eg(a b:List Nat)(ha:CT a)(hb:CT b):dr a b=some (eI 4294967296 (a.length+b.length) (vl a*vl b)):=by
 obtain⟨hA,hla⟩:=ha
 obtain⟨hB,hlb⟩:=hb
 unfold dr
 simp only[Option.bind_some]
 rw[r5 (by omega),pM (by decide) (by omega),Option.bind_some]
 refine bh (fun i=>((i:Int),eI 4294967296 (a.length+b.length) (vl a%4294967296^i*vl b))) a.length (eI 4294967296 (a.length+b.length) (vl a%4294967296^a.length*vl b)) (by simp[Nat.mod_one,rF]) (fun i hi=>?_) (by simp) (by rw[Nat.mod_eq_of_lt (iw a hA)])
 have V8:=nB hA hi
 have hx:val 4294967296 a/4294967296^i%4294967296<4294967296:=Nat.mod_lt _ (by decide)
 simp only[Option.bind_some,show decide ((i:Int)<(a.length:Int))=true by simp;omega,cond_true]
 rw[aU V8,Option.bind_some]
 refine bh (fun k=>((k:Int),mC 4294967296 (vl a) (vl b) i k,eI 4294967296 (a.length+b.length) (mV 4294967296 (vl a) (vl b) i k))) b.length (mC 4294967296 (vl a) (vl b) i b.length,eI 4294967296 (a.length+b.length) (mV 4294967296 (vl a) (vl b) i b.length)) (by simp[M1,MZ]) (fun k hk=>?_) (by simp) ?_
 ·have hgy:=nB hB hk
  have V9:=R6 (B:=4294967296) (by decide) (V:=vl a) (W:=vl b) (i:=i) (k:=k) (N:=a.length+b.length) (by omega)
  have hy:val 4294967296 b/4294967296^k%4294967296<4294967296:=Nat.mod_lt _ (by decide)
  have hp:vl a%4294967296^i*vl b/4294967296^(i+k)%4294967296<4294967296:=Nat.mod_lt _ (by decide)
  have hc:=OT (B:=4294967296) (by decide) (vl a) (vl b) i k
  have hxy:val 4294967296 a/4294967296^i%4294967296*(val 4294967296 b/4294967296^k%4294967296)≤4294967295*4294967295:=Nat.mul_le_mul (by omega) (by omega)
  simp only[Option.bind_some,show decide ((k:Int)<(b.length:Int))=true by simp;omega,cond_true]
  rw[aU hgy,Option.bind_some,r5 (by omega),cj (by rw[aV];omega),Option.bind_some,V9,Option.bind_some]
  rw[Nat.mod_eq_of_lt (a:=vl a%4294967296^i*vl b/4294967296^(i+k)%4294967296) (by omega),Nat.mod_eq_of_lt (a:=val 4294967296 a/4294967296^i%4294967296) (b:=18446744073709551616) (by omega),Nat.mod_eq_of_lt (a:=val 4294967296 b/4294967296^k%4294967296) (b:=18446744073709551616) (by omega),Nat.mod_eq_of_lt (a:=val 4294967296 a/4294967296^i%4294967296*(val 4294967296 b/4294967296^k%4294967296)) (by omega),Nat.mod_eq_of_lt (a:=vl a%4294967296^i*vl b/4294967296^(i+k)%4294967296+_) (by omega),fO _ _ (by omega)]
  simp only[Option.bind_some]
  rw[e9 (by rw[aV];omega),Option.bind_some,MX (B:=4294967296) (by decide),MY (B:=4294967296) (by decide) (by omega),bK (by omega)]
 ·have hc:=OT (B:=4294967296) (by decide) (vl a) (vl b) i b.length
  simp only[Option.bind_some]
  rw[r5 (by omega),fO _ _ (by omega)]
  simp only[Option.bind_some]
  rw[cj (by rw[aV];omega),Option.bind_some,e9 (by rw[aV];omega),Option.bind_some,R7 (B:=4294967296) (by decide) (iw b hB) (by omega),bK (by omega)]
end Go.Proofs.Ytningmnklfpfjaa
namespace Go.Proofs.Ytningmnklfpfjaa
open Go.Fw
theorem M9{a b s:Nat}(h:a<2^s):b*2^s ||| a=b*2^s+a:=by rw[Nat.or_comm,Ld h,Nat.add_comm]
theorem GA{a b:Nat}(h:a<4294967296):b*4294967296 ||| a=b*4294967296+a:=M9 (s:=32) h
theorem Eh(a:List Nat)(d:Nat)(ha:CT a)(hd:0<d)(hd2:d≤4294967296):fY a d=some (vl a%d,eI 4294967296 a.length (vl a/d)):=by
 obtain⟨hA,hla⟩:=ha
 unfold fY
 simp only[Option.bind_some]
 rw[bZ (by omega) (by omega)]
 refine bh (fun i=>(vl a/4294967296^(a.length-i)%d,((a.length-i:Nat):Int)-1,eI 4294967296 a.length (qU 4294967296 (vl a) d (a.length-i)))) a.length (vl a%d,eI 4294967296 a.length (vl a/d)) ?_ (fun i hi=>?_) (by simp[M3]) ?_
 ·simp only[Nat.sub_zero]
  rw[R9 (iw a hA),xQ a hA,Nat.div_eq_of_lt (iw a hA),Nat.zero_mod]
 ·obtain⟨m,hm⟩:∃m,a.length-i=m+1:=⟨a.length-i-1,by omega⟩
  have hm':a.length-(i+1)=m:=by omega
  have hml:m<a.length:=by omega
  rw[hm,hm']
  have hy:vl a/4294967296^m%4294967296<4294967296:=Nat.mod_lt _ (by decide)
  have hr:vl a/4294967296^(m+1)%d<d:=Nat.mod_lt _ hd
  have hq:=Vl (B:=4294967296) (by decide) hd (vl a) m
  have hqd:(vl a/4294967296^(m+1)%d*4294967296+vl a/4294967296^m%4294967296)/d<4294967296:=by rw[Nat.div_lt_iff_lt_mul hd,Nat.mul_comm 4294967296 d];exact hq
  have hg:=Sa (B:=4294967296) (by decide) (V:=vl a) (d:=d) (m:=m) (N:=a.length) hml
  have hlt:vl a/4294967296^(m+1)%d*4294967296+vl a/4294967296^m%4294967296<18446744073709551616:=by omega
  have SR:vl a/4294967296^(m+1)%d*4294967296<18446744073709551616:=Nat.lt_of_le_of_lt (Nat.le_add_right _ _) hlt
  have Ap:vl a/4294967296^m%4294967296<18446744073709551616:=Nat.lt_of_le_of_lt (Nat.le_add_left _ _) hlt
  have Yk:((m+1:Nat):Int)-1=(m:Int):=by omega
  simp only[Yk,show decide ((0:Int)≤(m:Int))=true by simp,cond_true,Option.bind_some]
  rw[cj (by rw[aV];omega),Option.bind_some,hg]
  simp only[Option.bind_some]
  rw[show(2:Nat)^32=4294967296 from rfl]
  rw[Nat.mod_eq_of_lt (a:=vl a/4294967296^(m+1)%d*4294967296) SR,Nat.mod_eq_of_lt (a:=vl a/4294967296^m%4294967296) (b:=18446744073709551616) Ap,GA hy,Nat.mod_eq_of_lt (a:=vl a/4294967296^(m+1)%d*4294967296+vl a/4294967296^m%4294967296) hlt,CC (by omega) hlt,xP (by omega)]
  simp only[Option.bind_some]
  rw[Nat.mod_eq_of_lt (b:=4294967296) (a:=(vl a/4294967296^(m+1)%d*4294967296+vl a/4294967296^m%4294967296)/d) hqd,e9 (by rw[aV];omega),Option.bind_some,bZ (by omega) (by omega)]
  rw[M6 (B:=4294967296) (by decide) hd hml,←Vk (B:=4294967296) (d:=d) (vl a) m]
 ·simp only
  rw[oD (by rw[aV]),Option.bind_some]
theorem shiftLeft_eq(a:List Nat)(s:Nat)(ha:CT a)(hs:s<32):ez a s=some (eI 4294967296 (a.length+1) (vl a*2^s)):=by
 obtain⟨hA,hla⟩:=ha
 have hf:2^s<4294967296:=by
  have:2^s<2^32:=Nat.pow_lt_pow_right (by decide) hs
  omega
 unfold ez
 simp only[Option.bind_some]
 rw[bK (by omega),z3 (by decide) (by omega),Option.bind_some]
 refine bh (fun i=>((i:Int),sC 4294967296 (vl a) (2^s) 0 i,eI 4294967296 i (vl a*2^s+0))) a.length (sC 4294967296 (vl a) (2^s) 0 a.length,eI 4294967296 a.length (vl a*2^s+0)) (by simp[Gw,eI]) (fun i hi=>?_) (by simp) ?_
 ·have hx:vl a/4294967296^i%4294967296<4294967296:=Nat.mod_lt _ (by decide)
  have hc:=OV (B:=4294967296) (by decide) (V:=vl a) hf (show(0:Nat)<4294967296 by decide) i
  have hxf:vl a/4294967296^i%4294967296*2^s≤4294967295*4294967295:=Nat.mul_le_mul (by omega) (by omega)
  have hg:a[i]? =some (vl a/4294967296^i%4294967296):=nB hA hi
  simp only[show decide ((i:Int)<(a.length:Int))=true by simp;omega,cond_true]
  rw[aU hg]
  simp only[Option.bind_some]
  rw[show min s 64=s by omega,Nat.mod_eq_of_lt (a:=vl a/4294967296^i%4294967296) (b:=18446744073709551616) (by omega),Nat.mod_eq_of_lt (b:=18446744073709551616) (by omega),fO _ _ (by omega)]
  simp only[Option.bind_some]
  rw[AP (by decide) (by rw[aV];omega),Option.bind_some,Gy (B:=4294967296) (by decide),La (B:=4294967296) (by decide),bK (by omega),←mU]
 ·have hc:=OV (B:=4294967296) (by decide) (V:=vl a) hf (show(0:Nat)<4294967296 by decide) a.length
  simp only
  rw[fO _ _ (by omega)]
  simp only[Option.bind_some]
  rw[AP (by decide) (by rw[aV];omega),Option.bind_some,Nat.zero_add,R8 (iw a hA),←mU]
  simp
theorem AR(a:List Nat)(s:Nat):gE a s=ez a s:=rfl
def tQ:LH:=[0,1,2,2,3,3,3,3,4,4,4,4,4,4,4,4,5,5,5,5,5,5,5,5,5,5,5,5,5,5,5,5]++List.replicate 32 6++List.replicate 64 7++List.replicate 128 8
theorem Sb:∀y:Nat,y<256→sF tQ (y:Int)=some ((sF tQ (y:Int)).getD 0)∧(sF tQ (y:Int)).getD 0≤8∧y<2^(sF tQ (y:Int)).getD 0∧(y=0∨2^(sF tQ (y:Int)).getD 0≤2*y):=by decide+kernel
set_option maxRecDepth 20000 in
theorem Le(x:Nat)(h:x<4294967296):∃n:Nat,fD x=some (n:Int)∧n≤32∧x<2^n∧(x=0∨2^n≤2*x):=by
 have key:∀(y k:Nat),y<256→y=x/2^k→k≤24→(x≠0→y≠0)→∃n:Nat,(((sF tQ ((y%256:Nat):Int)).bind fun jN=>(some (IntKind.i64.wrap (jN:Int))).bind fun fR=>(some (IntKind.i64.wrap ((k:Int)+fR))).bind fun fg=>some fg)=some (n:Int))∧n≤32∧x<2^n∧(x=0∨2^n≤2*x):=by
  intro y k hy hyx hk Wa
  obtain⟨h1,h2,h3,h4⟩:=Sb y hy
  rw[Nat.mod_eq_of_lt hy,h1]
  generalize (sF tQ (y:Int)).getD 0=t at*
  have hp:0<2^k:=Nat.two_pow_pos _
  have e1:2^(k+t)=2^k*2^t:=Nat.pow_add ..
  have e2:=Nat.div_add_mod x (2^k)
  have e3:=Nat.mod_lt x hp
  rw[←hyx]at e2
  refine⟨k+t,?_,by omega,?_,?_⟩
  ·simp only[Option.bind_some]
   rw[r0 (by omega),r5 (by omega)]
  ·rw[e1]
   have:2^k*(y+1)≤2^k*2^t:=Nat.mul_le_mul_left _ h3
   rw[Nat.mul_add]at this
   omega
  ·rcases h4 with h4|h4
   ·left
    cases Nat.eq_zero_or_pos x with
    |inl h=>exact h
    |inr h=>exact absurd h4 (Wa (by omega))
   ·right
    rw[e1]
    have:2^k*2^t≤2^k*(2*y):=Nat.mul_le_mul_left _ h4
    rw[show 2^k*(2*y)=2*(2^k*y) by rw[Nat.mul_left_comm]]at this
    omega
 unfold fD
 simp only[cQ,Option.bind_some]
 by_cases c1:65536≤x
 ·rw[show decide (65536≤x)=true by simpa using c1]
  simp only[cond_true]
  by_cases c2:256≤x/2^16
  ·rw[show decide (256≤x/2^16)=true by simpa using c2]
   simp only[cond_true]
   rw[show IntKind.i64.wrap (16+8)=((24:Nat):Int) by decide]
   exact key (x/2^16/2^8) 24 (by omega) (by omega) (by omega) (by omega)
  ·rw[show decide (256≤x/2^16)=false by simpa using c2]
   simp only[cond_false]
   exact key (x/2^16) 16 (by omega) rfl (by omega) (by omega)
 ·rw[show decide (65536≤x)=false by simpa using c1]
  simp only[cond_false]
  by_cases c2:256≤x
  ·rw[show decide (256≤x)=true by simpa using c2]
   simp only[cond_true]
   rw[show IntKind.i64.wrap (0+8)=((8:Nat):Int) by decide]
   exact key (x/2^8) 8 (by omega) rfl (by omega) (by omega)
  ·rw[show decide (256≤x)=false by simpa using c2]
   simp only[cond_false]
   exact key x 0 (by omega) (by simp) (by omega) (fun h=>h)
theorem Vn(x:Nat)(h:x<4294967296)(h0:x≠0):∃s:Nat,cH x=some (s:Int)∧s<32∧2147483648≤x*2^s∧x*2^s<4294967296:=by
 obtain⟨n,h1,h2,h3,h4⟩:=Le x h
 have h4:2^n≤2*x:=h4.resolve_left h0
 have hn:n≠0:=by rintro rfl;simp at h3;omega
 refine⟨32-n,?_,by omega,?_,?_⟩
 ·unfold cH
  rw[h1]
  simp only[Option.bind_some]
  rw[bZ (by omega) (by omega)]
  congr 1;omega
 ·have:2^n*2^(32-n)≤2*x*2^(32-n):=Nat.mul_le_mul_right _ h4
  rw[←Nat.pow_add,show n+(32-n)=32 by omega,Nat.mul_assoc]at this
  omega
 ·have:x*2^(32-n)<2^n*2^(32-n):=Nat.mul_lt_mul_of_pos_right h3 (Nat.two_pow_pos _)
  rw[←Nat.pow_add,show n+(32-n)=32 by omega]at this
  omega
end Go.Proofs.Ytningmnklfpfjaa
namespace Go.Fw
section Vo
variable {B V U W:Nat}
theorem Sc{P F T:Nat}(hP:0<P)(hF:0<F)(hV:F*P≤V)(hU:U<(T+1)*P):U/V≤T/F:=by
 have Se:0<V:=Nat.lt_of_lt_of_le (Nat.mul_pos hF hP) hV
 rw[Nat.le_div_iff_mul_le hF]
 rcases Nat.lt_or_ge T (U/V*F)with h|h
 ·exfalso
  have h1:U/V*V≤U:=Nat.div_mul_le_self U V
  have h2:U/V*(F*P)≤U/V*V:=Nat.mul_le_mul_left _ hV
  have h3:(T+1)*P≤U/V*F*P:=Nat.mul_le_mul_right _ h
  rw[Nat.mul_assoc]at h3
  omega
 ·exact h
theorem Na{P F S T u g r:Nat}(hV:(F*B+S)*P≤V)(hU:U<(T*B+u+1)*P)(Tz:g*F+r=T)(h:r*B+u<g*S):U<g*V:=by
 have h1:g*((F*B+S)*P)≤g*V:=Nat.mul_le_mul_left _ hV
 have h2:(T*B+u+1)*P≤g*(F*B+S)*P:=by
  apply Nat.mul_le_mul_right
  rw[Nat.mul_add,←Nat.mul_assoc,←Tz,Nat.add_mul]
  omega
 rw[Nat.mul_assoc]at h2
 omega
theorem Sf{P V2 U2 g:Nat}(hV:V<(V2+1)*P)(hU:U2*P≤U)(hq:U/V<B)(hB:B≤V2)(Se:0<V)(h:g*V2≤U2):g≤U/V+1:=by
 rcases Nat.lt_or_ge (U/V+1) g with h'|h'
 ·exfalso
  have h1:U<(U/V+1)*V:=by have:=Nat.lt_div_mul_add (a:=U) Se;rw[Nat.add_mul,Nat.one_mul];exact this
  have h2:(U/V+1)*V≤(U/V+1)*((V2+1)*P):=Nat.mul_le_mul_left _ (Nat.le_of_lt hV)
  have h3:g*V2*P≤U2*P:=Nat.mul_le_mul_right _ h
  have h4:(U/V+2)*V2≤g*V2:=Nat.mul_le_mul_right _ h'
  have h5:(U/V+2)*V2*P≤g*V2*P:=Nat.mul_le_mul_right _ h4
  have h6:(U/V+1)*((V2+1)*P)≤(U/V+2)*V2*P:=by
   rw[←Nat.mul_assoc]
   apply Nat.mul_le_mul_right
   rw[Nat.mul_add,Nat.add_mul (U/V) 2 V2,Nat.add_mul (U/V) 1 V2]
   omega
  omega
 ·exact h'
end Vo
def mix(B o i X U A:Nat):Nat:=A%B^o+B^o*(X%B^i+B^i*(U/B^i))
theorem GB(B o i X U A:Nat):mix B o i X U A%B^o=A%B^o:=by rw[mix,Nat.add_mul_mod_self_left,Nat.mod_mod]
section mix
variable {B:Nat}(hB:0<B)(o i X U A:Nat)
include hB
theorem ve:mix B o i X U A/B^o=X%B^i+B^i*(U/B^i):=by
 rw[mix,Nat.add_mul_div_left _ _ (Nat.pow_pos hB),Nat.div_eq_of_lt (Nat.mod_lt _ (Nat.pow_pos hB)),Nat.zero_add]
theorem vf:mix B o i X U A/B^(o+i)=U/B^i:=by
 rw[Nat.pow_add,←Nat.div_div_eq_div_mul,ve hB,Nat.add_mul_div_left _ _ (Nat.pow_pos hB),Nat.div_eq_of_lt (Nat.mod_lt _ (Nat.pow_pos hB)),Nat.zero_add]
theorem Nb:mix B o i X U A%B^(o+i)=A%B^o+B^o*(X%B^i):=by
 rw[Nat.pow_add,Nat.mod_mul,GB,ve hB,Nat.add_mul_mod_self_left,Nat.mod_mod]
theorem CK{N:Nat}(h:o+i<N):(eI B N (mix B o i X U A)).set (o+i) (X/B^i%B)=eI B N (mix B o (i+1) X U A):=by
 apply r6 hB h (Nat.mod_lt _ hB)
 ·rw[Nb hB,Nat.pow_add,Nat.mod_mul,GB,ve hB,Nat.pow_succ B i,Nat.mul_assoc,Nat.add_mul_mod_self_left,Nat.mod_mul,Nat.add_mul_mod_self_left,Nat.mod_mod]
 ·rw[Nat.pow_add,←Nat.div_div_eq_div_mul,ve hB,Nat.pow_succ B i,Nat.mod_mul,Nat.mul_assoc,Nat.add_assoc,←Nat.mul_add,Nat.add_mul_div_left _ _ (Nat.pow_pos hB),Nat.div_eq_of_lt (Nat.mod_lt _ (Nat.pow_pos hB)),Nat.zero_add,Nat.add_mul_mod_self_left,Nat.mod_mod]
 ·have h1:=vf hB o (i+1) X U A
  have h2:=vf hB o i X U A
  rw[show o+i+1=o+(i+1) by omega,h1,show o+(i+1)=(o+i)+1 by omega,Nat.pow_succ B (o+i),←Nat.div_div_eq_div_mul,h2,Nat.pow_succ,←Nat.div_div_eq_div_mul]
end mix
theorem Ei{B o m X U A:Nat}(hU:U<B^m):mix B o m X U A=A%B^o+B^o*(X%B^m):=by rw[mix,Nat.div_eq_of_lt hU];simp
theorem Ej{B:Nat}(o X A:Nat):mix B o 0 X (A/B^o) A=A:=by
 simp only[mix,Nat.pow_zero,Nat.mod_one,Nat.zero_add,Nat.one_mul,Nat.div_one]
 exact Nat.mod_add_div A (B^o)
theorem HH{B U U' T i:Nat}(h:U%B^i=U'%B^i):xu B U T i=xu B U' T i:=by rw[xu,xu,h]
theorem Lf{B:Nat}(hB:0<B){U T m i:Nat}(hi:i<m)(hT:T≤U+B^m):(U/B^i%B+(B-1-T/B^i%B)+xu B U T i)%B=(U+B^m-T)/B^i%B:=by
 have e:B^m=B^i*(B*B^(m-i-1)):=by rw[←Nat.pow_succ',←Nat.pow_add];congr 1;omega
 have h1:(U+B^m)%B^i=U%B^i:=by rw[e,Nat.add_mul_mod_self_left]
 have h2:(U+B^m)/B^i%B=U/B^i%B:=by rw[e,Nat.add_mul_div_left _ _ (Nat.pow_pos hB),Nat.add_mul_mod_self_left]
 rw[←h2,HH (U':=U+B^m) h1.symm,Gt hB hT]
theorem Nc{B m U T:Nat}(hB:0<B)(hU:U<B^m)(hT:T<B^m):xu B U T m=if U<T then 0 else 1:=by
 rw[xu,Nat.mod_eq_of_lt hU,Nat.mod_eq_of_lt hT]
 have hp:0<B^m:=Nat.pow_pos hB
 split
 ·exact Nat.div_eq_of_lt (by omega)
 ·rw[show U+B^m-T=(U-T)+B^m by omega,Nat.add_div_right _ hp,Nat.div_eq_of_lt (by omega)]
end Go.Fw
namespace Go.Proofs.Ytningmnklfpfjaa
open Go.Fw
theorem lH{N A j:Nat}(h:j<N):(eI 4294967296 N A)[j]? =some (A/4294967296^j%4294967296):=u0 N A j h
theorem two32:(2:Nat)^32=4294967296:=rfl
theorem Vp:(2:Nat)^63=9223372036854775808:=rfl
theorem CL(A o j:Nat):A/4294967296^(o+j)=A/4294967296^o/4294967296^j:=by rw[Nat.pow_add,Nat.div_div_eq_div_mul]
theorem Ek{N A o n:Nat}{v:List Nat}(hv:CT v)(hn:v.length=n+2)(hN:N≤100000000001)(ho:o+(n+2)<N)
  (hU:A/4294967296^o<4294967296*vl v) (Lg:2147483648*4294967296^(n+1)≤vl v):
  ∃r,ga (eI 4294967296 N A) o (n+3) v=some r∧r.2=eI 4294967296 N A∧A/4294967296^o/vl v≤r.1∧r.1≤A/4294967296^o/vl v+1:=by
 obtain⟨hV,hlv⟩:=hv
 obtain⟨U,LP⟩:∃U,A/4294967296^o=U:=⟨_,rfl⟩
 obtain⟨V,LQ⟩:∃V,vl v=V:=⟨_,rfl⟩
 have xw:V<4294967296^(n+2):=by rw[←LQ,←hn];exact iw v hV
 have OX:0<4294967296^(n+1):=Nat.pow_pos (by decide)
 have hP:0<4294967296^n:=Nat.pow_pos (by decide)
 have Sg:4294967296^(n+1)=4294967296^n*4294967296:=Nat.pow_succ ..
 have El:4294967296^(n+2)=4294967296^(n+1)*4294967296:=Nat.pow_succ ..
 rw[LP,LQ]at hU⊢
 rw[LQ]at Lg
 have Vq:U<4294967296^(n+1)*4294967296*4294967296:=by
  have:4294967296*V<4294967296*4294967296^(n+2):=Nat.mul_lt_mul_of_pos_left xw (by decide)
  rw[El]at this
  omega
 obtain⟨F,hF⟩:∃F,V/4294967296^(n+1)=F:=⟨_,rfl⟩
 obtain⟨S,hS⟩:∃S,V/4294967296^n%4294967296=S:=⟨_,rfl⟩
 obtain⟨T,hT⟩:∃T,U/4294967296^(n+1)=T:=⟨_,rfl⟩
 obtain⟨u,hu⟩:∃u,U/4294967296^n%4294967296=u:=⟨_,rfl⟩
 have ZF:F<4294967296:=by rw[←hF,Nat.div_lt_iff_lt_mul OX];rw[El,Nat.mul_comm]at xw;exact xw
 have ab5:2147483648≤F:=by rw[←hF,Nat.le_div_iff_mul_le OX];exact Lg
 have ab6:S<4294967296:=by rw[←hS];exact Nat.mod_lt _ (by decide)
 have Vr:u<4294967296:=by rw[←hu];exact Nat.mod_lt _ (by decide)
 have ZG:T<4294967296*4294967296:=by rw[←hT,Nat.div_lt_iff_lt_mul OX];rw[Nat.mul_comm,←Nat.mul_assoc];exact Vq
 have ZH:V/4294967296^n=F*4294967296+S:=by rw[←hF,←hS,Sg,←Nat.div_div_eq_div_mul,Nat.mul_comm,Nat.div_add_mod]
 have ZI:U/4294967296^n=T*4294967296+u:=by rw[←hT,←hu,Sg,←Nat.div_div_eq_div_mul,Nat.mul_comm,Nat.div_add_mod]
 have hq:U/V<4294967296:=by rw[Nat.div_lt_iff_lt_mul (by omega)];exact hU
 have Vs:(F*4294967296+S)*4294967296^n≤V:=by rw[←ZH];exact Nat.div_mul_le_self _ _
 have Vt:V<(F*4294967296+S+1)*4294967296^n:=by rw[←ZH,Nat.add_mul,Nat.one_mul];exact Nat.lt_div_mul_add hP
 have Vu:(T*4294967296+u)*4294967296^n≤U:=by rw[←ZI];exact Nat.div_mul_le_self _ _
 have Vv:U<(T*4294967296+u+1)*4294967296^n:=by rw[←ZI,Nat.add_mul,Nat.one_mul];exact Nat.lt_div_mul_add hP
 have OY:F*4294967296^(n+1)≤V:=by rw[←hF];exact Nat.div_mul_le_self _ _
 have OZ:U<(T+1)*4294967296^(n+1):=by rw[←hT,Nat.add_mul,Nat.one_mul];exact Nat.lt_div_mul_add OX
 have O0:V<(F+1)*4294967296^(n+1):=by rw[←hF,Nat.add_mul,Nat.one_mul];exact Nat.lt_div_mul_add OX
 have hTF:T<4294967296*(F+1):=by
  rw[←hT,Nat.div_lt_iff_lt_mul OX]
  have:4294967296*V<4294967296*((F+1)*4294967296^(n+1)):=Nat.mul_lt_mul_of_pos_left O0 (by decide)
  rw[Nat.mul_assoc]
  omega
 have g1:(eI 4294967296 N A)[o+(n+2)]? =some (U/4294967296^(n+2)%4294967296):=by rw[lH (by omega),CL,LP]
 have g2:(eI 4294967296 N A)[o+(n+1)]? =some (U/4294967296^(n+1)%4294967296):=by rw[lH (by omega),CL,LP]
 have g3:(eI 4294967296 N A)[o+n]? =some u:=by rw[lH (by omega),CL,LP,hu]
 have g4:v[n+1]? =some F:=by rw[nB hV (by omega),show val 4294967296 v=V from LQ,hF,Nat.mod_eq_of_lt ZF]
 have g5:v[n]? =some S:=by rw[nB hV (by omega),show val 4294967296 v=V from LQ,hS]
 have hun:U/4294967296^(n+2)<4294967296:=by rw[El,←Nat.div_div_eq_div_mul,hT,Nat.div_lt_iff_lt_mul (by decide)];exact ZG
 have FJ:U/4294967296^(n+2)%4294967296*4294967296+U/4294967296^(n+1)%4294967296=T:=by
  rw[Nat.mod_eq_of_lt hun,El,←Nat.div_div_eq_div_mul,hT,Nat.mul_comm,Nat.div_add_mod]
 obtain⟨t1,ZJ⟩:∃t,U/4294967296^(n+2)%4294967296=t:=⟨_,rfl⟩
 obtain⟨t2,ZK⟩:∃t,U/4294967296^(n+1)%4294967296=t:=⟨_,rfl⟩
 have l1:t1<4294967296:=by rw[←ZJ];exact Nat.mod_lt _ (by decide)
 have l2:t2<4294967296:=by rw[←ZK];exact Nat.mod_lt _ (by decide)
 rw[ZJ]at g1 FJ
 rw[ZK]at g2 FJ
 clear ZJ ZK ZI ZH
 have c1:((n+2:Nat):Int)-1=((n+1:Nat):Int):=by omega
 have c2:((n+2:Nat):Int)-2=(n:Int):=by omega
 unfold ga
 simp only[Option.bind_some,hn,c1,c2]
 rw[r0 (by omega),r0 (by omega),xO (by omega),xO (by omega),xO (by omega)]
 simp only[Option.bind_some]
 rw[g1,g2,aU g4,aU g5]
 simp only[Option.bind_some,two32]
 rw[Nat.mod_eq_of_lt (a:=t1) (by omega),Nat.mod_eq_of_lt (a:=t2) (by omega),Nat.mod_eq_of_lt (a:=t1*4294967296) (by omega),GA l2,FJ,Nat.mod_eq_of_lt (a:=T) (by omega),Nat.mod_eq_of_lt (a:=F) (by omega),Nat.mod_eq_of_lt (a:=S) (by omega),CC (by omega) (by omega),xP (by omega)]
 simp only[Option.bind_some]
 have ZL:=Sc (V:=V) (U:=U) OX (show 0<F by omega) OY OZ
 have hle:∀g,g*(F*4294967296+S)≤T*4294967296+u→g≤U/V+1:=fun g h=>Sf (B:=4294967296) Vt Vu hq (by omega) (by omega) h
 have ZM:∀g r,g*F+r=T→r*4294967296+u<g*S→U/V<g:=fun g r i1 ht=>(Nat.div_lt_iff_lt_mul (by omega)).2 (Na Vs Vv i1 ht)
 have hg0:T/F≤4294967297:=by
  have:T/F<4294967298:=by
   rw[Nat.div_lt_iff_lt_mul (by omega)]
   omega
  omega
 generalize U/V=q at*
 clear Vs Vt Vu Vv OY OZ O0 hTF Vq Lg xw Sg El hP OX hF hS hT hu LP LQ hU
 have hdm:=Nat.div_add_mod T F
 have hml:=Nat.mod_lt T (show 0<F by omega)
 have ZN:T/F*F+T%F=T:=by rw[Nat.mul_comm];exact hdm
 clear hdm
 refine CD (fun x=>x.1*F+x.2=T∧q≤x.1∧x.2<4294967296∧x.1≤4294967297) (fun e=>q≤e∧e≤q+1) (fun x=>x.1) ?_ ⟨ZN,ZL,by show T%F<_;omega,hg0⟩ ?_
 ·rintro⟨g,r⟩ ⟨i1,i2,i3,i4⟩
  simp only at i1 i2 i3 i4
  have down:q<g→(∃s',(bif decide ((r+F)%18446744073709551616/4294967296≠0)then some (.inr (m7 18446744073709551616 g 1))else some (.inl (m7 18446744073709551616 g 1,(r+F)%18446744073709551616)):Option ((Nat×Nat)⊕Nat))=some (.inl s')∧(s'.1*F+s'.2=T∧q≤s'.1∧s'.2<4294967296∧s'.1≤4294967297)∧s'.1<g)∨
    (∃e,(bif decide ((r+F)%18446744073709551616/4294967296≠0)then some (.inr (m7 18446744073709551616 g 1))else some (.inl (m7 18446744073709551616 g 1,(r+F)%18446744073709551616)):Option ((Nat×Nat)⊕Nat))=some (.inr e)∧q≤e∧e≤q+1):=by
   intro hlt
   have e1:(g-1)*F+(r+F)=T:=by
    obtain⟨k,rfl⟩:∃k,g=k+1:=⟨g-1,by omega⟩
    rw[Nat.add_sub_cancel];rw[Nat.add_mul]at i1;omega
   rw[pN (by omega) (by omega),Nat.mod_eq_of_lt (a:=r+F) (by omega)]
   by_cases hb:r+F<4294967296
   ·left
    refine⟨(g-1,r+F),by simp[Nat.div_eq_of_lt hb],⟨e1,by simp only;omega,hb,by simp only;omega⟩,by simp only;omega⟩
   ·right
    have hne:(r+F)/4294967296≠0:=by omega
    refine⟨g-1,by simp[hne],by omega,?_⟩
    refine hle _ ?_
    have m1:(g-1)*S≤4294967296*4294967295:=Nat.mul_le_mul (by omega) (by omega)
    rw[Nat.mul_add,←Nat.mul_assoc]
    have m2:((g-1)*F+(r+F))*4294967296=T*4294967296:=by rw[e1]
    rw[Nat.add_mul]at m2
    omega
  simp only[cQ,bC]
  by_cases hg:g<4294967296
  ·rw[show decide (g/4294967296≠0)=false by simp;omega]
   have hgS:g*S≤4294967295*4294967295:=Nat.mul_le_mul (by omega) (by omega)
   simp only[ju]
   rw[g3]
   simp only[bC]
   rw[Nat.mod_eq_of_lt (a:=g*S) (by omega),Nat.mod_eq_of_lt (a:=r*4294967296) (by omega),Nat.mod_eq_of_lt (a:=u) (by omega),GA Vr,Nat.mod_eq_of_lt (a:=r*4294967296+u) (by omega)]
   by_cases ht:r*4294967296+u<g*S
   ·rw[show decide (r*4294967296+u<g*S)=true by simpa using ht]
    simp only[bC,ji]
    exact down (ZM _ _ i1 ht)
   ·rw[show decide (r*4294967296+u<g*S)=false by simpa using ht]
    right
    refine⟨g,by simp,i2,?_⟩
    refine hle _ ?_
    rw[Nat.mul_add,←Nat.mul_assoc,←i1,Nat.add_mul]
    omega
  ·rw[show decide (g/4294967296≠0)=true by simp;omega]
   simp only[bC,ji]
   exact down (by omega)
 ·rintro e ⟨h2,h3⟩
  exact⟨(e,eI 4294967296 N A),by rw[oD rfl,Option.bind_some],rfl,h2,h3⟩
end Go.Proofs.Ytningmnklfpfjaa
namespace Go.Proofs.Ytningmnklfpfjaa
open Go.Fw
theorem sx{N A o n f:Nat}{v:List Nat}(hv:CT v)(hn:v.length=n)(hN:N≤100000000001)(ho:o+n<N)(hf:f≤4294967296)
  (hU:A/4294967296^o<4294967296^(n+1)):
  cx (eI 4294967296 N A) o (n+1) v f=some (decide (A/4294967296^o<vl v*f),eI 4294967296 N (A%4294967296^o+4294967296^o*((A/4294967296^o+4294967296^(n+1)-vl v*f)%4294967296^(n+1)))):=by
 obtain⟨hV,hlv⟩:=hv
 obtain⟨U,LP⟩:∃U,A/4294967296^o=U:=⟨_,rfl⟩
 obtain⟨V,LQ⟩:∃V,vl v=V:=⟨_,rfl⟩
 have xw:V<4294967296^n:=by rw[←LQ,←hn];exact iw v hV
 have Iz:4294967296^(n+1)=4294967296^n*4294967296:=Nat.pow_succ ..
 have hT:V*f<4294967296^(n+1):=by
  rw[Iz]
  calc V*f≤V*4294967296:=Nat.mul_le_mul_left _ hf
   _<4294967296^n*4294967296:=Nat.mul_lt_mul_of_pos_right xw (by decide)
 rw[LP]at hU⊢
 rw[LQ]
 obtain⟨X,hX⟩:∃X,U+4294967296^(n+1)-V*f=X:=⟨_,rfl⟩
 rw[hX]
 unfold cx
 simp only[bC]
 have Sh:∀i,xu 4294967296 U (V*f) i≤1:=fun i=>K9 (by decide) _ _ _
 refine bh (fun i=>(1-xu 4294967296 U (V*f) i,(i:Int),sC 4294967296 V f 0 i,eI 4294967296 N (mix 4294967296 o i X U A))) (n+1) (1-xu 4294967296 U (V*f) (n+1),eI 4294967296 N (mix 4294967296 o (n+1) X U A)) ?_ (fun i hi=>?_) ?_ ?_
 ·rw[Ed,Gw,←LP,Ej];rfl
 ·
  obtain⟨t,ht⟩:∃t,V*f/4294967296^i%4294967296=t:=⟨_,rfl⟩
  obtain⟨c,hc⟩:∃c,sC 4294967296 V f 0 i=c:=⟨_,rfl⟩
  obtain⟨p,hp⟩:∃p,V/4294967296^i%4294967296*f=p:=⟨_,rfl⟩
  have ab9:c<4294967296:=by
   rw[←hc,sC,sT,Nat.add_zero,Nat.div_lt_iff_lt_mul (Nat.pow_pos (by decide))]
   calc V%4294967296^i*f≤V%4294967296^i*4294967296:=Nat.mul_le_mul_left _ hf
    _<4294967296*4294967296^i:=by rw[Nat.mul_comm];exact Nat.mul_lt_mul_of_pos_left (Nat.mod_lt _ (Nat.pow_pos (by decide))) (by decide)
  have acd:p≤4294967295*4294967296:=by
   rw[←hp];exact Nat.mul_le_mul (by have:=Nat.mod_lt (V/4294967296^i) (show 0<4294967296 by decide);omega) hf
  have R5:(p+c)%4294967296=t:=by rw[←hp,←hc,La (B:=4294967296) (by decide),Nat.add_zero,ht]
  have hstep:(p+c)/4294967296=sC 4294967296 V f 0 (i+1):=by rw[←hp,←hc,Gy (B:=4294967296) (by decide)]
  have ace:t<4294967296:=by rw[←ht];exact Nat.mod_lt _ (by decide)
  obtain⟨u,hu⟩:∃u,U/4294967296^i%4294967296=u:=⟨_,rfl⟩
  have Vr:u<4294967296:=by rw[←hu];exact Nat.mod_lt _ (by decide)
  have hg:(eI 4294967296 N (mix 4294967296 o i X U A))[o+i]? =some u:=by rw[lH (by omega),vf (by decide),hu]
  have hl:=Sh i
  obtain⟨l,hle⟩:∃l,xu 4294967296 U (V*f) i=l:=⟨_,rfl⟩
  have hxd:(u+(4294967296-1-t)+l)%4294967296=X/4294967296^i%4294967296:=by rw[←hu,←ht,←hle,Lf (B:=4294967296) (by decide) hi (by omega),hX]
  have hls:(u+(4294967296-1-t)+l)/4294967296=xu 4294967296 U (V*f) (i+1):=by rw[←hu,←ht,←hle,Ee (B:=4294967296) (by decide)]
  rw[hle]at hl
  have hput:=CK (B:=4294967296) (by decide) o i X U A (N:=N) (by omega)
  rw[hle,hc,←hls]
  simp only[show decide ((i:Int)<((n+1:Nat):Int))=true by simp;omega,ji,bC,cQ]
  rw[xO (by omega)]
  simp only[bC,hg]
  have way:∀k:Nat→Option ((Nat×Int×Nat×List Nat)⊕(Nat×List Nat)),(bif decide ((i:Int)<(v.length:Int))then(dD v (i:Int)).bind fun gD=>k (gD%18446744073709551616*f%18446744073709551616)else k 0)=k p:=by
   intro k
   by_cases hin:i<v.length
   ·rw[show decide ((i:Int)<(v.length:Int))=true by simp;omega,ji]
    have CQ:v[i]? =some (V/4294967296^i%4294967296):=by rw[←LQ];exact nB hV hin
    rw[aU CQ,bC,Nat.mod_eq_of_lt (a:=V/4294967296^i%4294967296) (b:=18446744073709551616) (by have:=Nat.mod_lt (V/4294967296^i) (show 0<4294967296 by decide);omega),hp,Nat.mod_eq_of_lt (a:=p) (by omega)]
   ·rw[show decide ((i:Int)<(v.length:Int))=false by simp;omega,ju]
    have:V/4294967296^i=0:=Nat.div_eq_of_lt (Nat.lt_of_lt_of_le xw (Nat.pow_le_pow_right (by decide) (by omega)))
    rw[←hp,this];simp
  refine(way (fun y=>(aT y c).bind _)).trans ?_
  rw[fO _ _ (by omega)]
  simp only[bC]
  rw[R5,hstep,Nat.mod_eq_of_lt (a:=u) (by omega),Nat.mod_eq_of_lt (a:=t) (by omega)]
  rw[e9 (by rw[aV];omega),bC,bK (by omega),Vp]
  by_cases Pr:u<t+(1-l)
  ·have e1:m7 18446744073709551616 (m7 18446744073709551616 u t) (1-l)=18446744073709551616+u-t-(1-l):=by
    by_cases h1:u<t
    ·rw[xN h1 (by omega),pN (by omega) (by omega)]
    ·rw[pN (a:=u) (b:=t) (by omega) (by omega),xN (by omega) (by omega)];omega
   rw[e1]
   have e2:(18446744073709551616+u-t-(1-l))%4294967296=X/4294967296^i%4294967296:=by rw[←hxd];omega
   have e3:(18446744073709551616+u-t-(1-l))/9223372036854775808=1-(u+(4294967296-1-t)+l)/4294967296:=by omega
   rw[e2,e3,hput]
  ·have e1:m7 18446744073709551616 (m7 18446744073709551616 u t) (1-l)=u-t-(1-l):=by
    rw[pN (a:=u) (b:=t) (by omega) (by omega),pN (by omega) (by omega)]
   rw[e1]
   have e2:(u-t-(1-l))%4294967296=X/4294967296^i%4294967296:=by rw[←hxd];omega
   have e3:(u-t-(1-l))/9223372036854775808=1-(u+(4294967296-1-t)+l)/4294967296:=by omega
   rw[e2,e3,hput]
 ·simp
 ·simp only[bC]
  rw[oD (by rw[aV,aV]),bC,Ei hU,Nc (by decide) hU hT]
  congr 2
  by_cases h:U<V*f<;>simp[h]
end Go.Proofs.Ytningmnklfpfjaa
namespace Go.Proofs.Ytningmnklfpfjaa
open Go.Fw
theorem Vw{B V:Nat}(hB:0<B)(hV:0<V)(A k:Nat):A%(V*B^(k+1))/B^k<B*V:=by
 rw[Nat.div_lt_iff_lt_mul (Nat.pow_pos hB)]
 have:V*B^(k+1)=B*V*B^k:=by rw[Nat.pow_succ,Nat.mul_comm (B^k),←Nat.mul_assoc,Nat.mul_comm V]
 rw[←this]
 exact Nat.mod_lt _ (Nat.mul_pos hV (Nat.pow_pos hB))
theorem Si{B V:Nat}(A k:Nat):A%(V*B^(k+1))%B^k+B^k*(A%(V*B^(k+1))/B^k%V)=A%(V*B^k):=by
 rw[←Nat.mod_mul,Nat.mul_comm (B^k),Nat.mod_mod_of_dvd]
 rw[Nat.pow_succ,←Nat.mul_assoc];exact Nat.dvd_mul_right _ _
theorem Sj{B V:Nat}(A k:Nat):A%(V*B^(k+1))/B^k/V=A/V/B^k%B:=by
 rw[Nat.div_div_eq_div_mul,Nat.mul_comm (B^k),Nat.pow_succ,←Nat.mul_assoc,Nat.mod_mul_right_div_self,Nat.div_div_eq_div_mul]
theorem Lh{B:Nat}(hB:0<B){N k:Nat}(h:k<N)(Q:Nat):(eI B N (Q/B^(k+1)*B^(k+1))).set k (Q/B^k%B)=eI B N (Q/B^k*B^k):=by
 have hP:0<B^k:=Nat.pow_pos hB
 refine r6 hB h (Nat.mod_lt _ hB) ?_ ?_ ?_
 ·rw[Nat.mul_mod_left,Nat.pow_succ,Nat.mul_comm (B^k),←Nat.mul_assoc,Nat.mul_mod_left]
 ·rw[Nat.mul_div_cancel _ hP]
 ·rw[Nat.mul_div_cancel _ (Nat.pow_pos hB),Nat.pow_succ,←Nat.div_div_eq_div_mul,Nat.mul_div_cancel _ hP,Nat.div_div_eq_div_mul]
theorem GC{α:Type}{l:List α}{o n:Nat}(h:o<l.length)(h':o+n≤l.length):PC l (o:Int) ((o+n:Nat):Int)=some (o,n):=by
 unfold PC
 rw[if_pos (by omega)]
 congr 2
 omega
theorem Nd{U V g M:Nat}(hV:0<V)(h1:U/V≤g)(h2:g≤U/V+1)(hM:U<M)(hVM:V≤M):
  (V*g≤U∧g=U/V∧(U+M-V*g)%M=U%V)∨(U<V*g∧g=U/V+1∧U+M-V*g<M∧(U+M-V*g+V)%M=U%V):=by
 have hd:=Nat.div_add_mod U V
 have hm:=Nat.mod_lt U hV
 revert h1 h2 hd hm
 generalize U/V=q
 generalize U%V=r
 intro h1 h2 hd hm
 rcases Nat.lt_or_ge q g with h|h
 ·obtain rfl:g=q+1:=by omega
  have e:V*(q+1)=V*q+V:=Nat.mul_succ ..
  right
  refine⟨by omega,rfl,by omega,?_⟩
  rw[show U+M-V*(q+1)+V=r+M by omega,Nat.add_mod_right,Nat.mod_eq_of_lt (by omega)]
 ·obtain rfl:g=q:=by omega
  left
  refine⟨by omega,rfl,?_⟩
  rw[show U+M-V*g=r+M by omega,Nat.add_mod_right,Nat.mod_eq_of_lt (by omega)]
theorem Nf{R D e i:Nat}(hD:0<D)(he:4294967296=D*e):(R*D/4294967296^(i+1)%4294967296*4294967296+R*D/4294967296^i%4294967296)/D%4294967296=R/4294967296^i%4294967296:=by
 have h1:R*D/4294967296^(i+1)%4294967296*4294967296+R*D/4294967296^i%4294967296=R*D/4294967296^i%(4294967296*4294967296):=by
  rw[Nat.mod_mul,Nat.div_div_eq_div_mul,show 4294967296^i*4294967296=4294967296^(i+1)from(Nat.pow_succ ..).symm,Nat.add_comm,Nat.mul_comm 4294967296]
 have h2:(4294967296*4294967296:Nat)=D*(e*4294967296):=by
  rw[←Nat.mul_assoc,←he]
 rw[h1,h2,Nat.mod_mul_right_div_self,Nat.mod_mul_left_mod,Nat.div_div_eq_div_mul,Nat.mul_comm (4294967296^i) D,←Nat.div_div_eq_div_mul,Nat.mul_div_cancel _ hD]
theorem Sk{B:Nat}(hB:0<B){N i R:Nat}(h:i<N):(eI B N (R%B^i)).set i (R/B^i%B)=eI B N (R%B^(i+1)):=by
 refine r6 hB h (Nat.mod_lt _ hB) ?_ ?_ ?_
 ·rw[Nat.mod_mod,Nat.mod_mod_of_dvd _ (Nat.pow_dvd_pow _ (Nat.le_succ i))]
 ·rw[Nat.pow_succ,Nat.mod_mul_right_div_self,Nat.mod_mod]
 ·rw[Nat.div_eq_of_lt (Nat.mod_lt _ (Nat.pow_pos hB)),Nat.div_eq_of_lt]
  exact Nat.lt_of_lt_of_le (Nat.mod_lt _ (Nat.pow_pos hB)) (Nat.pow_le_pow_right hB (Nat.le_succ i))
theorem FK(a b:List Nat)(ha:CT a)(hb:CT b){n:Nat}(hn:b.length=n+2)(hl:b.length≤a.length)(FJ:b[n+1]? ≠some 0):
  eC a b=some (eI 4294967296 (a.length-b.length+1) (vl a/vl b),eI 4294967296 b.length (vl a%vl b)):=by
 obtain⟨hA,hla⟩:=ha
 obtain⟨hB,hlb⟩:=hb
 have hP:∀k,0<4294967296^k:=fun k=>Nat.pow_pos (by decide)
 obtain⟨Va,hVa⟩:∃V,vl a=V:=⟨_,rfl⟩
 obtain⟨Vb,ZO⟩:∃V,vl b=V:=⟨_,rfl⟩
 have Sl:Vb<4294967296^(n+2):=by rw[←ZO,←hn];exact iw b hB
 have halt:Va<4294967296^a.length:=by rw[←hVa];exact iw a hA
 have El:4294967296^(n+2)=4294967296^(n+1)*4294967296:=Nat.pow_succ ..
 obtain⟨x,hx⟩:∃x,Vb/4294967296^(n+1)=x:=⟨_,rfl⟩
 have Vx:x<4294967296:=by rw[←hx,Nat.div_lt_iff_lt_mul (hP _)];rw[El,Nat.mul_comm]at Sl;exact Sl
 have V8:b[n+1]? =some x:=by rw[nB hB (by omega),show val 4294967296 b=Vb from ZO,hx,Nat.mod_eq_of_lt Vx]
 have hx0:x≠0:=fun e=>FJ (by rw[V8,e])
 obtain⟨s,SR,Ap,V0,hs4⟩:=Vn x Vx hx0
 have Vy:0<2^s:=Nat.two_pow_pos s
 have Vz:2^s<4294967296:=by
  have:2^s<2^32:=Nat.pow_lt_pow_right (by decide) Ap
  rw[two32]at this;exact this
 obtain⟨D,hD⟩:∃D,2^s=D:=⟨_,rfl⟩
 rw[hD]at V0 hs4 Vy Vz
 obtain⟨V,hV⟩:∃V,Vb*D=V:=⟨_,rfl⟩
 obtain⟨A,Wb⟩:∃A,Va*D=A:=⟨_,rfl⟩
 have xw:V<4294967296^(n+2):=by
  have h1:Vb<(x+1)*4294967296^(n+1):=by rw[←hx,Nat.add_mul,Nat.one_mul];exact Nat.lt_div_mul_add (hP _)
  have h2:(x+1)*D≤4294967296:=by
   obtain⟨e,he⟩:∃e,4294967296=D*e:=⟨2^(32-s),by rw[←hD,←Nat.pow_add,show s+(32-s)=32 by omega,two32]⟩
   have h3:x<e:=by
    apply Nat.lt_of_mul_lt_mul_left (a:=D)
    rw[←he,Nat.mul_comm];exact hs4
   calc (x+1)*D≤e*D:=Nat.mul_le_mul_right _ h3
    _=4294967296:=by rw[Nat.mul_comm,←he]
  rw[←hV,El]
  calc Vb*D<(x+1)*4294967296^(n+1)*D:=Nat.mul_lt_mul_of_pos_right h1 Vy
   _=4294967296^(n+1)*((x+1)*D):=by rw[Nat.mul_comm (x+1),Nat.mul_assoc]
   _≤4294967296^(n+1)*4294967296:=Nat.mul_le_mul_left _ h2
 have Li:2147483648*4294967296^(n+1)≤V:=by
  have h1:x*4294967296^(n+1)≤Vb:=by rw[←hx];exact Nat.div_mul_le_self _ _
  rw[←hV]
  calc 2147483648*4294967296^(n+1)≤x*D*4294967296^(n+1):=Nat.mul_le_mul_right _ V0
   _=x*4294967296^(n+1)*D:=by rw[Nat.mul_assoc,Nat.mul_comm D,←Nat.mul_assoc]
   _≤Vb*D:=Nat.mul_le_mul_right _ h1
 have Se:0<V:=Nat.lt_of_lt_of_le (Nat.mul_pos (by decide) (hP _)) Li
 have hb0:0<Vb:=by
  rcases Nat.eq_zero_or_pos Vb with h|h
  ·rw[←hV,h,Nat.zero_mul]at Se;omega
  ·exact h
 have hAV:A/V=Va/Vb:=by rw[←Wb,←hV,Nat.mul_div_mul_right _ _ Vy]
 have ZP:A%V=Va%Vb*D:=by rw[←Wb,←hV,Nat.mul_mod_mul_right]
 obtain⟨K,hK⟩:∃K,a.length=K+(n+2):=⟨a.length-(n+2),by omega⟩
 have VA:A<V*4294967296^(K+1):=by
  have h1:4294967296^(n+1)≤Vb:=by
   have:1*4294967296^(n+1)≤x*4294967296^(n+1):=Nat.mul_le_mul_right _ (by omega)
   have h2:x*4294967296^(n+1)≤Vb:=by rw[←hx];exact Nat.div_mul_le_self _ _
   omega
  rw[←Wb,←hV]
  calc Va*D<4294967296^a.length*D:=Nat.mul_lt_mul_of_pos_right halt Vy
   _=4294967296^(n+1)*4294967296^(K+1)*D:=by rw[hK,←Nat.pow_add];congr 2;omega
   _≤Vb*4294967296^(K+1)*D:=Nat.mul_le_mul_right _ (Nat.mul_le_mul_right _ h1)
   _=Vb*D*4294967296^(K+1):=by rw[Nat.mul_assoc,Nat.mul_comm _ D,←Nat.mul_assoc]
 obtain⟨v,Wc⟩:∃v,eI 4294967296 (n+2) V=v:=⟨_,rfl⟩
 have hvl:v.length=n+2:=by rw[←Wc,aV]
 have ZQ:CT v:=⟨fun y hy=>by rw[←Wc]at hy;exact lS (by decide) _ _ _ hy,by omega⟩
 have VB:vl v=V:=by rw[←Wc];show val _ _=_;rw[kn,Nat.mod_eq_of_lt xw]
 have VC:List.take b.length (eI 4294967296 (b.length+1) (Vb*2^s))=v:=by
  rw[hD,hV,hn,mU,List.take_append_of_le_length (by rw[aV];omega),List.take_of_length_le (by rw[aV];omega),Wc]
 unfold eC
 simp only[bC]
 rw[show((b.length:Nat):Int)-1=((n+1:Nat):Int) by omega,r0 (by omega),aU V8,bC,SR,bC]
 rw[show((s:Int)%18446744073709551616).toNat=s by rw[Int.emod_eq_of_lt (by omega) (by omega)];simp]
 rw[AR,shiftLeft_eq a s ⟨hA,hla⟩ Ap,bC,shiftLeft_eq b s ⟨hB,hlb⟩ Ap,bC,Bw (by rw[aV];omega),bC]
 obtain⟨Q,hQ⟩:∃Q,A/V=Q:=⟨_,rfl⟩
 have ZR:Q<4294967296^(K+1):=by rw[←hQ,Nat.div_lt_iff_lt_mul Se,Nat.mul_comm];exact VA
 rw[hVa,ZO,←hAV,hQ,VC,hD,Wb,hn]
 rw[show a.length-(n+2)+1=K+1 by omega]
 rw[bZ (x:=(a.length:Int)-((n+2:Nat):Int)) (by omega) (by omega),bZ (x:=(a.length:Int)-((n+2:Nat):Int)+1) (by omega) (by omega),show(a.length:Int)-((n+2:Nat):Int)+1=((K+1:Nat):Int) by omega,pM (by decide) (by omega),bC,show(a.length:Int)-((n+2:Nat):Int)=(K:Int) by omega]
 refine bh (fun j=>((K:Int)-(j:Int),eI 4294967296 (K+1) (Q/4294967296^(K+1-j)*4294967296^(K+1-j)),eI 4294967296 (a.length+1) (A%(V*4294967296^(K+1-j))))) (K+1) (eI 4294967296 (K+1) Q,eI 4294967296 (a.length+1) (A%V)) ?_ (fun j hj=>?_) ?_ ?_
 ·rw[show K+1-0=K+1 by omega,Nat.mod_eq_of_lt VA,Nat.div_eq_of_lt ZR,Nat.zero_mul,rF];simp
 ·
  obtain⟨k,hk⟩:∃k,K=k+j:=⟨K-j,by omega⟩
  rw[show K+1-j=k+1 by omega,show K+1-(j+1)=k by omega,show(K:Int)-(j:Int)=(k:Int) by omega,show(K:Int)-((j+1:Nat):Int)=(k:Int)-1 by omega]
  have hU:=Vw (B:=4294967296) (by decide) Se A k
  have Ng:=Si (B:=4294967296) (V:=V) A k
  have Sn:=Sj (B:=4294967296) (V:=V) A k
  obtain⟨N,hN⟩:∃N,a.length+1=N:=⟨_,rfl⟩
  obtain⟨A1,hA1⟩:∃A1,A%(V*4294967296^(k+1))=A1:=⟨_,rfl⟩
  rw[hN]
  rw[hA1]at hU Ng Sn⊢
  rw[hQ]at Sn
  obtain⟨⟨g,lg⟩,hge,hgl,Wd,LN⟩:=Ek (N:=N) (A:=A1) (o:=k) (n:=n) (v:=v) ZQ hvl (by omega) (by omega) (by rw[VB];exact hU) (by rw[VB];exact Li)
  simp only at hgl Wd LN
  rw[VB]at Wd LN
  subst hgl
  have hsub:=sx (N:=N) (A:=A1) (o:=k) (n:=n+2) (v:=v) (f:=g) ZQ hvl (by omega) (by omega) ?_ ?_
  ·rw[VB]at hsub
   obtain⟨U,LP⟩:∃U,A1/4294967296^k=U:=⟨_,rfl⟩
   rw[LP]at hU Ng Sn Wd LN hsub
   have Nh:4294967296^(n+2+1)=4294967296^(n+2)*4294967296:=Nat.pow_succ ..
   have hUM:U<4294967296^(n+2+1):=by
    have:4294967296*V<4294967296*4294967296^(n+2):=Nat.mul_lt_mul_of_pos_left xw (by decide)
    rw[Nh];omega
   have Lj:=Nd (M:=4294967296^(n+2+1)) Se Wd LN hUM (by rw[Nh];omega)
   have ZS:U/V<4294967296:=by rw[Sn];exact Nat.mod_lt _ (by decide)
   rw[show decide ((0:Int)≤(k:Int))=true by simp,ji]
   rw[r5 (by omega),bK (by omega),show k+(n+2)+1=k+(n+3) by omega,GC (by rw[aV];omega) (by rw[aV];omega),bC,hge,bC,oD rfl,bC,GC (by rw[aV];omega) (by rw[aV];omega),bC]
   show(Option.bind (cx _ k (n+2+1) v g) _)=_
   rw[hsub,bC,oD (by rw[aV,aV]),bC]
   simp only[cQ]
   rcases Lj with⟨hc1,CZ,VD⟩|⟨hc1,CZ,VD,hc4⟩
   ·rw[show decide (U<V*g)=false by simp;omega,ju,VD,Ng,CZ,Nat.mod_eq_of_lt ZS,Sn,cj (by rw[aV];omega),bC,e9 (by rw[aV];omega),bC,Lh (by decide) (by omega),bZ (by omega) (by omega)]
   ·rw[show decide (U<V*g)=true by simp;omega,ji,pN (by omega) (by omega),show g-1=U/V by omega,Nat.mod_eq_of_lt ZS,Sn]
    rw[Nat.mod_eq_of_lt VD]
    obtain⟨Y,hY⟩:∃Y,U+4294967296^(n+2+1)-V*g=Y:=⟨_,rfl⟩
    rw[hY]at VD hc4⊢
    obtain⟨A2,ZT⟩:∃A2,A1%4294967296^k+4294967296^k*Y=A2:=⟨_,rfl⟩
    rw[ZT]
    have hw2:A2/4294967296^k=Y:=by rw[←ZT,Nat.add_mul_div_left _ _ (hP k),Nat.div_eq_of_lt (Nat.mod_lt _ (hP k)),Nat.zero_add]
    have Ih:A2%4294967296^k=A1%4294967296^k:=by rw[←ZT,Nat.add_mul_mod_self_left,Nat.mod_mod]
    have hcr:∀i,CS 4294967296 Y V i≤1:=fun i=>FH (by decide) _ _ _
    refine bh (fun i=>((i:Int),CS 4294967296 Y V i,eI 4294967296 N (mix 4294967296 k i (Y+V) Y A2))) (n+2) (CS 4294967296 Y V (n+2),eI 4294967296 N (mix 4294967296 k (n+2) (Y+V) Y A2)) ?_ (fun i hi=>?_) ?_ ?_
    ·rw[Ec,←hw2,Ej];rfl
    ·have CQ:v[i]? =some (V/4294967296^i%4294967296):=by rw[←VB];exact nB ZQ.1 (by omega)
     have ZU:(eI 4294967296 N (mix 4294967296 k i (Y+V) Y A2))[k+i]? =some (Y/4294967296^i%4294967296):=by rw[lH (by omega),vf (by decide)]
     have SR:=Eb (B:=4294967296) (by decide) Y V i
     have Ap:=CH (B:=4294967296) (by decide) Y V i
     have hput:=CK (B:=4294967296) (by decide) k i (Y+V) Y A2 (N:=N) (by omega)
     have hci:=hcr i
     have hv1:=Nat.mod_lt (V/4294967296^i) (show 0<4294967296 by decide)
     have Tm:=Nat.mod_lt (Y/4294967296^i) (show 0<4294967296 by decide)
     simp only[show decide ((i:Int)<(v.length:Int))=true by simp;omega,ji]
     rw[aU CQ,bC,r5 (by omega),cj (by rw[aV];omega),bC,ZU,bC,Nat.mod_eq_of_lt (a:=Y/4294967296^i%4294967296) (b:=18446744073709551616) (by omega),Nat.mod_eq_of_lt (a:=V/4294967296^i%4294967296) (b:=18446744073709551616) (by omega),Nat.mod_eq_of_lt (b:=18446744073709551616) (by omega),fO _ _ (by omega),bC,bC,e9 (by rw[aV];omega),bC,bK (by omega)]
     rw[SR,Ap,hput]
    ·simp[hvl]
    ·have ZU:(eI 4294967296 N (mix 4294967296 k (n+2) (Y+V) Y A2))[k+(n+2)]? =some (Y/4294967296^(n+2)%4294967296):=by rw[lH (by omega),vf (by decide)]
     have Ap:=CH (B:=4294967296) (by decide) Y V (n+2)
     have hput:=CK (B:=4294967296) (by decide) k (n+2) (Y+V) Y A2 (N:=N) (by omega)
     have hci:=hcr (n+2)
     have Tm:=Nat.mod_lt (Y/4294967296^(n+2)) (show 0<4294967296 by decide)
     rw[Nat.div_eq_of_lt xw,Nat.zero_mod,Nat.add_zero]at Ap
     simp only[]
     rw[cj (by rw[aV];omega),bC,ZU,bC,Nat.mod_eq_of_lt (a:=Y/4294967296^(n+2)%4294967296) (b:=18446744073709551616) (by omega),fO _ _ (by omega),bC,bC,e9 (by rw[aV];omega),bC,Ap,hput,Ei VD,Ih,hc4,Ng,cj (by rw[aV];omega),bC,e9 (by rw[aV];omega),bC,Lh (by decide) (by omega),bZ (by omega) (by omega)]
  ·
   have ZS:A1/4294967296^k/V<4294967296:=by rw[Sn];exact Nat.mod_lt _ (by decide)
   omega
  ·have Nh:4294967296^(n+2+1)=4294967296^(n+2)*4294967296:=Nat.pow_succ ..
   have:4294967296*V<4294967296*4294967296^(n+2):=Nat.mul_lt_mul_of_pos_left xw (by decide)
   rw[Nh];omega
 ·rw[show K+1-(K+1)=0 by omega,Nat.pow_zero,Nat.mul_one,Nat.mul_one,Nat.div_one,show decide (0≤(K:Int)-((K+1:Nat):Int))=false by simp;omega,ju]
 ·
  obtain⟨R,hR⟩:∃R,Va%Vb=R:=⟨_,rfl⟩
  rw[ZP,hR]
  have ZV:R<4294967296^(n+2):=by rw[←hR];exact Nat.lt_trans (Nat.mod_lt _ hb0) Sl
  rw[pM (by decide) (by omega),bC]
  refine bh (fun i=>((i:Int),eI 4294967296 (n+2) (R%4294967296^i))) (n+2) (eI 4294967296 (n+2) R) ?_ (fun i hi=>?_) ?_ rfl
  ·rw[Nat.pow_zero,Nat.mod_one,rF];rfl
  ·obtain⟨e,he⟩:∃e,4294967296=D*e:=⟨2^(32-s),by rw[←hD,←Nat.pow_add,show s+(32-s)=32 by omega,two32]⟩
   have VE:=Nf (R:=R) (i:=i) Vy he
   obtain⟨u,hu⟩:∃u,R*D/4294967296^i%4294967296=u:=⟨_,rfl⟩
   obtain⟨w,hw⟩:∃w,R*D/4294967296^(i+1)%4294967296=w:=⟨_,rfl⟩
   have Tn:u<4294967296:=by rw[←hu];exact Nat.mod_lt _ (by decide)
   have hw1:w<4294967296:=by rw[←hw];exact Nat.mod_lt _ (by decide)
   rw[hu,hw]at VE
   simp only[show decide ((i:Int)<((n+2:Nat):Int))=true by simp;omega,ji]
   rw[cj (by rw[aV];omega),bC,lH (by omega),bC,hu,bK (by omega),cj (by rw[aV];omega),bC,lH (by omega),bC,hw,Nat.mod_eq_of_lt (a:=u) (by omega),Nat.mod_eq_of_lt (a:=w) (by omega),two32,Nat.mod_eq_of_lt (a:=w*4294967296) (by omega),Nat.or_comm,GA Tn,Nat.mod_eq_of_lt (a:=w*4294967296+u) (by omega),show min s 64=s by omega,hD,VE,cj (by rw[aV];omega),bC,e9 (by rw[aV];omega),bC]
   rw[Sk (by decide) hi]
  ·rw[Nat.mod_eq_of_lt ZV];simp
end Go.Proofs.Ytningmnklfpfjaa
namespace Go.Proofs.Ytningmnklfpfjaa
open Go.Fw
def sv(n:Bool)(v:Nat):Int:=bif n then-(v:Int)else v
def zi(z:Zr):Int:=sv z.neg (vl z.w)
def zn(i:Int):Zr:=⟨decide (i<0),can 4294967296 i.natAbs⟩
def Wl(z:Zr):Prop:=(∀x∈z.w,x<4294967296)∧z.w.length≤10000000000
def Fit(L:Nat)(i:Int):Prop:=i.natAbs<4294967296^L
theorem Lk(n:Bool)(v:Nat):(sv n v).natAbs=v:=by cases n<;>simp[sv]
theorem CM(z:Zr):(zi z).natAbs=vl z.w:=Lk _ _
theorem So(n:Bool)(v:Nat):decide (sv n v<0)=(n&&v != 0):=by
 cases n
 ·have:¬((v:Int)<0):=by omega
  simp[sv,this]
 ·rcases v with _|v
  ·simp[sv]
  ·simp[sv]
theorem nC(n:Bool)(v:Nat):zc n v=zn (sv n v):=by rw[zc,zn,So,Lk]
theorem Ni(i:Int):sv (decide (i<0)) i.natAbs=i:=by
 by_cases h:i<0
 ·rw[show decide (i<0)=true by simp[h]];simp[sv];omega
 ·rw[show decide (i<0)=false by simp[h]];simp[sv];omega
theorem eM(i:Int):zi (zn i)=i:=by
 show sv (decide (i<0)) (vl (can 4294967296 i.natAbs))=i
 rw[show vl (can 4294967296 i.natAbs)=i.natAbs from pR (by decide) _,Ni]
theorem CN(n:Bool)(v:Nat):sv (!n) v=-sv n v:=by cases n<;>simp[sv]
theorem mW(v:Nat):sv false v=v:=rfl
theorem Fit.mono{L M:Nat}{i:Int}(h:Fit L i)(hl:L≤M):Fit M i:=Nat.lt_of_lt_of_le h (Nat.pow_le_pow_right (by decide) hl)
theorem Fit.neg{L:Nat}{i:Int}(h:Fit L i):Fit L (-i):=by unfold Fit at*;rw[Int.natAbs_neg];exact h
theorem Fit.add{L:Nat}{i j:Int}(h:Fit L i)(h':Fit L j):Fit (L+1) (i+j):=by
 unfold Fit at*
 have:=Int.natAbs_add_le i j
 rw[Nat.pow_succ];omega
theorem Fit.sub{L:Nat}{i j:Int}(h:Fit L i)(h':Fit L j):Fit (L+1) (i-j):=by
 rw[Int.sub_eq_add_neg];exact h.add h'.neg
theorem Fit.mul{L M:Nat}{i j:Int}(h:Fit L i)(h':Fit M j):Fit (L+M) (i*j):=by
 unfold Fit at*
 rw[Int.natAbs_mul,Nat.pow_add]
 exact Nat.mul_lt_mul'' h h'
theorem Fit.i64{i:Int}(h: -9223372036854775808≤i)(h':i≤9223372036854775807):Fit 2 i:=by
 unfold Fit;rw[show(4294967296:Nat)^2=18446744073709551616 by decide];omega
theorem Fit.le{L:Nat}{i j:Int}(h:Fit L i)(h':j.natAbs≤i.natAbs):Fit L j:=Nat.lt_of_le_of_lt h' h
theorem jw{L:Nat}{i:Int}(h:Fit L i)(hL:L≤10000000000):Wl (zn i):=
 ⟨fun _ hx=>ko (by decide) hx,Nat.le_trans ((ep (by decide)).2 h) hL⟩
theorem Wl.fit{z:Zr}(h:Wl z):Fit z.w.length (zi z):=by
 unfold Fit;rw[CM];exact iw z.w h.1
theorem Wl.lt{z:Zr}(h:Wl z):vl z.w<4294967296^z.w.length:=iw z.w h.1
theorem Wl.cl{z:Zr}(h:Wl z):(can 4294967296 (vl z.w)).length≤10000000000:=
 Nat.le_trans ((ep (by decide)).2 (Wl.lt h)) h.2
theorem Wl.trim{z:Zr}(h:Wl z):aB z.w=some (can 4294967296 (vl z.w)):=by
 rw[xS _ (by have:=h.2;omega),oF (by decide) h.1]
theorem fL{v:Nat}(h:(can 4294967296 v).length≤10000000001):CT (can 4294967296 v):=⟨fun _ hx=>ko (by decide) hx,by omega⟩
theorem dQ(v:Nat):vl (can 4294967296 v)=v:=pR (by decide) v
theorem fe{v:Nat}:((can 4294967296 v).length:Int)≤2↔v<18446744073709551616:=by
 have:=ep (B:=4294967296) (by decide) (v:=v) (n:=2)
 rw[show(4294967296:Nat)^2=18446744073709551616 by decide]at this
 omega
theorem kp{v:Nat}:((can 4294967296 v).length:Int)≤1↔v<4294967296:=by
 have:=ep (B:=4294967296) (by decide) (v:=v) (n:=1)
 rw[show(4294967296:Nat)^1=4294967296 by decide]at this
 omega
theorem oI{v:Nat}:(can 4294967296 v).length=0↔v=0:=by
 constructor
 ·intro h;exact CF (by decide) (List.length_eq_zero_iff.1 h)
 ·intro h;rw[h,rH];rfl
theorem vg(l:List Nat)(h:l.length≤1000000000000):cG l=some l:=by
 unfold cG;rw[ZA (by decide) (by simp;omega)];simp
end Go.Proofs.Ytningmnklfpfjaa
namespace Go.Proofs.Ytningmnklfpfjaa
open Go.Fw
theorem Em(a b:Nat):decide (AQ a b<0)=decide (a<b):=by
 rcases Nat.lt_trichotomy a b with h|h|h
 ·rw[vc h];simp[h]
 ·rw[h,CJ];simp
 ·rw[xR h];simp;omega
theorem wO(a b:Nat)(ha:(can 4294967296 a).length≤10000000000)(hb:(can 4294967296 b).length≤10000000000)(h0:b≠0):
  ∃q r,dw (can 4294967296 a) (can 4294967296 b)=some (q,r)∧CT q∧vl q=a/b∧CT r∧vl r=a%b∧q.length≤10000000001∧r.length≤10000000001:=by
 unfold dw
 rw[jz a b (by omega) (by omega)]
 simp only[bC]
 by_cases hlt:a<b
 ·rw[vc hlt]
  simp only[show decide ((-1:Int)<0)=true by decide,ji]
  rw[vg _ (by omega)]
  refine⟨_,_,rfl,⟨by simp,by simp⟩,?_,fL (by omega),?_,by simp,by omega⟩
  ·rw[Nat.div_eq_of_lt hlt];rfl
  ·rw[dQ,Nat.mod_eq_of_lt hlt]
 ·rw[Em,show decide (a<b)=false by simp[hlt]]
  simp only[ju]
  by_cases h2:a<18446744073709551616
  ·rw[show decide (((can 4294967296 a).length:Int)≤2)=true by rw[decide_eq_true_eq];exact fe.2 h2]
   have Aq:b<18446744073709551616:=by omega
   simp only[ji]
   have l1:=low_eq (can 4294967296 a) (fun _ hx=>ko (by decide) hx) (by have:=fe.2 h2;omega)
   have l2:=low_eq (can 4294967296 b) (fun _ hx=>ko (by decide) hx) (by have:=fe.2 Aq;omega)
   rw[dQ]at l1 l2
   rw[l1,bC,l2,bC,CC h0 h2,bC,oH _ _ (Nat.lt_of_le_of_lt (Nat.div_le_self _ _) h2),bC,xP h0,bC,oH _ _ (Nat.lt_of_le_of_lt (Nat.mod_le _ _) h2),bC]
   have hq:a/b<18446744073709551616:=Nat.lt_of_le_of_lt (Nat.div_le_self _ _) h2
   have hr:a%b<18446744073709551616:=Nat.lt_of_le_of_lt (Nat.mod_le _ _) h2
   have c1:=fe.2 hq
   have c2:=fe.2 hr
   exact⟨_,_,rfl,fL (by omega),dQ _,fL (by omega),dQ _,by show(can _ _).length≤_;omega,by show(can _ _).length≤_;omega⟩
  ·rw[show decide (((can 4294967296 a).length:Int)≤2)=false by rw[decide_eq_false_iff_not];exact fun h=>h2 (fe.1 h)]
   simp only[ju]
   have wJ:(can 4294967296 b).length≠0:=fun h=>h0 (oI.1 h)
   by_cases h1:b<4294967296
   ·have h1':=kp.2 h1
    rw[show decide (((can 4294967296 b).length:Int)=1)=true by simp;omega,ji]
    have hg:(can 4294967296 b)[0]? =some b:=by rw[CG (by decide) (by omega)];simp;exact h1
    rw[vg _ (by omega),bC,wc hg,bC,Nat.mod_eq_of_lt (b:=18446744073709551616) (by omega),Eh _ _ (fL (by omega)) (by omega) (by omega),bC,dQ]
    simp only[]
    rw[oD (by rw[aV]),bC]
    have hm:a%b<b:=Nat.mod_lt _ (by omega)
    rw[Nat.mod_eq_of_lt (a:=a%b) (by omega)]
    refine⟨_,_,rfl,⟨fun x hx=>lS (by decide) _ _ _ hx,by rw[aV];omega⟩,?_,⟨?_,by simp⟩,?_,by rw[aV];omega,by simp⟩
    ·show val _ _=_
     rw[kn,Nat.mod_eq_of_lt (Nat.lt_of_le_of_lt (Nat.div_le_self _ _) (di (by decide) a))]
    ·intro x hx;simp at hx;omega
    ·simp[vl,val]
   ·have h1':¬(((can 4294967296 b).length:Int)≤1):=fun h=>h1 (kp.1 h)
    rw[show decide (((can 4294967296 b).length:Int)=1)=false by simp;omega,ju]
    obtain⟨n,hn⟩:∃n,(can 4294967296 b).length=n+2:=⟨(can 4294967296 b).length-2,by omega⟩
    have hl:(can 4294967296 b).length≤(can 4294967296 a).length:=(ep (by decide)).2 (Nat.lt_of_le_of_lt (by omega) (di (by decide) a))
    obtain⟨l,x,hx,he⟩:=Ea (B:=4294967296) (by decide) h0
    have FJ:(can 4294967296 b)[n+1]? ≠some 0:=by
     have:l.length=n+1:=by rw[he]at hn;simp at hn;omega
     rw[he,←this];simp;exact hx
    rw[FK _ _ (fL (by omega)) (fL (by omega)) hn hl FJ,bC,dQ,dQ]
    have hbp:0<b:=by omega
    have e1:a<4294967296^(can 4294967296 a).length:=di (by decide) a
    have e2:b<4294967296^(can 4294967296 b).length:=di (by decide) b
    have e3:4294967296^(n+1)≤b:=sM (by decide) (by omega)
    refine⟨_,_,rfl,⟨fun x hx=>lS (by decide) _ _ _ hx,by rw[aV];omega⟩,?_,⟨fun x hx=>lS (by decide) _ _ _ hx,by rw[aV];omega⟩,?_,by rw[aV];omega,by rw[aV];omega⟩
    ·show val _ _=_
     rw[kn,Nat.mod_eq_of_lt]
     rw[Nat.div_lt_iff_lt_mul hbp]
     have:4294967296^((can 4294967296 a).length-(can 4294967296 b).length+1)*4294967296^(n+1)=4294967296^(can 4294967296 a).length:=by rw[←Nat.pow_add];congr 1;omega
     calc a<4294967296^((can 4294967296 a).length-(can 4294967296 b).length+1)*4294967296^(n+1):=by rw[this];exact e1
      _≤_:=Nat.mul_le_mul_left _ e3
    ·show val _ _=_
     rw[kn,Nat.mod_eq_of_lt (Nat.lt_trans (Nat.mod_lt _ hbp) e2)]
end Go.Proofs.Ytningmnklfpfjaa
namespace Go.Proofs.Ytningmnklfpfjaa
open Go.Fw
theorem kQ{x:Int}(h1: -9223372036854775808≤x)(h2:x≤9223372036854775807):aY x=some (zn x):=by
 unfold aY
 simp only[bC,cQ]
 by_cases hx:x<0
 ·have e:(x%18446744073709551616).toNat=18446744073709551616-x.natAbs:=by omega
  rw[show decide (x<0)=true by simp[hx],ji,e,xN (by omega) (by omega),show 18446744073709551616+0-(18446744073709551616-x.natAbs)=x.natAbs by omega,oH _ _ (by omega),bC,nC,show sv true x.natAbs=x by simp[sv];omega]
 ·have e:(x%18446744073709551616).toNat=x.natAbs:=by omega
  rw[show decide (x<0)=false by simp[hx],ju,e,oH _ _ (by omega),bC,nC,show sv false x.natAbs=x by simp[sv];omega]
def eF(i:Int):Prop:=-9223372036854775808≤i∧i≤9223372036854775807
instance(i:Int):Decidable (eF i):=by unfold eF;infer_instance
def rI(i:Int):Int×Bool:=if eF i then(i,true)else(0,false)
theorem mX{z:Zr}(h:Wl z):cJ z=some (rI (zi z)):=by
 obtain⟨n,w⟩:=z
 unfold cJ
 have ht:=h.trim
 have ZW:vl w<18446744073709551616→cV (can 4294967296 (vl w))=some (vl w):=fun h2=>by
  rw[low_eq _ (fun _ hx=>ko (by decide) hx) (by have:=fe.2 h2;omega),dQ]
 show(aB w).bind _=some (rI (sv n (vl w)))
 rw[show aB w=some (can 4294967296 (vl w))from ht]
 simp only[bC]
 generalize vl w=v at*
 by_cases h2:v<18446744073709551616
 ·have:=fe.2 h2
  rw[show decide ((2:Int)<((can 4294967296 v).length:Int))=false by simp;omega,ju,ZW h2,bC]
  cases n
  ·rw[ju,mW]
   by_cases h3:v<9223372036854775808
   ·rw[show decide (9223372036854775808≤v)=false by simp;omega,ju,r0 (by omega),rI,if_pos (by unfold eF;omega)]
   ·rw[show decide (9223372036854775808≤v)=true by simp;omega,ji,rI,if_neg (by unfold eF;omega)]
  ·rw[ji,show sv true v=-(v:Int)from rfl]
   by_cases h3:9223372036854775808<v
   ·rw[show decide (9223372036854775808<v)=true by simp;omega,ji,rI,if_neg (by unfold eF;omega)]
   ·rw[show decide (9223372036854775808<v)=false by simp;omega,ju,rI,if_pos (by unfold eF;omega)]
    by_cases h0:v=0
    ·subst h0;rfl
    ·rw[xN (by omega) (by omega)]
     rw[show IntKind.i64.wrap ((18446744073709551616+0-v:Nat):Int)=-(v:Int) by
      rw[IntKind.wrap];simp[IntKind.signed,IntKind.bits];omega]
 ·have:¬(((can 4294967296 v).length:Int)≤2):=fun h=>h2 (fe.1 h)
  rw[show decide ((2:Int)<((can 4294967296 v).length:Int))=true by simp;omega,ji,rI,if_neg (by unfold eF;cases n<;>simp[sv]<;>omega)]
theorem sign_eq{z:Zr}(h:Wl z):cf z=some (zi z).sign:=by
 obtain⟨n,w⟩:=z
 unfold cf
 show(aB w).bind _=some (sv n (vl w)).sign
 rw[show aB w=some (can 4294967296 (vl w))from h.trim]
 simp only[bC]
 generalize vl w=v
 by_cases h0:v=0
 ·subst h0;cases n<;>rfl
 ·have:(can 4294967296 v).length≠0:=fun h=>h0 (oI.1 h)
  rw[show decide (((can 4294967296 v).length:Int)=0)=false by simp;intro e;rw[e]at this;exact this rfl,ju]
  cases n
  ·rw[ju,mW,Int.sign_eq_one_of_pos (by omega)]
  ·rw[ji,show sv true v=-(v:Int)from rfl,Int.sign_eq_neg_one_of_neg (by omega)]
def oJ(i j:Int):Int:=if i<j then-1 else if i=j then 0 else 1
theorem kW{i j:Int}(h:i<j):oJ i j=-1:=by simp[oJ,h]
theorem kX{i j:Int}(h:j<i):oJ i j=1:=by
 have h1:¬i<j:=by omega
 have h2:¬i=j:=by omega
 simp[oJ,h1,h2]
theorem r7(i:Int):oJ i i=0:=by simp[oJ]
theorem Eo(v w:Nat):AQ v w=oJ (v:Int) (w:Int):=by
 rcases Nat.lt_trichotomy v w with h|h|h
 ·rw[vc h,kW (by omega)]
 ·rw[h,CJ,r7]
 ·rw[xR h,kX (by omega)]
theorem Ll(i j:Int):oJ (-i) (-j)=oJ j i:=by
 rcases Int.lt_trichotomy i j with h|h|h
 ·rw[kX h,kX (by omega)]
 ·rw[h,r7,r7]
 ·rw[kW h,kW (by omega)]
theorem Sq{x y:Zr}(hx:Wl x)(hy:Wl y):lu x y=some (oJ (zi x) (zi y)):=by
 obtain⟨n,w⟩:=x
 obtain⟨m,u⟩:=y
 unfold lu
 show(cf ⟨n,w⟩).bind _=_
 rw[sign_eq hx,bC]
 show(cf ⟨m,u⟩).bind _=_
 rw[sign_eq hy,bC,show aB w=some (can 4294967296 (vl w))from hx.trim,show aB u=some (can 4294967296 (vl u))from hy.trim]
 simp only[bC]
 rw[jz _ _ (Nat.le_trans hx.cl (by decide)) (Nat.le_trans hy.cl (by decide)),jz _ _ (Nat.le_trans hy.cl (by decide)) (Nat.le_trans hx.cl (by decide))]
 simp only[bC]
 rw[show zi ⟨n,w⟩=sv n (vl w)from rfl,show zi ⟨m,u⟩=sv m (vl u)from rfl]
 generalize vl w=a
 generalize vl u=b
 rw[Eo,Eo]
 obtain⟨i,hi⟩:∃i,sv n a=i:=⟨_,rfl⟩
 obtain⟨j,hj⟩:∃j,sv m b=j:=⟨_,rfl⟩
 have SJ:(i<0→i=-(a:Int))∧(0≤i→i=a):=by rw[←hi];cases n<;>simp[sv]<;>omega
 have ZX:(j<0→j=-(b:Int))∧(0≤j→j=b):=by rw[←hj];cases m<;>simp[sv]<;>omega
 rw[hi,hj]
 rcases Int.lt_trichotomy i 0 with h1|h1|h1<;>rcases Int.lt_trichotomy j 0 with h2|h2|h2
 ·rw[Int.sign_eq_neg_one_of_neg h1,Int.sign_eq_neg_one_of_neg h2,SJ.1 h1,ZX.1 h2,Ll];rfl
 ·rw[Int.sign_eq_neg_one_of_neg h1,show Int.sign j=0 by rw[h2];rfl,show oJ i j=-1 from kW (by omega)];rfl
 ·rw[Int.sign_eq_neg_one_of_neg h1,Int.sign_eq_one_of_pos h2,show oJ i j=-1 from kW (by omega)];rfl
 ·rw[show Int.sign i=0 by rw[h1];rfl,Int.sign_eq_neg_one_of_neg h2,show oJ i j=1 from kX (by omega)];rfl
 ·rw[show Int.sign i=0 by rw[h1];rfl,show Int.sign j=0 by rw[h2];rfl,←SJ.2 (by omega),←ZX.2 (by omega)];rfl
 ·rw[show Int.sign i=0 by rw[h1];rfl,Int.sign_eq_one_of_pos h2,show oJ i j=-1 from kW (by omega)];rfl
 ·rw[Int.sign_eq_one_of_pos h1,Int.sign_eq_neg_one_of_neg h2,show oJ i j=1 from kX (by omega)];rfl
 ·rw[Int.sign_eq_one_of_pos h1,show Int.sign j=0 by rw[h2];rfl,show oJ i j=1 from kX (by omega)];rfl
 ·rw[Int.sign_eq_one_of_pos h1,Int.sign_eq_one_of_pos h2,←SJ.2 (by omega),←ZX.2 (by omega)];rfl
theorem neg_eq{x:Zr}(hx:Wl x):dZ x=some (zn (-zi x)):=by
 obtain⟨n,w⟩:=x
 unfold dZ
 have hc:(can 4294967296 (vl w)).length≤10000000000:=hx.cl
 simp only[bC]
 rw[show aB w=some (can 4294967296 (vl w))from hx.trim,bC,vg _ (by omega),bC,jv _ _ (fL (by omega)),bC,dQ,nC,CN]
 rfl
end Go.Proofs.Ytningmnklfpfjaa
namespace Go.Proofs.Ytningmnklfpfjaa
open Go.Fw
theorem vh(n m:Bool)(a b:Nat)(ha:(can 4294967296 a).length≤10000000000)(hb:(can 4294967296 b).length≤10000000000):
  bP n (can 4294967296 a) m (can 4294967296 b)=some (zn (sv n a+sv m b)):=by
 have la:=di (B:=4294967296) (by decide) a
 have lb:=di (B:=4294967296) (by decide) b
 unfold bP
 simp only[bC]
 by_cases hnm:n=m
 ·subst hnm
  rw[show(n==n)=true by simp,ji,wM _ _ (fL (by omega)) (fL (by omega)),bC,dQ,dQ,jv _ _ ⟨fun x hx=>lS (by decide) _ _ _ hx,by rw[aV];omega⟩,bC]
  have hv:vl (eI 4294967296 (max (can 4294967296 a).length (can 4294967296 b).length+1) (a+b))=a+b:=by
   show val _ _=_
   rw[kn,Nat.mod_eq_of_lt]
   have h1:a<4294967296^(max (can 4294967296 a).length (can 4294967296 b).length):=Nat.lt_of_lt_of_le la (Nat.pow_le_pow_right (by decide) (by omega))
   have h2:b<4294967296^(max (can 4294967296 a).length (can 4294967296 b).length):=Nat.lt_of_lt_of_le lb (Nat.pow_le_pow_right (by decide) (by omega))
   rw[Nat.pow_succ];omega
  rw[hv,nC,show sv n (a+b)=sv n a+sv n b by cases n<;>simp[sv];omega]
 ·rw[show(n==m)=false by simp[hnm],ju,jz _ _ (by omega) (by omega),bC,Em]
  have hm:m= !n:=by cases n<;>cases m<;>simp_all
  subst hm
  have hv:∀c d,d≤c→(can 4294967296 c).length≤10000000000→bL (can 4294967296 c) (can 4294967296 d)=some (eI 4294967296 (can 4294967296 c).length (c-d))∧vl (eI 4294967296 (can 4294967296 c).length (c-d))=c-d:=by
   intro c d hdc sy
   have lc:=di (B:=4294967296) (by decide) c
   have ZY:(can 4294967296 d).length≤(can 4294967296 c).length:=(ep (by decide)).2 (by omega)
   constructor
   ·rw[wN _ _ (fL (by omega)) (fL (by omega)) ZY (by rw[dQ,dQ];exact hdc),dQ,dQ]
   ·show val _ _=_
    rw[kn,Nat.mod_eq_of_lt (by omega)]
  by_cases hlt:a<b
  ·obtain⟨h1,h2⟩:=hv b a (by omega) hb
   rw[show decide (a<b)=true by simp[hlt],ji,h1,bC,jv _ _ ⟨fun x hx=>lS (by decide) _ _ _ hx,by rw[aV];omega⟩,bC,h2,nC,show sv (!n) (b-a)=sv n a+sv (!n) b by cases n<;>simp[sv]<;>omega]
  ·obtain⟨h1,h2⟩:=hv a b (by omega) ha
   rw[show decide (a<b)=false by simp[hlt],ju,h1,bC,jv _ _ ⟨fun x hx=>lS (by decide) _ _ _ hx,by rw[aV];omega⟩,bC,h2,nC,show sv n (a-b)=sv n a+sv (!n) b by cases n<;>simp[sv]<;>omega]
theorem GD(v:BitVec 64):IntKind.i64.wrap (v.toNat:Int)=v.toInt:=by
 rw[BitVec.toInt_eq_toNat_cond]
 have:=v.isLt
 rw[show(2:Nat)^64=18446744073709551616 by decide]at this⊢
 split
 ·rw[r0 (by omega)]
 ·rw[IntKind.wrap];simp[IntKind.signed,IntKind.bits];omega
theorem GF(v:BitVec 64):BitVec.ofInt 64 (IntKind.i64.wrap (v.toNat:Int))=v:=by rw[GD,BitVec.ofInt_toInt]
theorem wh{x:Int}(h:eF x):(BitVec.ofInt 64 x).msb=decide (x<0):=by
 rw[BitVec.msb_eq_toInt,BitVec.toInt_ofInt]
 unfold eF at h
 have:x.bmod (2^64)=x:=by
  rw[Int.bmod_def]
  simp only[show((2^64:Nat):Int)=18446744073709551616 by decide]
  split<;>omega
 rw[this]
theorem BA(v:BitVec 64):decide ((0:Int)≤IntKind.i64.wrap (v.toNat:Int))= !v.msb:=by
 rw[GD,BitVec.msb_eq_toInt]
 by_cases h:v.toInt<0
 ·simp[h]
 ·simp[h];omega
theorem oK(x:Int):eF (IntKind.i64.wrap x):=by
 unfold eF
 rw[IntKind.wrap];simp[IntKind.signed,IntKind.bits];split<;>omega
theorem z7{α:Type}(b:Bool)(x:α):(bif b then x else x)=x:=by cases b<;>rfl
theorem gW{i:Int}(h:eF i):rI i=(i,true):=if_pos h
theorem mY{i:Int}(h:¬eF i):rI i=(0,false):=if_neg h
theorem add_eq{x y:Zr}(hx:Wl x)(hy:Wl y):iH x y=some (zn (zi x+zi y)):=by
 obtain⟨n,w⟩:=x
 obtain⟨m,u⟩:=y
 unfold iH
 simp only[mX hx,mX hy,bC,cQ]
 have hK:((aB w).bind fun qF=>(aB u).bind fun rV=>(bP n qF m rV).bind fun x=>some x)=some (zn (zi ⟨n,w⟩+zi ⟨m,u⟩)):=by
  rw[show aB w=some (can 4294967296 (vl w))from hx.trim,show aB u=some (can 4294967296 (vl u))from hy.trim,bC,bC,vh _ _ _ _ hx.cl hy.cl,bC];rfl
 have ZZ:((aB w).bind fun qF=>(aB u).bind fun rV=>(bP n qF m rV).bind fun x=>some ⟨x.neg,x.w⟩)=some (zn (zi ⟨n,w⟩+zi ⟨m,u⟩)):=hK
 rw[ZZ]
 generalize zi ⟨n,w⟩=i
 generalize zi ⟨m,u⟩=j
 by_cases h1:eF i
 ·by_cases h2:eF j
  ·rw[gW h1,gW h2,ji,bC,ji,GF,GF,BA,BitVec.msb_and,BitVec.msb_xor,BitVec.msb_xor,wh h1,wh h2,wh (oK _),kQ (oK _).1 (oK _).2,bC]
   by_cases hr:eF (i+j)
   ·rw[bZ hr.1 hr.2]
    exact z7 _ _
   ·have:(!((decide (i<0)^^decide (IntKind.i64.wrap (i+j)<0))&&(decide (j<0)^^decide (IntKind.i64.wrap (i+j)<0))))=false:=by
     unfold eF at*
     by_cases hs:i<0
     ·have e:IntKind.i64.wrap (i+j)=i+j+18446744073709551616:=by rw[IntKind.wrap];simp[IntKind.signed,IntKind.bits];omega
      rw[e,show decide (i<0)=true by simp[hs],show decide (j<0)=true by simp;omega,show decide (i+j+18446744073709551616<0)=false by simp;omega];rfl
     ·have e:IntKind.i64.wrap (i+j)=i+j-18446744073709551616:=by rw[IntKind.wrap];simp[IntKind.signed,IntKind.bits];omega
      rw[e,show decide (i<0)=false by simp[hs],show decide (j<0)=false by simp;omega,show decide (i+j-18446744073709551616<0)=true by simp;omega];rfl
    rw[this,ju]
  ·rw[gW h1,mY h2,ji,bC,ju]
 ·rw[mY h1,ju,bC,ju]
theorem sub_eq{x y:Zr}(hx:Wl x)(hy:Wl y):iI x y=some (zn (zi x-zi y)):=by
 obtain⟨n,w⟩:=x
 obtain⟨m,u⟩:=y
 unfold iI
 simp only[mX hx,mX hy,bC,cQ]
 have ZZ:((aB w).bind fun qF=>(aB u).bind fun rV=>(bP n qF (!m) rV).bind fun x=>some ⟨x.neg,x.w⟩)=some (zn (zi ⟨n,w⟩-zi ⟨m,u⟩)):=by
  rw[show aB w=some (can 4294967296 (vl w))from hx.trim,show aB u=some (can 4294967296 (vl u))from hy.trim,bC,bC,vh _ _ _ _ hx.cl hy.cl,bC,CN,←Int.sub_eq_add_neg];rfl
 rw[ZZ]
 generalize zi ⟨n,w⟩=i
 generalize zi ⟨m,u⟩=j
 by_cases h1:eF i
 ·by_cases h2:eF j
  ·rw[gW h1,gW h2,ji,bC,ji,GF,GF,BA,BitVec.msb_and,BitVec.msb_xor,BitVec.msb_xor,wh h1,wh h2,wh (oK _),kQ (oK _).1 (oK _).2,bC]
   by_cases hr:eF (i-j)
   ·rw[bZ hr.1 hr.2]
    exact z7 _ _
   ·have:(!((decide (i<0)^^decide (j<0))&&(decide (i<0)^^decide (IntKind.i64.wrap (i-j)<0))))=false:=by
     unfold eF at*
     by_cases hs:i<0
     ·have e:IntKind.i64.wrap (i-j)=i-j+18446744073709551616:=by rw[IntKind.wrap];simp[IntKind.signed,IntKind.bits];omega
      rw[e,show decide (i<0)=true by simp[hs],show decide (j<0)=false by simp;omega,show decide (i-j+18446744073709551616<0)=false by simp;omega];rfl
     ·have e:IntKind.i64.wrap (i-j)=i-j-18446744073709551616:=by rw[IntKind.wrap];simp[IntKind.signed,IntKind.bits];omega
      rw[e,show decide (i<0)=false by simp[hs],show decide (j<0)=true by simp;omega,show decide (i-j-18446744073709551616<0)=true by simp;omega];rfl
    rw[this,ju]
  ·rw[gW h1,mY h2,ji,bC,ju]
 ·rw[mY h1,ju,bC,ju]
theorem Lm(n m:Bool)(a b:Nat):sv (!(n==m)) (a*b)=sv n a*sv m b:=by
 cases n<;>cases m<;>simp[sv,Int.neg_mul,Int.mul_neg]
theorem mul_eq{x y:Zr}(hx:Wl x)(hy:Wl y):bV x y=some (zn (zi x*zi y)):=by
 obtain⟨n,w⟩:=x
 obtain⟨m,u⟩:=y
 unfold bV
 have We:(can 4294967296 (vl w)).length≤10000000000:=hx.cl
 have VF:(can 4294967296 (vl u)).length≤10000000000:=hy.cl
 simp only[]
 rw[show aB w=some (can 4294967296 (vl w))from hx.trim,show aB u=some (can 4294967296 (vl u))from hy.trim,bC,bC,show zi ⟨n,w⟩=sv n (vl w)from rfl,show zi ⟨m,u⟩=sv m (vl u)from rfl]
 simp only[bC,cQ]
 generalize vl w=a at*
 generalize vl u=b at*
 have la:=di (B:=4294967296) (by decide) a
 have lb:=di (B:=4294967296) (by decide) b
 have hK:((dr (can 4294967296 a) (can 4294967296 b)).bind fun rX=>(bu (!(n==m)) rX).bind fun x=>some ⟨x.neg,x.w⟩)=some (zn (sv n a*sv m b)):=by
  rw[Eg _ _ (fL (by omega)) (fL (by omega)),bC,dQ,dQ,jv _ _ ⟨fun x hx=>lS (by decide) _ _ _ hx,by rw[aV];omega⟩,bC,nC]
  have hv:vl (eI 4294967296 ((can 4294967296 a).length+(can 4294967296 b).length) (a*b))=a*b:=by
   show val _ _=_
   rw[kn,Nat.mod_eq_of_lt]
   rw[Nat.pow_add];exact Nat.mul_lt_mul'' la lb
  rw[hv,Lm]
 rw[hK]
 by_cases h1:a<4294967296
 ·by_cases h2:b<4294967296
  ·have l1:=low_eq (can 4294967296 a) (fun _ hx=>ko (by decide) hx) (by have:=kp.2 h1;omega)
   have l2:=low_eq (can 4294967296 b) (fun _ hx=>ko (by decide) hx) (by have:=kp.2 h2;omega)
   rw[dQ]at l1 l2
   have hlt:a*b<18446744073709551616:=Nat.mul_lt_mul'' h1 h2
   rw[show decide (((can 4294967296 a).length:Int)≤1)=true by rw[decide_eq_true_eq];exact kp.2 h1,ji,bC,show decide (((can 4294967296 b).length:Int)≤1)=true by rw[decide_eq_true_eq];exact kp.2 h2,ji,l1,l2,bC,bC,Nat.mod_eq_of_lt hlt,oH _ _ hlt,bC,nC,Lm]
  ·rw[show decide (((can 4294967296 a).length:Int)≤1)=true by rw[decide_eq_true_eq];exact kp.2 h1,ji,bC,show decide (((can 4294967296 b).length:Int)≤1)=false by rw[decide_eq_false_iff_not];exact fun h=>h2 (kp.1 h),ju]
 ·rw[show decide (((can 4294967296 a).length:Int)≤1)=false by rw[decide_eq_false_iff_not];exact fun h=>h1 (kp.1 h),ju,bC,ju]
end Go.Proofs.Ytningmnklfpfjaa
namespace Go.Proofs.Ytningmnklfpfjaa
open Go.Fw
theorem Sr(n m:Bool){a b:Nat}(hb:0<b):
  sv n a/sv m b=(if n=true∧0<a%b then sv (!(n==m)) (a/b+1)else sv (!(n==m)) (a/b))∧
  sv n a%sv m b=(if n=true∧0<a%b then((b-a%b:Nat):Int)else((a%b:Nat):Int)):=by
 have hd:=Nat.div_add_mod a b
 have hm:=Nat.mod_lt a hb
 revert hd hm
 generalize a/b=q
 generalize a%b=r
 intro hd hm
 have hd':(b:Int)*q+r=a:=by exact_mod_cast hd
 have pos:∀n,sv n a/(b:Int)=(if n=true∧0<r then sv n (q+1)else sv n q)∧sv n a%(b:Int)=(if n=true∧0<r then((b-r:Nat):Int)else(r:Int)):=by
  intro n
  apply(Int.ediv_emod_unique (by omega)).2
  cases n
  ·simp[sv];omega
  ·by_cases hr:0<r
   ·simp only[hr,and_self,if_true,sv,cond_true]
    have:(b:Int)* -((q+1:Nat):Int)=-((b:Int)*q)-b:=by
     rw[Int.mul_neg,Int.natCast_add,Int.mul_add];simp;omega
    rw[this];omega
   ·have:r=0:=by omega
    subst this
    simp[sv,Int.mul_neg];omega
 cases m
 ·have:=pos n
  rw[mW,show(!(n==false))=n by cases n<;>rfl]
  exact this
 ·have:=pos n
  rw[show sv true b=-(b:Int)from rfl,Int.ediv_neg,Int.emod_neg,this.1,this.2,show(!(n==true))= !n by cases n<;>rfl,CN,CN]
  refine⟨?_,rfl⟩
  split<;>rfl
theorem Ss{a b:Nat}(hba:b≤a)(sy:(can 4294967296 a).length≤10000000000):bL (can 4294967296 a) (can 4294967296 b)=some (eI 4294967296 (can 4294967296 a).length (a-b))∧vl (eI 4294967296 (can 4294967296 a).length (a-b))=a-b:=by
 have lc:=di (B:=4294967296) (by decide) a
 have ZY:(can 4294967296 b).length≤(can 4294967296 a).length:=(ep (by decide)).2 (by omega)
 constructor
 ·rw[wN _ _ (fL (by omega)) (fL (by omega)) ZY (by rw[dQ,dQ];exact hba),dQ,dQ]
 ·show val _ _=_
  rw[kn,Nat.mod_eq_of_lt (by omega)]
def Nj(i j:Int):Zr×Zr×Int:=if j=0 then(⟨false,[]⟩,⟨false,[]⟩,7)else(zn (i/j),zn (i%j),0)
theorem divMod_eq{x y:Zr}(hx:Wl x)(hy:Wl y):cY x y=some (Nj (zi x) (zi y)):=by
 obtain⟨n,w⟩:=x
 obtain⟨m,u⟩:=y
 unfold cY
 have We:(can 4294967296 (vl w)).length≤10000000000:=hx.cl
 have VF:(can 4294967296 (vl u)).length≤10000000000:=hy.cl
 simp only[]
 rw[show aB w=some (can 4294967296 (vl w))from hx.trim,show aB u=some (can 4294967296 (vl u))from hy.trim,bC,bC,show zi ⟨n,w⟩=sv n (vl w)from rfl,show zi ⟨m,u⟩=sv m (vl u)from rfl]
 simp only[bC,cQ]
 generalize vl w=a at*
 generalize vl u=b at*
 by_cases h0:b=0
 ·subst h0
  rw[show sv m 0=0 by cases m<;>rfl];rfl
 ·have wJ:(can 4294967296 b).length≠0:=fun h=>h0 (oI.1 h)
  rw[show decide (((can 4294967296 b).length:Int)=0)=false by simp;intro e;rw[e]at wJ;exact wJ rfl,ju]
  obtain⟨q,r,Z0,Wf,Wg,Rt,UL,hq3,hr3⟩:=wO a b We VF h0
  have hm:a%b<b:=Nat.mod_lt _ (by omega)
  obtain⟨e1,e2⟩:=Sr n m (a:=a) (show 0<b by omega)
  have hj:sv m b≠0:=by cases m<;>simp[sv]<;>omega
  rw[Z0,bC]
  simp only[]
  rw[xS r (by have:=Rt.2;omega),oF (by decide) Rt.1,show val 4294967296 r=a%b from UL,bC,Nj,if_neg hj,e1,e2]
  have Nk:(can 4294967296 (a%b)).length≤(can 4294967296 b).length:=(ep (by decide)).2 (Nat.lt_trans hm (di (by decide) b))
  have hK:∀c:Bool,(decide (n=true∧0<a%b)=c)→(bif c then(cK q [1]).bind fun rX=>(bL (can 4294967296 b) (can 4294967296 (a%b))).bind fun qj=>(bu (!(n==m)) rX).bind fun x=>(bu false qj).bind fun x_1=>some ((⟨x.neg,x.w⟩:Zr),(⟨x_1.neg,x_1.w⟩:Zr),(0:Int))
    else(bu (!(n==m)) q).bind fun x=>(bu false (can 4294967296 (a%b))).bind fun x_1=>some ((⟨x.neg,x.w⟩:Zr),(⟨x_1.neg,x_1.w⟩:Zr),(0:Int)))=
    some (zn (if n=true∧0<a%b then sv (!(n==m)) (a/b+1)else sv (!(n==m)) (a/b)),zn (if n=true∧0<a%b then((b-a%b:Nat):Int)else((a%b:Nat):Int)),0):=by
   intro c hc
   cases c
   ·have VG:=of_decide_eq_false hc
    rw[ju,if_neg VG,if_neg VG,jv _ _ Wf,bC,jv _ _ (fL (by omega)),bC,dQ,Wg,nC,nC,mW]
   ·have VG:=of_decide_eq_true hc
    obtain⟨s1,s2⟩:=Ss (a:=b) (b:=a%b) (by omega) VF
    have w1:CT [1]:=⟨by simp,by simp⟩
    rw[ji,if_pos VG,if_pos VG,wM _ _ Wf w1,bC,s1,bC,jv _ _ ⟨fun x hx=>lS (by decide) _ _ _ hx,by rw[aV];simp;omega⟩,bC,jv _ _ ⟨fun x hx=>lS (by decide) _ _ _ hx,by rw[aV];omega⟩,bC,s2,nC,nC,mW]
    have:vl (eI 4294967296 (max q.length [1].length+1) (vl q+vl [1]))=a/b+1:=by
     show val _ _=_
     rw[kn,show vl [1]=1 by decide,Wg,Nat.mod_eq_of_lt]
     have h1:vl q<4294967296^q.length:=iw q Wf.1
     rw[Wg]at h1
     have h2:4294967296^q.length≤4294967296^(max q.length [1].length):=Nat.pow_le_pow_right (by decide) (by omega)
     have h3:0<4294967296^(max q.length [1].length):=Nat.pow_pos (by decide)
     rw[Nat.pow_succ];omega
    rw[this]
  have hz:(0<(can 4294967296 (a%b)).length)↔0<a%b:=by
   have:=oI (v:=a%b);omega
  cases n
  ·rw[ju,bC]
   exact hK false (by simp)
  ·rw[ji,bC]
   refine hK _ ?_
   simp only[true_and]
   by_cases h:0<a%b
   ·simp[h,hz.2 h]
   ·have h':¬0<(can 4294967296 (a%b)).length:=fun e=>h (hz.1 e)
    have h'':¬((0:Int)<((can 4294967296 (a%b)).length:Int)):=by omega
    simp only[h,h'',decide_false]
theorem St{x y:Zr}(hx:Wl x)(hy:Wl y):gy x y=some (zn (Int.gcd (zi x) (zi y):Int)):=by
 obtain⟨n,w⟩:=x
 obtain⟨m,u⟩:=y
 unfold gy
 have We:(can 4294967296 (vl w)).length≤10000000000:=hx.cl
 have VF:(can 4294967296 (vl u)).length≤10000000000:=hy.cl
 simp only[]
 rw[show aB w=some (can 4294967296 (vl w))from hx.trim,show aB u=some (can 4294967296 (vl u))from hy.trim,bC,bC,Int.gcd,CM,CM]
 show _=some (zn ((Nat.gcd (vl w) (vl u):Nat):Int))
 generalize vl w=a at*
 generalize vl u=b at*
 refine oE (fun s=>∃c d,s=(can 4294967296 c,can 4294967296 d)∧Nat.gcd c d=Nat.gcd a b∧(can 4294967296 c).length≤10000000000∧(can 4294967296 d).length≤10000000000)
  (fun s=>∃c d,s=(can 4294967296 c,can 4294967296 d)∧Nat.gcd c d=Nat.gcd a b∧(can 4294967296 c).length≤10000000000∧(d=0∨(c<18446744073709551616∧d<18446744073709551616))) (fun s=>vl s.2) ?_ ⟨a,b,rfl,rfl,We,VF⟩ ?_
 ·rintro _ ⟨c,d,rfl,hg,hc,hd⟩
  simp only[bC,cQ]
  by_cases h0:d=0
  ·right
   subst h0
   exact⟨_,rfl,c,0,rfl,hg,hc,.inl rfl⟩
  ·have wJ:(can 4294967296 d).length≠0:=fun h=>h0 (oI.1 h)
   rw[show decide ((0:Int)<((can 4294967296 d).length:Int))=true by simp;omega,ji]
   by_cases h2:c<18446744073709551616∧d<18446744073709551616
   ·right
    have c1:=fe.2 h2.1
    have c2:=fe.2 h2.2
    rw[show decide ((2:Int)<((can 4294967296 c).length:Int))=false by simp;omega,ju,show decide ((2:Int)<((can 4294967296 d).length:Int))=false by simp;omega]
    exact⟨_,rfl,c,d,rfl,hg,hc,.inr h2⟩
   ·left
    have hm:c%d<d:=Nat.mod_lt _ (by omega)
    obtain⟨q,r,Z0,Wf,Wg,Rt,UL,-,-⟩:=wO c d hc hd h0
    have Iw:((bif decide ((2:Int)<((can 4294967296 c).length:Int))then some true else some (decide ((2:Int)<((can 4294967296 d).length:Int)))):Option Bool)=some true:=by
     by_cases CZ:c<18446744073709551616
     ·have hd2:¬d<18446744073709551616:=fun h=>h2 ⟨CZ,h⟩
      have:¬(((can 4294967296 d).length:Int)≤2):=fun h=>hd2 (fe.1 h)
      rw[show decide ((2:Int)<((can 4294967296 d).length:Int))=true by simp;omega]
      exact z7 _ _
     ·have:¬(((can 4294967296 c).length:Int)≤2):=fun h=>CZ (fe.1 h)
      rw[show decide ((2:Int)<((can 4294967296 c).length:Int))=true by simp;omega,ji]
    rw[Iw,bC,bC,ji,Z0,bC]
    simp only[]
    rw[xS r (by have:=Rt.2;omega),oF (by decide) Rt.1,show val 4294967296 r=c%d from UL,bC]
    refine⟨_,rfl,⟨d,c%d,rfl,?_,hd,?_⟩,?_⟩
    ·rw[←hg,Nat.gcd_comm d,←Nat.gcd_rec,Nat.gcd_comm]
    ·exact Nat.le_trans ((ep (by decide)).2 (Nat.lt_trans hm (di (by decide) d))) hd
    ·simp only[dQ];exact hm
 ·rintro _ ⟨c,d,rfl,hg,hc,Lj⟩
  simp only[bC]
  by_cases h0:d=0
  ·subst h0
   rw[show decide (((can 4294967296 0).length:Int)=0)=true by simp[rH],ji,vg _ (by omega),bC,jv _ _ (fL (by omega)),bC,dQ,nC,mW,←hg,Nat.gcd_zero_right]
  ·have h2:=Lj.resolve_left h0
   have wJ:(can 4294967296 d).length≠0:=fun h=>h0 (oI.1 h)
   have c1:=fe.2 h2.1
   have c2:=fe.2 h2.2
   rw[show decide (((can 4294967296 d).length:Int)=0)=false by simp;intro e;rw[e]at wJ;exact wJ rfl,ju,low_eq _ (fun _ hx=>ko (by decide) hx) (by omega),bC,low_eq _ (fun _ hx=>ko (by decide) hx) (by omega),bC,dQ,dQ]
   refine oE (fun s=>Nat.gcd s.1 s.2=Nat.gcd a b∧s.1<18446744073709551616∧s.2<18446744073709551616) (fun e=>e=Nat.gcd a b∧e<18446744073709551616) (fun s=>s.2) ?_ ⟨hg,h2.1,h2.2⟩ ?_
   ·rintro⟨s,t⟩ ⟨i1,i2,i3⟩
    simp only at i1 i2 i3⊢
    by_cases ht:0<t
    ·left
     rw[show decide (0<t)=true by simp[ht],ji,xP (by omega),bC]
     refine⟨_,rfl,⟨?_,i3,?_⟩,Nat.mod_lt _ ht⟩
     ·rw[←i1,Nat.gcd_comm t,←Nat.gcd_rec,Nat.gcd_comm]
     ·exact Nat.lt_trans (Nat.mod_lt _ ht) i3
    ·right
     rw[show decide (0<t)=false by simp[ht],ju]
     refine⟨_,rfl,?_,i2⟩
     rw[←i1,show t=0 by omega,Nat.gcd_zero_right]
   ·rintro e ⟨rfl,he⟩
    rw[oH _ _ he,bC,nC,mW]
end Go.Proofs.Ytningmnklfpfjaa
namespace Go.Proofs.Ytningmnklfpfjaa
open Go.Fw
def zl(l:List Nat):List Int:=l.map (fun(n:Nat)=>(n:Int))
abbrev v16(l:List Nat):Nat:=val 65536 l
end Go.Proofs.Ytningmnklfpfjaa
namespace Go.Proofs.Ytningmnklfpfjaa
open Go.Fw
theorem p9(k:Nat):10^(9*(k+1))=10^(9*k)*1000000000:=by
 rw[show 9*(k+1)=9*k+9 by omega,Nat.pow_add]
end Go.Proofs.Ytningmnklfpfjaa
namespace Go.Proofs.Ytningmnklfpfjaa
open Go.Fw
def body(s:LH):LH:=if s.head?=some 45 then s.tail else s
def dv(s:LH):Nat:=s.foldl (fun a c=>a*10+(c.toNat-48)) 0
def z0:Zr:=⟨false,[]⟩
end Go.Proofs.Ytningmnklfpfjaa
namespace Go.Proofs.Ytningmnklfpfjaa
open Go.Fw
theorem zeta'(z:Zr):(⟨z.neg,z.w⟩:Zr)=z:=by cases z;rfl
theorem HI{i:Int}(h:eF i):Fit 2 i:=Fit.i64 h.1 h.2
end Go.Proofs.Ytningmnklfpfjaa
namespace Go.Proofs.Ytningmnklfpfjaa
open Go.Fw
theorem Ln(i j:Int):(i-j).sign=oJ i j:=by
 rcases Int.lt_trichotomy i j with h|h|h
 ·rw[kW h,Int.sign_eq_neg_one_of_neg (by omega)]
 ·rw[h,r7,Int.sub_self];rfl
 ·rw[kX h,Int.sign_eq_one_of_pos (by omega)]
end Go.Proofs.Ytningmnklfpfjaa
