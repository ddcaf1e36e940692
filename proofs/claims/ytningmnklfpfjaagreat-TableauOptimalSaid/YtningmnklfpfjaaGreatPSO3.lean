/- A part of the proof: the framework, the plain functions, the followed functions, the plain laws. -/
import Derived.Test.YtningmnklfpfjaaGreatPSO2
set_option linter.unusedVariables false
set_option linter.unusedSimpArgs false
set_option linter.unusedSectionVars false
namespace Go.Proofs.YtningmnklfpfjaaGreat
section
open Go.Fw Go.Fw.Z Go.RowKit
theorem wO{x0:Int}(N:Nat){r:Qr}(h:cD x0=some r):cL ah 41 N [ay x0] (.agg ((fQ N) r)):=by
 refine bC Tryz.func41 Y (af Y) (λee M vs hN hvs=>?_);unfold cD at h;refine sr<|al (cs:=[az false,nw N ax,az false,nw N ax]) (by exact⟨au,bk,au,bk,aq⟩) Y<|dn<|sr<|mv Y ?_;obtain⟨⟨Um,Uo⟩,h4,h⟩:=bS h;refine RT.bM .none (dQ N h4) hN Y ⟨Y,aq⟩ T<|bI (cs:=[_,_,_,_]) (cs':=[az Um,nw N (slc 1 (List.map aX Uo)),az false,nw N ax]) (.agg Y (.nil)) ⟨au,au,au,bk,aq⟩<|so Y Y Y<|dn<|bh ?_;obtain rfl:=O h;exact RZ (.agg Y Y (.k4 Y Y Y Y) Y (.nil))
theorem gw{x0:Int}{r:Qr}(h:cD x0=some r):Pure ah 41 [ay x0] (.agg (eQ r)):=dO (λN=>wO N h) (λN=>(SV.dB (qI _ _)))
theorem iT{x0:Qr}(N:Nat){r:Qr}(h:cQ x0=some r):cL ah 93 N [.agg (eQ x0)] (.agg ((fQ N) r)):=by
 obtain⟨⟨bp,bt⟩,⟨bB,bF⟩⟩:=x0;refine bC Tryz.func93 Y (af Y) (λee M vs hN hvs=>?_);unfold cQ at h;refine sr<|bx Y<|al (cs:=[az false,nw N ax,az false,nw N ax]) (by exact⟨au,bk,au,bk,aq⟩) Y<|dn<|qq<|sr<|ld Y Y (.k4 Y Y Y Y) ?_;obtain⟨⟨x8a,x8b,x8c⟩,h8,h⟩:=bS h;refine cl (eR h8) ⟨Y,aq⟩<|mv Y<|ex Y Y<|ex Y Y<|ex Y Y<|ag Y<|ag Y<|ag Y<|dn<|sr<|mv Y<|dn ?_;cases x8c;refine fs<|sr<|ld Y Y (.k4 Y Y Y Y) ?_;obtain⟨⟨⟨Ms,Mt⟩,⟨Mu,Mv⟩⟩,mW,h⟩:=bS (F h);refine cl (dL mW) ⟨Y,aq⟩<|ex Y Y<|ex Y Y ?_;obtain⟨⟨⟨Rk,Rl⟩,⟨Rm,Rn⟩⟩,pO,h⟩:=bS h;refine RT.bM .none (jn N pO) hN Y ⟨Y,Y,aq⟩ T<|so Y Y Y<|dn<|bh ?_;obtain rfl:=O h;exact RZ (.agg Y Y (.k4 Y Y Y Y) Y (.nil));refine cT<|sr<|mv Y<|mv Y ?_;obtain⟨⟨⟨kL,kM⟩,⟨FD,FE⟩⟩,jh,h⟩:=bS (V h);refine RT.bM .none (jK N jh) hN Y ⟨Y,Y,aq⟩ T<|so Y Y Y<|dn<|bh<|aV.r ?_;obtain rfl:=O h;exact RZ (.agg Y Y (.k4 Y Y Y Y) Y (.nil))
theorem oU{x0:Qr}{r:Qr}(h:cQ x0=some r):Pure ah 93 [.agg (eQ x0)] (.agg (eQ r)):=dO (λN=>iT N h) (λN=>(SV.dB (qI _ _)))
theorem gx{x0:Qr}{r:Int}(h:eA x0=some r):Pure ah 59 [.agg (eQ x0)] (ay r):=by
 obtain⟨⟨bp,bt⟩,⟨bB,bF⟩⟩:=x0;refine bw Tryz.func59 Y (af Y) (λee M vs hvs=>?_);unfold eA at h;refine sr<|bx Y<|ag Y<|dn<|qq<|sr<|fa Y Y<|ld Y Y (.k2 Y Y)<|bE h λx5 h5 h=>cl (eM h5) ⟨Y,aq⟩<|lE h λx6 h6 h=>ls _ Y Y h6<|dn ?_;cases x6;refine fs<|sr<|fa Y Y<|ld Y Y (.k2 Y Y)<|bE (F h) λiW kJ h=>cl (eM kJ) ⟨Y,aq⟩<|ag Y<|dn<|bh ?_;obtain rfl:=O h;exact R1 Y;refine cT<|sr<|fa Y Y<|ld Y Y (.k2 Y Y)<|bE (V h) λx9 h9 h=>cl (eM h9) ⟨Y,aq⟩<|lE h λef gV h=>RT.neg .none _ Y T gV<|ag Y<|dn<|bh<|aV.r ?_;obtain rfl:=O h;exact R1 Y
theorem yM{x0:Qr}{x1:Qr}(N:Nat){r:Qr}(h:kf x0 x1=some r):cL ah 132 N [.agg (eQ x0),.agg (eQ x1)] (.agg ((fQ N) r)):=by
 obtain⟨⟨bp,bt⟩,⟨bB,bF⟩⟩:=x0;obtain⟨⟨cC,cz⟩,⟨gD,gE⟩⟩:=x1;refine bC Tryz.func132 Y (af Y) (λee M vs hN hvs=>?_);unfold kf at h;refine sr<|bx Y<|bx Y<|al (cs:=[az false,nw N ax,az false,nw N ax]) (by exact⟨au,bk,au,bk,aq⟩) Y<|dn<|sr<|ld Y Y (.k4 Y Y Y Y) ?_;obtain⟨⟨AK,xW,AL⟩,kJ,h⟩:=bS h;refine cl (eR kJ) ⟨Y,aq⟩<|mv Y<|ex Y Y<|ex Y Y<|ex Y Y<|ag Y<|ag Y<|ag Y<|dn<|sr<|ld Y Y (.k4 Y Y Y Y) ?_;obtain⟨⟨AM,xX,AN⟩,oG,h⟩:=bS h;refine cl (eR oG) ⟨Y,aq⟩<|mv Y<|ex Y Y<|ex Y Y<|ex Y Y<|ag Y<|ag Y<|ag Y<|dn<|qq<|qq ?_;refine bK h (λj3=>AS.cI 41 [(2,.ptr 2 0),(3,.ptr 3 0),(4,.ptr 4 0),(5,ai AK),(6,ai xW),(8,ai AM),(9,ai xX),(26,aj j3)] [(4,⟨43,[aj false,.sv (nw N ax),aj false,.sv (nw N ax)]⟩),(3,⟨43,[aj cC,.sv (slc 1 (List.map aX cz)),aj gD,.sv (slc 1 (List.map aX gE))]⟩),(2,⟨43,[aj bp,.sv (slc 1 (List.map aX bt)),aj bB,.sv (slc 1 (List.map aX bF))]⟩)] []) (λh=>?_) (λsH h=>?_);refine aW<|mv Y<|mv Y<|bE h λyL rD h=>?_;cases AL;obtain rfl:=O (F rD);exact ww<|pF Y<|dn<|⟨false,h,wR []⟩;refine gm Y ?_;obtain rfl:=O (V rD);exact pT Y<|dn<|⟨AN,h,wR []⟩
 try dsimp only
 refine aV.n ?_;cases sH;refine fs<|sr<|ld Y Y (.k4 Y Y Y Y)<|ld Y Y (.k4 Y Y Y Y) ?_;obtain⟨⟨⟨yJ,yK⟩,⟨FJ,FK⟩⟩,rC,h⟩:=bS (F h);refine RT.bM .none (zg N rC) hN Y ⟨Y,Y,Y,aq⟩ T<|so Y Y Y<|dn<|bh ?_;obtain rfl:=O h;exact RZ (.agg Y Y (.k4 Y Y Y Y) Y (.nil));refine cT<|sr<|mv Y<|mv Y<|lE (V h) λiG nm h=>RT.mul .none _ Y Y T nm<|mv Y<|mv Y<|lE h λjU qw h=>RT.mul .none _ Y Y T qw<|lE h λtO zR h=>ad _ Y Y zR<|mv Y<|mv Y<|lE h λrB wL h=>RT.mul .none _ Y Y T wL ?_;obtain⟨⟨⟨FF,FG⟩,⟨FH,FI⟩⟩,FA,h⟩:=bS h;refine RT.bM .none (jK N FA) hN Y ⟨Y,Y,aq⟩ T<|so Y Y Y<|dn<|bh<|aV.r ?_;obtain rfl:=O h;exact RZ (.agg Y Y (.k4 Y Y Y Y) Y (.nil))
theorem FN{x0:Qr}{x1:Qr}{r:Qr}(h:kf x0 x1=some r):Pure ah 132 [.agg (eQ x0),.agg (eQ x1)] (.agg (eQ r)):=dO (λN=>yM N h) (λN=>(SV.dB (qI _ _)))
theorem FO{x0:Qr}{x1:Qr}(N:Nat){r:Qr}(h:nY x0 x1=some r):cL ah 94 N [.agg (eQ x0),.agg (eQ x1)] (.agg ((fQ N) r)):=by
 obtain⟨⟨bp,bt⟩,⟨bB,bF⟩⟩:=x0;obtain⟨⟨cC,cz⟩,⟨gD,gE⟩⟩:=x1;refine bC Tryz.func94 Y (af Y) (λee M vs hN hvs=>?_);unfold nY at h;refine sr<|bx Y<|bx Y<|al (cs:=[az false,nw N ax,az false,nw N ax]) (by exact⟨au,bk,au,bk,aq⟩) Y<|dn<|sr<|ld Y Y (.k4 Y Y Y Y) ?_;obtain⟨⟨AK,xW,AL⟩,kJ,h⟩:=bS h;refine cl (eR kJ) ⟨Y,aq⟩<|mv Y<|ex Y Y<|ex Y Y<|ex Y Y<|ag Y<|ag Y<|ag Y<|dn<|sr<|ld Y Y (.k4 Y Y Y Y) ?_;obtain⟨⟨AM,xX,AN⟩,oG,h⟩:=bS h;refine cl (eR oG) ⟨Y,aq⟩<|mv Y<|ex Y Y<|ex Y Y<|ex Y Y<|ag Y<|ag Y<|ag Y<|dn<|qq<|qq ?_;refine bK h (λj3=>AS.cI 41 [(2,.ptr 2 0),(3,.ptr 3 0),(4,.ptr 4 0),(5,ai AK),(6,ai xW),(8,ai AM),(9,ai xX),(26,aj j3)] [(4,⟨43,[aj false,.sv (nw N ax),aj false,.sv (nw N ax)]⟩),(3,⟨43,[aj cC,.sv (slc 1 (List.map aX cz)),aj gD,.sv (slc 1 (List.map aX gE))]⟩),(2,⟨43,[aj bp,.sv (slc 1 (List.map aX bt)),aj bB,.sv (slc 1 (List.map aX bF))]⟩)] []) (λh=>?_) (λsH h=>?_);refine aW<|mv Y<|mv Y<|bE h λyL rD h=>?_;cases AL;obtain rfl:=O (F rD);exact ww<|pF Y<|dn<|⟨false,h,wR []⟩;refine gm Y ?_;obtain rfl:=O (V rD);exact pT Y<|dn<|⟨AN,h,wR []⟩
 try dsimp only
 refine aV.n ?_;cases sH;refine fs<|sr<|ld Y Y (.k4 Y Y Y Y)<|ld Y Y (.k4 Y Y Y Y) ?_;obtain⟨⟨⟨yJ,yK⟩,⟨FJ,FK⟩⟩,rC,h⟩:=bS (F h);refine RT.bM .none (zh N rC) hN Y ⟨Y,Y,Y,aq⟩ T<|so Y Y Y<|dn<|bh ?_;obtain rfl:=O h;exact RZ (.agg Y Y (.k4 Y Y Y Y) Y (.nil));refine cT<|sr<|mv Y<|mv Y<|lE (V h) λiG nm h=>RT.mul .none _ Y Y T nm<|mv Y<|mv Y<|lE h λjU qw h=>RT.mul .none _ Y Y T qw<|lE h λtO zR h=>sb _ Y Y zR<|mv Y<|mv Y<|lE h λrB wL h=>RT.mul .none _ Y Y T wL ?_;obtain⟨⟨⟨FF,FG⟩,⟨FH,FI⟩⟩,FA,h⟩:=bS h;refine RT.bM .none (jK N FA) hN Y ⟨Y,Y,aq⟩ T<|so Y Y Y<|dn<|bh<|aV.r ?_;obtain rfl:=O h;exact RZ (.agg Y Y (.k4 Y Y Y Y) Y (.nil))
theorem sM{x0:Qr}{x1:Qr}(N:Nat){r:Qr}(h:jm x0 x1=some r):cL ah 89 N [.agg (eQ x0),.agg (eQ x1)] (.agg ((fQ N) r)):=by
 obtain⟨⟨bp,bt⟩,⟨bB,bF⟩⟩:=x0;obtain⟨⟨cC,cz⟩,⟨gD,gE⟩⟩:=x1;refine bC Tryz.func89 Y (af Y) (λee M vs hN hvs=>?_);unfold jm at h;refine sr<|bx Y<|bx Y<|al (cs:=[az false,nw N ax,az false,nw N ax]) (by exact⟨au,bk,au,bk,aq⟩) Y<|dn<|sr<|ld Y Y (.k4 Y Y Y Y) ?_;obtain⟨⟨AK,xW,AL⟩,kJ,h⟩:=bS h;refine cl (eR kJ) ⟨Y,aq⟩<|mv Y<|ex Y Y<|ex Y Y<|ex Y Y<|ag Y<|ag Y<|ag Y<|dn<|sr<|ld Y Y (.k4 Y Y Y Y) ?_;obtain⟨⟨AM,xX,AN⟩,oG,h⟩:=bS h;refine cl (eR oG) ⟨Y,aq⟩<|mv Y<|ex Y Y<|ex Y Y<|ex Y Y<|ag Y<|ag Y<|ag Y<|dn<|qq<|qq ?_;refine bK h (λj3=>AS.cI 37 [(2,.ptr 2 0),(3,.ptr 3 0),(4,.ptr 4 0),(5,ai AK),(6,ai xW),(8,ai AM),(9,ai xX),(26,aj j3)] [(4,⟨43,[aj false,.sv (nw N ax),aj false,.sv (nw N ax)]⟩),(3,⟨43,[aj cC,.sv (slc 1 (List.map aX cz)),aj gD,.sv (slc 1 (List.map aX gE))]⟩),(2,⟨43,[aj bp,.sv (slc 1 (List.map aX bt)),aj bB,.sv (slc 1 (List.map aX bF))]⟩)] []) (λh=>?_) (λsH h=>?_);refine aW<|mv Y<|mv Y<|bE h λyL rD h=>?_;cases AL;obtain rfl:=O (F rD);exact ww<|pF Y<|dn<|⟨false,h,wR []⟩;refine gm Y ?_;obtain rfl:=O (V rD);exact pT Y<|dn<|⟨AN,h,wR []⟩
 try dsimp only
 refine aV.n ?_;cases sH;refine fs<|sr<|ld Y Y (.k4 Y Y Y Y)<|ld Y Y (.k4 Y Y Y Y) ?_;obtain⟨⟨⟨su,sw⟩,⟨FL,FM⟩⟩,wL,h⟩:=bS (F h);refine RT.bM .none (zj N wL) hN Y ⟨Y,Y,Y,aq⟩ T<|so Y Y Y<|dn<|bh ?_;obtain rfl:=O h;exact RZ (.agg Y Y (.k4 Y Y Y Y) Y (.nil));refine cT<|sr<|mv Y<|mv Y<|lE (V h) λiG nm h=>RT.mul .none _ Y Y T nm<|mv Y<|mv Y<|lE h λjU qw h=>RT.mul .none _ Y Y T qw ?_;obtain⟨⟨⟨Ro,Rp⟩,⟨Rr,Rt⟩⟩,zR,h⟩:=bS h;refine RT.bM .none (jK N zR) hN Y ⟨Y,Y,aq⟩ T<|so Y Y Y<|dn<|bh<|aV.r ?_;obtain rfl:=O h;exact RZ (.agg Y Y (.k4 Y Y Y Y) Y (.nil))
theorem FP{x0:Qr}{x1:Qr}{r:Qr}(h:jm x0 x1=some r):Pure ah 89 [.agg (eQ x0),.agg (eQ x1)] (.agg (eQ r)):=dO (λN=>sM N h) (λN=>(SV.dB (qI _ _)))
theorem FR{x0:Qr}{x1:Qr}{r:Qr×Int}(h:nZ x0 x1=some r):Pure ah 105 [.agg (eQ x0),.agg (eQ x1)] (.yu [.agg (eQ r.1),ay r.2]):=by
 obtain⟨⟨bp,bt⟩,⟨bB,bF⟩⟩:=x0;obtain⟨⟨cC,cz⟩,⟨gD,gE⟩⟩:=x1;refine bw Tryz.func105 Y (af Y) (λee M vs hvs=>?_);unfold nZ at h;refine sr<|bx Y<|bx Y<|al (cs:=[az false,ax,az false,ax]) (by exact⟨au,aB,au,aB,aq⟩) Y<|ag Y<|dn<|qq<|sr<|ld Y Y (.k4 Y Y Y Y)<|bE h λiW kJ h=>cl (gx kJ) ⟨Y,aq⟩<|lE h λfC lz h=>eq _ Y Y (wj (p:=iW) (q:=0) lz)<|RT.done ?_;refine aV.n ?_;cases fC;refine fs<|sr<|ld Y Y (.k4 Y Y Y Y) ?_;obtain⟨⟨Mw,Pq,Up⟩,kA,h⟩:=bS (F h);refine cl (eR kA) ⟨Y,aq⟩<|mv Y<|ex Y Y<|ex Y Y<|ex Y Y<|ag Y<|ag Y<|ag Y<|dn<|sr<|ld Y Y (.k4 Y Y Y Y) ?_;obtain⟨⟨Kc,Ke,Uq⟩,oP,h⟩:=bS h;refine cl (eR oP) ⟨Y,aq⟩<|mv Y<|ex Y Y<|ex Y Y<|ex Y Y<|ag Y<|ag Y<|ag Y<|dn<|qq<|qq ?_;refine bK h (λj3=>AS.cI 48 [(2,.ptr 2 0),(3,.ptr 3 0),(4,.ptr 4 0),(6,ai Mw),(7,ai Pq),(9,ai Kc),(10,ai Ke),(31,aj j3)] [(4,⟨43,[aj false,.sv ax,aj false,.sv ax]⟩),(3,⟨43,[aj cC,.sv (slc 1 (List.map aX cz)),aj gD,.sv (slc 1 (List.map aX gE))]⟩),(2,⟨43,[aj bp,.sv (slc 1 (List.map aX bt)),aj bB,.sv (slc 1 (List.map aX bF))]⟩)] []) (λh=>?_) (λAO h=>?_);refine aW<|mv Y<|mv Y<|bE h λRy UA h=>?_;cases Up;obtain rfl:=O (F UA);exact ww<|pF Y<|dn<|⟨false,h,wR []⟩;refine gm Y ?_;obtain rfl:=O (V UA);exact pT Y<|dn<|⟨Uq,h,wR []⟩
 try dsimp only
 refine aV.n ?_;cases AO;refine fs<|sr<|ld Y Y (.k4 Y Y Y Y)<|ld Y Y (.k4 Y Y Y Y) ?_;obtain⟨⟨⟨Fl,Fm⟩,⟨Rw,Rx⟩⟩,ze,h⟩:=bS (F h);refine cl (zm ze) ⟨Y,Y,Y,aq⟩<|so Y Y Y<|ag Y<|dn<|bh ?_;obtain rfl:=O h;exact RZ (.agg Y Y (.k4 Y Y Y Y) Y (.tmp Y (.nil)));refine cT<|qq<|sr<|mv Y<|lE (V h) λtO zR h=>ls _ Y Y zR<|dn ?_;refine bK h (λj6=>AS.cI 48 [(4,.ptr 4 0),(6,ai j6.1),(7,ai Pq),(9,ai j6.2),(10,ai Ke)] [(4,⟨43,[aj false,.sv ax,aj false,.sv ax]⟩)] []) (λh=>?_) (λj6 h=>?_);cases tO;exact fs<|⟨(Mw,Kc),(F h),wR []⟩;exact cT<|aW<|mv Y<|lE (V h) λrN AF h=>RT.neg .none _ Y T AF<|mv Y<|lE h λxo FA h=>RT.neg .none _ Y T FA<|ag Y<|ag Y<|dn<|⟨(rN,xo),h,wR []⟩;obtain⟨X2,X3⟩:=j6
 try dsimp only
 refine aV.n<|sr<|mv Y<|mv Y<|lE h λlu rC h=>RT.mul .none _ Y Y T rC<|mv Y<|mv Y<|lE h λrK CU h=>RT.mul .none _ Y Y T CU ?_;obtain⟨⟨⟨Fs,Ft⟩,⟨Ru,Rv⟩⟩,FB,h⟩:=bS h;refine cl (Cf FB) ⟨Y,Y,aq⟩<|so Y Y Y<|ag Y<|dn<|bh<|aV.r ?_;obtain rfl:=O h;exact RZ (.agg Y Y (.k4 Y Y Y Y) Y (.tmp Y (.nil)));refine cT<|sr<|bI (cs:=[_,_,_,_]) (cs':=[az false,ax,az false,ax]) (.nil) ⟨au,aB,au,aB,aq⟩<|so Y Y Y<|ag Y<|dn<|bh<|aV.r ?_;obtain rfl:=O (V h);exact RZ (.agg Y Y (.k4 Y Y Y Y) Y (.tmp Y (.nil)))
theorem FU{x0:Qr}(N:Nat){r:Qr}(h:lO x0=some r):cL ah 108 N [.agg (eQ x0)] (.agg ((fQ N) r)):=by
 obtain⟨⟨bp,bt⟩,⟨bB,bF⟩⟩:=x0;refine bC Tryz.func108 Y (af Y) (λee M vs hN hvs=>?_);unfold lO at h;refine sr<|bx Y<|al (cs:=[az false,nw N ax,az false,nw N ax]) (by exact⟨au,bk,au,bk,aq⟩) Y<|dn<|sr<|ld Y Y (.k4 Y Y Y Y) ?_;obtain⟨⟨⟨AP,D1⟩,⟨Ce,D2⟩⟩,h5,h⟩:=bS h;refine RT.bM .none (iT N h5) hN Y ⟨Y,aq⟩ T<|al (cs:=[az false,nw N ax,az false,nw N ax]) (by exact⟨au,bk,au,bk,aq⟩) Y<|so Y Y Y<|dn<|qq<|bf mixed<|fa Y Y<|ld Y Y (.k2 Y Y) ?_;obtain⟨⟨vp,vr⟩,h8,h⟩:=bS h;refine RT.bM .none ((nA N h8).w (args':=[_]) ⟨(SV.dB (show cP [az AP,nw N (slc 1 (List.map aX D1))] _ from⟨au,dY,aq⟩)),aq⟩) hN Y ⟨Y,aq⟩ T<|fa Y Y<|ld Y Y (.k2 Y Y)<|bI (cs:=[_,_,_,_]) (cs':=[az vp,nw N (slc 1 (List.map aX vr)),az Ce,nw N (slc 1 (List.map aX D2))]) (.agg Y (.agg Y (.nil))) ⟨au,au,au,au,aq⟩<|so Y Y Y ?_;refine RT.done ⟨by kernel_rfl,?_⟩;refine aV.n<|bh ?_;obtain rfl:=O h;exact RZ (.agg Y Y (.k4 Y Y Y Y) Y (.nil))
theorem FV{x0:Qr}{r:Qr}(h:lO x0=some r):Pure ah 108 [.agg (eQ x0)] (.agg (eQ r)):=dO (λN=>FU N h) (λN=>(SV.dB (qI _ _)))
theorem yN{x0:Qr}{x1:Qr}{r:Int}(h:lP x0 x1=some r):Pure ah 86 [.agg (eQ x0),.agg (eQ x1)] (ay r):=by
 obtain⟨⟨bp,bt⟩,⟨bB,bF⟩⟩:=x0;obtain⟨⟨cC,cz⟩,⟨gD,gE⟩⟩:=x1;refine bw Tryz.func86 Y (af Y) (λee M vs hvs=>?_);unfold lP at h;refine sr<|bx Y<|bx Y<|ag Y<|dn<|sr<|ld Y Y (.k4 Y Y Y Y) ?_;obtain⟨⟨⟨jF,jG⟩,⟨jV,jW⟩⟩,kJ,h⟩:=bS h;refine cl (dL kJ) ⟨Y,aq⟩<|mv Y<|ex Y Y<|ex Y Y<|al (cs:=[az false,ax]) (by exact⟨au,aB,aq⟩) Y<|al (cs:=[az false,ax]) (by exact⟨au,aB,aq⟩) Y<|so Y Y Y<|so Y Y Y<|dn<|sr<|ld Y Y (.k4 Y Y Y Y) ?_;obtain⟨⟨⟨jH,jI⟩,⟨jX,jY⟩⟩,kA,h⟩:=bS h;refine cl (dL kA) ⟨Y,aq⟩<|mv Y<|ex Y Y<|ex Y Y<|al (cs:=[az false,ax]) (by exact⟨au,aB,aq⟩) Y<|al (cs:=[az false,ax]) (by exact⟨au,aB,aq⟩) Y<|so Y Y Y<|so Y Y Y<|dn<|qq<|qq<|bf mixed<|ld Y Y (.k2 Y Y)<|bE h λlB qM h=>?_;refine cl (eM qM) ⟨Y,aq⟩<|ld Y Y (.k2 Y Y)<|bE h λiX oP h=>cl (eM oP) ⟨Y,aq⟩<|ag Y<|ag Y ?_;refine RT.done ⟨by kernel_rfl,?_⟩;refine aV.n<|qq ?_;refine bK h (λj3=>AS.cI 43 [(5,.ptr 5 0),(6,.ptr 6 0),(7,.ptr 7 0),(8,.ptr 8 0),(9,ai lB),(10,ai iX),(31,aj j3)] [(8,⟨41,[aj jX,.sv (slc 1 (List.map aX jY))]⟩),(7,⟨41,[aj jH,.sv (slc 1 (List.map aX jI))]⟩),(6,⟨41,[aj jV,.sv (slc 1 (List.map aX jW))]⟩),(5,⟨41,[aj jF,.sv (slc 1 (List.map aX jG))]⟩)] []) (λh=>?_) (λAO h=>?_)
 refine aW<|mv Y<|mv Y<|lE h λlD tW h=>ne _ Y Y (G4 (p:=lB) (q:=iX) tW)<|mv Y<|bE h λRE rD h=>?_;cases lD;refine gm Y<|lE (F rD) λzP DL rD=>ZO _ Y Y (wj (p:=lB) (q:=0) DL) ?_;obtain rfl:=O rD;exact pF Y<|dn<|⟨zP,h,wR []⟩;obtain rfl:=O (V rD);exact ww<|ww<|pT Y<|dn<|⟨true,h,wR []⟩
 try dsimp only
 refine aV.n ?_;cases AO;refine fs<|qq<|bf mixed<|ld Y Y (.k2 Y Y)<|ld Y Y (.k2 Y Y) ?_;obtain⟨⟨Rz,RA⟩,HG,h⟩:=bS (F h);refine cl (wM HG) ⟨Y,Y,aq⟩<|ld Y Y (.k2 Y Y)<|ld Y Y (.k2 Y Y) ?_;obtain⟨⟨RB,RC⟩,HH,h⟩:=bS h;refine cl (wM HH) ⟨Y,Y,aq⟩<|bE h λsj DM h=>cl (DX DM) ⟨Y,Y,aq⟩<|ag Y ?_;refine RT.done ⟨by kernel_rfl,?_⟩;refine aV.n<|bh ?_;obtain rfl:=O h;exact R1 Y;refine cT<|sr<|mv Y<|mv Y<|lE (V h) λqH wF h=>sb _ Y Y wF<|bE h λrN AF h=>cl (D3 AF) ⟨Y,aq⟩<|ag Y<|dn<|bh<|aV.r ?_;obtain rfl:=O h;exact R1 Y
end
section
open Go.Fw
noncomputable def lZ(x0:List Qr)(x1:List Qr):Option (List Qr):=(some (x0.length:Int)).bind λiN=>(some (x1.length:Int)).bind λiW=>(some (max (iN:Int) iW)).bind λfC=>(LD (α:=Qr) 64 fC).bind λeI=>(nR (λ(k:Nat) (lQ:(List Qr))=>(show Option ((List Qr))from(some (x0.getD k (⟨⟨false,[]⟩,⟨false,[]⟩⟩:Qr))).bind λ⟨⟨FW,FX⟩,⟨FY,FZ⟩⟩=>(some (x1.getD k (⟨⟨false,[]⟩,⟨false,[]⟩⟩:Qr))).bind λ⟨⟨F1,F2⟩,⟨F3,F4⟩⟩=>(nY ⟨⟨FW,FX⟩,⟨FY,FZ⟩⟩ ⟨⟨F1,F2⟩,⟨F3,F4⟩⟩).bind λ⟨⟨lF,kI⟩,⟨sN,sO⟩⟩=>(zJ 64 lQ [⟨⟨lF,kI⟩,⟨sN,sO⟩⟩]).bind λlD=>some lD)) (max x0.length x1.length) eI).bind λlQ=>some lQ
noncomputable def kN(x0:Qr)(x1:Qr)(F5:Qr):Option (Qr):=match x0 with|⟨⟨bp,bt⟩,⟨bB,bF⟩⟩=>match x1 with|⟨⟨cC,cz⟩,⟨gD,gE⟩⟩=>match F5 with|⟨⟨F6,F7⟩,⟨F8,F9⟩⟩=>(jm ⟨⟨F6,F7⟩,⟨F8,F9⟩⟩ ⟨⟨bp,bt⟩,⟨bB,bF⟩⟩).bind λ⟨⟨vp,vr⟩,⟨AQ,AR⟩⟩=>(kf ⟨⟨vp,vr⟩,⟨AQ,AR⟩⟩ ⟨⟨cC,cz⟩,⟨gD,gE⟩⟩).bind λ⟨⟨Fp,Fq⟩,⟨RF,RG⟩⟩=>some ⟨⟨Fp,Fq⟩,⟨RF,RG⟩⟩
noncomputable def jv(x0:List Qr)(x1:List Qr)(Mz:Qr):Option (List Qr):=match Mz with|⟨⟨HR,HS⟩,⟨HT,HU⟩⟩=>(some (x0.length:Int)).bind λiN=>(some (x1.length:Int)).bind λiW=>(some (max (iN:Int) iW)).bind λfC=>(LD (α:=Qr) 64 fC).bind λeI=>(nR (λ(k:Nat) (lQ:(List Qr))=>(show Option ((List Qr))from(some (x0.getD k (⟨⟨false,[]⟩,⟨false,[]⟩⟩:Qr))).bind λ⟨⟨FW,FX⟩,⟨FY,FZ⟩⟩=>(some (x1.getD k (⟨⟨false,[]⟩,⟨false,[]⟩⟩:Qr))).bind λ⟨⟨F1,F2⟩,⟨F3,F4⟩⟩=>(kN ⟨⟨FW,FX⟩,⟨FY,FZ⟩⟩ ⟨⟨F1,F2⟩,⟨F3,F4⟩⟩ ⟨⟨HR,HS⟩,⟨HT,HU⟩⟩).bind λ⟨⟨lF,kI⟩,⟨sN,sO⟩⟩=>(zJ 64 lQ [⟨⟨lF,kI⟩,⟨sN,sO⟩⟩]).bind λlD=>some lD)) (max x0.length x1.length) eI).bind λlQ=>some lQ
noncomputable def mG(x0:Qr)(x1:Qr)(c0:Qr):Option (Qr):=match x0 with|⟨⟨bp,bt⟩,⟨bB,bF⟩⟩=>match x1 with|⟨⟨cC,cz⟩,⟨gD,gE⟩⟩=>match c0 with|⟨⟨MA,MB⟩,⟨MC,MD⟩⟩=>cK (λ(AT:Bool)=>cK (λ(j5:Bool×(List Nat)×Bool×(List Nat))=>match j5 with|⟨CW,CX,CY,CZ⟩=>some ⟨⟨CW,CX⟩,⟨CY,CZ⟩⟩) λK5=>(bif AT then(jm ⟨⟨bp,bt⟩,⟨bB,bF⟩⟩ ⟨⟨cC,cz⟩,⟨gD,gE⟩⟩).bind λ⟨⟨mw,mz⟩,⟨Ga,Gb⟩⟩=>(kf ⟨⟨MA,MB⟩,⟨MC,MD⟩⟩ ⟨⟨mw,mz⟩,⟨Ga,Gb⟩⟩).bind λ⟨⟨oR,oS⟩,⟨uM,uN⟩⟩=>K5 (oR,oS,uM,uN)else K5 (MA,MB,MC,MD))) λK3=>(eA ⟨⟨bp,bt⟩,⟨bB,bF⟩⟩).bind λx6=>(some (decide ((x6:Int)≠0))).bind λx7=>(bif x7 then(eA ⟨⟨cC,cz⟩,⟨gD,gE⟩⟩).bind λef=>(some (decide ((ef:Int)≠0))).bind λiN=>some iN else some false).bind λRH=>K3 RH
noncomputable def pP(x0:List Qr)(x1:List Qr):Option (List Qr):=(lZ x0 x1).bind λx7=>some x7
noncomputable def jo(x0:Qr)(x1:List Qr):Option (List Qr):=match x0 with|⟨⟨bp,bt⟩,⟨bB,bF⟩⟩=>(some (x1.length:Int)).bind λx9=>(BS 64 x9 (⟨⟨false,[]⟩,⟨false,[]⟩⟩:Qr)).bind λef=>(some (x1.length:Int)).bind λdP=>(cy (λ(s8:Int×(List Qr))=>match s8 with|⟨mH,mI⟩=>(show Option ((Int×(List Qr))⊕((List Qr)))from(some (decide ((mH:Int)<dP))).bind λfC=>(bif fC then(cZ x1 mH).bind λ⟨⟨mw,mz⟩,⟨Ga,Gb⟩⟩=>(jm ⟨⟨bp,bt⟩,⟨bB,bF⟩⟩ ⟨⟨mw,mz⟩,⟨Ga,Gb⟩⟩).bind λ⟨⟨mJ,mK⟩,⟨mL,mM⟩⟩=>(oM mI mH).bind λjT=>(stM mI jT ⟨⟨mJ,mK⟩,⟨mL,mM⟩⟩).bind λuo=>(some (IntKind.i64.wrap (mH+1))).bind λiX=>some (.inl (iX,uo))else some (.inr mI)))) (0,ef)).bind λjE=>some jE
noncomputable def fz(x0:Qr)(x1:List Qr)(x2:List Qr):Option (List Qr):=match x0 with|⟨⟨bp,bt⟩,⟨bB,bF⟩⟩=>(jv x1 x2 ⟨⟨bp,bt⟩,⟨bB,bF⟩⟩).bind λef=>some ef
noncomputable def jw(x0:List Qr)(x1:List Qr):Option (Qr):=(some (x0.length:Int)).bind λdP=>(some (x1.length:Int)).bind λfC=>(some (min (dP:Int) fC)).bind λeI=>(y4 x0 0 eI).bind λfS=>(y4 x1 0 eI).bind λgN=>(nR (λ(k:Nat) (s7:Bool×(List Nat)×Bool×(List Nat))=>match s7 with|⟨AU,AW,AX,AY⟩=>(show Option (Bool×(List Nat)×Bool×(List Nat))from(some (fS.getD k (⟨⟨false,[]⟩,⟨false,[]⟩⟩:Qr))).bind λ⟨⟨RI,RJ⟩,⟨RK,RL⟩⟩=>(some (gN.getD k (⟨⟨false,[]⟩,⟨false,[]⟩⟩:Qr))).bind λ⟨⟨RM,RN⟩,⟨RO,RQ⟩⟩=>(mG ⟨⟨RI,RJ⟩,⟨RK,RL⟩⟩ ⟨⟨RM,RN⟩,⟨RO,RQ⟩⟩ ⟨⟨AU,AW⟩,⟨AX,AY⟩⟩).bind λ⟨⟨X5,X6⟩,⟨X7,X8⟩⟩=>some (X5,X6,X7,X8))) (max fS.length gN.length) (false,[],false,[])).bind λe7=>match e7 with|⟨AU,AW,AX,AY⟩=>some ⟨⟨AU,AW⟩,⟨AX,AY⟩⟩
noncomputable def fK(x0:List Qr)(x1:List Qr):Option (Int):=(lN (λ(k:Nat) (s3:Unit)=>(show Option ((Unit)⊕(Int))from(some (x0.getD k (⟨⟨false,[]⟩,⟨false,[]⟩⟩:Qr))).bind λ⟨⟨RR,RU⟩,⟨RV,RW⟩⟩=>(some (x1.getD k (⟨⟨false,[]⟩,⟨false,[]⟩⟩:Qr))).bind λ⟨⟨RX,RY⟩,⟨R3,R4⟩⟩=>(lP ⟨⟨RR,RU⟩,⟨RV,RW⟩⟩ ⟨⟨RX,RY⟩,⟨R3,R4⟩⟩).bind λeI=>(some (decide ((eI:Int)≠0))).bind λgM=>(bif gM then some (.inr eI)else some (.inl ())))) (max x0.length x1.length) ()).bind λe3=>match e3 with|.inr v3=>some v3|.inl _=>some 0
noncomputable def n7(x0:List Qr):Option (Int):=(fK x0 []).bind λx4=>some x4
noncomputable def dy(x0:List Qr)(x1:List Qr):Option (Bool):=(fK x0 x1).bind λx7=>(some (decide ((x7:Int)=0))).bind λx8=>some x8
noncomputable def jx(x0:List Qr)(x1:Int):Option (List Qr):=(some (decide ((x1:Int)<1))).bind λx8=>(bif x8 then some []else(some (min (x1:Int) 65536)).bind λef=>(BS 64 ef (⟨⟨false,[]⟩,⟨false,[]⟩⟩:Qr)).bind λiN=>(some (x0.length:Int)).bind λiW=>(some (iN.length:Int)).bind λeI=>(some (min (iW:Int) eI)).bind λgX=>(cy (λ(s8:Int×(List Qr))=>match s8 with|⟨Gc,Ge⟩=>(show Option ((Int×(List Qr))⊕((List Qr)))from(some (decide ((Gc:Int)<gX))).bind λfS=>(bif fS then(cZ x0 Gc).bind λ⟨⟨pQ,pR⟩,⟨pS,pU⟩⟩=>(cQ ⟨⟨pQ,pR⟩,⟨pS,pU⟩⟩).bind λ⟨⟨n8,n9⟩,⟨AZ,A0⟩⟩=>(oM Ge Gc).bind λlD=>(stM Ge lD ⟨⟨n8,n9⟩,⟨AZ,A0⟩⟩).bind λuo=>(some (IntKind.i64.wrap (Gc+1))).bind λnT=>some (.inl (nT,uo))else some (.inr Ge)))) (0,iN)).bind λA3=>some A3)
noncomputable def cS(x0:List Int):Option (List Qr):=(some (x0.length:Int)).bind λx7=>(BS 64 x7 (⟨⟨false,[]⟩,⟨false,[]⟩⟩:Qr)).bind λx8=>(some (x0.length:Int)).bind λef=>(cy (λ(s8:Int×(List Qr))=>match s8 with|⟨sP,A4⟩=>(show Option ((Int×(List Qr))⊕((List Qr)))from(some (decide ((sP:Int)<ef))).bind λdP=>(bif dP then(cZ x0 sP).bind λfC=>(cD fC).bind λ⟨⟨nq,nu⟩,⟨A5,A6⟩⟩=>(oM A4 sP).bind λjc=>(stM A4 jc ⟨⟨nq,nu⟩,⟨A5,A6⟩⟩).bind λuo=>(some (IntKind.i64.wrap (sP+1))).bind λgN=>some (.inl (gN,uo))else some (.inr A4)))) (0,x8)).bind λvv=>some vv
end
section
open Go.Fw Go.Fw.Z Go.RowKit
theorem nB(a b:List Qr):Pure ah 133 [(slc 4 (List.map eQ a)),(slc 4 (List.map eQ b))] (iV 165 [ref [(slc 4 (List.map eQ a))],ref [(slc 4 (List.map eQ b))]]):=by
 refine bw Tryz.func133 Y (af Y) (λee M vs hvs=>?_);refine sr<|RT.xw .none (s:=.sv _) Y T Y Y<|RT.xw .none (s:=.sv _) Y T Y Y<|ag Y<|dn<|sr<|RT.makeFunc .none (.box Y (.box Y (.nil))) T<|an (s:=.fW _ _) Y<|dn<|cY (gW (i:=2) Y [(slc 4 (List.map eQ a))] (.cons Y .nil) .any 0 [(4,.fW 165 [.val (ref [(slc 4 (List.map eQ a))]),.box 3])] (λ_ _ _=>trivial) (qA.h (l:=[(slc 4 (List.map eQ a))])) ⟨@FT.fW _ _ _ _ _ 4 165 [.box 2,.box 3] Y,aq⟩) ?_;exact cY (gW (i:=3) Y [(slc 4 (List.map eQ b))] (.cons Y .nil) .any 0 [(4,.fW 165 [.val (ref [(slc 4 (List.map eQ a))]),.val (ref [(slc 4 (List.map eQ b))])])] (λ_ _ _=>trivial) (qA.h (l:=[(slc 4 (List.map eQ b))])) ⟨@FT.fW _ _ _ _ _ 4 165 [.val (ref [(slc 4 (List.map eQ a))]),.box 3] Y,aq⟩)<|cY (Ds 4 (iV 165 [ref [(slc 4 (List.map eQ a))],ref [(slc 4 (List.map eQ b))]]) (λ_ _ h=>Dt h))<|bh<|⟨.inr Y,Dr (.tmp Y (.nil)) Y⟩
theorem nC(a b:List Qr):Iter ah 165 [ref [(slc 4 (List.map eQ a))],ref [(slc 4 (List.map eQ b))]] (max a.length b.length) (λk=>[.agg (eQ (a.getD k (⟨⟨false,[]⟩,⟨false,[]⟩⟩:Qr))),.agg (eQ (b.getD k (⟨⟨false,[]⟩,⟨false,[]⟩⟩:Qr)))]):=by
 refine qF Tryz.func165 Y Y (af Y) (λee M O l J hJ xI hr=>?_);obtain⟨nP,xI⟩:=xI;have hla:a.length<=9223372036854775807:=by cases nP with|nil=>exact xI.elim|cons _ nP=>exact zK xI.1
 have hlb:b.length<=9223372036854775807:=by cases nP with|nil=>exact xI.elim|cons _ nP=>cases nP with|nil=>exact xI.2.elim|cons _ _=>exact zK xI.2.1
 refine bH ?_;refine aW ?_;refine RT.dj .none Y Y (tl Y) ?_;refine RT.len .none Y (tl Y) ?_;refine RT.dj .none Y Y (tl Y) ?_;refine RT.len .none Y (tl Y) ?_;refine RT.max .none (((max a.length b.length:Nat):Int)) Y Y (tl Y) (by simp only[List.length_map];split<;>omega) ?_;refine RT.mv .none Y (tl Y) ?_;refine RT.done ?_;refine aV.n ?_;refine bj ?_
 refine vV (I:=λx:{i:Nat//i<=max a.length b.length}=>AS.cI 37 [(0,.sv (.v (.func (.yield l) #[] #[]))),(1,.sv (ref [(slc 4 (List.map eQ a))])),(2,.sv (ref [(slc 4 (List.map eQ b))])),(11,ai ((max a.length b.length:Nat):Int)),(12,ai ((x.1:Nat):Int))] [] [] (x.1)) (μ:=λx=>max a.length b.length-x.1) ⟨0,by omega⟩ (by(try dsimp only);exact ec id Y Y Y Y Y ⟨.sv (by first|exact au|exact SV.aY (by omega)|exact SV.aY (by push_cast;omega)|exact SV.aY (by dsimp only;omega)|exact SV.imp_eq (by simp)),.sv (by first|exact au|exact SV.aY (by omega)|exact SV.aY (by push_cast;omega)|exact SV.aY (by dsimp only;omega)|exact SV.imp_eq (by simp)),.sv (by first|exact au|exact SV.aY (by omega)|exact SV.aY (by push_cast;omega)|exact SV.aY (by dsimp only;omega)|exact SV.imp_eq (by simp)),.sv (by first|exact au|exact SV.aY (by omega)|exact SV.aY (by push_cast;omega)|exact SV.aY (by dsimp only;omega)|exact SV.imp_eq (by simp)),.sv (by first|exact au|exact SV.aY (by omega)|exact SV.aY (by push_cast;omega)|exact SV.aY (by dsimp only;omega)|exact SV.imp_eq (by simp)),aq⟩ trivial trivial (λ_ _=>Y)) ?_;rintro⟨i,TY⟩
 try dsimp only
 rcases At a b i TY with⟨hi,xz,BQ⟩|⟨hi,xz,BQ⟩|⟨hi,xz,BQ⟩|hi
 ·
  refine bH ?_;refine aW ?_;refine RT.lss .none (true) Y Y (tl Y) (by simp;omega) ?_;refine RT.done ?_;refine aV.n ?_;refine bH ?_;refine cJ Y ?_;refine bA ?_;refine aV.n ?_;refine bH ?_;refine bj ?_;refine bH ?_;refine aW ?_;refine RT.mv .none Y (tl Y) ?_;refine RT.Ah .none Y (tl Y) ?_;refine RT.done ?_;refine aV.n ?_;refine bH ?_;refine aW ?_;refine RT.qG .none (cs:=eQ ⟨⟨false,[]⟩,⟨false,[]⟩⟩) (by exact⟨au,aB,au,aB,aq⟩) Y (tl Y) Y Y ?_;refine RT.qG .none (cs:=eQ ⟨⟨false,[]⟩,⟨false,[]⟩⟩) (by exact⟨au,aB,au,aB,aq⟩) Y (tl Y) Y Y ?_;refine RT.done ?_;refine aV.n ?_;refine bH ?_;refine bH ?_;refine aW ?_;refine RT.mv .none Y (tl Y) ?_;refine RT.dj .none Y Y (tl Y) ?_;refine RT.len .none Y (tl Y) ?_;refine RT.lss .none (true) Y Y (tl Y) (by simp only[List.length_map];simp;omega) ?_;refine RT.done ?_;refine aV.n ?_;refine cJ Y ?_;refine aW ?_;refine RT.dj .none Y Y (tl Y) ?_;refine RT.mv .none Y (tl Y) ?_
  refine RT.Ls .none [az ((a.getD i (⟨⟨false,[]⟩,⟨false,[]⟩⟩:Qr)).num.neg),slc 1 ((a.getD i (⟨⟨false,[]⟩,⟨false,[]⟩⟩:Qr)).num.w.map aX),az ((a.getD i (⟨⟨false,[]⟩,⟨false,[]⟩⟩:Qr)).den.neg),slc 1 ((a.getD i (⟨⟨false,[]⟩,⟨false,[]⟩⟩:Qr)).den.w.map aX)] (Int.natCast_nonneg i) (by rw[Int.toNat_natCast,List.getElem?_map,ew xz];rfl) Y Y (tl Y) ?_;refine RT.ja .none Y (tl Y) (cs:=[az ((a.getD i (⟨⟨false,[]⟩,⟨false,[]⟩⟩:Qr)).num.neg),slc 1 ((a.getD i (⟨⟨false,[]⟩,⟨false,[]⟩⟩:Qr)).num.w.map aX),az ((a.getD i (⟨⟨false,[]⟩,⟨false,[]⟩⟩:Qr)).den.neg),slc 1 ((a.getD i (⟨⟨false,[]⟩,⟨false,[]⟩⟩:Qr)).den.w.map aX)]) Y Y ?_;refine RT.store .none Y Y Y Y Y ?_;refine RT.done ?_;refine aV.n ?_;refine bH ?_;refine bH ?_;refine aW ?_;refine RT.mv .none Y (tl Y) ?_;refine RT.dj .none Y Y (tl Y) ?_;refine RT.len .none Y (tl Y) ?_;refine RT.lss .none (true) Y Y (tl Y) (by simp only[List.length_map];simp;omega) ?_;refine RT.done ?_;refine aV.n ?_;refine cJ Y ?_;refine aW ?_;refine RT.dj .none Y Y (tl Y) ?_;refine RT.mv .none Y (tl Y) ?_
  refine RT.Ls .none [az ((b.getD i (⟨⟨false,[]⟩,⟨false,[]⟩⟩:Qr)).num.neg),slc 1 ((b.getD i (⟨⟨false,[]⟩,⟨false,[]⟩⟩:Qr)).num.w.map aX),az ((b.getD i (⟨⟨false,[]⟩,⟨false,[]⟩⟩:Qr)).den.neg),slc 1 ((b.getD i (⟨⟨false,[]⟩,⟨false,[]⟩⟩:Qr)).den.w.map aX)] (Int.natCast_nonneg i) (by rw[Int.toNat_natCast,List.getElem?_map,ew BQ];rfl) Y Y (tl Y) ?_;refine RT.ja .none Y (tl Y) (cs:=[az ((b.getD i (⟨⟨false,[]⟩,⟨false,[]⟩⟩:Qr)).num.neg),slc 1 ((b.getD i (⟨⟨false,[]⟩,⟨false,[]⟩⟩:Qr)).num.w.map aX),az ((b.getD i (⟨⟨false,[]⟩,⟨false,[]⟩⟩:Qr)).den.neg),slc 1 ((b.getD i (⟨⟨false,[]⟩,⟨false,[]⟩⟩:Qr)).den.w.map aX)]) Y Y ?_;refine RT.store .none Y Y Y Y Y ?_;refine RT.done ?_;refine aV.n ?_;refine bH ?_;refine aW ?_;refine RT.mv .none Y (tl Y) ?_;refine RT.load .none Y Y (.k4 Y Y Y Y) Y (tl Y) ?_;refine RT.load .none Y Y (.k4 Y Y Y Y) Y (tl Y) ?_;refine RT.yield .none hr Y (λ_ h=>h) Y (i) Y Y hi (by exact⟨Y,Y,aq⟩) (tl Y) (λyb=>?_);cases yb
  ·
   refine RT.not .none Y (tl Y) true Y ?_;refine RT.done ?_;refine aV.n ?_;refine cJ Y ?_;refine bh ?_;refine bG.r ?_;refine aV.r ?_;refine aV.r ?_;refine bG.r ?_;exact⟨.inr rfl,(λh=>by cases h)⟩
  refine RT.not .none Y (tl Y) false Y ?_;refine RT.done ?_;refine aV.n ?_;refine dV Y ?_;refine bA ?_;refine bG.n ?_;refine aV.n ?_;refine aW ?_;refine RT.add .none (((i:Nat):Int)+1) Y Y (tl Y) (kG (by omega)) ?_;refine RT.mv .none Y (tl Y) ?_;refine RT.done ?_;refine aV.n ?_;refine⟨⟨i+1,by omega⟩,(by dsimp only;omega),?_⟩
  try dsimp only
  exact ec id Y Y Y Y Y ⟨.sv (by first|exact au|exact SV.aY (by omega)|exact SV.aY (by push_cast;omega)|exact SV.aY (by dsimp only;omega)|exact SV.imp_eq (by simp)),.sv (by first|exact au|exact SV.aY (by omega)|exact SV.aY (by push_cast;omega)|exact SV.aY (by dsimp only;omega)|exact SV.imp_eq (by simp)),.sv (by first|exact au|exact SV.aY (by omega)|exact SV.aY (by push_cast;omega)|exact SV.aY (by dsimp only;omega)|exact SV.imp_eq (by simp)),.sv (by first|exact au|exact SV.aY (by omega)|exact SV.aY (by push_cast;omega)|exact SV.aY (by dsimp only;omega)|exact SV.imp_eq (by simp)),.sv (by first|exact au|exact SV.aY (by omega)|exact SV.aY (by push_cast;omega)|exact SV.aY (by dsimp only;omega)|exact SV.imp_eq (by simp)),aq⟩ trivial trivial (λ_ _=>Y)
 ·
  refine bH ?_;refine aW ?_;refine RT.lss .none (true) Y Y (tl Y) (by simp;omega) ?_;refine RT.done ?_;refine aV.n ?_;refine bH ?_;refine cJ Y ?_;refine bA ?_;refine aV.n ?_;refine bH ?_;refine bj ?_;refine bH ?_;refine aW ?_;refine RT.mv .none Y (tl Y) ?_;refine RT.Ah .none Y (tl Y) ?_;refine RT.done ?_;refine aV.n ?_;refine bH ?_;refine aW ?_;refine RT.qG .none (cs:=eQ ⟨⟨false,[]⟩,⟨false,[]⟩⟩) (by exact⟨au,aB,au,aB,aq⟩) Y (tl Y) Y Y ?_;refine RT.qG .none (cs:=eQ ⟨⟨false,[]⟩,⟨false,[]⟩⟩) (by exact⟨au,aB,au,aB,aq⟩) Y (tl Y) Y Y ?_;refine RT.done ?_;refine aV.n ?_;refine bH ?_;refine bH ?_;refine aW ?_;refine RT.mv .none Y (tl Y) ?_;refine RT.dj .none Y Y (tl Y) ?_;refine RT.len .none Y (tl Y) ?_;refine RT.lss .none (true) Y Y (tl Y) (by simp only[List.length_map];simp;omega) ?_;refine RT.done ?_;refine aV.n ?_;refine cJ Y ?_;refine aW ?_;refine RT.dj .none Y Y (tl Y) ?_;refine RT.mv .none Y (tl Y) ?_
  refine RT.Ls .none [az ((a.getD i (⟨⟨false,[]⟩,⟨false,[]⟩⟩:Qr)).num.neg),slc 1 ((a.getD i (⟨⟨false,[]⟩,⟨false,[]⟩⟩:Qr)).num.w.map aX),az ((a.getD i (⟨⟨false,[]⟩,⟨false,[]⟩⟩:Qr)).den.neg),slc 1 ((a.getD i (⟨⟨false,[]⟩,⟨false,[]⟩⟩:Qr)).den.w.map aX)] (Int.natCast_nonneg i) (by rw[Int.toNat_natCast,List.getElem?_map,ew xz];rfl) Y Y (tl Y) ?_;refine RT.ja .none Y (tl Y) (cs:=[az ((a.getD i (⟨⟨false,[]⟩,⟨false,[]⟩⟩:Qr)).num.neg),slc 1 ((a.getD i (⟨⟨false,[]⟩,⟨false,[]⟩⟩:Qr)).num.w.map aX),az ((a.getD i (⟨⟨false,[]⟩,⟨false,[]⟩⟩:Qr)).den.neg),slc 1 ((a.getD i (⟨⟨false,[]⟩,⟨false,[]⟩⟩:Qr)).den.w.map aX)]) Y Y ?_;refine RT.store .none Y Y Y Y Y ?_;refine RT.done ?_;refine aV.n ?_;refine bH ?_;refine bH ?_;refine aW ?_;refine RT.mv .none Y (tl Y) ?_;refine RT.dj .none Y Y (tl Y) ?_;refine RT.len .none Y (tl Y) ?_;refine RT.lss .none (false) Y Y (tl Y) (by simp only[List.length_map];simp;omega) ?_;refine RT.done ?_;refine aV.n ?_;refine dV Y ?_;refine bA ?_;refine aV.n ?_;refine bH ?_;refine aW ?_;refine RT.mv .none Y (tl Y) ?_;refine RT.load .none Y Y (.k4 Y Y Y Y) Y (tl Y) ?_;refine RT.load .none Y Y (.k4 Y Y Y Y) Y (tl Y) ?_
  refine RT.yield .none hr Y (λ_ h=>h) Y (i) Y Y hi (by exact⟨Y,(by show AV.sv _=AV.sv _;rw[ij BQ]),aq⟩) (tl Y) (λyb=>?_);cases yb
  ·
   refine RT.not .none Y (tl Y) true Y ?_;refine RT.done ?_;refine aV.n ?_;refine cJ Y ?_;refine bh ?_;refine bG.r ?_;refine aV.r ?_;refine aV.r ?_;refine bG.r ?_;exact⟨.inr rfl,(λh=>by cases h)⟩
  refine RT.not .none Y (tl Y) false Y ?_;refine RT.done ?_;refine aV.n ?_;refine dV Y ?_;refine bA ?_;refine bG.n ?_;refine aV.n ?_;refine aW ?_;refine RT.add .none (((i:Nat):Int)+1) Y Y (tl Y) (kG (by omega)) ?_;refine RT.mv .none Y (tl Y) ?_;refine RT.done ?_;refine aV.n ?_;refine⟨⟨i+1,by omega⟩,(by dsimp only;omega),?_⟩
  try dsimp only
  exact ec id Y Y Y Y Y ⟨.sv (by first|exact au|exact SV.aY (by omega)|exact SV.aY (by push_cast;omega)|exact SV.aY (by dsimp only;omega)|exact SV.imp_eq (by simp)),.sv (by first|exact au|exact SV.aY (by omega)|exact SV.aY (by push_cast;omega)|exact SV.aY (by dsimp only;omega)|exact SV.imp_eq (by simp)),.sv (by first|exact au|exact SV.aY (by omega)|exact SV.aY (by push_cast;omega)|exact SV.aY (by dsimp only;omega)|exact SV.imp_eq (by simp)),.sv (by first|exact au|exact SV.aY (by omega)|exact SV.aY (by push_cast;omega)|exact SV.aY (by dsimp only;omega)|exact SV.imp_eq (by simp)),.sv (by first|exact au|exact SV.aY (by omega)|exact SV.aY (by push_cast;omega)|exact SV.aY (by dsimp only;omega)|exact SV.imp_eq (by simp)),aq⟩ trivial trivial (λ_ _=>Y)
 ·
  refine bH ?_;refine aW ?_;refine RT.lss .none (true) Y Y (tl Y) (by simp;omega) ?_;refine RT.done ?_;refine aV.n ?_;refine bH ?_;refine cJ Y ?_;refine bA ?_;refine aV.n ?_;refine bH ?_;refine bj ?_;refine bH ?_;refine aW ?_;refine RT.mv .none Y (tl Y) ?_;refine RT.Ah .none Y (tl Y) ?_;refine RT.done ?_;refine aV.n ?_;refine bH ?_;refine aW ?_;refine RT.qG .none (cs:=eQ ⟨⟨false,[]⟩,⟨false,[]⟩⟩) (by exact⟨au,aB,au,aB,aq⟩) Y (tl Y) Y Y ?_;refine RT.qG .none (cs:=eQ ⟨⟨false,[]⟩,⟨false,[]⟩⟩) (by exact⟨au,aB,au,aB,aq⟩) Y (tl Y) Y Y ?_;refine RT.done ?_;refine aV.n ?_;refine bH ?_;refine bH ?_;refine aW ?_;refine RT.mv .none Y (tl Y) ?_;refine RT.dj .none Y Y (tl Y) ?_;refine RT.len .none Y (tl Y) ?_;refine RT.lss .none (false) Y Y (tl Y) (by simp only[List.length_map];simp;omega) ?_;refine RT.done ?_;refine aV.n ?_;refine dV Y ?_;refine bA ?_;refine aV.n ?_;refine bH ?_;refine bH ?_;refine aW ?_;refine RT.mv .none Y (tl Y) ?_;refine RT.dj .none Y Y (tl Y) ?_;refine RT.len .none Y (tl Y) ?_;refine RT.lss .none (true) Y Y (tl Y) (by simp only[List.length_map];simp;omega) ?_;refine RT.done ?_;refine aV.n ?_;refine cJ Y ?_;refine aW ?_;refine RT.dj .none Y Y (tl Y) ?_
  refine RT.mv .none Y (tl Y) ?_;refine RT.Ls .none [az ((b.getD i (⟨⟨false,[]⟩,⟨false,[]⟩⟩:Qr)).num.neg),slc 1 ((b.getD i (⟨⟨false,[]⟩,⟨false,[]⟩⟩:Qr)).num.w.map aX),az ((b.getD i (⟨⟨false,[]⟩,⟨false,[]⟩⟩:Qr)).den.neg),slc 1 ((b.getD i (⟨⟨false,[]⟩,⟨false,[]⟩⟩:Qr)).den.w.map aX)] (Int.natCast_nonneg i) (by rw[Int.toNat_natCast,List.getElem?_map,ew BQ];rfl) Y Y (tl Y) ?_;refine RT.ja .none Y (tl Y) (cs:=[az ((b.getD i (⟨⟨false,[]⟩,⟨false,[]⟩⟩:Qr)).num.neg),slc 1 ((b.getD i (⟨⟨false,[]⟩,⟨false,[]⟩⟩:Qr)).num.w.map aX),az ((b.getD i (⟨⟨false,[]⟩,⟨false,[]⟩⟩:Qr)).den.neg),slc 1 ((b.getD i (⟨⟨false,[]⟩,⟨false,[]⟩⟩:Qr)).den.w.map aX)]) Y Y ?_;refine RT.store .none Y Y Y Y Y ?_;refine RT.done ?_;refine aV.n ?_;refine bH ?_;refine aW ?_;refine RT.mv .none Y (tl Y) ?_;refine RT.load .none Y Y (.k4 Y Y Y Y) Y (tl Y) ?_;refine RT.load .none Y Y (.k4 Y Y Y Y) Y (tl Y) ?_;refine RT.yield .none hr Y (λ_ h=>h) Y (i) Y Y hi (by exact⟨(by show AV.sv _=AV.sv _;rw[ij xz]),Y,aq⟩) (tl Y) (λyb=>?_);cases yb
  ·
   refine RT.not .none Y (tl Y) true Y ?_;refine RT.done ?_;refine aV.n ?_;refine cJ Y ?_;refine bh ?_;refine bG.r ?_;refine aV.r ?_;refine aV.r ?_;refine bG.r ?_;exact⟨.inr rfl,(λh=>by cases h)⟩
  refine RT.not .none Y (tl Y) false Y ?_;refine RT.done ?_;refine aV.n ?_;refine dV Y ?_;refine bA ?_;refine bG.n ?_;refine aV.n ?_;refine aW ?_;refine RT.add .none (((i:Nat):Int)+1) Y Y (tl Y) (kG (by omega)) ?_;refine RT.mv .none Y (tl Y) ?_;refine RT.done ?_;refine aV.n ?_;refine⟨⟨i+1,by omega⟩,(by dsimp only;omega),?_⟩
  try dsimp only
  exact ec id Y Y Y Y Y ⟨.sv (by first|exact au|exact SV.aY (by omega)|exact SV.aY (by push_cast;omega)|exact SV.aY (by dsimp only;omega)|exact SV.imp_eq (by simp)),.sv (by first|exact au|exact SV.aY (by omega)|exact SV.aY (by push_cast;omega)|exact SV.aY (by dsimp only;omega)|exact SV.imp_eq (by simp)),.sv (by first|exact au|exact SV.aY (by omega)|exact SV.aY (by push_cast;omega)|exact SV.aY (by dsimp only;omega)|exact SV.imp_eq (by simp)),.sv (by first|exact au|exact SV.aY (by omega)|exact SV.aY (by push_cast;omega)|exact SV.aY (by dsimp only;omega)|exact SV.imp_eq (by simp)),.sv (by first|exact au|exact SV.aY (by omega)|exact SV.aY (by push_cast;omega)|exact SV.aY (by dsimp only;omega)|exact SV.imp_eq (by simp)),aq⟩ trivial trivial (λ_ _=>Y)
 subst hi;refine bH ?_;refine aW ?_;refine RT.lss .none (false) Y Y (tl Y) (by simp) ?_;refine RT.done ?_;refine aV.n ?_;refine bH ?_;refine dV Y ?_;refine cc ?_;refine aV.x ?_;refine aV.x ?_;refine bG.x ?_;exact⟨.inl Y,(λ_=>Y)⟩
end
section
open Go.Fw Go.Fw.Z Go.RowKit
theorem A7{x0:List Qr}{x1:List Qr}(N:Nat){r:List Qr}(h:lZ x0 x1=some r):cL ah 95 N [slc 4 (List.map eQ x0),slc 4 (List.map eQ x1),.v (.func (.func 94) #[] #[])] (nw N (slc 4 (List.map (fQ N) r))):=by
 refine bC Tryz.func95 Y (af Y) (λee M vs hN hvs=>?_);unfold lZ at h;refine sr<|RT.xw .none (s:=.sv _) Y T Y Y<|aI Y (bk (N:=N) (n:=4) (e:=(fQ N)))<|dn<|sr<|mv Y<|lE h λiN pg h=>ln Y pg<|mv Y<|lE h λiW kJ h=>ln Y kJ<|lE h λfC lz h=>RT.max .none _ Y Y T (LJ (p:=iN) (q:=iW) lz)<|bE h λeI jh h=>RT.CK (e:=(fQ N)) .none Y Y T Y T jh<|RT.alloc .none T Y Y<|RT.nN (cells:=[_]) .none Y Y Y Y T Y<|dn<|qq<|sr ?_;refine mv Y<|mv Y<|cl (nB x0 x1) ⟨Y,Y,aq⟩<|dn<|bj<|bE h λlQ hl5 ho5=>?_;obtain⟨X9,hs5,ht5,hn5⟩:=nJ hl5;refine kH (nC x0 x1) (λ_ _ _ _ _=>trivial) Y (λk=>AS.cI 29 [(5,.ptr 5 0),(7,.ptr 7 0),(18,.sv (iV 165 [ref [slc 4 (List.map eQ x0)],ref [slc 4 (List.map eQ x1)]]))] [(7,⟨23,[.row 302]⟩),(5,⟨106,[.sv (.v (.func (.func 94) #[] #[]))]⟩)] [(302,TR 43 4 (fQ N) (X9 k))]) [7,5] Y (λ_=>⟨Y,Y⟩) (rY Y) (λ_=>Y) (rZ Y) (by(try dsimp only);rw[hs5];(try dsimp only);exact ec (λi=>bif Nat.beq i 302 then 15 else i) Y Y Y Y Y ⟨.ptr,.ptr,.sv au,aq⟩ ⟨⟨_,Y,⟨.row Y,aq⟩⟩,⟨_,Y,⟨.sv au,aq⟩⟩,aq⟩ ⟨⟨_,Y,cP.refl _⟩,aq⟩ (λi hi=>by rw[cV (show i≠302 by omega)];rfl)) (λk hk D hD=>?_) ?_;have h:=ht5 k hk;obtain⟨lQ,Pn⟩:∃q,X9 k=q:=⟨_,Y⟩;rw[Pn]at h⊢;dsimp only[AS.Ov,rX]
 try dsimp only at h
 obtain⟨⟨⟨FW,FX⟩,⟨FY,FZ⟩⟩,UB,h⟩:=bS h;rw[Option.some.inj UB];obtain⟨⟨⟨F1,F2⟩,⟨F3,F4⟩⟩,Md,h⟩:=bS h;rw[Option.some.inj Md];refine sr<|al (cs:=[az false,nw N ax,az false,nw N ax]) (by exact⟨au,bk,au,bk,aq⟩) Y<|so Y Y Y<|dn<|aW<|al (cs:=[az false,nw N ax,az false,nw N ax]) (by exact⟨au,bk,au,bk,aq⟩) Y<|so Y Y Y<|RT.done ?_;refine aV.n ⟨Y,?_⟩;dsimp only[AS.B5];refine bj<|bf mixed<|RT.ig .none (s:=.row _) Y Y Y T<|lV Y Y Y<|ld Y Y (.k4 Y Y Y Y)<|ld Y Y (.k4 Y Y Y Y) ?_;obtain⟨⟨⟨lF,kI⟩,⟨sN,sO⟩⟩,xP,h⟩:=bS h;refine RT.bM .none (FO N xP) (Nat.le_trans hN hD) Y ⟨Y,Y,aq⟩ T<|bl (l:=[⟨⟨lF,kI⟩,⟨sN,sO⟩⟩]) (e:=(fQ N)) (.agg Y (.nil)) Y Y Y Y Y Y<|bE h λlD tW h=>aR (k:=[⟨⟨lF,kI⟩,⟨sN,sO⟩⟩]) (e:=(fQ N)) Y Y Y tW<|RT.nN (cells:=[_]) .none Y Y Y Y T Y ?_;refine RT.done ⟨by kernel_rfl,?_⟩;refine bG.n ?_;replace h:=Option.some.inj h;refine⟨aq,Y,Y,?_⟩
 try dsimp only
 rw[<-h]
 try dsimp only
 exact ec (λi=>bif Nat.beq i 302 then 27 else i) Y Y Y Y Y ⟨.ptr,.ptr,.sv au,aq⟩ ⟨⟨_,Y,⟨.row Y,aq⟩⟩,⟨_,Y,⟨.sv au,aq⟩⟩,aq⟩ ⟨⟨_,Y,cP.refl _⟩,aq⟩ (λi hi=>by rw[cV (show i≠302 by omega)];rfl);rw[hn5]
 try dsimp only
 refine bG.n<|aV.n<|sr<|RT.ig .none (s:=.row _) Y Y Y T<|an (s:=.row _) Y<|dn<|iS (i:=302) (E1:=43) (n:=4) (e:=(fQ N)) (l:=lQ) hN (λ_ h=>h) Y<|bh ?_;obtain rfl:=O ho5;exact R1 Y
theorem vw{x0:Qr}{x1:Qr}{F5:Qr}(N:Nat){r:Qr}(h:kN x0 x1 F5=some r):cL ah 141 N [.agg (eQ x0),.agg (eQ x1),ref (eQ F5)] (.agg ((fQ N) r)):=by
 obtain⟨⟨bp,bt⟩,⟨bB,bF⟩⟩:=x0;obtain⟨⟨cC,cz⟩,⟨gD,gE⟩⟩:=x1;obtain⟨⟨F6,F7⟩,⟨F8,F9⟩⟩:=F5;refine bC Tryz.func141 Y (af Y) (λee M vs hN hvs=>?_);unfold kN at h;refine sr<|bx Y<|bx Y<|al (cs:=[az false,nw N ax,az false,nw N ax]) (by exact⟨au,bk,au,bk,aq⟩) Y<|dn<|qq<|bf mixed<|RT.ja (cs:=[_,_,_,_]) .none Y T Y Y<|ld Y Y (.k4 Y Y Y Y) ?_;obtain⟨⟨⟨vp,vr⟩,⟨AQ,AR⟩⟩,h8,h⟩:=bS h;refine RT.bM .none (sM N h8) hN Y ⟨Y,Y,aq⟩ T<|ld Y Y (.k4 Y Y Y Y) ?_;obtain⟨⟨⟨Fp,Fq⟩,⟨RF,RG⟩⟩,gV,h⟩:=bS h;refine RT.bM .none ((yM N gV).w (args':=[_,_]) ⟨(SV.dB (show cP [az vp,nw N (slc 1 (List.map aX vr)),az AQ,nw N (slc 1 (List.map aX AR))] _ from⟨au,dY,au,dY,aq⟩)),au,aq⟩) hN Y ⟨Y,Y,aq⟩ T<|so Y Y Y ?_;refine RT.done ⟨by kernel_rfl,?_⟩;refine aV.n<|bh ?_;obtain rfl:=O h;exact RZ (.agg Y Y (.k4 Y Y Y Y) Y (.nil))
theorem wP{x0:List Qr}{x1:List Qr}{Mz:Qr}(N:Nat){r:List Qr}(h:jv x0 x1 Mz=some r):cL ah 95 N [slc 4 (List.map eQ x0),slc 4 (List.map eQ x1),iV 141 [ref (eQ Mz)]] (nw N (slc 4 (List.map (fQ N) r))):=by
 obtain⟨⟨HR,HS⟩,⟨HT,HU⟩⟩:=Mz;refine bC Tryz.func95 Y (af Y) (λee M vs hN hvs=>?_);unfold jv at h;refine sr<|RT.xw .none (s:=.sv _) Y T Y Y<|aI Y (bk (N:=N) (n:=4) (e:=(fQ N)))<|dn<|sr<|mv Y<|lE h λiN pg h=>ln Y pg<|mv Y<|lE h λiW kJ h=>ln Y kJ<|lE h λfC lz h=>RT.max .none _ Y Y T (LJ (p:=iN) (q:=iW) lz)<|bE h λeI jh h=>RT.CK (e:=(fQ N)) .none Y Y T Y T jh<|RT.alloc .none T Y Y<|RT.nN (cells:=[_]) .none Y Y Y Y T Y<|dn<|qq<|sr ?_;refine mv Y<|mv Y<|cl (nB x0 x1) ⟨Y,Y,aq⟩<|dn<|bj<|bE h λlQ hl5 ho5=>?_;obtain⟨X9,hs5,ht5,hn5⟩:=nJ hl5;refine kH (nC x0 x1) (λ_ _ _ _ _=>trivial) Y (λk=>AS.cI 29 [(5,.ptr 5 0),(7,.ptr 7 0),(18,.sv (iV 165 [ref [slc 4 (List.map eQ x0)],ref [slc 4 (List.map eQ x1)]]))] [(7,⟨23,[.row 302]⟩),(5,⟨106,[.sv (iV 141 [ref [az HR,slc 1 (List.map aX HS),az HT,slc 1 (List.map aX HU)]])]⟩)] [(302,TR 43 4 (fQ N) (X9 k))]) [7,5] Y (λ_=>⟨Y,Y⟩) (rY Y) (λ_=>Y) (rZ Y) (by(try dsimp only);rw[hs5];(try dsimp only);exact ec (λi=>bif Nat.beq i 302 then 15 else i) Y Y Y Y Y ⟨.ptr,.ptr,.sv au,aq⟩ ⟨⟨_,Y,⟨.row Y,aq⟩⟩,⟨_,Y,⟨.sv au,aq⟩⟩,aq⟩ ⟨⟨_,Y,cP.refl _⟩,aq⟩ (λi hi=>by rw[cV (show i≠302 by omega)];rfl)) (λk hk D hD=>?_) ?_;have h:=ht5 k hk;obtain⟨lQ,Pn⟩:∃q,X9 k=q:=⟨_,Y⟩;rw[Pn]at h⊢
 dsimp only[AS.Ov,rX]
 try dsimp only at h
 obtain⟨⟨⟨FW,FX⟩,⟨FY,FZ⟩⟩,UB,h⟩:=bS h;rw[Option.some.inj UB];obtain⟨⟨⟨F1,F2⟩,⟨F3,F4⟩⟩,Md,h⟩:=bS h;rw[Option.some.inj Md];refine sr<|al (cs:=[az false,nw N ax,az false,nw N ax]) (by exact⟨au,bk,au,bk,aq⟩) Y<|so Y Y Y<|dn<|aW<|al (cs:=[az false,nw N ax,az false,nw N ax]) (by exact⟨au,bk,au,bk,aq⟩) Y<|so Y Y Y<|RT.done ?_;refine aV.n ⟨Y,?_⟩;dsimp only[AS.B5];refine bj<|bf mixed<|RT.ig .none (s:=.row _) Y Y Y T<|lV Y Y Y<|ld Y Y (.k4 Y Y Y Y)<|ld Y Y (.k4 Y Y Y Y) ?_;obtain⟨⟨⟨lF,kI⟩,⟨sN,sO⟩⟩,xP,h⟩:=bS h;refine RT.TI (args:=[_,_]) (caps:=[_]) .none (vw N xP) (Nat.le_trans hN hD) Y ⟨Y,Y,aq⟩ T<|bl (l:=[⟨⟨lF,kI⟩,⟨sN,sO⟩⟩]) (e:=(fQ N)) (.agg Y (.nil)) Y Y Y Y Y Y<|bE h λlD tW h=>aR (k:=[⟨⟨lF,kI⟩,⟨sN,sO⟩⟩]) (e:=(fQ N)) Y Y Y tW<|RT.nN (cells:=[_]) .none Y Y Y Y T Y ?_;refine RT.done ⟨by kernel_rfl,?_⟩;refine bG.n ?_;replace h:=Option.some.inj h;refine⟨aq,Y,Y,?_⟩
 try dsimp only
 rw[<-h]
 try dsimp only
 exact ec (λi=>bif Nat.beq i 302 then 27 else i) Y Y Y Y Y ⟨.ptr,.ptr,.sv au,aq⟩ ⟨⟨_,Y,⟨.row Y,aq⟩⟩,⟨_,Y,⟨.sv au,aq⟩⟩,aq⟩ ⟨⟨_,Y,cP.refl _⟩,aq⟩ (λi hi=>by rw[cV (show i≠302 by omega)];rfl);rw[hn5]
 try dsimp only
 refine bG.n<|aV.n<|sr<|RT.ig .none (s:=.row _) Y Y Y T<|an (s:=.row _) Y<|dn<|iS (i:=302) (E1:=43) (n:=4) (e:=(fQ N)) (l:=lQ) hN (λ_ h=>h) Y<|bh ?_;obtain rfl:=O ho5;exact R1 Y
theorem D4{x0:Qr}{x1:Qr}{c0:Qr}{r:Qr}(h:mG x0 x1 c0=some r):Ly ah 131 [.agg (eQ x0),.agg (eQ x1)] 43 (eQ c0) (.any) (eQ r):=by
 obtain⟨⟨bp,bt⟩,⟨bB,bF⟩⟩:=x0;obtain⟨⟨cC,cz⟩,⟨gD,gE⟩⟩:=x1;obtain⟨⟨MA,MB⟩,⟨MC,MD⟩⟩:=c0;refine Al Tryz.func131 Y (af Y) (λee M β=>?_);unfold mG at h;refine sr<|bx Y<|bx Y<|dn<|qq ?_;refine bK h (λj3=>AS.cI 18 [(2,.ptr 1000 0),(3,.ptr 3 0),(4,.ptr 4 0),(12,aj j3)] [(4,⟨43,[aj cC,.sv (slc 1 (List.map aX cz)),aj gD,.sv (slc 1 (List.map aX gE))]⟩),(3,⟨43,[aj bp,.sv (slc 1 (List.map aX bt)),aj bB,.sv (slc 1 (List.map aX bF))]⟩),(1000,⟨43,[aj MA,.sv (slc 1 (List.map aX MB)),aj MC,.sv (slc 1 (List.map aX MD))]⟩)] []) (λh=>?_) (λAT h=>?_);refine aW<|ld Y Y (.k4 Y Y Y Y)<|bE h λx6 h6 h=>cl (gx h6) ⟨Y,aq⟩<|lE h λx7 h7 h=>ne _ Y Y (G4 (p:=x6) (q:=0) h7)<|mv Y<|bE h λRH DV h=>?_;cases x7;obtain rfl:=O (F DV);exact ww<|ww<|ww<|pF Y<|dn<|⟨false,h,wR []⟩;refine gl Y Y (.k4 Y Y Y Y)<|bE (V DV) λef gV DV=>gc (gx gV) ⟨Y,aq⟩<|lE DV λiN pg DV=>gq _ Y Y (G4 (p:=ef) (q:=0) pg) ?_;obtain rfl:=O DV;exact pT Y<|dn<|⟨iN,h,wR []⟩
 try dsimp only
 refine aV.n ?_;refine bK h (λj5=>AS.cI 18 [(2,.ptr 1000 0)] [(1000,⟨43,[aj j5.1,.sv (slc 1 (List.map aX j5.2.1)),aj j5.2.2.1,.sv (slc 1 (List.map aX j5.2.2.2))]⟩)] []) (λh=>?_) (λj5 h=>?_);cases AT;exact fs<|⟨(MA,MB,MC,MD),(F h),wR []⟩;refine cT<|bf mixed<|ld Y Y (.k4 Y Y Y Y)<|ld Y Y (.k4 Y Y Y Y)<|ld Y Y (.k4 Y Y Y Y) ?_;obtain⟨⟨⟨mw,mz⟩,⟨Ga,Gb⟩⟩,lC,h⟩:=bS (V h);refine cl (FP lC) ⟨Y,Y,aq⟩ ?_;obtain⟨⟨⟨oR,oS⟩,⟨uM,uN⟩⟩,mW,h⟩:=bS h;refine cl (FN mW) ⟨Y,Y,aq⟩<|so Y Y Y ?_;refine RT.done ⟨by kernel_rfl,?_⟩;exact aV.n<|⟨(oR,oS,uM,uN),h,wR []⟩;obtain⟨CW,CX,CY,CZ⟩:=j5
 try dsimp only
 obtain rfl:=O h;exact⟨.inl Y,gi .nil (λ_ _ _=>trivial),Y⟩
theorem HV{x0:List Qr}{x1:List Qr}(N:Nat){r:List Qr}(h:pP x0 x1=some r):cL ah 50 N [slc 4 (List.map eQ x0),slc 4 (List.map eQ x1)] (nw N (slc 4 (List.map (fQ N) r))):=by
 refine bC Tryz.func50 Y (af Y) (λee M vs hN hvs=>?_);unfold pP at h;refine sr<|aI Y (bk (N:=N) (n:=4) (e:=(fQ N)))<|dn<|sr<|mv Y<|mv Y<|bE h λx7 h7 h=>RT.bM .none (A7 N h7) hN Y ⟨Y,Y,Y,aq⟩ T<|ag Y<|dn<|bh ?_;obtain rfl:=O h;exact R1 Y
theorem D5{x0:Qr}{x1:List Qr}(N:Nat){r:List Qr}(h:jo x0 x1=some r):cL ah 40 N [.agg (eQ x0),slc 4 (List.map eQ x1)] (nw N (slc 4 (List.map (fQ N) r))):=by
 obtain⟨⟨bp,bt⟩,⟨bB,bF⟩⟩:=x0;refine bC Tryz.func40 Y (af Y) (λee M vs hN hvs=>?_);unfold jo at h;refine sr<|bx Y<|aI Y (bk (N:=N) (n:=4) (e:=(fQ N)))<|dn<|sr<|mv Y<|lE h λx9 h9 h=>ln Y h9<|bE h λef gV h=>RT.nQ (n:=4) (e:=(fQ N)) .none Y Y T Y T (by rfl) (by decide) (by exact⟨au,bk,au,bk,aq⟩) gV<|an (s:=.row _) Y<|dn<|qq<|sr<|mv Y<|lE h λdP gu h=>ln Y gu<|mv Y<|dn<|bE h λe8 DO wJ=>?_;refine bV (λ(jE:(List Qr))=>AS.cI 26 [(5,.row 10)] [] [(10,TR 43 4 (fQ N) jE)]) (λjE=>jE=e8) ?_ (λjE DP=>?_);refine bj ?_;refine bW DO (λs8=>AS.cI 26 [(2,.ptr 2 0),(5,.row 10),(11,.sv (slc 4 (List.map eQ x1))),(12,ai dP),(13,ai s8.1)] [(2,⟨43,[aj bp,.sv (slc 1 (List.map aX bt)),aj bB,.sv (slc 1 (List.map aX bF))]⟩)] [(10,TR 43 4 (fQ N) s8.2)]) (wR []) (λs8 y8 G8 h DQ DR=>?_);obtain⟨mH,mI⟩:=s8
 try dsimp only
 refine sr<|lE h λfC lz h=>ls _ Y Y lz<|dn<|qq ?_;cases fC;refine cF<|cc<|aV.x<|aV.x<|bG.x<|aV.n ?_;obtain rfl:=O (F h);exact⟨mI,DR _ Y,wR []⟩;refine cT<|bA<|aV.n<|qq<|bj<|sr<|mv Y ?_;obtain⟨⟨⟨mw,mz⟩,⟨Ga,Gb⟩⟩,lC,h⟩:=bS (V h);refine ix Y Y lC<|RT.ja (cs:=[_,_,_,_]) .none Y T Y Y<|al (cs:=[az false,nw N ax,az false,nw N ax]) (by exact⟨au,bk,au,bk,aq⟩) Y<|ag Y<|so Y Y Y<|dn<|aW<|mo (s:=.row _) Y<|mv Y<|ld Y Y (.k4 Y Y Y Y)<|ld Y Y (.k4 Y Y Y Y) ?_;obtain⟨⟨⟨mJ,mK⟩,⟨mL,mM⟩⟩,qM,h⟩:=bS h;refine RT.bM .none (sM N qM) hN Y ⟨Y,Y,aq⟩ T<|bE h λjT sD h=>iR Y Y Y sD<|bE h λuo nU h=>sA ⟨⟨mJ,mK⟩,⟨mL,mM⟩⟩ Y Y Y nU<|RT.done<|bG.n<|aV.n<|aW<|lE h λiX oP h=>ad _ Y Y oP<|mv Y<|RT.done ?_;obtain rfl:=O h;exact aV.n ⟨(iX,uo),DQ _ Y,wR []⟩;subst DP
 try dsimp only
 refine aV.n<|sr<|mo (s:=.row _) Y<|an (s:=.row _) Y<|dn<|iS (i:=10) (E1:=43) (n:=4) (e:=(fQ N)) (l:=jE) hN (λ_ h=>h) Y<|bh ?_;obtain rfl:=O wJ;exact R1 Y
theorem wQ{x0:Qr}{x1:List Qr}{r:List Qr}(h:jo x0 x1=some r):Pure ah 40 [.agg (eQ x0),slc 4 (List.map eQ x1)] (slc 4 (List.map eQ r)):=dO (λN=>D5 N h) (λN=>Oz)
theorem pV{x0:Qr}{x1:List Qr}{x2:List Qr}(N:Nat){r:List Qr}(h:fz x0 x1 x2=some r):cL ah 96 N [.agg (eQ x0),slc 4 (List.map eQ x1),slc 4 (List.map eQ x2)] (nw N (slc 4 (List.map (fQ N) r))):=by
 obtain⟨⟨bp,bt⟩,⟨bB,bF⟩⟩:=x0;refine bC Tryz.func96 Y (af Y) (λee M vs hN hvs=>?_);unfold fz at h;refine sr<|bx Y<|aI Y (bk (N:=N) (n:=4) (e:=(fQ N)))<|dn ?_;refine cY (gW (i:=3) Y [az bp,slc 1 (List.map aX bt),az bB,slc 1 (List.map aX bF)] (.k4 Y Y Y Y) .any 0 [(3,.sv (ref [az bp,slc 1 (List.map aX bt),az bB,slc 1 (List.map aX bF)]))] (λ_ _ _=>trivial) (qA.h (l:=[az bp,slc 1 (List.map aX bt),az bB,slc 1 (List.map aX bF)])) ⟨@FT.ptr _ _ _ _ _ 3 0 Y,aq⟩)<|sr<|mv Y<|mv Y<|RT.xH (caps:=[_]) .none ⟨Y,aq⟩ T<|bE h λef gV h=>?_;refine RT.bM .none (wP N gV) hN Y ⟨Y,Y,Y,aq⟩ T<|ag Y<|dn<|bh ?_;obtain rfl:=O h;exact R1 Y
theorem ya{x0:Qr}{x1:List Qr}{x2:List Qr}{r:List Qr}(h:fz x0 x1 x2=some r):Pure ah 96 [.agg (eQ x0),slc 4 (List.map eQ x1),slc 4 (List.map eQ x2)] (slc 4 (List.map eQ r)):=dO (λN=>pV N h) (λN=>Oz)
theorem vz{x0:List Qr}{x1:List Qr}{r:Qr}(h:jw x0 x1=some r):Pure ah 87 [slc 4 (List.map eQ x0),slc 4 (List.map eQ x1)] (.agg (eQ r)):=by
 refine bw Tryz.func87 Y (af Y) (λee M vs hvs=>?_);unfold jw at h;refine sr<|al (cs:=[az false,ax,az false,ax]) (by exact⟨au,aB,au,aB,aq⟩) Y<|dn<|sr<|al (cs:=[az false,ax,az false,ax]) (by exact⟨au,aB,au,aB,aq⟩) Y<|dn<|sr<|RT.makeFunc .none (.box Y (.nil)) T<|RT.alloc .none T Y Y<|RT.nM (cells:=[_]) .none (s:=.fW _ _) Y Y Y T Y ?_;refine dn<|sr<|mv Y<|lE h λdP gu h=>ln Y gu<|mv Y<|lE h λfC lz h=>ln Y lz<|lE h λeI jh h=>RT.min .none _ Y Y T (O0 (p:=dP) (q:=fC) jh)<|ag Y<|dn<|qq<|qq<|bf mixed<|mv Y<|mv Y<|bE h λfS kA h=>RT.As .none 0 eI Y Y ⟨_,Y⟩ T kA<|mv Y<|mv Y<|bE h λgN oH h=>RT.As .none 0 eI Y Y ⟨_,Y⟩ T oH<|cl (nB fS gN) ⟨Y,Y,aq⟩ ?_;refine RT.done ⟨by kernel_rfl,?_⟩;refine aV.n<|bj<|bE h λe7 XJ Pm=>?_;obtain⟨J5,XK,XL,XM⟩:=nJ XJ
 refine kH (nC fS gN) (λ_ _ _ _ _=>trivial) Y (λk=>AS.cI 30 [(4,.ptr 4 0),(5,.ptr 5 0),(6,.ptr 6 0),(22,.sv (iV 165 [ref [slc 4 (List.map eQ fS)],ref [slc 4 (List.map eQ gN)]]))] [(6,⟨144,[.fW 131 [.box 5]]⟩),(5,⟨43,[aj ((J5 k).1),.sv (slc 1 (List.map aX (J5 k).2.1)),aj ((J5 k).2.2.1),.sv (slc 1 (List.map aX (J5 k).2.2.2))]⟩),(4,⟨43,[aj false,.sv ax,aj false,.sv ax]⟩)] []) [6,5,4] Y (λ_=>⟨Y,Y⟩) (rY Y) (λ_=>Y) (rZ Y) (by(try dsimp only);rw[XK];(try dsimp only);exact ec id Y Y Y Y Y ⟨.ptr,.ptr,.ptr,.sv au,aq⟩ ⟨⟨_,Y,⟨.fW,aq⟩⟩,⟨_,Y,⟨.sv au,.sv au,.sv au,.sv au,aq⟩⟩,⟨_,Y,⟨.sv au,.sv au,.sv au,.sv au,aq⟩⟩,aq⟩ trivial (λ_ _=>Y)) (λk hk D hD=>?_) ?_;have h:=XL k hk;obtain⟨sk,Pn⟩:∃q,J5 k=q:=⟨_,Y⟩;rw[Pn]at h⊢;obtain⟨AU,AW,AX,AY⟩:=sk;dsimp only[AS.Ov,rX]
 try dsimp only at h
 obtain⟨⟨⟨RI,RJ⟩,⟨RK,RL⟩⟩,ac7,h⟩:=bS h;rw[Option.some.inj ac7];obtain⟨⟨⟨RM,RN⟩,⟨RO,RQ⟩⟩,ac8,h⟩:=bS h;rw[Option.some.inj ac8];refine sr<|al (cs:=[az false,ax,az false,ax]) (by exact⟨au,aB,au,aB,aq⟩) Y<|so Y Y Y<|dn<|aW<|al (cs:=[az false,ax,az false,ax]) (by exact⟨au,aB,au,aB,aq⟩) Y<|so Y Y Y<|RT.done ?_;refine aV.n ⟨Y,?_⟩;dsimp only[AS.B5];refine bj<|aW<|RT.ig .none (s:=.fW _ _) Y Y Y T<|ld Y Y (.k4 Y Y Y Y)<|ld Y Y (.k4 Y Y Y Y) ?_;obtain⟨⟨⟨X5,X6⟩,⟨X7,X8⟩⟩,wH,h⟩:=bS h;refine cB (D4 wH) 5 Y ⟨Y,Y,aq⟩<|RT.done<|bG.n ?_;replace h:=Option.some.inj h;refine⟨aq,Y,Y,?_⟩
 try dsimp only
 rw[<-h]
 try dsimp only
 exact wR [];rw[XM];obtain⟨AU,AW,AX,AY⟩:=e7
 try dsimp only
 refine bG.n<|aV.n<|sr<|ld Y Y (.k4 Y Y Y Y)<|so Y Y Y<|dn<|bh ?_;obtain rfl:=O Pm;exact RZ (.agg Y Y (.k4 Y Y Y Y) Y (.nil))
theorem kO{x0:List Qr}{x1:List Qr}{r:Int}(h:fK x0 x1=some r):Pure ah 88 [slc 4 (List.map eQ x0),slc 4 (List.map eQ x1)] (ay r):=by
 refine bw Tryz.func88 Y (af Y) (λee M vs hvs=>?_);unfold fK at h;refine sr<|al (cs:=[ay 0]) (by exact⟨au,aq⟩) Y<|dn<|qq<|sr<|mv Y<|mv Y<|cl (nB x0 x1) ⟨Y,Y,aq⟩<|dn<|bj<|bE h λe3 Tx UC=>?_;obtain⟨m3,st3,ZU,ht3,hn3⟩:=xE Tx;refine lY (nC x0 x1) (λ_ _ _ _ _=>trivial) Y (λk=>AS.cI 19 [(4,.ptr 4 0),(10,.sv (iV 165 [ref [slc 4 (List.map eQ x0)],ref [slc 4 (List.map eQ x1)]]))] [(4,⟨3,[ai 0]⟩)] []) [4] Y (λ_=>⟨Y,Y⟩) (rY Y) (λ_=>Y) (rZ Y) (by(try dsimp only);(try dsimp only);exact ec id Y Y Y Y Y ⟨.ptr,.sv au,aq⟩ ⟨⟨_,Y,⟨.sv au,aq⟩⟩,aq⟩ trivial (λ_ _=>Y)) m3 (λk hk hkm D hD=>?_) (λhdn=>?_);obtain⟨y3,h,hG3,hE3⟩:=ht3 k hk hkm;dsimp only[AS.Ov,rX]
 try dsimp only at h
 obtain⟨⟨⟨RR,RU⟩,⟨RV,RW⟩⟩,adg,h⟩:=bS h;rw[Option.some.inj adg];obtain⟨⟨⟨RX,RY⟩,⟨R3,R4⟩⟩,adh,h⟩:=bS h;rw[Option.some.inj adh];refine sr<|al (cs:=[az false,ax,az false,ax]) (by exact⟨au,aB,au,aB,aq⟩) Y<|so Y Y Y<|dn<|aW<|al (cs:=[az false,ax,az false,ax]) (by exact⟨au,aB,au,aB,aq⟩) Y<|so Y Y Y<|RT.done ?_;refine aV.n ⟨Y,?_⟩;dsimp only[AS.B5];refine bj<|sr<|ld Y Y (.k4 Y Y Y Y)<|ld Y Y (.k4 Y Y Y Y)<|bE h λeI jh h=>cl (yN jh) ⟨Y,Y,aq⟩<|ag Y<|dn<|sr<|mv Y<|lE h λgM mW h=>ne _ Y Y (G4 (p:=eI) (q:=0) mW)<|dn ?_;cases gM;refine cF<|bA<|bG.n ?_;obtain rfl:=O (F h);obtain⟨hm3,hq3⟩:=hG3 _ Y;exact⟨hm3,Y,Y,wR []⟩;refine cT<|sr<|mv Y<|RT.nM (cells:=[_]) .none (s:=.sv _) Y Y Y T Y<|dn<|bh<|bG.r ?_;obtain rfl:=O (V h);have he3:=hE3 _ Y;subst he3;refine⟨Y,Y,?_⟩;refine bG.r<|aV.r ?_;obtain rfl:=O UC;exact RZ (.one Y Y Y (.nil));have hd3:=hn3 hdn;subst hd3;obtain⟨ee3,UD⟩:∃q,st3 (max x0.length x1.length)=q:=⟨_,Y⟩;rw[UD]at UC
 try dsimp only
 refine bG.n<|aV.n<|sr<|RT.nM (cells:=[_]) .none (s:=.sv _) Y Y Y T Y<|dn<|bh ?_;obtain rfl:=O UC;exact RZ (.one Y Y Y (.nil))
theorem Gf{x0:List Qr}{r:Int}(h:n7 x0=some r):Pure ah 91 [slc 4 (List.map eQ x0)] (ay r):=by
 refine bw Tryz.func91 Y (af Y) (λee M vs hvs=>?_);unfold n7 at h;refine sr<|ag Y<|dn<|sr<|mv Y<|bE h λx4 h4 h=>cl ((kO h4).w (args':=[_,_]) ⟨au,aB,aq⟩) ⟨Y,Y,aq⟩<|ag Y<|dn<|bh ?_;obtain rfl:=O h;exact R1 Y
theorem fE{x0:List Qr}{x1:List Qr}{r:Bool}(h:dy x0 x1=some r):Pure ah 37 [slc 4 (List.map eQ x0),slc 4 (List.map eQ x1)] (az r):=by
 refine bw Tryz.func37 Y (af Y) (λee M vs hvs=>?_);unfold dy at h;refine sr<|ag Y<|dn<|sr<|mv Y<|mv Y<|bE h λx7 h7 h=>cl (kO h7) ⟨Y,Y,aq⟩<|lE h λx8 h8 h=>eq _ Y Y (wj (p:=x7) (q:=0) h8)<|ag Y<|dn<|bh ?_;obtain rfl:=O h;exact R1 Y
theorem Cg{x0:List Qr}{x1:Int}(N:Nat){r:List Qr}(h:jx x0 x1=some r):cL ah 47 N [slc 4 (List.map eQ x0),ay x1] (nw N (slc 4 (List.map (fQ N) r))):=by
 refine bC Tryz.func47 Y (af Y) (λee M vs hN hvs=>?_);unfold jx at h;refine sr<|aI Y (bk (N:=N) (n:=4) (e:=(fQ N)))<|dn<|qq<|sr<|mv Y<|lE h λx8 h8 h=>ls _ Y Y h8<|dn ?_;cases x8;refine fs<|sr<|mv Y<|lE (F h) λef gV h=>RT.min .none _ Y Y T (O0 (p:=x1) (q:=65536) gV)<|bE h λiN pg h=>RT.nQ (n:=4) (e:=(fQ N)) .none Y Y T Y T (by rfl) (by decide) (by exact⟨au,bk,au,bk,aq⟩) pg<|an (s:=.row _) Y<|dn<|qq<|sr<|mv Y<|lE h λiW kJ h=>ln Y kJ<|mo (s:=.row _) Y<|lE h λeI jh h=>lL Y Y jh<|lE h λgX lC h=>?_;refine RT.min .none _ Y Y T (O0 (p:=iW) (q:=eI) lC)<|mv Y<|dn<|bE h λe8 DO wJ=>?_;refine bV (λ(A3:(List Qr))=>AS.cI 30 [(5,.row 11)] [] [(11,TR 43 4 (fQ N) A3)]) (λA3=>A3=e8) ?_ (λA3 DP=>?_);refine bj ?_;refine bW DO (λs8=>AS.cI 30 [(0,.sv (slc 4 (List.map eQ x0))),(5,.row 11),(16,ai gX),(17,ai s8.1)] [] [(11,TR 43 4 (fQ N) s8.2)]) (wR []) (λs8 y8 G8 h DQ DR=>?_);obtain⟨Gc,Ge⟩:=s8
 try dsimp only
 refine sr<|lE h λfS kA h=>ls _ Y Y kA<|dn<|qq ?_;cases fS;refine cF<|cc<|aV.x<|aV.x<|bG.x<|aV.n ?_;obtain rfl:=O (F h);exact⟨Ge,DR _ Y,wR []⟩;refine cT<|bA<|aV.n<|qq<|bj<|sr<|mv Y<|ag Y<|dn<|aW<|mo (s:=.row _) Y<|mv Y<|mv Y<|mv Y ?_;obtain⟨⟨⟨pQ,pR⟩,⟨pS,pU⟩⟩,oP,h⟩:=bS (V h);refine ix Y Y oP<|RT.ja (cs:=[_,_,_,_]) .none Y T Y Y ?_;obtain⟨⟨⟨n8,n9⟩,⟨AZ,A0⟩⟩,tR,h⟩:=bS h;refine RT.bM .none (iT N tR) hN Y ⟨Y,aq⟩ T<|bE h λlD tW h=>iR Y Y Y tW<|bE h λuo nU h=>sA ⟨⟨n8,n9⟩,⟨AZ,A0⟩⟩ Y Y Y nU<|RT.done<|bG.n<|aV.n<|aW<|lE h λnT wH h=>ad _ Y Y wH<|mv Y<|RT.done ?_;obtain rfl:=O h;exact aV.n ⟨(nT,uo),DQ _ Y,wR []⟩;subst DP
 try dsimp only
 refine aV.n<|sr<|mo (s:=.row _) Y<|an (s:=.row _) Y<|dn<|iS (i:=11) (E1:=43) (n:=4) (e:=(fQ N)) (l:=A3) hN (λ_ h=>h) Y<|bh ?_;obtain rfl:=O wJ;exact R1 Y;refine cT<|sr<|aI Y (bk (N:=N) (n:=4) (e:=(fQ N)))<|dn<|bh<|aV.r ?_;obtain rfl:=O (V h);exact R1 Y
theorem Ch{x0:List Qr}{x1:Int}{r:List Qr}(h:jx x0 x1=some r):Pure ah 47 [slc 4 (List.map eQ x0),ay x1] (slc 4 (List.map eQ r)):=dO (λN=>Cg N h) (λN=>Oz)
theorem dM{x0:List Int}{r:List Qr}(h:cS x0=some r):Pure ah 54 [slc 1 (List.map cM x0)] (slc 4 (List.map eQ r)):=by
 refine bw Tryz.func54 Y (af Y) (λee M vs hvs=>?_);unfold cS at h;refine sr<|aI Y (aB (n:=4) (e:=eQ))<|dn<|sr<|mv Y<|lE h λx7 h7 h=>ln Y h7<|bE h λx8 h8 h=>RT.nQ (n:=4) (e:=eQ) .none Y Y T Y T (by rfl) (by decide) (by exact⟨au,aB,au,aB,aq⟩) h8<|an (s:=.row _) Y<|dn<|qq<|sr<|mv Y<|lE h λef gV h=>ln Y gV<|mv Y<|dn<|bE h λe8 DO wJ=>?_;refine bV (λ(vv:(List Qr))=>AS.cI 23 [(3,.row 8)] [] [(8,TR 43 4 eQ vv)]) (λvv=>vv=e8) ?_ (λvv DP=>?_);refine bj ?_;refine bW DO (λs8=>AS.cI 23 [(3,.row 8),(9,.sv (slc 1 (List.map cM x0))),(10,ai ef),(11,ai s8.1)] [] [(8,TR 43 4 eQ s8.2)]) (wR []) (λs8 y8 G8 h DQ DR=>?_);obtain⟨sP,A4⟩:=s8
 try dsimp only
 refine sr<|lE h λdP gu h=>ls _ Y Y gu<|dn<|qq ?_;cases dP;refine cF<|cc<|aV.x<|aV.x<|bG.x<|aV.n ?_;obtain rfl:=O (F h);exact⟨A4,DR _ Y,wR []⟩;refine cT<|bA<|aV.n<|qq<|bj<|sr<|mv Y<|bE (V h) λfC lz h=>ix Y Y lz<|lr Y Y<|ag Y<|ag Y<|dn<|aW<|mo (s:=.row _) Y<|mv Y<|mv Y ?_;obtain⟨⟨⟨nq,nu⟩,⟨A5,A6⟩⟩,oG,h⟩:=bS h;refine cl (gw oG) ⟨Y,aq⟩<|bE h λjc pO h=>iR Y Y Y pO<|bE h λuo nU h=>sA ⟨⟨nq,nu⟩,⟨A5,A6⟩⟩ Y Y Y nU<|RT.done<|bG.n<|aV.n<|aW<|lE h λgN oH h=>ad _ Y Y oH<|mv Y<|RT.done ?_;obtain rfl:=O h;exact aV.n ⟨(gN,uo),DQ _ Y,wR []⟩;subst DP
 try dsimp only
 refine aV.n<|sr<|mo (s:=.row _) Y<|an (s:=.row _) Y<|dn<|cY (pL (i:=8) (E1:=43) (n:=4) (e:=eQ) (l:=vv) Y)<|bh ?_;obtain rfl:=O wJ;exact R1 Y
end
section
open Go.Fw
noncomputable def pW(x0:List (List Qr))(x1:Int):Option (List Qr):=cK (λ(AT:Bool)=>(bif AT then some []else(cZ x0 x1).bind λeI=>some eI)) λK3=>(some (decide ((x1:Int)<0))).bind λx6=>(bif x6 then some true else(some (x0.length:Int)).bind λef=>(some (decide ((ef:Int)<=x1))).bind λiN=>some iN).bind λR5=>K3 R5
noncomputable def lS(x0:List (List Qr)):Option (Int):=(some (x0.length:Int)).bind λx7=>(cy (λ(s6:Int×Int)=>match s6 with|⟨pz,Pr⟩=>(show Option ((Int×Int)⊕(Int))from(some (decide ((Pr:Int)<x7))).bind λx9=>(bif x9 then(cZ x0 Pr).bind λef=>(some (ef.length:Int)).bind λfC=>(some (max (pz:Int) fC)).bind λeI=>(some (IntKind.i64.wrap (Pr+1))).bind λgX=>some (.inl (eI,gX))else some (.inr pz)))) (0,0)).bind λyc=>some yc
noncomputable def sQ(x0:List (List Qr))(x1:Int)(x2:Int):Option (Qr):=(pW x0 x1).bind λef=>cK (λ(ME:Bool)=>(bif ME then some ⟨⟨false,[]⟩,⟨false,[]⟩⟩else(cZ ef x2).bind λ⟨⟨mJ,mK⟩,⟨mL,mM⟩⟩=>(cQ ⟨⟨mJ,mK⟩,⟨mL,mM⟩⟩).bind λ⟨⟨pQ,pR⟩,⟨pS,pU⟩⟩=>some ⟨⟨pQ,pR⟩,⟨pS,pU⟩⟩)) λK3=>(some (decide ((x2:Int)<0))).bind λdP=>(bif dP then some true else(some (ef.length:Int)).bind λgX=>(some (decide ((gX:Int)<=x2))).bind λgM=>some gM).bind λR6=>K3 R6
noncomputable def kP(x0:List (List Qr))(x1:List Qr):Option (List Qr):=(some (x0.length:Int)).bind λx9=>(BS 64 x9 (⟨⟨false,[]⟩,⟨false,[]⟩⟩:Qr)).bind λef=>(some (x0.length:Int)).bind λdP=>(cy (λ(s8:Int×(List Qr))=>match s8 with|⟨mH,mI⟩=>(show Option ((Int×(List Qr))⊕((List Qr)))from(some (decide ((mH:Int)<dP))).bind λfC=>(bif fC then(cZ x0 mH).bind λgX=>(jw gX x1).bind λ⟨⟨mJ,mK⟩,⟨mL,mM⟩⟩=>(oM mI mH).bind λjT=>(stM mI jT ⟨⟨mJ,mK⟩,⟨mL,mM⟩⟩).bind λuo=>(some (IntKind.i64.wrap (mH+1))).bind λiX=>some (.inl (iX,uo))else some (.inr mI)))) (0,ef)).bind λjE=>some jE
noncomputable def hH(x0:List (List Int)):Option (List (List Qr)):=(some (x0.length:Int)).bind λx7=>(BS 24 x7 ([]:List Qr)).bind λx8=>(some (x0.length:Int)).bind λef=>(cy (λ(s8:Int×(List (List Qr)))=>match s8 with|⟨sP,A4⟩=>(show Option ((Int×(List (List Qr)))⊕((List (List Qr))))from(some (decide ((sP:Int)<ef))).bind λdP=>(bif dP then(cZ x0 sP).bind λfC=>(cS fC).bind λnk=>(oM A4 sP).bind λjc=>(stM A4 jc nk).bind λuo=>(some (IntKind.i64.wrap (sP+1))).bind λgN=>some (.inl (gN,uo))else some (.inr A4)))) (0,x8)).bind λvv=>some vv
noncomputable def pA(x0:List (List Qr))(x1:List Qr):Option (List Qr):=(some (x0.length:Int)).bind λx9=>(BS 64 x9 (⟨⟨false,[]⟩,⟨false,[]⟩⟩:Qr)).bind λef=>(some (x0.length:Int)).bind λdP=>(cy (λ(s8:Int×(List Qr))=>match s8 with|⟨mH,mI⟩=>(show Option ((Int×(List Qr))⊕((List Qr)))from(some (decide ((mH:Int)<dP))).bind λfC=>(bif fC then(cZ x0 mH).bind λgX=>(jw gX x1).bind λ⟨⟨mJ,mK⟩,⟨mL,mM⟩⟩=>(oM mI mH).bind λjT=>(stM mI jT ⟨⟨mJ,mK⟩,⟨mL,mM⟩⟩).bind λuo=>(some (IntKind.i64.wrap (mH+1))).bind λiX=>some (.inl (iX,uo))else some (.inr mI)))) (0,ef)).bind λjE=>some jE
end
section
open Go.Fw Go.Fw.Z Go.RowKit
theorem HW{x0:List (List Qr)}{x1:Int}{r:List Qr}(h:pW x0 x1=some r):Pure ah 139 [slc 1 (List.map (eS 4 eQ) x0),.v (.int .i64 x1)] (slc 4 (List.map eQ r)):=by
 refine bw Tryz.func139 Y (af Y) (λee M vs hvs=>?_);unfold pW at h;refine sr<|aI Y (aB (n:=4) (e:=eQ))<|dn<|qq<|qq ?_;refine bK h (λj3=>AS.cI 17 [(0,.sv (slc 1 (List.map (eS 4 eQ) x0))),(1,.sv (.v (.int .i64 x1))),(12,.sv (.v (.bool j3)))] [] []) (λh=>?_) (λAT h=>?_);refine aW<|mv Y<|lE h λx6 h6 h=>ls _ Y Y h6<|mv Y<|bE h λR5 rD h=>?_;cases x6;refine gm Y<|gm Y<|lE (F rD) λef gV rD=>gn Y gV<|lE rD λiN pg rD=>RT.geq (.some Y Y) _ Y Y T pg ?_;obtain rfl:=O rD;exact pF Y<|dn<|⟨iN,h,wR []⟩;obtain rfl:=O (V rD);exact ww<|ww<|ww<|ww<|pT Y<|dn<|⟨true,h,wR []⟩
 try dsimp only
 refine aV.n ?_;cases AT;refine fs<|sr<|mv Y<|mv Y<|bE (F h) λeI jh h=>ix Y Y jh<|lr Y Y<|ag Y<|dn<|bh ?_;obtain rfl:=O h;exact R1 Y;refine cT<|sr<|aI Y (aB (n:=4) (e:=eQ))<|dn<|bh<|aV.r ?_;obtain rfl:=O (V h);exact R1 Y
theorem yO{x0:List (List Qr)}{r:Int}(h:lS x0=some r):Pure ah 84 [slc 1 (List.map (eS 4 eQ) x0)] (.v (.int .i64 r)):=by
 refine bw Tryz.func84 Y (af Y) (λee M vs hvs=>?_);unfold lS at h;refine sr<|ag Y<|dn<|sr<|ag Y<|dn<|qq<|sr<|mv Y<|lE h λx7 h7 h=>ln Y h7<|mv Y<|dn<|bE h λe6 Fv nx=>?_;refine bV (λ(yc:Int)=>AS.cI 18 [(3,.sv (.v (.int .i64 yc)))] [] []) (λyc=>yc=e6) ?_ (λyc Fx=>?_);refine bj ?_;refine bW Fv (λs6=>AS.cI 18 [(3,.sv (.v (.int .i64 s6.1))),(6,.sv (slc 1 (List.map (eS 4 eQ) x0))),(7,.sv (.v (.int .i64 x7))),(8,.sv (.v (.int .i64 s6.2)))] [] []) (wR []) (λs6 y6 G6 h Fy AE=>?_);obtain⟨pz,Pr⟩:=s6
 try dsimp only
 refine sr<|lE h λx9 h9 h=>ls _ Y Y h9<|dn<|qq ?_;cases x9;refine cF<|cc<|aV.x<|aV.x<|bG.x<|aV.n ?_;obtain rfl:=O (F h);exact⟨pz,AE _ Y,wR []⟩;refine cT<|bA<|aV.n<|qq<|bj<|sr<|bE (V h) λef gV h=>ix Y Y gV<|lr Y Y<|ag Y<|dn<|aW<|mv Y<|mv Y<|lE h λfC lz h=>ln Y lz<|lE h λeI jh h=>RT.max .none _ Y Y T (LJ (p:=pz) (q:=fC) jh)<|ag Y<|RT.done<|bG.n<|aV.n<|aW<|lE h λgX lC h=>ad _ Y Y lC<|mv Y<|RT.done ?_;obtain rfl:=O h;exact aV.n ⟨(eI,gX),Fy _ Y,wR []⟩;subst Fx
 try dsimp only
 refine aV.n<|sr<|mv Y<|ag Y<|dn<|bh ?_;obtain rfl:=O nx;exact R1 Y
theorem Kg{x0:List (List Qr)}{x1:Int}{x2:Int}{r:Qr}(h:sQ x0 x1 x2=some r):Pure ah 103 [slc 1 (List.map (eS 4 eQ) x0),.v (.int .i64 x1),.v (.int .i64 x2)] (.agg (eQ r)):=by
 refine bw Tryz.func103 Y (af Y) (λee M vs hvs=>?_);unfold sQ at h;refine sr<|al (cs:=[.v (.bool false),slc 1 (List.map aX []),.v (.bool false),slc 1 (List.map aX [])]) (by exact⟨au,aB,au,aB,aq⟩) Y<|dn<|sr<|mv Y<|mv Y<|bE h λef gV h=>cl (HW gV) ⟨Y,Y,aq⟩<|ag Y<|dn<|qq<|qq ?_;refine bK h (λj3=>AS.cI 25 [(2,.sv (.v (.int .i64 x2))),(6,.ptr 6 0),(7,.sv (slc 4 (List.map eQ ef))),(18,.sv (.v (.bool j3)))] [(6,⟨43,[.sv (.v (.bool false)),.sv (slc 1 (List.map aX [])),.sv (.v (.bool false)),.sv (slc 1 (List.map aX []))]⟩)] []) (λh=>?_) (λME h=>?_);refine aW<|mv Y<|lE h λdP gu h=>ls _ Y Y gu<|mv Y<|bE h λR6 rD h=>?_;cases dP;refine gm Y<|gm Y<|lE (F rD) λgX lC rD=>gn Y lC<|lE rD λgM mW rD=>RT.geq (.some Y Y) _ Y Y T mW ?_;obtain rfl:=O rD;exact pF Y<|dn<|⟨gM,h,wR []⟩;obtain rfl:=O (V rD);exact ww<|ww<|ww<|ww<|pT Y<|dn<|⟨true,h,wR []⟩
 try dsimp only
 refine aV.n ?_;cases ME;refine fs<|sr<|mv Y<|mv Y ?_;obtain⟨⟨⟨mJ,mK⟩,⟨mL,mM⟩⟩,qM,h⟩:=bS (F h);refine ix Y Y qM<|RT.ja (cs:=[_,_,_,_]) .none Y T Y Y ?_;obtain⟨⟨⟨pQ,pR⟩,⟨pS,pU⟩⟩,oP,h⟩:=bS h;refine cl (oU oP) ⟨Y,aq⟩<|so Y Y Y<|dn<|bh ?_;obtain rfl:=O h;exact RZ (.agg Y Y (.cons Y (.cons Y (.cons Y (.cons Y (.nil))))) Y (.nil));refine cT<|sr<|bI (cs:=[_,_,_,_]) (cs':=[.v (.bool false),slc 1 (List.map aX []),.v (.bool false),slc 1 (List.map aX [])]) (.nil) ⟨au,aB,au,aB,aq⟩<|so Y Y Y<|dn<|bh<|aV.r ?_;obtain rfl:=O (V h);exact RZ (.agg Y Y (.cons Y (.cons Y (.cons Y (.cons Y (.nil))))) Y (.nil))
theorem Ci{x0:List (List Qr)}{x1:List Qr}{r:List Qr}(h:kP x0 x1=some r):Pure ah 49 [slc 1 (List.map (eS 4 eQ) x0),slc 4 (List.map eQ x1)] (slc 4 (List.map eQ r)):=by
 refine bw Tryz.func49 Y (af Y) (λee M vs hvs=>?_);unfold kP at h;refine sr<|aI Y (aB (n:=4) (e:=eQ))<|dn<|sr<|mv Y<|lE h λx9 h9 h=>ln Y h9<|bE h λef gV h=>RT.nQ (n:=4) (e:=eQ) .none Y Y T Y T (by rfl) (by decide) (by exact⟨au,aB,au,aB,aq⟩) gV<|an (s:=.row _) Y<|dn<|qq<|sr<|mv Y<|lE h λdP gu h=>ln Y gu<|mv Y<|dn<|bE h λe8 DO wJ=>?_;refine bV (λ(jE:(List Qr))=>AS.cI 26 [(5,.row 10)] [] [(10,TR 43 4 eQ jE)]) (λjE=>jE=e8) ?_ (λjE DP=>?_);refine bj ?_;refine bW DO (λs8=>AS.cI 26 [(1,.sv (slc 4 (List.map eQ x1))),(5,.row 10),(11,.sv (slc 1 (List.map (eS 4 eQ) x0))),(12,.sv (.v (.int .i64 dP))),(13,.sv (.v (.int .i64 s8.1)))] [] [(10,TR 43 4 eQ s8.2)]) (wR []) (λs8 y8 G8 h DQ DR=>?_);obtain⟨mH,mI⟩:=s8
 try dsimp only
 refine sr<|lE h λfC lz h=>ls _ Y Y lz<|dn<|qq ?_;cases fC;refine cF<|cc<|aV.x<|aV.x<|bG.x<|aV.n ?_;obtain rfl:=O (F h);exact⟨mI,DR _ Y,wR []⟩;refine cT<|bA<|aV.n<|qq<|bj<|sr<|mv Y<|bE (V h) λgX lC h=>ix Y Y lC<|lr Y Y<|ag Y<|ag Y<|dn<|aW<|mo (s:=.row _) Y<|mv Y<|mv Y<|mv Y ?_;obtain⟨⟨⟨mJ,mK⟩,⟨mL,mM⟩⟩,qM,h⟩:=bS h;refine cl (vz qM) ⟨Y,Y,aq⟩<|bE h λjT sD h=>iR Y Y Y sD<|bE h λuo nU h=>sA ⟨⟨mJ,mK⟩,⟨mL,mM⟩⟩ Y Y Y nU<|RT.done<|bG.n<|aV.n<|aW<|lE h λiX oP h=>ad _ Y Y oP<|mv Y<|RT.done ?_;obtain rfl:=O h;exact aV.n ⟨(iX,uo),DQ _ Y,wR []⟩;subst DP
 try dsimp only
 refine aV.n<|sr<|mo (s:=.row _) Y<|an (s:=.row _) Y<|dn<|cY (pL (i:=10) (E1:=43) (n:=4) (e:=eQ) (l:=jE) Y)<|bh ?_;obtain rfl:=O wJ;exact R1 Y
theorem rF{x0:List (List Int)}{r:List (List Qr)}(h:hH x0=some r):Pure ah 100 [slc 1 (List.map (eS 1 cM) x0)] (slc 1 (List.map (eS 4 eQ) r)):=by
 refine bw Tryz.func100 Y (af Y) (λee M vs hvs=>?_);unfold hH at h;refine sr<|aI Y (aB (n:=1) (e:=(eS 4 eQ)))<|dn<|sr<|mv Y<|lE h λx7 h7 h=>ln Y h7<|bE h λx8 h8 h=>RT.nQ (n:=1) (e:=(eS 4 eQ)) .none Y Y T Y T (by rfl) (by decide) (by exact⟨aB,aq⟩) h8<|an (s:=.row _) Y<|dn<|qq<|sr<|mv Y<|lE h λef gV h=>ln Y gV<|mv Y<|dn<|bE h λe8 DO wJ=>?_;refine bV (λ(vv:(List (List Qr)))=>AS.cI 23 [(3,.row 8)] [] [(8,TR 23 1 (eS 4 eQ) vv)]) (λvv=>vv=e8) ?_ (λvv DP=>?_);refine bj ?_;refine bW DO (λs8=>AS.cI 23 [(3,.row 8),(9,.sv (slc 1 (List.map (eS 1 cM) x0))),(10,.sv (.v (.int .i64 ef))),(11,.sv (.v (.int .i64 s8.1)))] [] [(8,TR 23 1 (eS 4 eQ) s8.2)]) (wR []) (λs8 y8 G8 h DQ DR=>?_);obtain⟨sP,A4⟩:=s8
 try dsimp only
 refine sr<|lE h λdP gu h=>ls _ Y Y gu<|dn<|qq ?_;cases dP;refine cF<|cc<|aV.x<|aV.x<|bG.x<|aV.n ?_;obtain rfl:=O (F h);exact⟨A4,DR _ Y,wR []⟩;refine cT<|bA<|aV.n<|qq<|bj<|sr<|mv Y<|bE (V h) λfC lz h=>ix Y Y lz<|lr Y Y<|ag Y<|ag Y<|dn<|aW<|mo (s:=.row _) Y<|mv Y<|mv Y<|bE h λnk oG h=>cl (dM oG) ⟨Y,aq⟩<|bE h λjc pO h=>iR Y Y Y pO<|bE h λuo nU h=>sR nk Y Y Y Y nU<|RT.done<|bG.n<|aV.n<|aW<|lE h λgN oH h=>ad _ Y Y oH ?_;refine mv Y<|RT.done ?_;obtain rfl:=O h;exact aV.n ⟨(gN,uo),DQ _ Y,wR []⟩;subst DP
 try dsimp only
 refine aV.n<|sr<|mo (s:=.row _) Y<|an (s:=.row _) Y<|dn<|cY (pL (i:=8) (E1:=23) (n:=1) (e:=(eS 4 eQ)) (l:=vv) Y)<|bh ?_;obtain rfl:=O wJ;exact R1 Y
theorem A8{x0:List (List Qr)}{x1:List Qr}{r:List Qr}(h:pA x0 x1=some r):E4 ah 49 [slc 1 (List.map (eS 4 eQ) x0),slc 4 (List.map eQ x1)] (TR 43 4 eQ r):=by
 refine qD Tryz.func49 Y (af Y) (λee M vs hvs=>?_);unfold pA at h;refine sr<|ag Y<|dn<|cY (mu 4 304 43 4 Y Y T)<|sr<|mv Y<|lE h λx9 h9 h=>ln Y h9<|bE h λef gV h=>RT.nQ (n:=4) (e:=eQ) .none Y Y T Y T (by rfl) (by decide) (by exact⟨au,aB,au,aB,aq⟩) gV<|an (s:=.row _) Y<|dn<|qq<|sr<|mv Y<|lE h λdP gu h=>ln Y gu<|mv Y<|dn<|bE h λe8 DO wJ=>?_;refine bV (λ(jE:(List Qr))=>AS.cI 26 [(5,.row 10)] [] [(10,TR 43 4 eQ jE)]) (λjE=>jE=e8) ?_ (λjE DP=>?_);refine bj ?_;refine bW DO (λs8=>AS.cI 26 [(1,.sv (slc 4 (List.map eQ x1))),(5,.row 10),(11,.sv (slc 1 (List.map (eS 4 eQ) x0))),(12,.sv (.v (.int .i64 dP))),(13,.sv (.v (.int .i64 s8.1)))] [] [(10,TR 43 4 eQ s8.2)]) (wR []) (λs8 y8 G8 h DQ DR=>?_);obtain⟨mH,mI⟩:=s8
 try dsimp only
 refine sr<|lE h λfC lz h=>ls _ Y Y lz<|dn<|qq ?_;cases fC;refine cF<|cc<|aV.x<|aV.x<|bG.x<|aV.n ?_;obtain rfl:=O (F h);exact⟨mI,DR _ Y,wR []⟩;refine cT<|bA<|aV.n<|qq<|bj<|sr<|mv Y<|bE (V h) λgX lC h=>ix Y Y lC<|lr Y Y<|ag Y<|ag Y<|dn<|aW<|mo (s:=.row _) Y<|mv Y<|mv Y<|mv Y ?_;obtain⟨⟨⟨mJ,mK⟩,⟨mL,mM⟩⟩,qM,h⟩:=bS h;refine cl (vz qM) ⟨Y,Y,aq⟩<|bE h λjT sD h=>iR Y Y Y sD<|bE h λuo nU h=>sA ⟨⟨mJ,mK⟩,⟨mL,mM⟩⟩ Y Y Y nU<|RT.done<|bG.n<|aV.n<|aW<|lE h λiX oP h=>ad _ Y Y oP<|mv Y<|RT.done ?_;obtain rfl:=O h;exact aV.n ⟨(iX,uo),DQ _ Y,wR []⟩;subst DP
 try dsimp only
 refine aV.n<|sr<|mo (s:=.row _) Y<|an (s:=.row _) Y<|dn<|bh ?_;obtain rfl:=O wJ;exact⟨.inr Y,_,.tmp Y,Y⟩
end
end Go.Proofs.YtningmnklfpfjaaGreat
namespace Go.Fw
section
open Go.RowKit
theorem MF{α:Type}{e:α->List SV}{l:List α}{n:Nat}{s t:SV}{r:List SV}{M:Mem}{v:Value}(h:(ref (s::t::slc n (l.map e)::r)).h M v):l.length<=9223372036854775807:=by
 obtain⟨b,o,_,h⟩:=h;obtain⟨y,_,_,h⟩:=h 2 _ Y;exact IM h
theorem HX{α β:Type}(a:List α)(b:List β)(i:Nat)(h:i<=a.length):(i<a.length/\i<b.length)\/(i<a.length/\b.length<=i)\/i=a.length:=by omega
section steps
variable {P:Program}{C:Ctx}{ops:Array Oper}{S:AS}{nd:Bool}{K:List Ac->AS->Prop}{rest:List Oper}{acc:List Ac}
variable {gd:Option (Nat×Bool)}{rg:List Nat}{d:Nat}{ty:TypeId}{pos:String}{aft:Array Edge}{x y z:Operand}{T U E0:TypeId}
end steps
end
section
open Go.RowKit
def kg:List (Nat×Row×Value)->(Nat->Value)->Nat->Value
 |[],ν,j=>ν j
 |(k,_,v)::l,ν,j=>if j=k then v else kg l ν j
theorem mN{ν:Nat->Value}:∀{l:List (Nat×Row×Value)} {j:Nat},(∀R v,(j,R,v)∉l)->kg l ν j=ν j
 |[],_,_=>rfl
 |(k,R,v)::l,j,h=>by
  have:j≠k:=λe=>h R v (by rw[e];simp);rw[kg,if_neg this];exact mN (λR v hm=>h R v (List.mem_cons_of_mem _ hm))
theorem iD{ν:Nat->Value}:∀{l:List (Nat×Row×Value)} {j:Nat} {R:Row} {v:Value},(l.map (·.1)).Nodup->(j,R,v)∈l->kg l ν j=v
 |(k,R',v')::l,j,R,v,hn,h=>by
  rw[List.map_cons,List.nodup_cons]at hn;rcases List.mem_cons.1 h with e|e
  ·cases e;rw[kg,if_pos rfl]
  have:j≠k:=λq=>hn.1 (List.mem_map.2 ⟨(j,R,v),e,q⟩);rw[kg,if_neg this];exact iD hn.2 e
def wS(olds:List Nat)(news:List (Nat×Row×Value)):List (Nat×kz):=olds.map (λj=>(j,.dead))++news.map (λn=>(n.1,.live n.2.1))
theorem qN:∀(l k:List (Nat×kz)) (j:Nat),dH (l++k) j=match dH k j with|some R=>some R|none=>dH l j
 |[],k,j=>by cases h:dH k j<;>simp[h,dH]
 |(i,R)::l,k,j=>by
  rw[List.cons_append,dH,dH,qN l k j];cases h:dH k j<;>simp
theorem vA{l:List (Nat×kz)}{j:Nat}(h:∀R,(j,R)∉l):dH l j=none:=by
 induction l with
 |nil=>rfl
 |cons p l ih=>
  obtain⟨i,R⟩:=p;rw[dH,ih (λR hm=>h R (List.mem_cons_of_mem _ hm))];have:j≠i:=λe=>h R (by rw[e];simp);simp[this]
theorem vB{l:List (Nat×kz)}{j:Nat}{R:kz}(h:dH l j=some R):(j,R)∈l:=by
 induction l with
 |nil=>cases h
 |cons p l ih=>
  obtain⟨i,R'⟩:=p;rw[dH]at h;cases e:dH l j with
  |some R2=>rw[e]at h;cases h;exact List.mem_cons_of_mem _ (ih e)
  |none=>
   rw[e]at h;by_cases q:j=i
   ·subst q;simp at h;subst h;simp
   simp[q]at h
theorem A9{l:List (Nat×kz)}{j:Nat}{R:kz}(h:(j,R)∈l):∃R',dH l j=some R':=by
 induction l with
 |nil=>cases h
 |cons p l ih=>
  obtain⟨i,R'⟩:=p;rw[dH];rcases List.mem_cons.1 h with e|e
  ·cases e;cases q:dH l j with
   |some R2=>exact⟨R2,Y⟩
   |none=>exact⟨R,by simp⟩
  obtain⟨R2,h2⟩:=ih e;exact⟨R2,by rw[h2]⟩
section swap
variable {C:Ctx}{S:AS}
theorem bn.Ya{E:Env}{a:Act}{w w':World}(h:bn C S E a w){i:Nat}{T:TypeId}{cells cells':List AV}{us':List Value}{M':Mem}(hB:S.b i=some ⟨T,cells⟩)(olds:List Nat)(news:List (Nat×Row×Value))
  (hold:∀j∈olds,∃R,S.r j=.live R) (hnew:∀k R v,(k,R,v)∈news->S.r k=.un/\k<1000) (hnd:(news.map (·.1)).Nodup)
  (hM:E.M.le M') (hmn:∀b o x,M' b o=some x->E.M b o=some x\/w.heap.size<=b\/∃j∈olds,(E.ν j).ownBlock=some b) (hin:M'.c8 w')
  (adm:w'.heap[E.β i]? =some (.cells ⟨us'⟩ T (0,0))) (hnb:∀o,M' (E.β i) o=none) (uV:c9 {E with M:=M',ν:=kg news E.ν} cells' us')
  (hcb:∀x∈cells',(∀j,¬x.mb j)/\∀j,x.mr j->∃R v,(j,R,v)∈news)
  (hrow:∀k R v,(k,R,v)∈news->(∃vs:List Value,w'.ownsRow 0 R.E R.sz v R.n vs/\SV.dZ M' R.cells vs)/\∀g,v.ownBlock=some g->((∃j∈olds,(E.ν j).ownBlock=some g)\/w.heap.size<=g)/\(∀o,M' g o=none)/\g≠E.β i)
  (Yb:∀k R v k' R' v' g,(k,R,v)∈news->(k',R',v')∈news->v.ownBlock=some g->v'.ownBlock=some g->k=k')
  (hos:w'.os=w.os) (pX:w'.tape=w.tape) (hout:w'.output=w.output) (hsize:w.heap.size<=w'.heap.size)
  (jS:∀k,k<w.heap.size->k≠E.β i->(∀j∈olds,(E.ν j).ownBlock≠some k)->w'.heap[k]? =w.heap[k]?):
  bn C (AS.bY (wS olds news) (AS.fj [(i,⟨T,cells'⟩)] S)) {E with M:=M',ν:=kg news E.ν} a w':=by
 obtain⟨Kh,adn,Ps,Ou,Ki,_⟩:=h.bx i _ hB;have agN:E.β i<w.heap.size:=(Array.getElem?_eq_some_iff.1 Ki).1;obtain⟨n1,n2,n3,n4,n5⟩:=eJ (wS olds news) (AS.fj [(i,⟨T,cells'⟩)] S);have tOf:(AS.bY (wS olds news) (AS.fj [(i,⟨T,cells'⟩)] S)).t=S.t:=n2;have yX:∀j,(AS.bY (wS olds news) (AS.fj [(i,⟨T,cells'⟩)] S)).b j=if j=i then some ⟨T,cells'⟩else S.b j:=λj=>by
  rw[n3];by_cases e:j=i
  ·subst e;rw[if_pos rfl];exact AS.cO _ _ _
  rw[if_neg e];exact AS.bQ _ _ _ _ e
 have Yc:∀k R v,(k,R,v)∈news->dH (news.map (λn=>(n.1,kz.live n.2.1))) k=some (.live R):=λk R v hm=>by
  obtain⟨R',nI⟩:=A9 (l:=news.map (λn=>(n.1,kz.live n.2.1))) (j:=k) (R:=.live R) (List.mem_map.2 ⟨(k,R,v),hm,Y⟩);obtain⟨⟨k2,R2,v2⟩,La,e⟩:=List.mem_map.1 (vB nI);have e1:k2=k:=congrArg Prod.fst e;have e2:kz.live R2=R':=congrArg Prod.snd e;rw[e1]at La;have:R2=R:=by
   have key:∀(l:List (Nat×Row×Value)),(l.map (·.1)).Nodup->(k,R2,v2)∈l->(k,R,v)∈l->R2=R:=by
    intro l
    induction l with
    |nil=>intro _ h;cases h
    |cons p l ih=>
     intro hn h1 h2;rw[List.map_cons,List.nodup_cons]at hn;rcases List.mem_cons.1 h1 with e1|e1<;>rcases List.mem_cons.1 h2 with e2|e2
     ·rw[<-e1]at e2;cases e2;rfl
     ·exact absurd (List.mem_map.2 ⟨_,e2,by rw[<-e1]⟩) hn.1
     ·exact absurd (List.mem_map.2 ⟨_,e1,by rw[<-e2]⟩) hn.1
     exact ih hn.2 e1 e2
   exact key news hnd La hm
  rw[nI,<-e2,this]
 have Yd:∀k R v,(k,R,v)∈news->(AS.bY (wS olds news) (AS.fj [(i,⟨T,cells'⟩)] S)).r k=.live R:=λk R v hm=>by
  rw[jN,wS,qN,Yc k R v hm];rfl
 have Ye:∀j,(∀R v,(j,R,v)∉news)->(AS.bY (wS olds news) (AS.fj [(i,⟨T,cells'⟩)] S)).r j=if j∈olds then .dead else S.r j:=λj hn=>by
  have e1:dH (news.map (λn=>(n.1,kz.live n.2.1))) j=none:=vA (λR hm=>by
   obtain⟨⟨k2,R2,v2⟩,La,e⟩:=List.mem_map.1 hm;cases e;exact hn R2 v2 La)
  rw[jN,wS,qN,e1];by_cases ho:j∈olds
  ·rw[if_pos ho];obtain⟨R',nI⟩:=A9 (l:=olds.map (λj=>(j,kz.dead))) (j:=j) (R:=.dead) (List.mem_map.2 ⟨j,ho,Y⟩);obtain⟨j2,_,e⟩:=List.mem_map.1 (vB nI);cases e;rw[nI];rfl
  rw[if_neg ho,vA (λR hm=>by obtain⟨j2,La,e⟩:=List.mem_map.1 hm;cases e;exact ho La)];rfl
 have MG:∀j,S.r j≠ .un->∀R v,(j,R,v)∉news:=λj hj R v hm=>hj (hnew j R v hm).1;have rne:∀j,S.r j≠ .un->(AS.bY (wS olds news) (AS.fj [(i,⟨T,cells'⟩)] S)).r j≠ .un:=λj hj=>by
  rw[Ye j (MG j hj)];split
  ·simp
  exact hj
 have yd:∀j∈olds,∀g,(E.ν j).ownBlock=some g->(C.w0.heap.size<=g\/C.tD g)/\(∀o,E.M g o=none)/\¬E.O g/\(∀n B,S.b n=some B->E.β n≠g)/\g<w.heap.size/\∃c e,w.heap[g]? =some (Obj.cells c e (0,0)):=λj hj g hg=>by
  obtain⟨R,hR⟩:=hold j hj;obtain⟨⟨us,q1,_⟩,q2⟩:=h.rx j R hR;obtain⟨q3,q4,q5,q6⟩:=q2 g hg;refine⟨q3,q4,q5,q6,iZ h hR hg,?_⟩;rcases q1.2 with⟨q7,_⟩|⟨g',cap,cur,q7,_,q8,_⟩
  ·rw[q7]at hg;cases hg
  rw[q7]at hg;cases hg;exact⟨_,_,q8⟩
 have keep:∀x:AV,(∀j,x.mr j->S.r j≠ .un)->∀v,x.holds E v->x.holds {E with M:=M',ν:=kg news E.ν} v:=λx hx v hv=>
  AV.cE (E:=E) (E':={E with M:=M',ν:=kg news E.ν}) hM (λ_ _=>rfl) (λj hj=>mN (MG j (hx j hj))) hv
 have UE:∀b,b<w.heap.size->(∀o,E.M b o=none)->(∀j∈olds,(E.ν j).ownBlock≠some b)->∀o,M' b o=none:=λb h1 h2 h3 o=>by
  cases e:M' b o with
  |none=>rfl
  |some v=>
   rcases hmn b o v e with q|q|⟨j,q1,q2⟩
   ·rw[h2 o]at q;cases q
   ·omega
   exact absurd q2 (h3 j q1)
 have live:∀j R,(AS.bY (wS olds news) (AS.fj [(i,⟨T,cells'⟩)] S)).r j=.live R->(∃v,(j,R,v)∈news)\/((∀R v,(j,R,v)∉news)/\j∉olds/\S.r j=.live R):=λj R hj=>by
  by_cases hn:∃R v,(j,R,v)∈news
  ·obtain⟨R',v,hm⟩:=hn;rw[Yd j R' v hm]at hj;cases hj;exact .inl ⟨v,hm⟩
  have hn:∀R v,(j,R,v)∉news:=λR v hm=>hn ⟨R,v,hm⟩;rw[Ye j hn]at hj;by_cases ho:j∈olds
  ·rw[if_pos ho]at hj;cases hj
  rw[if_neg ho]at hj;exact .inr ⟨hn,ho,hj⟩
 have Yf:∀j R,S.r j=.live R->j∉olds->∀g,(E.ν j).ownBlock=some g->∀j'∈olds,(E.ν j').ownBlock≠some g:=λj R hR ho g hg j' hj' e=>by
  obtain⟨R',nI⟩:=hold j' hj';have:=h.fg j j' R R' hR nI g hg e;subst this;exact ho hj'
 exact{
  wf:=by
   refine⟨λs j hj=>?_,λs j hj=>?_,λj B fk x hx m hm=>?_,λj B fk x hx m hm=>?_⟩
   ·rw[tOf]at hj;obtain⟨B,fk⟩:=h.wf.tb s j hj;rw[yX];by_cases e:j=i
    ·exact⟨_,if_pos e⟩
    exact⟨B,by rw[if_neg e];exact fk⟩
   ·rw[tOf]at hj;exact rne j (h.wf.tr s j hj)
   ·rw[yX]at fk⊢;by_cases e:j=i
    ·rw[if_pos e]at fk;cases fk;exact absurd hm ((hcb x hx).1 m)
    rw[if_neg e]at fk;obtain⟨B2,hB2⟩:=h.wf.bb j B fk x hx m hm;by_cases e2:m=i
    ·exact⟨_,if_pos e2⟩
    exact⟨B2,by rw[if_neg e2];exact hB2⟩
   rw[yX]at fk;by_cases e:j=i
   ·rw[if_pos e]at fk;cases fk;obtain⟨R,v,La⟩:=(hcb x hx).2 m hm;rw[Yd m R v La];simp
   rw[if_neg e]at fk;exact rne m (h.wf.br j B fk x hx m hm)
  marks:=by
   obtain⟨ds,d1,d2,d3⟩:=h.marks;refine⟨ds,d1,d2,λr hr=>?_⟩;obtain⟨p1,p2,p3⟩:=d3 r hr;refine⟨p1,p2,?_⟩;rw[jS r (Array.getElem?_eq_some_iff.1 p3).1 (λe=>by rw[e,Ki]at p3;cases p3) (λj hj e=>by
    obtain⟨_,_,_,_,_,c,e2,q⟩:=yd j hj r e;rw[q]at p3;cases p3)]
   exact p3
  size:=by rw[n1];exact h.size
  os:=hos.trans h.os
  tape:=pX.trans h.tape
  output:=hout.trans h.output
  grown:=Nat.le_trans h.grown hsize
  frame:=λk hk hown=>by
   rw[jS k (Nat.lt_of_lt_of_le hk h.grown) (λe=>by
    rcases Kh with q|q
    ·omega
    ·exact hown (C.BV _ (by rw[e];exact q))) (λj hj e=>by
    rcases(yd j hj k e).1 with q|q
    ·omega
    exact hown (C.BV _ q))]
   exact h.frame k hk hown
  m0:=Mem.le_trans h.m0 hM
  eC:=λb o v e=>by
   rcases hmn b o v e with q|q|⟨j,q1,q2⟩
   ·exact h.eC b o v q
   ·exact .inr (.inl (Nat.le_trans h.grown q))
   rcases(yd j q1 b q2).1 with q|q
   ·exact .inr (.inl q)
   exact .inr (.inr (C.BV _ q))
  c8:=hin
  tm:=λs=>by rw[tOf];exact keep _ (h.wf.tr s) _ (h.tm s)
  bx:=λj B fk=>by
   rw[yX]at fk;by_cases e:j=i
   ·rw[if_pos e]at fk;cases fk;subst e;exact⟨Kh,hnb,Ps,us',adm,uV⟩
   rw[if_neg e]at fk;obtain⟨p1,p2,p3,vs,p4,p5⟩:=h.bx j B fk;have hlt:=(Array.getElem?_eq_some_iff.1 p4).1;have hno:∀j'∈olds,(E.ν j').ownBlock≠some (E.β j):=λj' hj' q=>(yd j' hj' _ q).2.2.2.1 j B fk Y;refine⟨p1,UE _ hlt p2 hno,p3,vs,?_,p5.imp (λx hx v hv=>keep x (h.wf.br j B fk x hx) v hv)⟩;show w'.heap[E.β j]? =_;rw[jS _ hlt (λq=>e (h.inj j i B _ fk hB q)) hno];exact p4
  inj:=λj j' B B' h1 h2 e=>by
   have key:∀n B,(AS.bY (wS olds news) (AS.fj [(i,⟨T,cells'⟩)] S)).b n=some B->∃B',S.b n=some B':=λn B hn=>by
    rw[yX]at hn;by_cases e:n=i
    ·subst e;exact⟨_,hB⟩
    rw[if_neg e]at hn;exact⟨B,hn⟩
   obtain⟨B1,p1⟩:=key j B h1;obtain⟨B2,p2⟩:=key j' B' h2;exact h.inj j j' B1 B2 p1 p2 e
  rx:=λj R hj=>by
   have boxes:∀g,(∀n B,S.b n=some B->E.β n≠g)->∀n B,(AS.bY (wS olds news) (AS.fj [(i,⟨T,cells'⟩)] S)).b n=some B->E.β n≠g:=λg hg n B hn=>by
    rw[yX]at hn;by_cases e:n=i
    ·subst e;exact hg _ _ hB
    rw[if_neg e]at hn;exact hg n B hn
   rcases live j R hj with⟨v,hm⟩|⟨hn,ho,hR⟩
   ·rw[show({E with M:=M',ν:=kg news E.ν}:Env).ν j=v from iD hnd hm];obtain⟨p1,p2⟩:=hrow j R v hm;refine⟨p1,λg hg=>?_⟩;obtain⟨p3,p4,p5⟩:=p2 g hg;rcases p3 with⟨j',q1,q2⟩|p3
    ·obtain⟨o1,o2,o3,o4,_⟩:=yd j' q1 g q2;exact⟨o1,p4,o3,boxes g o4⟩
    refine⟨.inl (Nat.le_trans h.grown p3),p4,λq=>?_,boxes g (λn B hn q=>?_)⟩
    ·have:=(h.ko g q).1;omega
    obtain⟨_,_,_,vs,q4,_⟩:=h.bx n B hn;have:=(Array.getElem?_eq_some_iff.1 q4).1;omega
   rw[show({E with M:=M',ν:=kg news E.ν}:Env).ν j=E.ν j from mN hn];obtain⟨⟨us,p1,p2⟩,p3⟩:=h.rx j R hR;refine⟨⟨us,dm p1 λg hg=>jS g (iZ h hR hg) (λe=>(p3 g hg).2.2.2 i _ hB e.symm) (Yf j R hR ho g hg),p2.mono hM⟩,λg hg=>?_⟩;obtain⟨p4,p5,p6,p7⟩:=p3 g hg;exact⟨p4,UE g (iZ h hR hg) p5 (Yf j R hR ho g hg),p6,boxes g p7⟩
  fg:=λj j' R R' h1 h2 g e1 e2=>by
   have mixed:∀j R v j' R' g,(j,R,v)∈news->S.r j'=.live R'->j'∉olds->v.ownBlock=some g->(E.ν j').ownBlock=some g->False:=λj R v j' R' g hm nI ho e1 e2=>by
    rcases((hrow j R v hm).2 g e1).1 with⟨j2,q1,q2⟩|q
    ·exact Yf j' R' nI ho g e2 j2 q1 q2
    have:=iZ h nI e2;omega
   rcases live j R h1 with⟨v,hm⟩|⟨hn,ho,hR⟩<;>rcases live j' R' h2 with⟨v',hm'⟩|⟨hn',ho',nI⟩
   ·rw[show({E with M:=M',ν:=kg news E.ν}:Env).ν j=v from iD hnd hm]at e1;rw[show({E with M:=M',ν:=kg news E.ν}:Env).ν j'=v' from iD hnd hm']at e2;exact Yb j R v j' R' v' g hm hm' e1 e2
   ·rw[show({E with M:=M',ν:=kg news E.ν}:Env).ν j=v from iD hnd hm]at e1;rw[show({E with M:=M',ν:=kg news E.ν}:Env).ν j'=E.ν j' from mN hn']at e2;exact(mixed j R v j' R' g hm nI ho' e1 e2).elim
   ·rw[show({E with M:=M',ν:=kg news E.ν}:Env).ν j=E.ν j from mN hn]at e1;rw[show({E with M:=M',ν:=kg news E.ν}:Env).ν j'=v' from iD hnd hm']at e2;exact(mixed j' R' v' j R g hm' hR ho e2 e1).elim
   rw[show({E with M:=M',ν:=kg news E.ν}:Env).ν j=E.ν j from mN hn]at e1;rw[show({E with M:=M',ν:=kg news E.ν}:Env).ν j'=E.ν j' from mN hn']at e2;exact h.fg j j' R R' hR nI g e1 e2
  gB:=h.gB
  dX:=λk v e=>by
   rw[show({E with M:=M',ν:=kg news E.ν}:Env).ν k=E.ν k from mN (λR v hm=>by have:=(hnew k R v hm).2;have:=C.JM k _ e;omega)];exact h.dX k v e
  ko:=λb hb=>by
   obtain⟨p1,p2,p3⟩:=h.ko b hb;exact⟨Nat.lt_of_lt_of_le p1 hsize,UE b p1 p2 (λj hj e=>(yd j hj b e).2.2.1 hb),p3⟩
  jj:=by
   have hj:=C.jf S.g S.go E.O E.M M' w w' h.jj hM hin (λb o v e=>by
    rcases hmn b o v e with q|q|⟨j,q1,q2⟩
    ·exact .inl q
    ·exact .inr ⟨.inl (Nat.le_trans h.grown q),λq2=>by have:=(h.ko b q2).1;omega⟩
    ·obtain⟨o1,_,o3,_⟩:=yd j q1 b q2;exact .inr ⟨o1,o3⟩) (λb hb=>by
    have hlt:b<w.heap.size\/w.heap.size<=b:=Nat.lt_or_ge _ _;have hb':b<w.heap.size:=by
     rcases hb with⟨q,_⟩|q
     ·exact Nat.lt_of_lt_of_le q h.grown
     exact(h.ko b q).1
    refine jS b hb' (λe=>?_) (λj hj e=>?_)
    ·subst e;rcases hb with⟨q1,q2⟩|q
     ·rcases Kh with p|p
      ·omega
      exact q2 p
     exact Ps q
    obtain⟨o1,_,o3,_⟩:=yd j hj b e;rcases hb with⟨q1,q2⟩|q
    ·rcases o1 with p|p
     ·omega
     exact q2 p
    exact o3 q) hos pX hout hsize
   rw[n4,n5];exact hj}
end swap
end
section
open Go.RowKit
inductive Oc where
 |s (x:SV)
 |r (R:Row)
def oV(M:Mem)(w:World):List Oc->List Value->Prop
 |[],[]=>True
 |.s x::l,v::vs=>x.h M v/\oV M w l vs
 |.r R::l,v::vs=>(∃us:List Value,w.ownsRow 0 R.E R.sz v R.n us/\SV.dZ M R.cells us)/\oV M w l vs
 |_,_=>False
def rowsOf:List Oc->List Row
 |[]=>[]
 |.s _::l=>rowsOf l
 |.r R::l=>R::rowsOf l
def b9:List Oc->List Value->List (Row×Value)
 |.s _::l,_::vs=>b9 l vs
 |.r R::l,v::vs=>(R,v)::b9 l vs
 |_,_=>[]
def eu(c:List Oc)(us:List Value)(g:Nat):Prop:=∃p∈b9 c us,p.2.ownBlock=some g
def cj:List Nat->List Oc->List AV
 |ids,.s x::l=>.sv x::cj ids l
 |i::ids,.r _::l=>.row i::cj ids l
 |[],.r _::l=>.sv .any::cj [] l
 |_,[]=>[]
def IX(l:List (Row×Value)):Prop:=l.Pairwise λp q=>∀g,p.2.ownBlock=some g->q.2.ownBlock≠some g
structure oW (M:Mem) (w:World) (β:Nat) (T:TypeId) (c:List Oc) (us:List Value):Prop where
 hp:w.heap[β]? =some (.cells ⟨us⟩ T (0,0))
 al:oV M w c us
 nb:∀o,M β o=none
 nr:∀g,eu c us g->g≠β/\∀o,M g o=none
 ap:IX (b9 c us)
theorem iq{M:Mem}{w:World}:∀{c:List Oc} {us:List Value},oV M w c us->(b9 c us).map (·.1)=rowsOf c
 |[],[],_=>rfl
 |.s _::l,_::vs,h=>iq (c:=l) (us:=vs) h.2
 |.r R::l,v::vs,h=>congrArg (R:: ·) (iq (c:=l) (us:=vs) h.2)
 |[],_::_,h=>h.elim
 |.s _::_,[],h=>h.elim
 |.r _::_,[],h=>h.elim
theorem kj{M:Mem}{w:World}:∀{c:List Oc} {us:List Value},oV M w c us->∀p∈b9 c us,∃vs:List Value,w.ownsRow 0 p.1.E p.1.sz p.2 p.1.n vs/\SV.dZ M p.1.cells vs
 |[],[],_,p,hp=>by cases hp
 |.s _::l,_::vs,h,p,hp=>kj (c:=l) (us:=vs) h.2 p hp
 |.r R::l,v::vs,h,p,hp=>by
  rcases List.mem_cons.1 hp with rfl|hp
  ·exact h.1
  exact kj (c:=l) (us:=vs) h.2 p hp
 |[],_::_,h,_,_=>h.elim
 |.s _::_,[],h,_,_=>h.elim
 |.r _::_,[],h,_,_=>h.elim
theorem iU{α β:Type}:∀{l:List α} {k:List β} {a:α} {b:β},(a,b)∈l.zip k->a∈l/\b∈k
 |_::_,_::_,_,_,h=>by
  rw[List.zip_cons_cons]at h;rcases List.mem_cons.1 h with e|e
  ·cases e;simp
  have:=iU e;exact⟨List.mem_cons_of_mem _ this.1,List.mem_cons_of_mem _ this.2⟩
 |[],_,_,_,h=>by simp at h
 |_::_,[],_,_,h=>by simp at h
theorem zS{α β:Type}:∀{l:List α} {k:List β},l.length=k.length->(l.zip k).map (·.1)=l
 |[],[],_=>rfl
 |_::l,_::k,h=>by rw[List.zip_cons_cons,List.map_cons,zS (by simpa using h)]
 |[],_::_,h=>by simp at h
 |_::_,[],h=>by simp at h
theorem ye:∀{ids:List Nat} {l:List (Row×Value)},ids.Nodup->IX l->∀k R v k' R' v' g,(k,R,v)∈ids.zip l->(k',R',v')∈ids.zip l->v.ownBlock=some g->v'.ownBlock=some g->k=k'
 |i::ids,p::l,hn,ha,k,R,v,k',R',v',g,h1,h2,e1,e2=>by
  rw[List.zip_cons_cons]at h1 h2;rw[List.nodup_cons]at hn;obtain⟨ZV,ha2⟩:=List.pairwise_cons.1 ha;rcases List.mem_cons.1 h1 with q1|q1<;>rcases List.mem_cons.1 h2 with q2|q2
  ·cases q1;cases q2;rfl
  ·cases q1;exact absurd e2 (ZV (R',v') (iU q2).2 g e1)
  ·cases q2;exact absurd e1 (ZV (R,v) (iU q1).2 g e2)
  exact ye hn.2 ha2 k R v k' R' v' g q1 q2 e1 e2
 |[],_,_,_,_,_,_,_,_,_,_,h1,_,_,_=>by simp at h1
 |_::_,[],_,_,_,_,_,_,_,_,_,h1,_,_,_=>by simp at h1
theorem oa{E:Env}{w:World}:∀{ids:List Nat} {c:List Oc} {us:List Value},ids.length=(rowsOf c).length->oV E.M w c us->(∀i p,(i,p)∈ids.zip (b9 c us)->E.ν i=p.2)->c9 E (cj ids c) us
 |ids,[],[],_,_,_=>by cases ids<;>exact trivial
 |ids,.s x::l,v::vs,hl,h,hv=>by
  have ih:=oa (E:=E) (w:=w) (ids:=ids) (c:=l) (us:=vs) hl h.2 hv;cases ids<;>exact⟨h.1,ih⟩
 |i::ids,.r R::l,v::vs,hl,h,hv=>by
  refine⟨(hv i (R,v) (by rw[b9,List.zip_cons_cons];simp)).symm,oa (w:=w) (ids:=ids) (c:=l) (us:=vs) (by simpa[rowsOf]using hl) h.2 (λj p hm=>hv j p ?_)⟩;rw[b9,List.zip_cons_cons];exact List.mem_cons_of_mem _ hm
 |[],.r R::l,_::_,hl,_,_=>by simp[rowsOf]at hl
 |_,[],_::_,_,h,_=>h.elim
 |_,.s _::_,[],_,h,_=>h.elim
 |_,.r _::_,[],_,h,_=>h.elim
theorem oc:∀{ids:List Nat} {c:List Oc} (x:AV),x∈cj ids c->(∀j,¬x.mb j)/\∀j,x.mr j->j∈ids
 |ids,[],x,h=>by cases ids<;>simp[cj]at h
 |ids,.s y::l,x,h=>by
  have h':x∈AV.sv y::cj ids l:=by cases ids<;>exact h
  rcases List.mem_cons.1 h' with rfl|h'
  ·exact⟨λj e=>e,λj e=>e.elim⟩
  exact oc x h'
 |i::ids,.r _::l,x,h=>by
  rcases List.mem_cons.1 (show x∈AV.row i::cj ids l from h)with rfl|h'
  ·exact⟨λj e=>e,λj e=>by cases e;simp⟩
  obtain⟨h1,h2⟩:=oc x h';exact⟨h1,λj e=>List.mem_cons_of_mem _ (h2 j e)⟩
 |[],.r _::l,x,h=>by
  rcases List.mem_cons.1 (show x∈AV.sv .any::cj [] l from h)with rfl|h'
  ·exact⟨λj e=>e,λj e=>e.elim⟩
  exact oc x h'
def Lv(S:AS):List Nat->List Row->Prop
 |[],[]=>True
 |j::js,R::Rs=>S.r j=.live R/\Lv S js Rs
 |_,_=>False
theorem Lv.len{S:AS}:∀{js:List Nat} {Rs:List Row},Lv S js Rs->js.length=Rs.length
 |[],[],_=>rfl
 |_::_,_::_,h=>congrArg (· +1) (Lv.len h.2)
 |[],_::_,h=>h.elim
 |_::_,[],h=>h.elim
theorem Lv.mem{S:AS}:∀{js:List Nat} {Rs:List Row},Lv S js Rs->∀j∈js,∃R,S.r j=.live R
 |j::js,R::Rs,h,k,hk=>by
  rcases List.mem_cons.1 hk with rfl|hk
  ·exact⟨R,h.1⟩
  exact Lv.mem h.2 k hk
 |[],_,_,k,hk=>by cases hk
 |_::_,[],h,_,_=>h.elim
theorem sS{C:Ctx}{S:AS}{E:Env}{a:Act}{w:World}(h:bn C S E a w):∀{js:List Nat} {c:List Oc} {us:List Value},Lv S js (rowsOf c)->c9 E (cj js c) us->oV E.M w c us/\b9 c us=(rowsOf c).zip (js.map E.ν)
 |[],[],[],_,_=>⟨aq,Y⟩
 |js,.s x::l,v::vs,hL,hv=>by
  have uh:c9 E (AV.sv x::cj js l) (v::vs):=by cases js<;>exact hv
  obtain⟨h1,h2⟩:=sS h (js:=js) (c:=l) (us:=vs) hL uh.2;exact⟨⟨uh.1,h1⟩,h2⟩
 |j::js,.r R::l,v::vs,hL,hv=>by
  have hL:S.r j=.live R/\Lv S js (rowsOf l):=hL;have uh:c9 E (AV.row j::cj js l) (v::vs):=hv;obtain⟨h1,h2⟩:=sS h (js:=js) (c:=l) (us:=vs) hL.2 uh.2;have e:v=E.ν j:=uh.1;obtain⟨q1,_⟩:=h.rx j R hL.1;rw[<-e]at q1;refine⟨⟨q1,h1⟩,?_⟩;rw[b9,h2,e];rfl
 |[],.r _::_,_,hL,_=>hL.elim
 |_::_,[],_,hL,_=>hL.elim
 |[],[],_::_,_,hv=>by simp[cj]at hv;exact hv.elim
 |js,.s x::l,[],_,hv=>by
  have uh:c9 E (AV.sv x::cj js l) []:=by cases js<;>exact hv
  exact uh.elim
 |_::_,.r _::_,[],_,hv=>hv.elim
theorem sV{α β:Type}:∀{l:List α} {k:List β} {b:β},l.length=k.length->b∈k->∃a,(a,b)∈l.zip k
 |a::l,c::k,b,h,hb=>by
  rcases List.mem_cons.1 hb with rfl|hb
  ·exact⟨a,by rw[List.zip_cons_cons];simp⟩
  obtain⟨a',h'⟩:=sV (l:=l) (k:=k) (by simpa using h) hb;exact⟨a',by rw[List.zip_cons_cons];exact List.mem_cons_of_mem _ h'⟩
 |[],[],_,_,hb=>by cases hb
 |[],_::_,_,h,_=>by simp at h
theorem pY{C:Ctx}{S:AS}{E:Env}{a:Act}{w:World}(h:bn C S E a w){i:Nat}{T:TypeId}{js:List Nat}{c:List Oc}(hB:S.b i=some ⟨T,cj js c⟩)(hL:Lv S js (rowsOf c))(hn:js.Nodup):
  ∃us,oW E.M w (E.β i) T c us/\(∀g,eu c us g↔∃j∈js,(E.ν j).ownBlock=some g):=by
 obtain⟨_,q1,_,us,q2,q3⟩:=h.bx i _ hB;obtain⟨p1,p2⟩:=sS h hL q3;have hlen:=hL.len;have Dq:∀g,eu c us g↔∃j∈js,(E.ν j).ownBlock=some g:=λg=>by
  unfold eu;rw[p2];constructor
  ·rintro⟨⟨R,v⟩,hm,hg⟩;obtain⟨j,hj,rfl⟩:=List.mem_map.1 (iU hm).2;exact⟨j,hj,hg⟩
  rintro⟨j,hj,hg⟩;obtain⟨R,hR⟩:=sV (l:=rowsOf c) (k:=js.map E.ν) (by simp[hlen]) (List.mem_map.2 ⟨j,hj,Y⟩);exact⟨(R,E.ν j),hR,hg⟩
 refine⟨us,⟨q2,p1,q1,λg hg=>?_,?_⟩,Dq⟩
 ·obtain⟨j,hj,yB⟩:=(Dq g).1 hg;obtain⟨R,hR⟩:=hL.mem j hj;obtain⟨_,q4⟩:=h.rx j R hR;obtain⟨_,q5,_,q6⟩:=q4 g yB;exact⟨λe=>q6 i _ hB e.symm,q5⟩
 rw[p2];have key:∀(js:List Nat) (Rs:List Row),Lv S js Rs->js.Nodup->IX (Rs.zip (js.map E.ν)):=by
  intro js
  induction js with
  |nil=>intro Rs hL _;cases Rs with|nil=>exact List.Pairwise.nil|cons _ _=>exact hL.elim
  |cons j js ih=>
   intro Rs hL hn;cases Rs with
   |nil=>exact hL.elim
   |cons R Rs=>
    rw[List.nodup_cons]at hn;rw[List.map_cons,List.zip_cons_cons];refine List.pairwise_cons.2 ⟨λp hp g e1 e2=>?_,ih Rs hL.2 hn.2⟩;obtain⟨R',v'⟩:=p;obtain⟨j',hj',rfl⟩:=List.mem_map.1 (iU hp).2;obtain⟨R2,hR2⟩:=hL.2.mem j' hj';have:=h.fg j j' R R2 hL.1 hR2 g e1 e2;subst this;exact hn.1 hj'
 exact key js _ hL hn
def oe(M:Mem)(β:Nat):Env:=⟨λ_=>β,λ_=>.nilIface,λ_=>False,M⟩
def Fc.oy:Fc->Bool
 |.val _=>true
 |.box i=>Nat.beq i 1000
 |.row _=>false
def AV.oy:AV->Bool
 |.sv _=>true
 |.ptr i _=>Nat.beq i 1000
 |.cmp _ js=>js.all Fc.oy
 |_=>false
def Fc.R7(i:Nat):Fc->Fc
 |.box _=>.box i
 |c=>c
def AV.R7(i:Nat):AV->AV
 |.ptr _ o=>.ptr i o
 |.cmp t js=>.cmp t (js.map (Fc.R7 i))
 |x=>x
theorem Kj{E:Env}{i:Nat}{x:AV}{v:Value}(hx:x.oy=true)(h:(x.R7 i).holds E v):x.holds (oe E.M (E.β i)) v:=by
 cases x with
 |sv s=>exact h
 |ptr k o=>exact h
 |cmp t js=>
  obtain⟨vs,rfl,h⟩:=h;refine⟨vs,Y,?_⟩;have key:∀(l:List Fc) (vs:List Value),(l.all Fc.oy)=true->z7 E (l.map (Fc.R7 i)) vs->z7 (oe E.M (E.β i)) l vs:=by
   intro l
   induction l with
   |nil=>intro vs _ h;cases vs with|nil=>trivial|cons _ _=>exact h.elim
   |cons c l ih=>
    intro vs ho h;rw[List.all_cons,Bool.and_eq_true]at ho;cases vs with
    |nil=>exact h.elim
    |cons u vs=>
     refine⟨?_,ih vs ho.2 h.2⟩;cases c with
     |val s=>exact h.1
     |box k=>exact h.1
     |row k=>exact(Bool.false_ne_true ho.1).elim
  exact key js vs hx h
 |_=>exact(Bool.false_ne_true hx).elim
theorem zT{E:Env}{i:Nat}:∀{l:List AV} {vs:List Value},(l.all AV.oy)=true->c9 E (l.map (AV.R7 i)) vs->c9 (oe E.M (E.β i)) l vs
 |[],[],_,_=>trivial
 |x::l,v::vs,h,hv=>by
  rw[List.all_cons,Bool.and_eq_true]at h;exact⟨Kj h.1 hv.1,zT h.2 hv.2⟩
 |[],_::_,_,h=>h.elim
 |_::_,[],_,h=>h.elim
def Pt(P:Program)(f:FuncId)(args:List AV)(T:TypeId)(c0:List Oc)(res:SV)(c1:List Oc):Prop:=
 ∀(M:Mem) (w:World) (β:Nat) (vs us:List Value),M.c8 w->oW M w β T c0 us->c9 (oe M β) args vs->
  Calls P f ⟨vs⟩ w λe w'=>∃v M' us',e=.returned v/\M.le M'/\(∀b o x,M' b o=some x->M b o=some x\/w.heap.size<=b\/eu c0 us b)/\M'.c8 w'/\res.h M' v/\
   oW M' w' β T c1 us'/\(∀g,eu c1 us' g->eu c0 us g\/w.heap.size<=g)/\w'.os=w.os/\w'.tape=w.tape/\w'.output=w.output/\w.heap.size<=w'.heap.size/\
   ∀k,k<w.heap.size->k≠β->¬eu c0 us k->w'.heap[k]? =w.heap[k]?
def UF(w:World)(M:Mem)(β:Nat)(c:List Oc)(us:List Value):Ctx:={w0:=w,M0:=M,own:=λk=>k=β\/eu c us k,tD:=λk=>k=β\/eu c us k,gB:=λi=>bif Nat.beq i 1000 then some β else none,dX:=λ_=>none,ro:=none,J:=λ_ _ _ _ _=>True,BV:=λ_ h=>h,JM:=λ_ _ h=>(by cases h),jf:=λ_ _ _ _ _ _ _ _ _ _ _ _ _ _ _ _=>trivial}
theorem wU{M:Mem}{w:World}:∀{ids:List Nat} {c:List Oc} {us:List Value},oV M w c us->∀{i:Nat} {R:Row},(i,R)∈ids.zip (rowsOf c)->∃v,(i,R,v)∈ids.zip (b9 c us)
 |ids,.s x::l,v::vs,h,i,R,hm=>by
  have hm':(i,R)∈ids.zip (rowsOf l):=hm;exact wU (c:=l) (us:=vs) h.2 hm'
 |k::ids,.r R'::l,v::vs,h,i,R,hm=>by
  have hm':(i,R)∈(k,R')::ids.zip (rowsOf l):=hm;rw[b9,List.zip_cons_cons];rcases List.mem_cons.1 hm' with e|e
  ·cases e;exact⟨v,by simp⟩
  obtain⟨v',h'⟩:=wU (ids:=ids) (c:=l) (us:=vs) h.2 e;exact⟨v',List.mem_cons_of_mem _ h'⟩
 |[],.r _::_,_::_,_,_,_,hm=>by simp at hm
 |_,[],[],_,_,_,hm=>by simp[rowsOf]at hm
 |_,[],_::_,h,_,_,_=>h.elim
 |_,.s _::_,[],h,_,_,_=>h.elim
 |_,.r _::_,[],h,_,_,_=>h.elim
theorem IY{n:Nat}{args:List AV}{T:TypeId}{c:List Oc}{M:Mem}{w:World}{β:Nat}{vs us:List Value}(ids:List Nat)(hM:M.c8 w)(ho:oW M w β T c us)(hv:c9 (oe M β) args vs)(IZ:args.all AV.oy=true)(hn:args.length<=n)(BY:ids.Nodup)(R8:ids.length=(rowsOf c).length):
  bn (UF w M β c us) (AS.BR n args [(1000,⟨T,cj ids c⟩)] (ids.zip (rowsOf c))) ⟨λ_=>β,kg (ids.zip (b9 c us)) (λ_=>.nilIface),λ_=>False,M⟩ {tmps:=⟨vs⟩++Array.replicate (n-(⟨vs⟩:Array Value).size) undef,defers:=[]} w:=by
 have hl:=hv.length;have Wi:(b9 c us).length=(rowsOf c).length:=by rw[<-iq ho.al,List.length_map]
 have hnd:((ids.zip (b9 c us)).map (·.1)).Nodup:=by rw[zS (by omega)];exact BY
 have R9:∀s,(qC args s).oy=true:=λs=>by
  rcases vY (l:=args) (k:=s)with e|e
  ·rw[e];rfl
  exact List.all_eq_true.1 IZ _ e
 have oyB:∀x:AV,x.oy=true->(∀j,x.mb j->j=1000)/\∀j,¬x.mr j:=λx hx=>by
  cases x with
  |sv s=>exact⟨λj e=>e.elim,λj e=>e⟩
  |ptr k o=>exact⟨λj e=>by cases e;exact Nat.eq_of_beq_eq_true hx,λj e=>e⟩
  |cmp t js=>
   refine⟨λj e=>?_,λj e=>?_⟩
   ·exact Nat.eq_of_beq_eq_true (List.all_eq_true.1 hx _ e)
   exact Bool.false_ne_true (List.all_eq_true.1 hx _ e)
  |_=>exact(Bool.false_ne_true hx).elim
 have hall:c9 ⟨λ_=>β,kg (ids.zip (b9 c us)) (λ_=>.nilIface),λ_=>False,M⟩ args vs:=by
  refine hv.imp (λx hx v hh=>?_);exact AV.cE (E:=oe M β) (E':=⟨λ_=>β,kg (ids.zip (b9 c us)) (λ_=>.nilIface),λ_=>False,M⟩) (Mem.le_refl _) (λ_ _=>rfl) (λj hj=>absurd hj ((oyB x (List.all_eq_true.1 IZ x hx)).2 j)) hh
 have live:∀j R,(AS.BR n args [(1000,⟨T,cj ids c⟩)] (ids.zip (rowsOf c))).r j=.live R->(j,R)∈ids.zip (rowsOf c):=λj R hj=>by
  have hj:(match BP (ids.zip (rowsOf c)) j with|some R=>kz.live R|none=>.un)=.live R:=hj;cases e:BP (ids.zip (rowsOf c)) j with
  |none=>rw[e]at hj;cases hj
  |some R'=>rw[e]at hj;cases hj;exact zF e
 have isLive:∀j∈ids,(AS.BR n args [(1000,⟨T,cj ids c⟩)] (ids.zip (rowsOf c))).r j≠ .un:=λj hj=>by
  have key:∀(ids:List Nat) (Rs:List Row),ids.length=Rs.length->j∈ids->∃R,BP (ids.zip Rs) j=some R:=by
   intro ids
   induction ids with
   |nil=>intro _ _ h;cases h
   |cons k ids ih=>
    intro Rs hl hm;cases Rs with
    |nil=>simp at hl
    |cons R Rs=>
     rw[List.zip_cons_cons,BP];by_cases e:j=k
     ·subst e;exact⟨R,by simp⟩
     rw[cV e];rcases List.mem_cons.1 hm with q|q
     ·exact absurd q e
     exact ih Rs (by simpa using hl) q
  obtain⟨R,hR⟩:=key ids _ R8 hj;show(match BP (ids.zip (rowsOf c)) j with|some R=>kz.live R|none=>.un)≠ .un;rw[hR];simp
 have box:∀j B,(AS.BR n args [(1000,⟨T,cj ids c⟩)] (ids.zip (rowsOf c))).b j=some B->j=1000/\B=⟨T,cj ids c⟩:=λj B h=>by
  have:=oL h;simpa using this
 have Lz:(AS.BR n args [(1000,⟨T,cj ids c⟩)] (ids.zip (rowsOf c))).b 1000=some ⟨T,cj ids c⟩:=rfl
 exact{
  wf:=by
   refine⟨λs j hj=>?_,λs j hj=>?_,λi B hB x hx j hj=>?_,λi B hB x hx j hj=>?_⟩
   ·have:=(oyB _ (R9 s)).1 j hj;subst this;exact⟨_,Lz⟩
   ·exact absurd hj ((oyB _ (R9 s)).2 j)
   ·obtain⟨rfl,rfl⟩:=box i B hB;exact absurd hj ((oc x hx).1 j)
   obtain⟨rfl,rfl⟩:=box i B hB;exact isLive j ((oc x hx).2 j hj)
  marks:=⟨[],Y,List.nodup_nil,by simp⟩
  size:=by simp[AS.BR];omega
  os:=rfl
  tape:=rfl
  output:=rfl
  grown:=Nat.le_refl _
  frame:=λ_ _ _=>rfl
  m0:=Mem.le_refl _
  eC:=λ_ _ _ e=>.inl e
  c8:=hM
  tm:=λs=>Hp hall s
  bx:=λi B h=>by
   obtain⟨rfl,rfl⟩:=box i B h;refine⟨.inr (.inl Y),ho.nb,λh=>h,us,ho.hp,?_⟩;exact oa (w:=w) R8 ho.al (λj p hm=>iD (R:=p.1) (v:=p.2) hnd hm)
  inj:=λi j B1 B2 hi hj _=>by rw[(box i B1 hi).1,(box j B2 hj).1]
  rx:=λj R hj=>by
   obtain⟨v,hm⟩:=wU ho.al (live j R hj);have hν:kg (ids.zip (b9 c us)) (λ_=>Value.nilIface) j=v:=iD hnd hm;show(∃vs:List Value,w.ownsRow 0 R.E R.sz (kg (ids.zip (b9 c us)) (λ_=>.nilIface) j) R.n vs/\SV.dZ M R.cells vs)/\_;rw[hν];refine⟨kj ho.al (R,v) (iU hm).2,λg hg=>?_⟩;have hg:v.ownBlock=some g:=by rw[<-hν];exact hg
   have hb:eu c us g:=⟨(R,v),(iU hm).2,hg⟩;obtain⟨q1,q2⟩:=ho.nr g hb;refine⟨.inr (.inr hb),q2,λh=>h,λk B _ e=>q1 e.symm⟩
  fg:=λj j' R R' h1 h2 g e1 e2=>by
   obtain⟨v,hm⟩:=wU ho.al (live j R h1);obtain⟨v',hm'⟩:=wU ho.al (live j' R' h2);have hν:kg (ids.zip (b9 c us)) (λ_=>Value.nilIface) j=v:=iD hnd hm;have adr:kg (ids.zip (b9 c us)) (λ_=>Value.nilIface) j'=v':=iD hnd hm';exact ye BY ho.ap j R v j' R' v' g hm hm' (by rw[<-hν];exact e1) (by rw[<-adr];exact e2)
  gB:=λi b e=>by
   simp only[UF]at e;cases h:Nat.beq i 1000 with
   |false=>rw[h]at e;cases e
   |true=>rw[h]at e;cases e;rfl
  dX:=λi v e=>by cases e
  ko:=λb e=>e.elim
  jj:=trivial}
theorem Ba{P:Program}{f:FuncId}{fn:Func}{code:Code}{args:List AV}{T:TypeId}{c0 c1:List Oc}{res:SV}(ids:List Nat)(hf:P.funcs[f]? =some fn)(hb:fn.body=some code)(hn:args.length<=fn.ntmps)(IZ:args.all AV.oy=true)(BY:ids.Nodup)(R8:ids.length=(rowsOf c0).length)
  (h:∀(w:World) (M:Mem) (β:Nat) (us:List Value),Ok P (UF w M β c0 us) code (AS.BR fn.ntmps args [(1000,⟨T,cj ids c0⟩)] (ids.zip (rowsOf c0))) (λe S=>(e=.normal\/e=.ret)/\Lh P S fn.results.toList res/\∃ks:List Nat,S.b 1000=some ⟨T,cj ks c1⟩/\Lv S ks (rowsOf c1)/\ks.Nodup)):Pt P f args T c0 res c1:=by
 intro M w β vs us hM ho hv;refine gj Y hf hb (IY ids hM ho hv IZ hn BY R8) (h w M β us) ?_;rintro S' E a w' ⟨hr,ks,hB,hL,hk⟩ hh;obtain⟨v,hv,hx⟩:=(yY.sv hr).run hh;have hβ:E.β 1000=β:=hh.gB 1000 β Y;obtain⟨us',ho',jS⟩:=pY hh hB hL hk;rw[hβ]at ho';refine⟨v,hv,v,E.M,us',Y,hh.m0,λb o x e=>?_,hh.c8,hx,ho',λg hg=>?_,hh.os,hh.tape,hh.output,hh.grown,λk hk hne hno=>hh.frame k hk (λe=>e.elim hne hno)⟩
 ·rcases hh.eC b o x e with q|q|q|q
  ·exact .inl q
  ·exact .inr (.inl q)
  ·rw[show b=β from q,ho'.nb o]at e;cases e
  exact .inr (.inr q)
 obtain⟨j,hj,yB⟩:=(jS g).1 hg;obtain⟨R,hR⟩:=hL.mem j hj;obtain⟨_,q⟩:=hh.rx j R hR;rcases(q g yB).1 with q1|q1|q1
 ·exact .inr q1
 ·exact absurd q1 (ho'.nr g hg).1
 exact .inl q1
end
section
open Go.RowKit
def Un(S:AS):List Nat->Prop
 |[]=>True
 |k::ks=>(S.r k=.un/\k<1000)/\Un S ks
theorem Un.mem{S:AS}:∀{ks:List Nat},Un S ks->∀k∈ks,S.r k=.un/\k<1000
 |k::ks,h,j,hj=>by
  rcases List.mem_cons.1 hj with rfl|hj
  ·exact h.1
  exact Un.mem h.2 j hj
 |[],_,j,hj=>by cases hj
theorem Un.congr{S S':AS}:∀{ks:List Nat},(∀k∈ks,S'.r k=S.r k)->Un S ks->Un S' ks
 |[],_,_=>trivial
 |k::ks,h,hu=>⟨by rw[h k (by simp)];exact hu.1,Un.congr (λj hj=>h j (List.mem_cons_of_mem _ hj)) hu.2⟩
theorem Lv.congr{S S':AS}:∀{js:List Nat} {Rs:List Row},(∀k∈js,S'.r k=S.r k)->Lv S js Rs->Lv S' js Rs
 |[],[],_,_=>trivial
 |j::js,R::Rs,h,hl=>⟨by rw[h j (by simp)];exact hl.1,Lv.congr (λk hk=>h k (List.mem_cons_of_mem _ hk)) hl.2⟩
 |[],_::_,_,h=>h.elim
 |_::_,[],_,h=>h.elim
def wV(js ks:List Nat)(c:List Oc):List (Nat×kz):=js.map (λj=>(j,kz.dead))++(ks.zip (rowsOf c)).map (λp=>(p.1,.live p.2))
theorem Gg:∀(ks:List Nat) (l:List (Row×Value)),(ks.zip l).map (λn=>(n.1,kz.live n.2.1))=(ks.zip (l.map (·.1))).map (λp=>(p.1,.live p.2))
 |[],_=>rfl
 |_::_,[]=>rfl
 |k::ks,p::l=>by rw[List.map_cons,List.zip_cons_cons,List.zip_cons_cons,List.map_cons,List.map_cons,Gg ks l]
theorem Gh{M:Mem}{w:World}{c:List Oc}{us:List Value}(h:oV M w c us)(js ks:List Nat):wS js (ks.zip (b9 c us))=wV js ks c:=by
 unfold wS wV;rw[Gg,iq h]
section steps
variable {P:Program}{C:Ctx}{ops:Array Oper}{S:AS}{nd:Bool}{K:List Ac->AS->Prop}{rest:List Oper}{acc:List Ac}
variable {gd:Option (Nat×Bool)}{rg:List Nat}{d:Nat}{ty:TypeId}{pos:String}{aft:Array Edge}{x y z:Operand}{T U E0:TypeId}
theorem bn.Pu{E:Env}{a:Act}{w w':World}(h:bn C S E a w){i:Nat}{js ks:List Nat}{c0 c1:List Oc}{us us':List Value}{M':Mem}(hB:S.b i=some ⟨T,cj js c0⟩)(hL:Lv S js (rowsOf c0))(hks:ks.Nodup)(B3:ks.length=(rowsOf c1).length)(Pw:Un S ks)
  (Bb:∀g,eu c0 us g↔∃j∈js,(E.ν j).ownBlock=some g) (hM:E.M.le M') (hn:∀b o x,M' b o=some x->E.M b o=some x\/w.heap.size<=b\/eu c0 us b) (hin:M'.c8 w') (ho:oW M' w' (E.β i) T c1 us') (hg:∀g,eu c1 us' g->eu c0 us g\/w.heap.size<=g)
  (hos:w'.os=w.os) (pX:w'.tape=w.tape) (hout:w'.output=w.output) (hsize:w.heap.size<=w'.heap.size) (jS:∀k,k<w.heap.size->k≠E.β i->¬eu c0 us k->w'.heap[k]? =w.heap[k]?):
  ∃E':Env,E'.M=M'/\E'.β=E.β/\bn C (AS.bY (wV js ks c1) (AS.fj [(i,⟨T,cj ks c1⟩)] S)) E' a w':=by
 have Wi:(b9 c1 us').length=(rowsOf c1).length:=by rw[<-iq ho.al,List.length_map]
 have hnd:((ks.zip (b9 c1 us')).map (·.1)).Nodup:=by rw[zS (by omega)];exact hks
 rw[<-Gh ho.al js ks];refine⟨{E with M:=M',ν:=kg (ks.zip (b9 c1 us')) E.ν},Y,Y,h.Ya hB js (ks.zip (b9 c1 us')) (λj hj=>hL.mem j hj) (λk R v hm=>Pw.mem k (iU hm).1) hnd hM (λb o x e=>?_) hin ho.hp ho.nb ?_ (λx hx=>?_) (λk R v hm=>?_) (ye hks ho.ap) hos pX hout hsize (λk hk hne hno=>jS k hk hne (λq=>?_))⟩
 ·rcases hn b o x e with q|q|q
  ·exact .inl q
  ·exact .inr (.inl q)
  exact .inr (.inr ((Bb b).1 q))
 ·exact oa (E:={E with M:=M',ν:=kg (ks.zip (b9 c1 us')) E.ν}) (w:=w') B3 ho.al (λj p hm=>iD (R:=p.1) (v:=p.2) hnd hm)
 ·obtain⟨q1,q2⟩:=oc x hx;refine⟨q1,λj hj=>?_⟩;have hj:=q2 j hj;have key:∀(ks:List Nat) (l:List (Row×Value)),ks.length=l.length->j∈ks->∃R v,(j,R,v)∈ks.zip l:=by
   intro ks
   induction ks with
   |nil=>intro _ _ h;cases h
   |cons k ks ih=>
    intro l hl hm;cases l with
    |nil=>simp at hl
    |cons p l=>
     rw[List.zip_cons_cons];rcases List.mem_cons.1 hm with q|q
     ·subst q;exact⟨p.1,p.2,by simp⟩
     obtain⟨R,v,h⟩:=ih l (by simpa using hl) q;exact⟨R,v,List.mem_cons_of_mem _ h⟩
  exact key ks _ (by omega) hj
 ·refine⟨kj ho.al (R,v) (iU hm).2,λg EF=>?_⟩;have hb:eu c1 us' g:=⟨(R,v),(iU hm).2,EF⟩;obtain⟨q1,q2⟩:=ho.nr g hb;refine⟨?_,q2,q1⟩;rcases hg g hb with q|q
  ·exact .inl ((Bb g).1 q)
  exact .inr q
 obtain⟨j,hj,e⟩:=(Bb k).1 q;exact hno j hj e
theorem RT.I0(hg:Gd ops S gd rg){f:FuncId}[dw P f]{g:Operand}{xs:Array Operand}{at_:Array TypeId}{args:List AV}{T:TypeId}{c0 c1:List Oc}{res:SV}(hp:Pt P f args T c0 res c1)(i:Nat)(js ks:List Nat)(hB:S.b i=some ⟨T,cj js c0⟩)(hL:Lv S js (rowsOf c0))(Sa:js.Nodup)(hks:ks.Nodup)(B3:ks.length=(rowsOf c1).length)(Pw:Un S ks)
  (IZ:args.all AV.oy=true) (hf:S.ev g=.sv (.v (.func (.func f) #[] #[]))) (hargs:uX S xs.toList (args.map (AV.R7 i))) (hd:d<S.n)
  (next:RunT P C ops nd K rest (⟨rg++(aZ g++xs.toList.flatMap aZ),[i],js++ks,⟨some (d,.sv res),[(i,⟨T,cj ks c1⟩)],wV js ks c1⟩⟩::acc) ((AS.bY (wV js ks c1) (AS.fj [(i,⟨T,cj ks c1⟩)] S)).set d (.sv res))):RunT P C ops nd K (⟨some d,.call ⟨.value g,xs,at_⟩,ty,pos,aft,gd⟩::rest) acc S:=by
 refine .inl ⟨_,[i],js++ks,_,?_,next⟩;rintro S' hn ht hb hr k a w L Q ho ⟨E,h⟩ Yg;refine cx (C:=C) ho (hg.wanted h (λs hs=>ht s (List.mem_append_left _ hs)) Y) ?_;have rT:a.eval g=.func (.func f) #[] ⟨[]⟩:=by
  have h1:=h.ev g;rw[bz (λ_ h=>List.mem_append_right _ (List.mem_append_left _ h)) ht,hf]at h1;exact h1
 have hall:=zT IZ (uX.vals h hargs (λs hs=>ht s (List.mem_append_right _ (List.mem_append_right _ hs))));have fk:S'.b i=some ⟨T,cj js c0⟩:=by rw[hb i (by simp)];exact hB
 have Sb:Lv S' js (rowsOf c0):=hL.congr (λk hk=>hr k (List.mem_append_left _ hk));have ads:Un S' ks:=Pw.congr (λk hk=>hr k (List.mem_append_right _ hk));obtain⟨us,Px,Bb⟩:=pY h fk Sb Sa;refine cq (C:=C) (by intro c h;cases h) (mh rT) ?_;rw[List.append_nil];refine⟨λh=>by simp at h,gh ((hp E.M w (E.β i) _ us h.c8 Px hall).mono ?_)⟩;rintro e w' ⟨v,M',us',rfl,hM,hnew,hin,hv,IT,OD,hos,pX,hout,hsize,jS⟩;obtain⟨E',e1,e2,h1⟩:=h.Pu fk Sb hks B3 ads Bb hM hnew hin IT OD hos pX hout hsize jS;refine Yg _ _ ⟨_,h1.put (x:=.sv res) (v:=v) (by show res.h E'.M v;rw[e1];exact hv) ?_ eU⟩;rw[(eJ _ _).1];show d<S'.n;omega
theorem RT.ey(hg:Gd ops S gd rg){i o:Nat}(hx:S.ev x=.ptr i o)(hd:d<S.n)
  (next:RunT P C ops nd K rest (⟨rg++aZ x,[],[],⟨some (d,.ptr i o),[],[]⟩⟩::acc) (S.set d (.ptr i o))):RunT P C ops nd K (⟨some d,.nilCheck x,ty,pos,aft,gd⟩::rest) acc S:=
 RT.value hg (aZ x) [] [] (.ptr i o) hd (by intro c h;cases h) (λS' ht _ _ E a w h=>by
  have hx':S'.ev x=.ptr i o:=by rw[bz (λ_ h=>h) ht,hx]
  have h1:=h.ev x;rw[hx']at h1;have h2:a.eval x=.pointer (some ⟨E.β i,o,none⟩):=h1;exact⟨a.eval x,by simp[execOp,h2],h1,kD h.wf hx'⟩) next
class MH (P:Program) (T:TypeId):Prop where
 u:P.underlying T=some (.pointer (P.pointee T))
theorem RT.MI(hg:Gd ops S gd rg)[tT:MH P T]{i o:Nat}(hx:S.ev x=.ptr i o)(hy:S.ev y=.sv (.v (.pointer none)))(hd:d<S.n)
  (next:RunT P C ops nd K rest (⟨rg++(aZ x++aZ y),[],[],⟨some (d,.sv (.v (.bool false))),[],[]⟩⟩::acc) (S.set d (.sv (.v (.bool false))))):RunT P C ops nd K (⟨some d,.binOp .eql T x y U,ty,pos,aft,gd⟩::rest) acc S:=
 RT.value hg (aZ x++aZ y) [] [] (.sv (.v (.bool false))) hd (by intro c h;cases h) (λS' ht _ _ E a w h=>by
  have h1:=h.ev x;rw[bz (λ_ h=>List.mem_append_left _ h) ht,hx]at h1;have h2:=h.ev y;rw[bz (λ_ h=>List.mem_append_right _ h) ht,hy]at h2;have h1:a.eval x=.pointer (some ⟨E.β i,o,none⟩):=h1;have h2:a.eval y=.pointer none:=h2;have e:=run_eql_pointer_nil (P:=P) w T (some ⟨E.β i,o,none⟩) tT.u;refine⟨.bool false,?_,Y,eU⟩;simp[execOp,h1,h2,eqGuard,e]) next
def Fc.av:Fc->AV
 |.val s=>.sv s
 |.box i=>.ptr i 0
 |.row i=>.row i
theorem RT.wW(hg:Gd ops S gd rg){i:Nat}{js:List Fc}{s:Fc}(hx:S.ev x=.cmp .yu js)(hi:js[i]? =some s)(hd:d<S.n)
  (next:RunT P C ops nd K rest (⟨rg++aZ x,[],[],⟨some (d,s.av),[],[]⟩⟩::acc) (S.set d s.av)):RunT P C ops nd K (⟨some d,.extract x i,ty,pos,aft,gd⟩::rest) acc S:=
 RT.value hg (aZ x) [] [] s.av hd (by intro c h;cases h) (λS' ht _ _ E a w h=>by
  have hx':S'.ev x=.cmp .yu js:=by rw[bz (λ_ h=>h) ht,hx]
  have h1:=h.ev x;rw[hx']at h1;obtain⟨l1,l2⟩:=kD h.wf hx';obtain⟨vs,hv,hall⟩:=h1;have hv:a.eval x=.tuple ⟨vs⟩:=hv;obtain⟨u,hu,hs⟩:=hall.get hi;have hm:=List.mem_of_getElem? hi;refine⟨u,by simp[execOp,hv,Instr.extract,hu],?_,λj e=>?_,λj e=>?_⟩
  ·cases s<;>exact hs
  ·cases s with
   |val s=>exact e.elim
   |box k=>have e:j=k:=e;subst e;exact l1 j hm
   |row k=>exact e.elim
  cases s with
  |val s=>exact e.elim
  |box k=>exact e.elim
  |row k=>have e:j=k:=e;subst e;exact l2 j hm) next
def adt(tp:Bool)(p:Value)(rs:List Value):Value:=bif tp then .tuple ⟨p::rs⟩else p
def Kk(P:Program)(f:FuncId)(args:List SV)(tp:Bool)(rest:List SV)(T:TypeId)(c:List Oc):Prop:=
 ∀(M:Mem) (w:World) (vs:List Value),M.c8 w->SV.dZ M args vs->
  Calls P f ⟨vs⟩ w λe w'=>∃β rs M' us,e=.returned (adt tp (.pointer (some ⟨β,0,none⟩)) rs)/\M.le M'/\(∀b o x,M' b o=some x->M b o=some x\/w.heap.size<=b)/\M'.c8 w'/\SV.dZ M' rest rs/\
   oW M' w' β T c us/\w.heap.size<=β/\(∀g,eu c us g->w.heap.size<=g)/\Below w.heap.size w w'
theorem Gi{w:World}{M:Mem}{S':AS}{E:Env}{a:Act}{w':World}{k:Nat}{ks:List Nat}{c:List Oc}(hB:S'.b k=some ⟨T,cj ks c⟩)(hL:Lv S' ks (rowsOf c))(hk:ks.Nodup)(hh:bn (ES w M) S' E a w'):
  ∃us,M.le E.M/\(∀b o x,E.M b o=some x->M b o=some x\/w.heap.size<=b)/\E.M.c8 w'/\oW E.M w' (E.β k) T c us/\w.heap.size<=E.β k/\(∀g,eu c us g->w.heap.size<=g)/\Below w.heap.size w w':=by
 obtain⟨us,ho,jS⟩:=pY hh hB hL hk;refine⟨us,hh.m0,λb o x e=>?_,hh.c8,ho,(hh.bx k _ hB).1.elim id (λh=>h.elim),λg hg=>?_,hh.os,hh.tape,hh.output,hh.grown,λk hk=>hh.frame k hk (λh=>h)⟩
 ·rcases hh.eC b o x e with h|h|h
  ·exact .inl h
  ·exact .inr h
  exact h.elim
 obtain⟨j,hj,yB⟩:=(jS g).1 hg;obtain⟨R,hR⟩:=hL.mem j hj;exact((hh.rx j R hR).2 g yB).1.elim id (λh=>h.elim)
theorem Gj{f:FuncId}{fn:Func}{code:Code}{args:List SV}{c:List Oc}(hf:P.funcs[f]? =some fn)(hb:fn.body=some code)(hn:args.length<=fn.ntmps)
  (h:∀(w:World) (M:Mem) (vs:List Value),SV.dZ M args vs->Ok P (ES w M) code (AS.init fn.ntmps args) (λe S=>(e=.normal\/e=.ret)/\∃(k:Nat) (ks:List Nat),yY P S fn.results.toList (.ptr k 0)/\S.b k=some ⟨T,cj ks c⟩/\Lv S ks (rowsOf c)/\ks.Nodup)):Kk P f args false [] T c:=by
 intro M w vs hM hvs;refine gj Y hf hb (jR hM hvs hn) (h w M vs hvs) ?_;rintro S' E a w' ⟨k,ks,hr,hB,hL,hk⟩ hh;obtain⟨v,hv,hx⟩:=hr.run hh;obtain rfl:v=.pointer (some ⟨E.β k,0,none⟩):=hx;obtain⟨us,q1,q2,q3,q4,q5,q6,q7⟩:=Gi hB hL hk hh;exact⟨_,hv,E.β k,[],E.M,us,Y,q1,q2,q3,aq,q4,q5,q6,q7⟩
theorem Gk{f:FuncId}{fn:Func}{code:Code}{args:List SV}{s:SV}{c:List Oc}{t1 t2:Nat}(hf:P.funcs[f]? =some fn)(hb:fn.body=some code)(hn:args.length<=fn.ntmps)(hres:fn.results=#[.tmp t1,.tmp t2])
  (h:∀(w:World) (M:Mem) (vs:List Value),SV.dZ M args vs->Ok P (ES w M) code (AS.init fn.ntmps args) (λe S=>(e=.normal\/e=.ret)/\∃(k:Nat) (ks:List Nat),S.t t1=.ptr k 0/\S.t t2=.sv s/\S.b k=some ⟨T,cj ks c⟩/\Lv S ks (rowsOf c)/\ks.Nodup)):Kk P f args true [s] T c:=by
 intro M w vs hM hvs;refine gj Y hf hb (jR hM hvs hn) (h w M vs hvs) ?_;rintro S' E a w' ⟨k,ks,UG,Yh,hB,hL,hk⟩ hh;have h1:=hh.tm t1;rw[UG]at h1;have h1:a.tmps.getD t1 undef=.pointer (some ⟨E.β k,0,none⟩):=h1;have h2:=hh.tm t2;rw[Yh]at h2;obtain⟨us,q1,q2,q3,q4,q5,q6,q7⟩:=Gi hB hL hk hh;refine⟨.tuple #[.pointer (some ⟨E.β k,0,none⟩),a.tmps.getD t2 undef],?_,E.β k,[a.tmps.getD t2 undef],E.M,us,Y,q1,q2,q3,⟨h2,aq⟩,q4,q5,q6,q7⟩;rw[Array.getD_eq_getD_getElem?]at h1;simp[results,hres,h1]
theorem bn.I1{a:Act}{w:World}:∀(ks:List Nat) (l:List (Row×Value)) {S:AS} {E:Env},bn C S E a w->ks.length=l.length->ks.Nodup->Un S ks->(∀p∈l,∃vs:List Value,w.ownsRow 0 p.1.E p.1.sz p.2 p.1.n vs/\SV.dZ E.M p.1.cells vs)->IX l->(∀p∈l,∀g,p.2.ownBlock=some g->JP C S E g)->
  ∃E':Env,E'.M=E.M/\E'.β=E.β/\E'.O=E.O/\(∀i p,(i,p)∈ks.zip l->E'.ν i=p.2)/\(∀i,i∉ks->E'.ν i=E.ν i)/\bn C (AS.bY ((ks.zip l).map (λn=>(n.1,.live n.2.1))) S) E' a w
 |[],[],S,E,h,_,_,_,_,_,_=>⟨E,Y,Y,Y,λi p hm=>(by simp at hm),λ_ _=>Y,h⟩
 |k::ks,p::l,S,E,h,hl,hn,hu,ho,ha,hf=>by
  obtain⟨R,v⟩:=p;rw[List.nodup_cons]at hn;obtain⟨ZV,ha2⟩:=List.pairwise_cons.1 ha;obtain⟨vs,Px,IT⟩:=ho (R,v) (by simp);have h1:=h.Dp hu.1.1 hu.1.2 [] none (.inl ⟨Y,Y⟩) (R':=R) Px IT (λg hg=>.inr (hf (R,v) (by simp) g hg)) (qE w none);have hu':Un (AS.bY ([]++[(k,.live R)]) S) ks:=hu.2.congr (λj hj=>by
   show(AS.o7 S k _).r j=_;exact AS.jP _ _ _ _ (λe=>hn.1 (e▸hj)))
  obtain⟨E',q1,q2,q3,q4,q5,q6⟩:=bn.I1 ks l h1 (by simpa using hl) hn.2 hu' (λp hp=>ho p (List.mem_cons_of_mem _ hp)) ha2 (λp hp g hg=>by
   obtain⟨f1,f2,f3,f4,f5⟩:=hf p (List.mem_cons_of_mem _ hp) g hg;refine⟨f1,f2,f3,f4,λj R' nI e=>?_⟩;have nI:(AS.o7 S k (.live R)).r j=.live R':=nI;by_cases ej:j=k
   ·subst ej;have e:(if j=j then v else E.ν j).ownBlock=some g:=e;rw[if_pos rfl]at e;exact ZV p hp g e hg
   rw[AS.jP _ _ _ _ ej]at nI;have e:(if j=k then v else E.ν j).ownBlock=some g:=e;rw[if_neg ej]at e;exact f5 j R' nI e)
  refine⟨E',q1,q2,q3,λi p hm=>?_,λi hi=>?_,q6⟩
  ·rw[List.zip_cons_cons]at hm;rcases List.mem_cons.1 hm with e|e
   ·cases e;rw[q5 k hn.1];show(if k=k then v else E.ν k)=v;rw[if_pos rfl]
   exact q4 i p e
  rw[q5 i (λhm=>hi (List.mem_cons_of_mem _ hm))];show(if i=k then v else E.ν i)=E.ν i;rw[if_neg (λe=>hi (by rw[e];simp))]
 |[],_::_,_,_,_,hl,_,_,_,_,_=>by simp at hl
 |_::_,[],_,_,_,hl,_,_,_,_,_=>by simp at hl
theorem Bc(i:Nat)(B:nL):∀(l:List (Nat×kz)) (S:AS),AS.bY l (S.jt i B)=(AS.bY l S).jt i B
 |[],_=>rfl
 |(j,R)::l,S=>Bc i B l (S.o7 j R)
theorem sW{α β:Type}:∀{l:List α} {k:List β} {a:α},l.length=k.length->a∈l->∃b,(a,b)∈l.zip k
 |a::l,c::k,b,h,hb=>by
  rcases List.mem_cons.1 hb with rfl|hb
  ·exact⟨c,by rw[List.zip_cons_cons];simp⟩
  obtain⟨a',h'⟩:=sW (l:=l) (k:=k) (by simpa using h) hb;exact⟨a',by rw[List.zip_cons_cons];exact List.mem_cons_of_mem _ h'⟩
 |[],_,_,_,hb=>by cases hb
 |_::_,[],_,h,_=>by simp at h
theorem bn.newObj{E:Env}{a:Act}{w w':World}(h:bn C S E a w){i:Nat}(hi:S.b i=none)(hp:C.gB i=none){ks:List Nat}{c:List Oc}{us:List Value}{M':Mem}{β:Nat}(hks:ks.Nodup)(B3:ks.length=(rowsOf c).length)(Pw:Un S ks)
  (hM:E.M.le M') (hn:∀b o x,M' b o=some x->E.M b o=some x\/w.heap.size<=b) (hin:M'.c8 w') (ho:oW M' w' β T c us) (hβ:w.heap.size<=β) (hg:∀g,eu c us g->w.heap.size<=g) (OW:Below w.heap.size w w'):
  ∃E':Env,E'.M=M'/\E'.β i=β/\bn C (AS.bY (wV [] ks c) (AS.fj [(i,⟨T,cj ks c⟩)] S)) E' a w':=by
 have Wi:(b9 c us).length=(rowsOf c).length:=by rw[<-iq ho.al,List.length_map]
 have h0:=h.grow hM hn hin OW;obtain⟨E1,q1,q2,q3,q4,q5,h1⟩:=bn.I1 ks (b9 c us) h0 (by omega) hks Pw (kj ho.al) ho.ap (λp hp g EF=>h.zH (hg g ⟨p,hp,EF⟩) (ho.nr g ⟨p,hp,EF⟩).2);have hS1:AS.bY ((ks.zip (b9 c us)).map (λn=>(n.1,.live n.2.1))) S=AS.bY (wV [] ks c) S:=by rw[<-Gh ho.al [] ks];rfl
 rw[hS1]at h1;obtain⟨f1,f2,f3,f4,f5⟩:=h.zH (M':=M') hβ ho.nb;have hi1:(AS.bY (wV [] ks c) S).b i=none:=by rw[(eJ _ _).2.2.1];exact hi
 have hfree:JP C (AS.bY (wV [] ks c) S) E1 β:=by
  refine⟨f1,by rw[q1];exact f2,by rw[q3];exact f3,λj B hB=>?_,λj R hR e=>?_⟩
  ·rw[(eJ _ _).2.2.1]at hB;rw[q2];exact f4 j B hB
  by_cases hj:j∈ks
  ·obtain⟨p,hm⟩:=sW (l:=ks) (k:=b9 c us) (by omega) hj;rw[q4 j p hm]at e;exact(ho.nr β ⟨p,(iU hm).2,e⟩).1 Y
  rw[jN,vA (λR hm=>by
   obtain⟨x,hx,e⟩:=List.mem_map.1 (show(j,R)∈(ks.zip (rowsOf c)).map (λp=>(p.1,kz.live p.2))from hm);obtain⟨k,R2⟩:=x;have e:k=j:=congrArg Prod.fst e;exact hj (e▸(iU hx).1))]at hR
  rw[q5 j hj]at e;exact f5 j R hR e
 have h2:=h1.II hi1 hp hfree ho.hp (oa (w:=w') B3 (by rw[q1];exact ho.al) q4) (λx hx=>by
  obtain⟨p1,p2⟩:=oc x hx;refine⟨λj e=>absurd e (p1 j),λj e=>?_⟩;obtain⟨R,hm⟩:=sW (l:=ks) (k:=rowsOf c) B3 (p2 j e);obtain⟨R',nI⟩:=A9 (l:=wV [] ks c) (j:=j) (R:=.live R) (List.mem_map.2 ⟨(j,R),hm,Y⟩);rw[jN,nI];obtain⟨x,hx,e⟩:=List.mem_map.1 (show(j,R')∈(ks.zip (rowsOf c)).map (λp=>(p.1,kz.live p.2))from vB nI);rw[<-show kz.live x.2=R' from congrArg Prod.snd e];simp)
 refine⟨{E1 with β:=λj=>if j=i then β else E1.β j},q1,?_,?_⟩
 rotate_left 1
 ·rw[show AS.fj [(i,(⟨T,cj ks c⟩:nL))] S=S.jt i ⟨T,cj ks c⟩from Y,Bc];exact h2
 show(if i=i then β else E1.β i)=β;rw[if_pos rfl]
theorem RT.MJ(hg:Gd ops S gd rg){f:FuncId}[dw P f]{g:Operand}{xs:Array Operand}{at_:Array TypeId}{args:List SV}{T:TypeId}{c:List Oc}(hp:Kk P f args false [] T c)(ks:List Nat)(hks:ks.Nodup)(B3:ks.length=(rowsOf c).length)(Pw:Un S ks)(hf:S.ev g=.sv (.v (.func (.func f) #[] #[])))(hargs:ga S xs.toList args)(hd:d<S.n)(hdb:S.b d=none)(Hs:C.gB d=none)
  (next:RunT P C ops nd K rest (⟨rg++(aZ g++xs.toList.flatMap aZ),[d],ks,⟨some (d,.ptr d 0),[(d,⟨T,cj ks c⟩)],wV [] ks c⟩⟩::acc) ((AS.bY (wV [] ks c) (AS.fj [(d,⟨T,cj ks c⟩)] S)).set d (.ptr d 0))):RunT P C ops nd K (⟨some d,.call ⟨.value g,xs,at_⟩,ty,pos,aft,gd⟩::rest) acc S:=by
 refine .inl ⟨_,[d],ks,_,?_,next⟩;rintro S' hn ht hb hr i a w L Q ho ⟨E,h⟩ hL;refine cx (C:=C) ho (hg.wanted h (λs hs=>ht s (List.mem_append_left _ hs)) Y) ?_;have rT:a.eval g=.func (.func f) #[] ⟨[]⟩:=by
  have h1:=h.ev g;rw[bz (λ_ h=>List.mem_append_right _ (List.mem_append_left _ h)) ht,hf]at h1;exact h1
 have hall:=ga.vals h hargs (λs hs=>ht s (List.mem_append_right _ (List.mem_append_right _ hs)));have hdn:S'.b d=none:=by rw[hb d (by simp)];exact hdb
 refine cq (C:=C) (by intro c h;cases h) (mh rT) ?_;rw[List.append_nil];refine⟨λh=>by simp at h,gh ((hp E.M w _ h.c8 hall).mono ?_)⟩;rintro e w' ⟨β,rs,M',us,rfl,hM,hnew,hin,Wj,IT,hβ,OD,OW⟩;obtain⟨E',e1,e2,h1⟩:=h.newObj hdn Hs hks B3 (Pw.congr hr) hM hnew hin IT hβ OD OW;refine hL _ _ ⟨_,h1.put (x:=.ptr d 0) (v:=.pointer (some ⟨β,0,none⟩)) (by show _=Value.pointer (some ⟨E'.β d,0,none⟩);rw[e2]) ?_ ⟨λj e=>?_,λj e=>e.elim⟩⟩
 ·rw[(eJ _ _).1];show d<S'.n;omega
 have e:j=d:=e;subst e;rw[(eJ _ _).2.2.1];exact⟨_,AS.cO _ _ _⟩
theorem RT.I2(hg:Gd ops S gd rg){f:FuncId}[dw P f]{g:Operand}{xs:Array Operand}{at_:Array TypeId}{args:List SV}{T:TypeId}{c:List Oc}{s:SV}(hp:Kk P f args true [s] T c)(ks:List Nat)(hks:ks.Nodup)(B3:ks.length=(rowsOf c).length)(Pw:Un S ks)(hf:S.ev g=.sv (.v (.func (.func f) #[] #[])))(hargs:ga S xs.toList args)(hd:d<S.n)(hdb:S.b d=none)(Hs:C.gB d=none)
  (next:RunT P C ops nd K rest (⟨rg++(aZ g++xs.toList.flatMap aZ),[d],ks,⟨some (d,.cmp .yu [.box d,.val s]),[(d,⟨T,cj ks c⟩)],wV [] ks c⟩⟩::acc) ((AS.bY (wV [] ks c) (AS.fj [(d,⟨T,cj ks c⟩)] S)).set d (.cmp .yu [.box d,.val s]))):RunT P C ops nd K (⟨some d,.call ⟨.value g,xs,at_⟩,ty,pos,aft,gd⟩::rest) acc S:=by
 refine .inl ⟨_,[d],ks,_,?_,next⟩;rintro S' hn ht hb hr i a w L Q ho ⟨E,h⟩ hL;refine cx (C:=C) ho (hg.wanted h (λs hs=>ht s (List.mem_append_left _ hs)) Y) ?_;have rT:a.eval g=.func (.func f) #[] ⟨[]⟩:=by
  have h1:=h.ev g;rw[bz (λ_ h=>List.mem_append_right _ (List.mem_append_left _ h)) ht,hf]at h1;exact h1
 have hall:=ga.vals h hargs (λs hs=>ht s (List.mem_append_right _ (List.mem_append_right _ hs)));have hdn:S'.b d=none:=by rw[hb d (by simp)];exact hdb
 refine cq (C:=C) (by intro c h;cases h) (mh rT) ?_;rw[List.append_nil];refine⟨λh=>by simp at h,gh ((hp E.M w _ h.c8 hall).mono ?_)⟩;rintro e w' ⟨β,rs,M',us,rfl,hM,hnew,hin,Wj,IT,hβ,OD,OW⟩;obtain⟨E',e1,e2,h1⟩:=h.newObj hdn Hs hks B3 (Pw.congr hr) hM hnew hin IT hβ OD OW
 match rs,Wj with
 |[r],Wj=>
  refine hL _ _ ⟨_,h1.put (x:=.cmp .yu [.box d,.val s]) (v:=.tuple #[.pointer (some ⟨β,0,none⟩),r]) ⟨[.pointer (some ⟨β,0,none⟩),r],Y,by show _=Value.pointer (some ⟨E'.β d,0,none⟩);rw[e2],by show s.h E'.M r;rw[e1];exact Wj.1,aq⟩ ?_ ⟨λj e=>?_,λj e=>?_⟩⟩
  ·rw[(eJ _ _).1];show d<S'.n;omega
  ·have e:j=d:=by simpa[AV.mb]using e
   subst e;rw[(eJ _ _).2.2.1];exact⟨_,AS.cO _ _ _⟩
  simp[AV.mr]at e
end steps
end
section
open Go.RowKit
def Bd(P:Program)(f:FuncId)(args:List AV)(T:TypeId)(c:List Oc)(res:SV):Prop:=
 ∀(M:Mem) (w:World) (β:Nat) (vs us:List Value),M.c8 w->oW M w β T c us->c9 (oe M β) args vs->
  Calls P f ⟨vs⟩ w λe w'=>∃v M',e=.returned v/\M.le M'/\(∀b o x,M' b o=some x->M b o=some x\/w.heap.size<=b)/\M'.c8 w'/\res.h M' v/\
   oW M' w' β T c us/\w'.os=w.os/\w'.tape=w.tape/\w'.output=w.output/\w.heap.size<=w'.heap.size/\∀k,k<w.heap.size->k≠β->¬eu c us k->w'.heap[k]? =w.heap[k]?
def Wk:List (Nat×Row×Value)->Nat->Option Value
 |[],_=>none
 |(k,_,v)::l,j=>if j=k then some v else Wk l j
theorem D6:∀{l:List (Nat×Row×Value)} {j:Nat} {v:Value},Wk l j=some v->∃R,(j,R,v)∈l
 |(k,R,u)::l,j,v,h=>by
  rw[Wk]at h;by_cases e:j=k
  ·rw[if_pos e]at h;cases h;subst e;exact⟨R,by simp⟩
  rw[if_neg e]at h;obtain⟨R',hm⟩:=D6 h;exact⟨R',List.mem_cons_of_mem _ hm⟩
 |[],_,_,h=>by cases h
theorem MK:∀{l:List (Nat×Row×Value)} {j:Nat} {R:Row} {v:Value},(l.map (·.1)).Nodup->(j,R,v)∈l->Wk l j=some v
 |(k,R',v')::l,j,R,v,hn,h=>by
  rw[List.map_cons,List.nodup_cons]at hn;rw[Wk];rcases List.mem_cons.1 h with e|e
  ·cases e;rw[if_pos rfl]
  have:j≠k:=λq=>hn.1 (List.mem_map.2 ⟨(j,R,v),e,q⟩);rw[if_neg this];exact MK hn.2 e
theorem UH{ids:List Nat}(h:(ids.all λi=>Nat.ble 1000 i)=true):∀i∈ids,1000<=i:=λi hi=>af (List.all_eq_true.1 h i hi)
def Py(w:World)(M:Mem)(β:Nat)(c:List Oc)(us:List Value)(ids:List Nat)(BY:(ids.all λi=>Nat.ble 1000 i)=true):Ctx:={w0:=w,M0:=M,own:=λk=>k=β\/eu c us k,tD:=λk=>k=β\/eu c us k,gB:=λi=>bif Nat.beq i 1000 then some β else none,dX:=Wk (ids.zip (b9 c us)),ro:=none,J:=λ_ _ _ _ _=>True,BV:=λ_ h=>h,JM:=λ_ _ h=>(by obtain⟨R,hm⟩:=D6 h;exact UH BY _ (iU hm).1),jf:=λ_ _ _ _ _ _ _ _ _ _ _ _ _ _ _ _=>trivial}
def Oc.cst:Oc->Prop
 |.s x=>∃v,x=.v v
 |.r _=>True
def D7:List Oc->Prop
 |[]=>True
 |c::l=>c.cst/\D7 l
theorem D8{M M':Mem}{w w':World}:∀{c:List Oc} {us us':List Value},D7 c->oV M w c us->oV M' w' c us'->b9 c us=b9 c us'->us=us'
 |[],[],[],_,_,_,_=>rfl
 |.s x::l,v::vs,v'::vs',hc,h,h',e=>by
  obtain⟨y,rfl⟩:=hc.1;have e1:v=y:=h.1;have e2:v'=y:=h'.1;rw[e1,e2,D8 hc.2 h.2 h'.2 e]
 |.r R::l,v::vs,v'::vs',hc,h,h',e=>by
  rw[b9,b9]at e;have e1:=(List.cons.inj e).1;have e2:=(List.cons.inj e).2;rw[D8 hc.2 h.2 h'.2 e2];rw[(Prod.mk.inj e1).2]
 |[],[],_::_,_,_,h,_=>h.elim
 |[],_::_,_,_,h,_,_=>h.elim
 |.s _::_,[],_,_,h,_,_=>h.elim
 |.r _::_,[],_,_,h,_,_=>h.elim
 |.s _::_,_::_,[],_,_,h,_=>h.elim
 |.r _::_,_::_,[],_,_,h,_=>h.elim
section steps
variable {P:Program}{C:Ctx}{ops:Array Oper}{S:AS}{nd:Bool}{K:List Ac->AS->Prop}{rest:List Oper}{acc:List Ac}
variable {gd:Option (Nat×Bool)}{rg:List Nat}{d:Nat}{ty:TypeId}{pos:String}{aft:Array Edge}{x y z:Operand}{T U E0:TypeId}
theorem bn.I3{E:Env}{a:Act}{w w':World}(h:bn C S E a w){i:Nat}{js:List Nat}{c:List Oc}{us:List Value}{M':Mem}(hB:S.b i=some ⟨T,cj js c⟩)(hL:Lv S js (rowsOf c))(Sa:js.Nodup)(zD:oW E.M w (E.β i) T c us)
  (hM:E.M.le M') (hn:∀b o x,M' b o=some x->E.M b o=some x\/w.heap.size<=b) (hin:M'.c8 w') (ho:oW M' w' (E.β i) T c us)
  (hos:w'.os=w.os) (pX:w'.tape=w.tape) (hout:w'.output=w.output) (hsize:w.heap.size<=w'.heap.size) (jS:∀k,k<w.heap.size->k≠E.β i->¬eu c us k->w'.heap[k]? =w.heap[k]?):
  bn C S {E with M:=M'} a w':=by
 obtain⟨Kh,adn,Ps,Wm,Ki,Yi⟩:=h.bx i _ hB;obtain rfl:Wm=us:=by
  rw[zD.hp]at Ki;have:=Option.some.inj Ki;injection this with e
  injection e with e
  exact e.symm
 obtain⟨_,Wi⟩:=sS h hL Yi;have hlen:=hL.len;have Dq:∀g,eu c Wm g↔∃j∈js,(E.ν j).ownBlock=some g:=λg=>by
  unfold eu;rw[Wi];constructor
  ·rintro⟨⟨R,v⟩,hm,hg⟩;obtain⟨j,hj,rfl⟩:=List.mem_map.1 (iU hm).2;exact⟨j,hj,hg⟩
  rintro⟨j,hj,hg⟩;obtain⟨R,hR⟩:=sV (l:=rowsOf c) (k:=js.map E.ν) (by simp[hlen]) (List.mem_map.2 ⟨j,hj,Y⟩);exact⟨(R,E.ν j),hR,hg⟩
 have yd:∀g,eu c Wm g->(C.w0.heap.size<=g\/C.tD g)/\¬E.O g/\(∀n B,S.b n=some B->E.β n≠g)/\∃c e,w.heap[g]? =some (Obj.cells c e (0,0)):=λg hg=>by
  obtain⟨j,hj,yB⟩:=(Dq g).1 hg;obtain⟨R,hR⟩:=hL.mem j hj;obtain⟨⟨us,q1,_⟩,q2⟩:=h.rx j R hR;obtain⟨q3,q4,q5,q6⟩:=q2 g yB;refine⟨q3,q5,q6,?_⟩;rcases q1.2 with⟨q7,_⟩|⟨g',cap,cur,q7,_,q8,_⟩
  ·rw[q7]at yB;cases yB
  rw[q7]at yB;cases yB;exact⟨_,_,q8⟩
 have keep:∀x:AV,∀v,x.holds E v->x.holds {E with M:=M'} v:=λx v hv=>AV.cE (E:=E) (E':={E with M:=M'}) hM (λ_ _=>rfl) (λ_ _=>rfl) hv;have UE:∀b,b<w.heap.size->(∀o,E.M b o=none)->∀o,M' b o=none:=λb h1 h2 o=>by
  cases e:M' b o with
  |none=>rfl
  |some v=>
   rcases hn b o v e with q|q
   ·rw[h2 o]at q;cases q
   omega
 exact{
  wf:=h.wf
  marks:=by
   obtain⟨ds,d1,d2,d3⟩:=h.marks;refine⟨ds,d1,d2,λr hr=>?_⟩;obtain⟨p1,p2,p3⟩:=d3 r hr;refine⟨p1,p2,?_⟩;rw[jS r (Array.getElem?_eq_some_iff.1 p3).1 (λe=>by rw[e,Ki]at p3;cases p3) (λe=>by
    obtain⟨_,_,_,c,e2,q⟩:=yd r e;rw[q]at p3;cases p3)]
   exact p3
  size:=h.size
  os:=hos.trans h.os
  tape:=pX.trans h.tape
  output:=hout.trans h.output
  grown:=Nat.le_trans h.grown hsize
  frame:=λk hk hown=>by
   rw[jS k (Nat.lt_of_lt_of_le hk h.grown) (λe=>by
    rcases Kh with q|q
    ·omega
    ·exact hown (C.BV _ (by rw[e];exact q))) (λe=>by
    rcases(yd k e).1 with q|q
    ·omega
    exact hown (C.BV _ q))]
   exact h.frame k hk hown
  m0:=Mem.le_trans h.m0 hM
  eC:=λb o v e=>by
   rcases hn b o v e with q|q
   ·exact h.eC b o v q
   exact .inr (.inl (Nat.le_trans h.grown q))
  c8:=hin
  tm:=λs=>keep _ _ (h.tm s)
  bx:=λj B fk=>by
   obtain⟨p1,p2,p3,vs,p4,p5⟩:=h.bx j B fk;have hlt:=(Array.getElem?_eq_some_iff.1 p4).1;by_cases e:j=i
   ·subst e;rw[hB]at fk;cases fk;refine⟨p1,ho.nb,p3,Wm,ho.hp,?_⟩;exact Yi.imp (λx _ v hv=>keep x v hv)
   refine⟨p1,UE _ hlt p2,p3,vs,?_,p5.imp (λx _ v hv=>keep x v hv)⟩;show w'.heap[E.β j]? =_;rw[jS _ hlt (λq=>e (h.inj j i B _ fk hB q)) (λq=>(yd _ q).2.2.1 j B fk Y)];exact p4
  inj:=h.inj
  rx:=λj R hR=>by
   obtain⟨⟨vs,p1,p2⟩,p3⟩:=h.rx j R hR;by_cases hj:j∈js
   ·have hz:(R,E.ν j)∈b9 c Wm:=by
     rw[Wi];have key:∀(js:List Nat) (Rs:List Row),Lv S js Rs->j∈js->(R,E.ν j)∈Rs.zip (js.map E.ν):=by
      intro js
      induction js with
      |nil=>intro _ _ h;cases h
      |cons k js ih=>
       intro Rs hl hm;cases Rs with
       |nil=>exact hl.elim
       |cons R' Rs=>
        rw[List.map_cons,List.zip_cons_cons];rcases List.mem_cons.1 hm with q|q
        ·subst q;have:=hl.1;rw[hR]at this;cases this;simp
        exact List.mem_cons_of_mem _ (ih Rs hl.2 q)
     exact key js _ hL hj
    refine⟨kj ho.al _ hz,λg hg=>?_⟩;obtain⟨p4,p5,p6,p7⟩:=p3 g hg;exact⟨p4,(ho.nr g ⟨_,hz,hg⟩).2,p6,p7⟩
   have Yf:∀g,(E.ν j).ownBlock=some g->¬eu c Wm g:=λg hg q=>by
    obtain⟨j',hj',e⟩:=(Dq g).1 q;obtain⟨R',nI⟩:=hL.mem j' hj';have:=h.fg j j' R R' hR nI g hg e;subst this;exact hj hj'
   refine⟨⟨vs,dm p1 λg hg=>jS g (iZ h hR hg) (λe=>(p3 g hg).2.2.2 i _ hB e.symm) (Yf g hg),p2.mono hM⟩,λg hg=>?_⟩;obtain⟨p4,p5,p6,p7⟩:=p3 g hg;exact⟨p4,UE g (iZ h hR hg) p5,p6,p7⟩
  fg:=h.fg
  gB:=h.gB
  dX:=h.dX
  ko:=λb hb=>by
   obtain⟨p1,p2,p3⟩:=h.ko b hb;exact⟨Nat.lt_of_lt_of_le p1 hsize,UE b p1 p2,p3⟩
  jj:=C.jf S.g S.go E.O E.M M' w w' h.jj hM hin (λb o v e=>by
    rcases hn b o v e with q|q
    ·exact .inl q
    ·exact .inr ⟨.inl (Nat.le_trans h.grown q),λq2=>by have:=(h.ko b q2).1;omega⟩) (λb hb=>by
    have hb':b<w.heap.size:=by
     rcases hb with⟨q,_⟩|q
     ·exact Nat.lt_of_lt_of_le q h.grown
     exact(h.ko b q).1
    refine jS b hb' (λe=>?_) (λe=>?_)
    ·subst e;rcases hb with⟨q1,q2⟩|q
     ·rcases Kh with p|p
      ·omega
      exact q2 p
     exact Ps q
    obtain⟨o1,o3,_⟩:=yd b e;rcases hb with⟨q1,q2⟩|q
    ·rcases o1 with p|p
     ·omega
     exact q2 p
    exact o3 q) hos pX hout hsize}
theorem RT.iO(hg:Gd ops S gd rg){f:FuncId}[dw P f]{g:Operand}{xs:Array Operand}{at_:Array TypeId}{args:List AV}{T:TypeId}{c:List Oc}{res:SV}(hp:Bd P f args T c res)(i:Nat)(js:List Nat)(hB:S.b i=some ⟨T,cj js c⟩)(hL:Lv S js (rowsOf c))(Sa:js.Nodup)
  (IZ:args.all AV.oy=true) (hf:S.ev g=.sv (.v (.func (.func f) #[] #[]))) (hargs:uX S xs.toList (args.map (AV.R7 i))) (hd:d<S.n)
  (next:RunT P C ops nd K rest (⟨rg++(aZ g++xs.toList.flatMap aZ),[i],js,⟨some (d,.sv res),[],[]⟩⟩::acc) (S.set d (.sv res))):RunT P C ops nd K (⟨some d,.call ⟨.value g,xs,at_⟩,ty,pos,aft,gd⟩::rest) acc S:=by
 refine .inl ⟨_,[i],js,_,?_,next⟩;rintro S' hn ht hb hr k a w L Q ho ⟨E,h⟩ Yg;refine cx (C:=C) ho (hg.wanted h (λs hs=>ht s (List.mem_append_left _ hs)) Y) ?_;have rT:a.eval g=.func (.func f) #[] ⟨[]⟩:=by
  have h1:=h.ev g;rw[bz (λ_ h=>List.mem_append_right _ (List.mem_append_left _ h)) ht,hf]at h1;exact h1
 have hall:=zT IZ (uX.vals h hargs (λs hs=>ht s (List.mem_append_right _ (List.mem_append_right _ hs))));have fk:S'.b i=some ⟨T,cj js c⟩:=by rw[hb i (by simp)];exact hB
 have Sb:Lv S' js (rowsOf c):=hL.congr (λk hk=>hr k hk);obtain⟨us,Px,Bb⟩:=pY h fk Sb Sa;refine cq (C:=C) (by intro c h;cases h) (mh rT) ?_;rw[List.append_nil];refine⟨λh=>by simp at h,gh ((hp E.M w (E.β i) _ us h.c8 Px hall).mono ?_)⟩;rintro e w' ⟨v,M',rfl,hM,hnew,hin,hv,IT,hos,pX,hout,hsize,jS⟩;have h1:=h.I3 fk Sb Sa Px hM hnew hin IT hos pX hout hsize jS;exact Yg _ _ ⟨_,h1.put (x:=.sv res) (v:=v) hv (by show d<S'.n;omega) eU⟩
end steps
end
end Go.Fw
namespace Go.Proofs.YtningmnklfpfjaaGreat
section
open Go.Fw
noncomputable def kQ(x0:Lr):Option (Sz):=match x0 with|⟨bp,bt,bB,bF⟩=>(some (bt.length:Int)).bind λx7=>(some (bB.length:Int)).bind λef=>(some (bF.length:Int)).bind λiW=>some ⟨bp,x7,ef,iW⟩
noncomputable def fB(x0:Lr):Option (Bool):=match x0 with|⟨bp,bt,bB,bF⟩=>(kQ ⟨bp,bt,bB,bF⟩).bind λ⟨AP,D1,Ce,D2⟩=>cK (λ(ML:Bool)=>(bif ML then some false else cK (λ(HY:Bool)=>(bif HY then some false else cK (λ(Sc:Bool)=>some Sc) λK16=>(lS bt).bind λrB=>(some (decide ((rB:Int)<=AP))).bind λsq=>(bif sq then(lS bB).bind λrK=>(some (decide ((rK:Int)<=AP))).bind λvR=>some vR else some false).bind λMM=>K16 MM)) λKP=>(some (decide ((128:Int)<Ce))).bind λmU=>(bif mU then some true else(some (decide ((D2:Int)≠Ce))).bind λjU=>some jU).bind λMN=>KP MN)) λSd=>(some (decide ((AP:Int)<0))).bind λx8=>(bif x8 then some true else(some (decide ((64:Int)<AP))).bind λdP=>some dP).bind λMO=>(bif MO then some true else(some (decide ((D1:Int)<1))).bind λgM=>some gM).bind λUI=>(bif UI then some true else(some (decide ((4:Int)<D1))).bind λlB=>some lB).bind λUJ=>Sd UJ
noncomputable def fL(x0:Lr)(x1:List Qr):Option (Bool):=match x0 with|⟨bp,bt,bB,bF⟩=>cK (λ(MP:Bool)=>(bif MP then some false else(some (x1.length:Int)).bind λgN=>(cy (λ(I4:Int)=>(show Option ((Int)⊕((Unit)⊕(Bool)))from(some (decide ((I4:Int)<gN))).bind λjT=>(bif jT then(cZ x1 I4).bind λ⟨⟨pQ,pR⟩,⟨pS,pU⟩⟩=>(eA ⟨⟨pQ,pR⟩,⟨pS,pU⟩⟩).bind λlD=>(some (decide ((lD:Int)<0))).bind λnT=>(bif nT then some (.inr (.inr false))else(some (IntKind.i64.wrap (I4+1))).bind λiG=>some (.inl iG))else some (.inr (.inl ()))))) 0).bind λe9=>match e9 with|.inr v9=>some v9|.inl _=>(lN (λ(k:Nat) (za:Unit)=>(show Option ((Unit)⊕(Bool))from(some ((Lr.rows ⟨bp,bt,bB,bF⟩).getD k [])).bind λp32=>(some ((Lr.bounds ⟨bp,bt,bB,bF⟩).getD k (⟨⟨false,[]⟩,⟨false,[]⟩⟩:Qr))).bind λ⟨⟨Se,Sf⟩,⟨Sg,Sh⟩⟩=>(jw p32 x1).bind λ⟨⟨su,sw⟩,⟨FL,FM⟩⟩=>(lP ⟨⟨su,sw⟩,⟨FL,FM⟩⟩ ⟨⟨Se,Sf⟩,⟨Sg,Sh⟩⟩).bind λyI=>(some (decide ((yI:Int)=1))).bind λlu=>(bif lu then some (.inr false)else some (.inl ())))) ((Lr.rows ⟨bp,bt,bB,bF⟩).length) ()).bind λKS=>match KS with|.inr v12=>some v12|.inl _=>some true)) λK3=>(fB ⟨bp,bt,bB,bF⟩).bind λiN=>(some (!iN)).bind λdP=>(bif dP then some true else(some (x1.length:Int)).bind λeI=>(some (decide ((bp:Int)<eI))).bind λfS=>some fS).bind λMQ=>K3 MQ
noncomputable def iH(x0:Lr)(x1:List Qr):Option (List Qr):=match x0 with|⟨bp,bt,bB,bF⟩=>(kP bt x1).bind λx8=>some x8
noncomputable def kR(x0:Lr)(x1:List Qr)(x2:List Qr):Option (Int):=match x0 with|⟨bp,bt,bB,bF⟩=>(iH ⟨bp,bt,bB,bF⟩ x1).bind λef=>(iH ⟨bp,bt,bB,bF⟩ x2).bind λiW=>(fK ef iW).bind λfC=>(some (decide ((fC:Int)≠0))).bind λgX=>(bif gX then some fC else(fK x2 x1).bind λjc=>some jc)
noncomputable def kS(x0:Lr)(x1:List Qr):Option (List Qr):=match x0 with|⟨bp,bt,bB,bF⟩=>(pA bt x1).bind λx8=>some x8
end
section
open Go.Fw Go.Fw.Z Go.RowKit
theorem wX(p:Lr):Pure ah 85 [.agg (Dw p)] (iV 126 [ref [ay p.vars,(slc 1 (List.map (eS 4 eQ) p.uj)),(slc 1 (List.map (eS 4 eQ) p.rows)),(slc 4 (List.map eQ p.bounds))]]):=by
 refine bw Tryz.func85 Y (af Y) (λee M vs hvs=>?_);refine sr<|bx Y<|ag Y<|dn<|sr<|RT.makeFunc .none (.box Y (.nil)) T<|an (s:=.fW _ _) Y<|dn ?_;refine cY (gW (i:=1) Y [ay p.vars,(slc 1 (List.map (eS 4 eQ) p.uj)),(slc 1 (List.map (eS 4 eQ) p.rows)),(slc 4 (List.map eQ p.bounds))] (.cons Y (.cons Y (.cons Y (.cons Y .nil)))) .any 0 [(2,.fW 126 [.val (ref [ay p.vars,(slc 1 (List.map (eS 4 eQ) p.uj)),(slc 1 (List.map (eS 4 eQ) p.rows)),(slc 4 (List.map eQ p.bounds))])])] (λ_ _ _=>trivial) (qA.h (l:=[ay p.vars,(slc 1 (List.map (eS 4 eQ) p.uj)),(slc 1 (List.map (eS 4 eQ) p.rows)),(slc 4 (List.map eQ p.bounds))])) ⟨@FT.fW _ _ _ _ _ 2 126 [.box 1] Y,aq⟩)<|cY (Ds 2 (iV 126 [ref [ay p.vars,(slc 1 (List.map (eS 4 eQ) p.uj)),(slc 1 (List.map (eS 4 eQ) p.rows)),(slc 4 (List.map eQ p.bounds))]]) (λ_ _ h=>Dt h)) ?_;exact bh<|⟨.inr Y,Dr (.tmp Y (.nil)) Y⟩
theorem wY(p:Lr):Iter ah 126 [ref [ay p.vars,(slc 1 (List.map (eS 4 eQ) p.uj)),(slc 1 (List.map (eS 4 eQ) p.rows)),(slc 4 (List.map eQ p.bounds))]] p.rows.length (λk=>[(slc 4 (List.map eQ (p.rows.getD k []))),.agg (eQ (p.bounds.getD k (⟨⟨false,[]⟩,⟨false,[]⟩⟩:Qr)))]):=by
 refine qF Tryz.func126 Y Y (af Y) (λee M O l J hJ xI hr=>?_);obtain⟨nP,xI⟩:=xI;have hla:p.rows.length<=9223372036854775807:=by cases nP with|nil=>exact xI.elim|cons _ nP=>exact MF xI.1
 refine bH ?_;refine aW ?_;refine RT.bO .none Y (tl Y) Y ?_;refine RT.dj .none Y Y (tl Y) ?_;refine RT.len .none Y (tl Y) ?_;refine RT.mv .none Y (tl Y) ?_;refine RT.done ?_;refine aV.n ?_;refine bj ?_
 refine vV (I:=λx:{i:Nat//i<=p.rows.length}=>AS.cI 30 [(0,.sv (.v (.func (.yield l) #[] #[]))),(1,.sv (ref [ay p.vars,(slc 1 (List.map (eS 4 eQ) p.uj)),(slc 1 (List.map (eS 4 eQ) p.rows)),(slc 4 (List.map eQ p.bounds))])),(7,.sv ((slc 1 (List.map (eS 4 eQ) p.rows)))),(8,ai ((p.rows.length:Nat):Int)),(9,ai ((x.1:Nat):Int))] [] [] (x.1)) (μ:=λx=>p.rows.length-x.1) ⟨0,by omega⟩ (by(try dsimp only);exact ec id Y Y Y Y Y ⟨.sv (by first|exact au|exact SV.aY (by omega)|exact SV.aY (by push_cast;omega)|exact SV.aY (by dsimp only;omega)|exact SV.imp_eq (by simp)),.sv (by first|exact au|exact SV.aY (by omega)|exact SV.aY (by push_cast;omega)|exact SV.aY (by dsimp only;omega)|exact SV.imp_eq (by simp)),.sv (by first|exact au|exact SV.aY (by omega)|exact SV.aY (by push_cast;omega)|exact SV.aY (by dsimp only;omega)|exact SV.imp_eq (by simp)),.sv (SV.aY (by simp)),.sv (by first|exact au|exact SV.aY (by omega)|exact SV.aY (by push_cast;omega)|exact SV.aY (by dsimp only;omega)|exact SV.imp_eq (by simp)),aq⟩ trivial trivial (λ_ _=>Y)) ?_;rintro⟨i,TY⟩
 try dsimp only
 rcases HX p.rows p.bounds i TY with⟨hi,hb⟩|⟨hi,hb⟩|hi
 ·
  refine bH ?_;refine aW ?_;refine RT.lss .none (true) Y Y (tl Y) (by simp;omega) ?_;refine RT.done ?_;refine aV.n ?_;refine bH ?_;refine cJ Y ?_;refine bA ?_;refine aV.n ?_;refine bH ?_;refine bj ?_;refine bH ?_;refine aW ?_;refine RT.mv .none Y (tl Y) ?_;refine RT.Ls .none [(slc 4 (List.map eQ (p.rows.getD i [])))] (Int.natCast_nonneg i) (by rw[Int.toNat_natCast,List.getElem?_map,ew hi];rfl) Y Y (tl Y) ?_;refine RT.dj .none Y Y (tl Y) ?_;refine RT.Ah .none Y (tl Y) ?_;refine RT.Ah .none Y (tl Y) ?_;refine RT.done ?_;refine aV.n ?_;refine bH ?_;refine aW ?_;refine RT.qG .none (cs:=eQ ⟨⟨false,[]⟩,⟨false,[]⟩⟩) (by exact⟨au,aB,au,aB,aq⟩) Y (tl Y) Y Y ?_;refine RT.done ?_;refine aV.n ?_;refine bH ?_;refine bH ?_;refine aW ?_;refine RT.mv .none Y (tl Y) ?_;refine RT.bO .none Y (tl Y) Y ?_;refine RT.dj .none Y Y (tl Y) ?_;refine RT.len .none Y (tl Y) ?_;refine RT.lss .none (true) Y Y (tl Y) (by simp only[List.length_map];simp;omega) ?_;refine RT.done ?_;refine aV.n ?_;refine cJ Y ?_;refine aW ?_;refine RT.bO .none Y (tl Y) Y ?_;refine RT.dj .none Y Y (tl Y) ?_;refine RT.mv .none Y (tl Y) ?_
  refine RT.Ls .none [az ((p.bounds.getD i (⟨⟨false,[]⟩,⟨false,[]⟩⟩:Qr)).num.neg),slc 1 ((p.bounds.getD i (⟨⟨false,[]⟩,⟨false,[]⟩⟩:Qr)).num.w.map aX),az ((p.bounds.getD i (⟨⟨false,[]⟩,⟨false,[]⟩⟩:Qr)).den.neg),slc 1 ((p.bounds.getD i (⟨⟨false,[]⟩,⟨false,[]⟩⟩:Qr)).den.w.map aX)] (Int.natCast_nonneg i) (by rw[Int.toNat_natCast,List.getElem?_map,ew hb];rfl) Y Y (tl Y) ?_;refine RT.ja .none Y (tl Y) (cs:=[az ((p.bounds.getD i (⟨⟨false,[]⟩,⟨false,[]⟩⟩:Qr)).num.neg),slc 1 ((p.bounds.getD i (⟨⟨false,[]⟩,⟨false,[]⟩⟩:Qr)).num.w.map aX),az ((p.bounds.getD i (⟨⟨false,[]⟩,⟨false,[]⟩⟩:Qr)).den.neg),slc 1 ((p.bounds.getD i (⟨⟨false,[]⟩,⟨false,[]⟩⟩:Qr)).den.w.map aX)]) Y Y ?_;refine RT.store .none Y Y Y Y Y ?_;refine RT.done ?_;refine aV.n ?_;refine bH ?_;refine aW ?_;refine RT.mv .none Y (tl Y) ?_;refine RT.mv .none Y (tl Y) ?_;refine RT.load .none Y Y (.k4 Y Y Y Y) Y (tl Y) ?_;refine RT.yield .none hr Y (λ_ h=>h) Y (i) Y Y hi (by exact⟨Y,Y,aq⟩) (tl Y) (λyb=>?_);cases yb
  ·
   refine RT.not .none Y (tl Y) true Y ?_;refine RT.done ?_;refine aV.n ?_;refine cJ Y ?_;refine bh ?_;refine bG.r ?_;refine aV.r ?_;refine aV.r ?_;refine bG.r ?_;exact⟨.inr rfl,(λh=>by cases h)⟩
  refine RT.not .none Y (tl Y) false Y ?_;refine RT.done ?_;refine aV.n ?_;refine dV Y ?_;refine bA ?_;refine bG.n ?_;refine aV.n ?_;refine aW ?_;refine RT.add .none (((i:Nat):Int)+1) Y Y (tl Y) (kG (by omega)) ?_;refine RT.mv .none Y (tl Y) ?_;refine RT.done ?_;refine aV.n ?_;refine⟨⟨i+1,by omega⟩,(by dsimp only;omega),?_⟩
  try dsimp only
  exact ec id Y Y Y Y Y ⟨.sv (by first|exact au|exact SV.aY (by omega)|exact SV.aY (by push_cast;omega)|exact SV.aY (by dsimp only;omega)|exact SV.imp_eq (by simp)),.sv (by first|exact au|exact SV.aY (by omega)|exact SV.aY (by push_cast;omega)|exact SV.aY (by dsimp only;omega)|exact SV.imp_eq (by simp)),.sv (by first|exact au|exact SV.aY (by omega)|exact SV.aY (by push_cast;omega)|exact SV.aY (by dsimp only;omega)|exact SV.imp_eq (by simp)),.sv (by first|exact au|exact SV.aY (by omega)|exact SV.aY (by push_cast;omega)|exact SV.aY (by dsimp only;omega)|exact SV.imp_eq (by simp)),.sv (by first|exact au|exact SV.aY (by omega)|exact SV.aY (by push_cast;omega)|exact SV.aY (by dsimp only;omega)|exact SV.imp_eq (by simp)),aq⟩ trivial trivial (λ_ _=>Y)
 ·
  refine bH ?_;refine aW ?_;refine RT.lss .none (true) Y Y (tl Y) (by simp;omega) ?_;refine RT.done ?_;refine aV.n ?_;refine bH ?_;refine cJ Y ?_;refine bA ?_;refine aV.n ?_;refine bH ?_;refine bj ?_;refine bH ?_;refine aW ?_;refine RT.mv .none Y (tl Y) ?_;refine RT.Ls .none [(slc 4 (List.map eQ (p.rows.getD i [])))] (Int.natCast_nonneg i) (by rw[Int.toNat_natCast,List.getElem?_map,ew hi];rfl) Y Y (tl Y) ?_;refine RT.dj .none Y Y (tl Y) ?_;refine RT.Ah .none Y (tl Y) ?_;refine RT.Ah .none Y (tl Y) ?_;refine RT.done ?_;refine aV.n ?_;refine bH ?_;refine aW ?_;refine RT.qG .none (cs:=eQ ⟨⟨false,[]⟩,⟨false,[]⟩⟩) (by exact⟨au,aB,au,aB,aq⟩) Y (tl Y) Y Y ?_;refine RT.done ?_;refine aV.n ?_;refine bH ?_;refine bH ?_;refine aW ?_;refine RT.mv .none Y (tl Y) ?_;refine RT.bO .none Y (tl Y) Y ?_;refine RT.dj .none Y Y (tl Y) ?_;refine RT.len .none Y (tl Y) ?_;refine RT.lss .none (false) Y Y (tl Y) (by simp only[List.length_map];simp;omega) ?_;refine RT.done ?_;refine aV.n ?_;refine dV Y ?_;refine bA ?_;refine aV.n ?_;refine bH ?_;refine aW ?_;refine RT.mv .none Y (tl Y) ?_;refine RT.mv .none Y (tl Y) ?_;refine RT.load .none Y Y (.k4 Y Y Y Y) Y (tl Y) ?_
  refine RT.yield .none hr Y (λ_ h=>h) Y (i) Y Y hi (by exact⟨Y,(by show AV.sv _=AV.sv _;rw[ij hb]),aq⟩) (tl Y) (λyb=>?_);cases yb
  ·
   refine RT.not .none Y (tl Y) true Y ?_;refine RT.done ?_;refine aV.n ?_;refine cJ Y ?_;refine bh ?_;refine bG.r ?_;refine aV.r ?_;refine aV.r ?_;refine bG.r ?_;exact⟨.inr rfl,(λh=>by cases h)⟩
  refine RT.not .none Y (tl Y) false Y ?_;refine RT.done ?_;refine aV.n ?_;refine dV Y ?_;refine bA ?_;refine bG.n ?_;refine aV.n ?_;refine aW ?_;refine RT.add .none (((i:Nat):Int)+1) Y Y (tl Y) (kG (by omega)) ?_;refine RT.mv .none Y (tl Y) ?_;refine RT.done ?_;refine aV.n ?_;refine⟨⟨i+1,by omega⟩,(by dsimp only;omega),?_⟩
  try dsimp only
  exact ec id Y Y Y Y Y ⟨.sv (by first|exact au|exact SV.aY (by omega)|exact SV.aY (by push_cast;omega)|exact SV.aY (by dsimp only;omega)|exact SV.imp_eq (by simp)),.sv (by first|exact au|exact SV.aY (by omega)|exact SV.aY (by push_cast;omega)|exact SV.aY (by dsimp only;omega)|exact SV.imp_eq (by simp)),.sv (by first|exact au|exact SV.aY (by omega)|exact SV.aY (by push_cast;omega)|exact SV.aY (by dsimp only;omega)|exact SV.imp_eq (by simp)),.sv (by first|exact au|exact SV.aY (by omega)|exact SV.aY (by push_cast;omega)|exact SV.aY (by dsimp only;omega)|exact SV.imp_eq (by simp)),.sv (by first|exact au|exact SV.aY (by omega)|exact SV.aY (by push_cast;omega)|exact SV.aY (by dsimp only;omega)|exact SV.imp_eq (by simp)),aq⟩ trivial trivial (λ_ _=>Y)
 subst hi;refine bH ?_;refine aW ?_;refine RT.lss .none (false) Y Y (tl Y) (by simp) ?_;refine RT.done ?_;refine aV.n ?_;refine bH ?_;refine dV Y ?_;refine cc ?_;refine aV.x ?_;refine aV.x ?_;refine bG.x ?_;exact⟨.inl Y,(λ_=>Y)⟩
theorem Cj{x0:Lr}{r:Sz}(h:kQ x0=some r):Pure ah 83 [.agg (Dw x0)] (.agg (eSz r)):=by
 obtain⟨bp,bt,bB,bF⟩:=x0;refine bw Tryz.func83 Y (af Y) (λee M vs hvs=>?_);unfold kQ at h;refine sr<|bx Y<|al (cs:=[ay 0,ay 0,ay 0,ay 0]) (by exact⟨au,au,au,au,aq⟩) Y<|dn<|sr<|fa Y Y<|lV Y Y Y<|fa Y Y<|lV Y Y Y<|lE h λx7 h7 h=>ln Y h7<|fa Y Y<|lV Y Y Y<|lE h λef gV h=>ln Y gV<|fa Y Y ?_;refine lV Y Y Y<|lE h λiW kJ h=>ln Y kJ<|bI (cs:=[_,_,_,_]) (cs':=[ay bp,ay x7,ay ef,ay iW]) (.one Y (.one Y (.one Y (.one Y (.nil))))) ⟨au,au,au,au,aq⟩<|so Y Y Y<|dn<|bh ?_;obtain rfl:=O h;exact RZ (.agg Y Y (.k4 Y Y Y Y) Y (.nil))
theorem oX{x0:Lr}{r:Bool}(h:fB x0=some r):Pure ah 34 [.agg (Dw x0)] (az r):=by
 obtain⟨bp,bt,bB,bF⟩:=x0;refine bw Tryz.func34 Y (af Y) (λee M vs hvs=>?_);unfold fB at h;refine sr<|bx Y<|ag Y<|dn<|sr<|ld Y Y (.k4 Y Y Y Y) ?_;obtain⟨⟨AP,D1,Ce,D2⟩,h5,h⟩:=bS h;refine cl (Cj h5) ⟨Y,aq⟩<|al (cs:=[ay 0,ay 0,ay 0,ay 0]) (by exact⟨au,au,au,au,aq⟩) Y<|so Y Y Y<|dn<|qq<|qq ?_;refine bK h (λUL=>AS.cI 48 [(1,.ptr 1 0),(3,.ptr 3 0),(23,aj UL)] [(3,⟨97,[ai AP,ai D1,ai Ce,ai D2]⟩),(1,⟨25,[ai bp,.sv (slc 1 (List.map (eS 4 eQ) bt)),.sv (slc 1 (List.map (eS 4 eQ) bB)),.sv (slc 4 (List.map eQ bF))]⟩)] []) (λh=>?_) (λML h=>?_);refine aW<|fa Y Y<|lV Y Y Y<|lE h λx8 h8 h=>ls _ Y Y h8<|mv Y<|bE h λMO uu h=>?_;cases x8;refine RT.fieldAddr (.some Y Y) Y T Y<|RT.rI (.some Y Y) Y Y Y T<|lE (F uu) λdP gu uu=>gg _ Y Y gu ?_;obtain rfl:=O uu;refine pF Y<|mv Y<|bE h λadw Kl h=>?_;cases dP;refine RT.fieldAddr (.some Y Y) Y T Y<|RT.rI (.some Y Y) Y Y Y T<|lE (F Kl) λgM mW Kl=>RT.lss (.some Y Y) _ Y Y T mW ?_;obtain rfl:=O Kl;refine pF Y<|mv Y<|bE h λadx Pz h=>?_;cases gM;refine RT.fieldAddr (.some Y Y) Y T Y<|RT.rI (.some Y Y) Y Y Y T<|lE (F Pz) λlB qM Pz=>gg _ Y Y qM ?_;obtain rfl:=O Pz;exact pF Y<|dn<|⟨lB,h,wR []⟩;obtain rfl:=O (V Pz);exact ww<|ww<|ww<|pT Y<|dn<|⟨true,h,wR []⟩
 obtain rfl:=O (V Kl);refine ww<|ww<|ww<|pT Y<|mv Y<|bE h λUM Ck h=>?_;obtain rfl:=O (V Ck);exact ww<|ww<|ww<|pT Y<|dn<|⟨true,h,wR []⟩;obtain rfl:=O (V uu);refine ww<|ww<|ww<|pT Y<|mv Y<|bE h λady qO h=>?_;obtain rfl:=O (V qO);refine ww<|ww<|ww<|pT Y<|mv Y<|bE h λadz sX h=>?_;obtain rfl:=O (V sX);exact ww<|ww<|ww<|pT Y<|dn<|⟨true,h,wR []⟩
 try dsimp only
 refine aV.n ?_;cases ML;refine fs<|qq<|qq ?_;refine bK (F h) (λJ4=>AS.cI 48 [(1,.ptr 1 0),(3,.ptr 3 0),(33,aj J4)] [(3,⟨97,[ai AP,ai D1,ai Ce,ai D2]⟩),(1,⟨25,[ai bp,.sv (slc 1 (List.map (eS 4 eQ) bt)),.sv (slc 1 (List.map (eS 4 eQ) bB)),.sv (slc 4 (List.map eQ bF))]⟩)] []) (λh=>?_) (λHY h=>?_);refine aW<|fa Y Y<|lV Y Y Y<|lE h λmU tR h=>gt _ Y Y tR<|mv Y<|bE h λMN mY h=>?_;cases mU;refine RT.fieldAddr (.some Y Y) Y T Y<|RT.rI (.some Y Y) Y Y Y T<|RT.fieldAddr (.some Y Y) Y T Y<|RT.rI (.some Y Y) Y Y Y T<|lE (F mY) λjU qw mY=>gq _ Y Y (G4 (p:=D2) (q:=Ce) qw) ?_;obtain rfl:=O mY;exact pF Y<|dn<|⟨jU,h,wR []⟩;obtain rfl:=O (V mY);exact ww<|ww<|ww<|ww<|ww<|pT Y<|dn<|⟨true,h,wR []⟩
 try dsimp only
 refine aV.n ?_;cases HY;refine fs<|qq ?_;refine bK (F h) (λj16=>AS.cI 48 [(2,aj j16)] [] []) (λh=>?_) (λSc h=>?_);refine bf mixed<|fa Y Y<|lV Y Y Y<|bE h λrB wL h=>cl (yO wL) ⟨Y,aq⟩<|fa Y Y<|lV Y Y Y<|lE h λsq DT h=>RT.leq .none _ Y Y T DT<|mv Y<|bE h λMM mF h=>?_;cases sq;obtain rfl:=O (F mF);refine ww<|ww<|ww<|ww<|ww<|ww<|pF Y<|ag Y ?_;refine RT.done ⟨by kernel_rfl,?_⟩;exact aV.n<|⟨false,h,wR []⟩;refine RT.fieldAddr (.some Y Y) Y T Y<|RT.rI (.some Y Y) Y Y Y T<|bE (V mF) λrK CU mF=>gc (yO CU) ⟨Y,aq⟩<|RT.fieldAddr (.some Y Y) Y T Y<|RT.rI (.some Y Y) Y Y Y T<|lE mF λvR h46 mF=>RT.leq (.some Y Y) _ Y Y T h46 ?_;obtain rfl:=O mF;refine pT Y<|ag Y ?_;refine RT.done ⟨by kernel_rfl,?_⟩;exact aV.n<|⟨vR,h,wR []⟩
 try dsimp only
 refine aV.n<|bh ?_;obtain rfl:=O h;exact R1 Y;refine cT<|sr<|ag Y<|dn<|bh<|aV.r ?_;obtain rfl:=O (V h);exact R1 Y;refine cT<|sr<|ag Y<|dn<|bh<|aV.r ?_;obtain rfl:=O (V h);exact R1 Y
theorem sY{x0:Lr}{x1:List Qr}{r:Bool}(h:fL x0 x1=some r):Pure ah 36 [.agg (Dw x0),slc 4 (List.map eQ x1)] (az r):=by
 obtain⟨bp,bt,bB,bF⟩:=x0;refine bw Tryz.func36 Y (af Y) (λee M vs hvs=>?_);unfold fL at h;refine sr<|bx Y<|RT.xw .none (s:=.sv _) Y T Y Y<|ag Y<|dn<|LP<|qq<|qq ?_;refine bK h (λj3=>AS.cI 42 [(2,.ptr 2 0),(3,.ptr 3 0),(19,aj j3)] [(3,⟨23,[.sv (slc 4 (List.map eQ x1))]⟩),(2,⟨25,[ai bp,.sv (slc 1 (List.map (eS 4 eQ) bt)),.sv (slc 1 (List.map (eS 4 eQ) bB)),.sv (slc 4 (List.map eQ bF))]⟩)] []) (λh=>?_) (λMP h=>?_);refine aW<|ld Y Y (.k4 Y Y Y Y)<|bE h λiN pg h=>cl (oX pg) ⟨Y,aq⟩<|lE h λdP gu h=>nt Y _ gu<|mv Y<|bE h λMQ Km h=>?_;cases dP;refine RT.rI (.some Y Y) Y Y Y T<|lE (F Km) λeI jh Km=>gn Y jh<|RT.fieldAddr (.some Y Y) Y T Y<|RT.rI (.some Y Y) Y Y Y T<|lE Km λfS kA Km=>gg _ Y Y kA ?_;obtain rfl:=O Km;exact pF Y<|dn<|⟨fS,h,wR []⟩;obtain rfl:=O (V Km);exact ww<|ww<|ww<|ww<|ww<|pT Y<|dn<|⟨true,h,wR []⟩
 try dsimp only
 refine aV.n ?_;cases MP;refine fs<|qq<|sr<|lV Y Y Y<|lE (F h) λgN oH h=>ln Y oH<|mv Y<|dn<|bE h λe9 hl9 ho9=>?_;refine bV (λ(xe9:Unit)=>AS.cI 42 [(2,.ptr 2 0),(3,.ptr 3 0)] [(3,⟨23,[.sv (slc 4 (List.map eQ x1))]⟩),(2,⟨25,[ai bp,.sv (slc 1 (List.map (eS 4 eQ) bt)),.sv (slc 1 (List.map (eS 4 eQ) bB)),.sv (slc 4 (List.map eQ bF))]⟩)] []) (λxe9=>.inl xe9=e9) ?_ (λxe9 hx9=>?_);refine bj ?_;refine bW hl9 (λs9=>AS.cI 42 [(2,.ptr 2 0),(3,.ptr 3 0),(20,.sv (slc 4 (List.map eQ x1))),(21,ai gN),(22,ai s9)] [(3,⟨23,[.sv (slc 4 (List.map eQ x1))]⟩),(2,⟨25,[ai bp,.sv (slc 1 (List.map (eS 4 eQ) bt)),.sv (slc 1 (List.map (eS 4 eQ) bB)),.sv (slc 4 (List.map eQ bF))]⟩)] []) (wR []) (λI4 y9 G9 h hG9 hE9=>?_)
 try dsimp only
 refine sr<|lE h λjT sD h=>ls _ Y Y sD<|dn<|qq ?_;cases jT;refine cF<|cc<|aV.x<|aV.x<|bG.x<|aV.n ?_;obtain rfl:=O (F h);exact⟨(),hE9 _ Y,wR []⟩;refine cT<|bA<|aV.n<|qq<|bj<|sr ?_;obtain⟨⟨⟨pQ,pR⟩,⟨pS,pU⟩⟩,oP,h⟩:=bS (V h);refine ix Y Y oP<|RT.ja (cs:=[_,_,_,_]) .none Y T Y Y<|al (cs:=[az false,ax,az false,ax]) (by exact⟨au,aB,au,aB,aq⟩) Y<|so Y Y Y<|dn<|sr<|ld Y Y (.k4 Y Y Y Y)<|bE h λlD tW h=>cl (gx tW) ⟨Y,aq⟩<|lE h λnT wH h=>ls _ Y Y wH<|dn ?_;cases nT;refine cF<|bA<|bG.n<|aV.n<|aW<|lE (F h) λiG nm h=>ad _ Y Y nm<|mv Y<|RT.done ?_;obtain rfl:=O h;exact aV.n ⟨iG,hG9 _ Y,wR []⟩;refine cT<|sr<|ag Y<|dn<|bh<|bG.r<|aV.r ?_;obtain rfl:=O (V h);have he9:=hE9 _ Y;subst he9;refine aV.r<|bG.r<|aV.r<|aV.r<|O6.r ?_;obtain rfl:=O ho9;exact R1 Y;subst hx9
 try dsimp only
 refine aV.n<|sr<|al (cs:=[az false]) (by exact⟨au,aq⟩) Y<|RT.nM (cells:=[_]) .none (s:=.sv _) Y Y Y T Y<|dn<|qq<|LQ<|aV.n<|qq<|sr<|ld Y Y (.k4 Y Y Y Y)<|cl (wX ⟨bp,bt,bB,bF⟩) ⟨Y,aq⟩<|dn<|bj<|bE ho9 λKS DS mE=>?_;obtain⟨m12,adB,aij,adC,adD⟩:=xE DS;refine lY (wY ⟨bp,bt,bB,bF⟩) (λ_ _ _ _ _=>trivial) Y (λk=>AS.cI 42 [(3,.ptr 3 0),(7,.ptr 7 0),(31,.sv (iV 126 [ref [ay bp,slc 1 (List.map (eS 4 eQ) bt),slc 1 (List.map (eS 4 eQ) bB),slc 4 (List.map eQ bF)]]))] [(7,⟨4,[aj true]⟩),(3,⟨23,[.sv (slc 4 (List.map eQ x1))]⟩)] []) [7,3] Y (λ_=>⟨Y,Y⟩) (rY Y) (λ_=>Y) (rZ Y) (by(try dsimp only);(try dsimp only);exact ec id Y Y Y Y Y ⟨.ptr,.ptr,.sv au,aq⟩ ⟨⟨_,Y,⟨.sv au,aq⟩⟩,⟨_,Y,⟨.sv au,aq⟩⟩,aq⟩ trivial (λ_ _=>Y)) m12 (λk hk hkm D hD=>?_) (λhdn=>?_);obtain⟨y12,h,HI,HJ⟩:=adC k hk hkm;dsimp only[AS.Ov,rX]
 try dsimp only at h
 refine lE h λp32 adE h=>?_;rw[adE];obtain⟨⟨⟨Se,Sf⟩,⟨Sg,Sh⟩⟩,adF,h⟩:=bS h;rw[Option.some.inj adF];refine sr<|ag Y<|dn<|aW<|al (cs:=[az false,ax,az false,ax]) (by exact⟨au,aB,au,aB,aq⟩) Y<|so Y Y Y<|RT.done ?_;refine aV.n ⟨Y,?_⟩;dsimp only[AS.B5];refine bj<|qq<|bf mixed<|mv Y<|lV Y Y Y ?_;obtain⟨⟨⟨su,sw⟩,⟨FL,FM⟩⟩,wL,h⟩:=bS h;refine cl (vz wL) ⟨Y,Y,aq⟩<|ld Y Y (.k4 Y Y Y Y)<|bE h λyI HG h=>cl (yN HG) ⟨Y,Y,aq⟩ ?_;refine RT.done ⟨by kernel_rfl,?_⟩;refine aV.n<|bj<|sr<|lE h λlu rC h=>eq _ Y Y (wj (p:=yI) (q:=1) rC)<|ag Y<|dn ?_;cases lu;refine cF<|bA<|bG.n<|bG.n ?_;obtain rfl:=O (F h);obtain⟨adG,aik⟩:=HI _ Y;exact⟨adG,Y,Y,wR []⟩;refine cT<|sr<|RT.nM (cells:=[_]) .none (s:=.sv _) Y Y Y T Y<|dn<|cc<|bG.y (by decide)<|bG.y (by decide) ?_;obtain rfl:=O (V h);have adH:=HJ _ Y;subst adH;refine⟨Y,Y,?_⟩;refine bG.x<|aV.n<|sr<|lV Y Y Y<|ag Y<|dn<|bh<|O6.r ?_;obtain rfl:=O mE;exact R1 Y;have adI:=adD hdn;subst adI;obtain⟨ail,Yj⟩:∃q,adB ((Lr.rows ⟨bp,bt,bB,bF⟩).length)=q:=⟨_,Y⟩;rw[Yj]at mE
 try dsimp only
 refine bG.n<|aV.n<|sr<|lV Y Y Y<|ag Y<|dn<|bh<|O6.r ?_;obtain rfl:=O mE;exact R1 Y;refine cT<|sr<|ag Y<|dn<|bh<|aV.r<|O6.r ?_;obtain rfl:=O (V h);exact R1 Y
theorem sZ{x0:Lr}{x1:List Qr}{r:List Qr}(h:iH x0 x1=some r):Pure ah 39 [.agg (Dw x0),slc 4 (List.map eQ x1)] (slc 4 (List.map eQ r)):=by
 obtain⟨bp,bt,bB,bF⟩:=x0;refine bw Tryz.func39 Y (af Y) (λee M vs hvs=>?_);unfold iH at h;refine sr<|bx Y<|aI Y (aB (n:=4) (e:=eQ))<|dn<|sr<|fa Y Y<|lV Y Y Y<|mv Y<|bE h λx8 h8 h=>cl (Ci h8) ⟨Y,Y,aq⟩<|ag Y<|dn<|bh ?_;obtain rfl:=O h;exact R1 Y
theorem Cm{x0:Lr}{x1:List Qr}{x2:List Qr}{r:Int}(h:kR x0 x1 x2=some r):Pure ah 43 [.agg (Dw x0),slc 4 (List.map eQ x1),slc 4 (List.map eQ x2)] (ay r):=by
 obtain⟨bp,bt,bB,bF⟩:=x0;refine bw Tryz.func43 Y (af Y) (λee M vs hvs=>?_);unfold kR at h;refine sr<|bx Y<|ag Y<|dn<|qq<|qq<|bf mixed<|ld Y Y (.k4 Y Y Y Y)<|mv Y<|bE h λef gV h=>cl (sZ gV) ⟨Y,Y,aq⟩<|ld Y Y (.k4 Y Y Y Y)<|mv Y<|bE h λiW kJ h=>cl (sZ kJ) ⟨Y,Y,aq⟩<|bE h λfC lz h=>cl (kO lz) ⟨Y,Y,aq⟩ ?_;refine ag Y ?_;refine RT.done ⟨by kernel_rfl,?_⟩;refine aV.n<|sr<|mv Y<|lE h λgX lC h=>ne _ Y Y (G4 (p:=fC) (q:=0) lC)<|dn ?_;cases gX;refine fs<|sr<|mv Y<|mv Y<|bE (F h) λjc pO h=>cl (kO pO) ⟨Y,Y,aq⟩<|ag Y<|dn<|bh ?_;obtain rfl:=O h;exact R1 Y;refine cT<|sr<|mv Y<|ag Y<|dn<|bh<|aV.r ?_;obtain rfl:=O (V h);exact R1 Y
theorem zo{x0:Lr}{x1:List Qr}{r:List Qr}(h:kS x0 x1=some r):E4 ah 39 [.agg (Dw x0),slc 4 (List.map eQ x1)] (TR 43 4 eQ r):=by
 obtain⟨bp,bt,bB,bF⟩:=x0;refine qD Tryz.func39 Y (af Y) (λee M vs hvs=>?_);unfold kS at h;refine sr<|bx Y<|ag Y<|dn<|cY (mu 4 304 43 4 Y Y T)<|sr<|fa Y Y<|lV Y Y Y<|mv Y<|bE h λx8 h8 h=>cN (A8 h8) ⟨Y,Y,aq⟩<|an (s:=.row _) Y<|dn<|bh ?_;obtain rfl:=O h;exact⟨.inr Y,_,.tmp Y,Y⟩
end
end Go.Proofs.YtningmnklfpfjaaGreat
namespace Go.Fw
section
open Go.RowKit
def I5(P:Program)(f:FuncId)(args:Nat->List AV)(T:TypeId)(c:List Oc)(Post:Nat->Mem->World->Value->Prop):Prop:=
 ∀(M:Mem) (w:World) (β:Nat) (vs us:List Value),M.c8 w->oW M w β T c us->c9 (oe M β) (args β) vs->
  Calls P f ⟨vs⟩ w λe w'=>∃v M',e=.returned v/\M.le M'/\(∀b o x,M' b o=some x->M b o=some x\/w.heap.size<=b)/\M'.c8 w'/\Post w.heap.size M' w' v/\
   oW M' w' β T c us/\w'.os=w.os/\w'.tape=w.tape/\w'.output=w.output/\w.heap.size<=w'.heap.size/\∀k,k<w.heap.size->k≠β->¬eu c us k->w'.heap[k]? =w.heap[k]?
theorem Gl{P:Program}{f:FuncId}{fn:Func}{code:Code}{args:Nat->List AV}{T:TypeId}{c:List Oc}{Post:Nat->Mem->World->Value->Prop}(ids:List Nat)(hf:P.funcs[f]? =some fn)(hb:fn.body=some code)(hn:∀β,(args β).length<=fn.ntmps)(IZ:∀β,(args β).all AV.oy=true)(BY:ids.Nodup)(R8:ids.length=(rowsOf c).length)(hge:(ids.all λi=>Nat.ble 1000 i)=true)(UN:D7 c)(Rq:AS->Prop)
  (h:∀(w:World) (M:Mem) (β:Nat) (us:List Value),Ok P (Py w M β c us ids hge) code (AS.BR fn.ntmps (args β) [(1000,⟨T,cj ids c⟩)] (ids.zip (rowsOf c))) (λe S=>(e=.normal\/e=.ret)/\Rq S/\S.b 1000=some ⟨T,cj ids c⟩/\Lv S ids (rowsOf c)))
  (hr:∀(w:World) (M:Mem) (β:Nat) (us:List Value) (S':AS) (E:Env) (a:Act) (w':World),Rq S'->bn (Py w M β c us ids hge) S' E a w'->S'.b 1000=some ⟨T,cj ids c⟩->(∀g,eu c us g->∃j∈ids,(E.ν j).ownBlock=some g)->(∀j∈ids,∃R,S'.r j=.live R)->∃v,(results fn a.tmps).run P w'=.ok v w'/\Post w.heap.size E.M w' v):I5 P f args T c Post:=by
 intro M w β vs us hM ho hv;have Wi:(b9 c us).length=(rowsOf c).length:=by rw[<-iq ho.al,List.length_map]
 have hnd:((ids.zip (b9 c us)).map (·.1)).Nodup:=by rw[zS (by omega)];exact BY
 have Tr:bn (Py w M β c us ids hge) (AS.BR fn.ntmps (args β) [(1000,⟨T,cj ids c⟩)] (ids.zip (rowsOf c))) ⟨λ_=>β,kg (ids.zip (b9 c us)) (λ_=>.nilIface),λ_=>False,M⟩ {tmps:=⟨vs⟩++Array.replicate (fn.ntmps-(⟨vs⟩:Array Value).size) undef,defers:=[]} w:=by
  have h0:=IY (n:=fn.ntmps) ids hM ho hv (IZ β) (hn β) BY R8
  exact{wf:=h0.wf,marks:=h0.marks,size:=h0.size,os:=h0.os,tape:=h0.tape,output:=h0.output,grown:=h0.grown,frame:=h0.frame,m0:=h0.m0,eC:=h0.eC,c8:=h0.c8,tm:=h0.tm,bx:=h0.bx,inj:=h0.inj,rx:=h0.rx,fg:=h0.fg,gB:=h0.gB,dX:=λi v e=>(by
   obtain⟨R,hm⟩:=D6 e
   exact iD hnd hm),ko:=h0.ko,jj:=trivial}
 refine gj Y hf hb Tr (h w M β us) ?_;rintro S' E a w' ⟨hq,hB,hL⟩ hh;have hβ:E.β 1000=β:=hh.gB 1000 β Y;obtain⟨us',ho',jS⟩:=pY hh hB hL BY;rw[hβ]at ho';obtain⟨_,_,_,WJ,q2,q3⟩:=hh.bx 1000 _ hB;rw[hβ,ho'.hp]at q2;obtain rfl:us'=WJ:=by
  have:=Option.some.inj q2;injection this with e
  injection e
 obtain⟨_,adJ⟩:=sS hh hL q3;have jb:b9 c us=b9 c us':=by
  rw[adJ];have key:∀(ids:List Nat) (l:List (Row×Value)) (Rs:List Row),ids.length=l.length->l.map (·.1)=Rs->(∀i R v,(i,R,v)∈ids.zip l->E.ν i=v)->l=Rs.zip (ids.map E.ν):=by
   intro ids
   induction ids with
   |nil=>intro l Rs hl hm _;cases l with|nil=>cases hm;rfl|cons _ _=>simp at hl
   |cons i ids ih=>
    intro l Rs hl hm hν;cases l with
    |nil=>simp at hl
    |cons p l=>
     cases hm;obtain⟨R,v⟩:=p;rw[List.map_cons,List.map_cons,List.zip_cons_cons,hν i R v (by rw[List.zip_cons_cons];simp),<-ih l _ (by simpa using hl) Y (λi R v hm=>hν i R v (by rw[List.zip_cons_cons];exact List.mem_cons_of_mem _ hm))]
  exact key ids _ _ (by omega) (iq ho.al) (λi R v hm=>hh.dX i v (MK hnd hm))
 obtain rfl:us=us':=D8 UN ho.al ho'.al jb;obtain⟨v,hv,hx⟩:=hr w M β us S' E a w' hq hh hB (λg hg=>(jS g).1 hg) (λj hj=>hL.mem j hj);refine⟨v,hv,v,E.M,Y,hh.m0,λb o x e=>?_,hh.c8,hx,ho',hh.os,hh.tape,hh.output,hh.grown,λk hk hne hno=>hh.frame k hk (λe=>e.elim hne hno)⟩;rcases hh.eC b o x e with q|q|q|q
 ·exact .inl q
 ·exact .inr q
 ·rw[show b=β from q,ho'.nb o]at e;cases e
 rw[(ho'.nr b q).2 o]at e;cases e
section steps
variable {P:Program}{C:Ctx}{ops:Array Oper}{S:AS}{nd:Bool}{K:List Ac->AS->Prop}{rest:List Oper}{acc:List Ac}
variable {gd:Option (Nat×Bool)}{rg:List Nat}{d:Nat}{ty:TypeId}{pos:String}{aft:Array Edge}{x y z:Operand}{T U E0:TypeId}
end steps
end
section
open Go.RowKit
instance{cs:List SV}:One (ref cs):=⟨λ_ _ h=>by obtain⟨b,o,rfl,_⟩:=h;rfl⟩
section steps
variable {P:Program}{C:Ctx}{ops:Array Oper}{S:AS}{nd:Bool}{K:List Ac->AS->Prop}{rest:List Oper}{acc:List Ac}
variable {gd:Option (Nat×Bool)}{rg:List Nat}{d:Nat}{ty:TypeId}{pos:String}{aft:Array Edge}{x y z:Operand}{T U E0:TypeId}
theorem RT.di(hg:Gd ops S gd rg){cs:List SV}(hx:S.ev x=.sv (ref cs))(hd:d<S.n)
  (next:RunT P C ops nd K rest (⟨rg++aZ x,[],[],⟨some (d,.sv (ref cs)),[],[]⟩⟩::acc) (S.set d (.sv (ref cs)))):RunT P C ops nd K (⟨some d,.nilCheck x,ty,pos,aft,gd⟩::rest) acc S:=
 RT.value hg (aZ x) [] [] (.sv (ref cs)) hd (by intro c h;cases h) (λS' ht _ _ E a w h=>by
  have h1:=h.ev x;rw[bz (λ_ h=>h) ht,hx]at h1;have h1:(ref cs).h E.M (a.eval x):=h1;obtain⟨b,o,e,h2⟩:=h1;exact⟨a.eval x,by simp[execOp,e],⟨b,o,e,h2⟩,eU⟩) next
theorem RT.UO(hg:Gd ops S gd rg)[tT:MH P T]{cs:List SV}(hx:S.ev x=.sv (ref cs))(hy:S.ev y=.sv (.v (.pointer none)))(hd:d<S.n)
  (next:RunT P C ops nd K rest (⟨rg++(aZ x++aZ y),[],[],⟨some (d,.sv (.v (.bool false))),[],[]⟩⟩::acc) (S.set d (.sv (.v (.bool false))))):RunT P C ops nd K (⟨some d,.binOp .eql T x y U,ty,pos,aft,gd⟩::rest) acc S:=
 RT.value hg (aZ x++aZ y) [] [] (.sv (.v (.bool false))) hd (by intro c h;cases h) (λS' ht _ _ E a w h=>by
  have h1:=h.ev x;rw[bz (λ_ h=>List.mem_append_left _ h) ht,hx]at h1;have h2:=h.ev y;rw[bz (λ_ h=>List.mem_append_right _ h) ht,hy]at h2;have h1:(ref cs).h E.M (a.eval x):=h1;obtain⟨b,o,h1,_⟩:=h1;have h2:a.eval y=.pointer none:=h2;have e:=run_eql_pointer_nil (P:=P) w T (some ⟨b,o,none⟩) tT.u;refine⟨.bool false,?_,Y,eU⟩;simp[execOp,h1,h2,eqGuard,e]) next
end steps
end
section
open Go.RowKit
noncomputable def uO(M:Mem)(w:World)(p:Nat->Prop):Mem:=λb o=>@ite _ (p b) (Classical.propDecidable _) (match w.cell? ⟨b,o,none⟩with|some v=>if v.oneCell'=true then some v else none|none=>none) (M b o)
noncomputable def wZ(M:Mem)(p:Nat->Prop):Mem:=λb o=>@ite _ (p b) (Classical.propDecidable _) none (M b o)
theorem Gm{M:Mem}{w:World}{p:Nat->Prop}{b o:Nat}{v:Value}(hb:p b)(hc:w.cell? ⟨b,o,none⟩=some v)(h1:v.oneCell'=true):uO M w p b o=some v:=by
 unfold uO;rw[if_pos hb,hc];simp[h1]
theorem Kn{M:Mem}{w:World}{p:Nat->Prop}(h:M.c8 w):(uO M w p).c8 w:=λb o v e=>by
 unfold uO at e;split at e
 ·split at e
  ·rename_i q;split at e
   ·rename_i h1;cases e;exact Fact.of q h1
   cases e
  cases e
 exact h b o v e
theorem w5{M:Mem}{w:World}{p:Nat->Prop}(h:∀b,p b->∀o,M b o=none):M.le (uO M w p):=λb o v e=>by
 unfold uO;rw[if_neg];exact e;intro hb;rw[h b hb o]at e;cases e
theorem Gn{M:Mem}{p:Nat->Prop}:(wZ M p).le M:=λb o v e=>by
 unfold wZ at e;split at e
 ·cases e
 exact e
theorem Gp{M:Mem}{p:Nat->Prop}{b o:Nat}{v:Value}(hb:¬p b)(e:M b o=some v):wZ M p b o=some v:=by unfold wZ;rw[if_neg hb];exact e
theorem Be{M:Mem}{p:Nat->Prop}{b:Nat}(hb:p b)(o:Nat):wZ M p b o=none:=by unfold wZ;rw[if_pos hb]
def ZW:List Oc->List SV->Prop
 |[],[]=>True
 |.s x::l,y::k=>(SV.imp x y/\∀M v,x.h M v->v.oneCell'=true)/\ZW l k
 |.r R::l,y::k=>(∃rows,Rows R.sz rows R.cells/\rows.length=R.n/\(∀M vs,SV.dZ M R.cells vs->∀v∈vs,v.oneCell'=true)/\SV.imp (slc R.sz rows) y)/\ZW l k
 |_,_=>False
theorem dG{E:TypeId}{n:Nat}{α:Type}{e:α->List SV}{l:List α}[el:EL e n]:∃rows,Rows (TR E n e l).sz rows (TR E n e l).cells/\rows.length=(TR E n e l).n/\(∀M vs,SV.dZ M (TR E n e l).cells vs->∀v∈vs,v.oneCell'=true)/\SV.imp (slc (TR E n e l).sz rows) (slc n (l.map e)):=
 ⟨l.map e,pK l,by simp,lK l,au⟩
theorem MR{M:Mem}{w:World}{p:Nat->Prop}{R:Row}{v:Value}{rows:List (List SV)}(hno:∀b,p b->∀o,M b o=none)(hb:∀g,v.ownBlock=some g->p g)(ho:∃vs:List Value,w.ownsRow 0 R.E R.sz v R.n vs/\SV.dZ M R.cells vs)
  (jb:Rows R.sz rows R.cells) (hn:rows.length=R.n) (hone:∀M vs,SV.dZ M R.cells vs->∀v∈vs,v.oneCell'=true):(slc R.sz rows).h (uO M w p) v/\v.oneCell'=true:=by
 obtain⟨vs,hown,hvs⟩:=ho;have uE:=rV jb;rcases hown.2 with⟨h1,h2⟩|⟨g,cap,cur,h1,_,h2,h3,h4,h5,h6⟩
 ·rw[h2]at hn;exact⟨.inl ⟨none,h1,List.length_eq_zero_iff.1 hn⟩,by rw[h1];rfl⟩
 have hg:p g:=hb g (by rw[h1];rfl);have hm:maxLen=9223372036854775807:=by decide
 refine⟨.inr ⟨g,0,cap,by rw[h1,hn],by rw[hn];exact h3,by omega,λk row hk=>?_⟩,by rw[h1];rfl⟩;obtain⟨q1,q2⟩:=pI jb k row hk;refine⟨q1,λj s hs=>?_⟩;have B0:=q2 j s hs;obtain⟨y,hy,hys⟩:=hvs.get B0;have hlt:k*R.sz+j<R.n*R.sz:=by
  have:=(List.getElem?_eq_some_iff.1 B0).1;rw[uE,hn]at this;exact this
 have h1':=hone _ _ hvs y (List.mem_of_getElem? hy);refine⟨y,Gm hg ?_ h1',h1',s.mono (w5 hno) hys⟩;rw[<-h6,List.getElem?_take,if_pos hlt]at hy;simp only[World.cell?,h2];simpa using hy
theorem D9{M:Mem}{w:World}{p:Nat->Prop}(hno:∀b,p b->∀o,M b o=none):∀{c:List Oc} {cs:List SV} {us:List Value} {k:Nat} {s:SV},ZW c cs->oV M w c us->(∀q∈b9 c us,∀g,q.2.ownBlock=some g->p g)->cs[k]? =some s->∃y,us[k]? =some y/\y.oneCell'=true/\s.h (uO M w p) y
 |.s x::l,y::cs,u::us,k,s,hi,ho,hb,hk=>by
  cases k with
  |zero=>cases hk;exact⟨u,rfl,hi.1.2 _ _ ho.1,y.mono (w5 hno) (hi.1.1 _ _ ho.1)⟩
  |succ k=>exact D9 hno (c:=l) (cs:=cs) (us:=us) (k:=k) hi.2 ho.2 hb hk
 |.r R::l,y::cs,u::us,k,s,hi,ho,hb,hk=>by
  cases k with
  |zero=>
   cases hk;obtain⟨rows,q1,q2,q3,q4⟩:=hi.1;obtain⟨r1,r2⟩:=MR hno (λg hg=>hb (R,u) (by rw[b9];simp) g hg) ho.1 q1 q2 q3;exact⟨u,Y,r2,q4 _ _ r1⟩
  |succ k=>exact D9 hno (c:=l) (cs:=cs) (us:=us) (k:=k) hi.2 ho.2 (λq hq=>hb q (by rw[b9];exact List.mem_cons_of_mem _ hq)) hk
 |[],[],_,_,_,_,_,_,hk=>by simp at hk
 |[],_::_,_,_,_,hi,_,_,_=>hi.elim
 |.s _::_,[],_,_,_,hi,_,_,_=>hi.elim
 |.r _::_,[],_,_,_,hi,_,_,_=>hi.elim
 |.s _::_,_::_,[],_,_,_,ho,_,_=>ho.elim
 |.r _::_,_::_,[],_,_,_,ho,_,_=>ho.elim
theorem vC{M M':Mem}{w w':World}(hM:M.le M'):∀{c:List Oc} {us:List Value},oV M w c us->(∀q∈b9 c us,∀g,q.2.ownBlock=some g->w'.heap[g]? =w.heap[g]?)->oV M' w' c us
 |[],[],_,_=>trivial
 |.s x::l,u::us,h,hs=>⟨x.mono hM h.1,vC hM (c:=l) (us:=us) h.2 hs⟩
 |.r R::l,u::us,h,hs=>by
  obtain⟨vs,h1,h2⟩:=h.1;exact⟨⟨vs,dm h1 (λg hg=>hs (R,u) (by rw[b9];simp) g hg),h2.mono hM⟩,vC hM (c:=l) (us:=us) h.2 (λq hq=>hs q (by rw[b9];exact List.mem_cons_of_mem _ hq))⟩
 |[],_::_,h,_=>h.elim
 |.s _::_,[],h,_=>h.elim
 |.r _::_,[],h,_=>h.elim
def AV.Yk(cells:List SV):AV->SV
 |.sv s=>s
 |_=>ref cells
def AV.Si:AV->Bool
 |.sv _=>true
 |.ptr i o=>Nat.beq i 1000&&Nat.beq o 0
 |_=>false
theorem Gq{M M':Mem}{β:Nat}{cells:List SV}(hM:M.le M')(hc:(ref cells).h M' (.pointer (some ⟨β,0,none⟩))):∀{args:List AV} {vs:List Value},(args.all AV.Si)=true->c9 (oe M β) args vs->SV.dZ M' (args.map (AV.Yk cells)) vs
 |[],[],_,_=>trivial
 |x::l,v::vs,hy,h=>by
  rw[List.all_cons,Bool.and_eq_true]at hy;refine⟨?_,Gq hM hc hy.2 h.2⟩;cases x with
  |sv s=>exact s.mono hM h.1
  |ptr i o=>
   have h1:=Bool.and_eq_true_iff.1 hy.1;have e:v=.pointer (some ⟨β,o,none⟩):=h.1;rw[e,Nat.eq_of_beq_eq_true h1.2];exact hc
  |_=>exact(Bool.false_ne_true hy.1).elim
 |[],_::_,_,h=>h.elim
 |_::_,[],_,h=>h.elim
theorem eT{P:Program}{f:FuncId}{args:List AV}{T:TypeId}{c:List Oc}{cells:List SV}{r:Nat->SV}{res:SV}(hp:∀N,cL P f N (args.map (AV.Yk cells)) (r N))(hy:args.all AV.Si=true)(hi:ZW c cells)(hr:∀N M v,(r N).h M v->res.h (M.fr N) v):Bd P f args T c res:=by
 intro M w β vs us hM ho hv;have hno:∀b,(b=β\/eu c us b)->∀o,M b o=none:=λb hb o=>by
  rcases hb with rfl|hb
  ·exact ho.nb o
  exact(ho.nr b hb).2 o
 have hlt:∀b,(b=β\/eu c us b)->b<w.heap.size:=λb hb=>by
  rcases hb with rfl|⟨q,hq,hg⟩
  ·exact(Array.getElem?_eq_some_iff.1 ho.hp).1
  obtain⟨ws,h1,_⟩:=kj ho.al q hq;rcases h1.2 with⟨h2,_⟩|⟨g,cap,cur,h2,_,h3,_⟩
  ·rw[h2]at hg;cases hg
  rw[h2]at hg;cases hg;exact(Array.getElem?_eq_some_iff.1 h3).1
 have uE:(ref cells).h (uO M w (λb=>b=β\/eu c us b)) (.pointer (some ⟨β,0,none⟩)):=⟨β,0,Y,λk s hk=>by
  obtain⟨y,h1,h2,h3⟩:=D9 hno hi ho.al (λq hq g hg=>.inr ⟨q,hq,hg⟩) hk;refine⟨y,Gm (.inl Y) ?_ h2,h2,h3⟩;simp only[World.cell?,ho.hp];simpa using h1⟩
 refine(hp w.heap.size _ w vs (Nat.le_refl _) (Kn hM) (Gq (w5 hno) uE hy hv)).mono ?_;rintro e w' ⟨v,M',rfl,hM',hnew,adK,hres,hb⟩;have hMM:M.le (wZ M' (λb=>b=β\/eu c us b)):=λb o x e=>Gp (λhb=>by rw[hno b hb o]at e;cases e) (hM' b o x (w5 hno b o x e));refine⟨v,wZ M' (λb=>b=β\/eu c us b),Y,hMM,λb o x e=>?_,λb o x e=>adK b o x (Gn b o x e),res.mono (λb o x e=>?_) (hr _ _ _ hres),?_,hb.os,hb.tape,hb.output,hb.size,λk hk _ _=>hb.block k hk⟩
 ·rcases hnew b o x (Gn b o x e)with q|q
  ·refine .inl ?_;unfold uO at q;split at q
   ·rename_i BQ;have e2:wZ M' (λb=>b=β\/eu c us b) b o=none:=Be (p:=λb=>b=β\/eu c us b) BQ o;rw[e2]at e;cases e
   exact q
  exact .inr q
 ·unfold Mem.fr at e;split at e
  ·rename_i hN;exact Gp (λBQ=>by have:=hlt b BQ;omega) e
  cases e
 exact⟨by rw[hb.block β (hlt β (.inl Y))];exact ho.hp,vC hMM ho.al (λq hq g hg=>hb.block g (hlt g (.inr ⟨q,hq,hg⟩))),λo=>Be (p:=λb=>b=β\/eu c us b) (.inl Y) o,λg hg=>⟨(ho.nr g hg).1,λo=>Be (p:=λb=>b=β\/eu c us b) (.inr hg) o⟩,ho.ap⟩
theorem l7{P:Program}{f:FuncId}{args:List SV}{r:SV}(h:Pure P f args r)(N:Nat):cL P f N args r:=λM w vs _ hM hv=>h M w vs hM hv
theorem UP{s:SV}:∀(N:Nat) (M:Mem) (v:Value),(nw N s).h M v->s.h (M.fr N) v:=λ_ _ _ h=>h.1
theorem zU{l:List Qr}:∀(N:Nat) (M:Mem) (v:Value),(nw N (slc 4 (l.map (fQ N)))).h M v->(slc 4 (l.map eQ)).h (M.fr N) v:=λN M v h=>Oz (M.fr N) v (by
 obtain⟨h1,h2⟩:=h;rw[<-Mem.LU]at h1;exact⟨h1,λg e=>by rw[Mem.LU];exact h2 g e⟩)
theorem I6{x:Value}:∀(N:Nat) (M:Mem) (v:Value),(SV.v x).h M v->(SV.v x).h (M.fr N) v:=λ_ _ _ h=>h
theorem Ea{P:Program}{f:FuncId}{fn:Func}{code:Code}{args:Nat->List AV}{T:TypeId}{c:List Oc}{res:SV}(ids:List Nat)(hf:P.funcs[f]? =some fn)(hb:fn.body=some code)(hn:∀β,(args β).length<=fn.ntmps)(IZ:∀β,(args β).all AV.oy=true)(BY:ids.Nodup)(R8:ids.length=(rowsOf c).length)(hge:(ids.all λi=>Nat.ble 1000 i)=true)(UN:D7 c)
  (h:∀(w:World) (M:Mem) (β:Nat) (us:List Value),Ok P (Py w M β c us ids hge) code (AS.BR fn.ntmps (args β) [(1000,⟨T,cj ids c⟩)] (ids.zip (rowsOf c))) (λe S=>(e=.normal\/e=.ret)/\Lh P S fn.results.toList res/\S.b 1000=some ⟨T,cj ids c⟩/\Lv S ids (rowsOf c))):I5 P f args T c (λ_ M' _ v=>res.h M' v):=
 Gl ids hf hb hn IZ BY R8 hge UN _ h (λw M β us S' E a w' hr hh _ _ _=>by
  obtain⟨v,hv,hx⟩:=(yY.sv hr).run hh;exact⟨v,hv,hx⟩)
section steps
variable {P:Program}{C:Ctx}{ops:Array Oper}{S:AS}{nd:Bool}{K:List Ac->AS->Prop}{rest:List Oper}{acc:List Ac}{Q:Exit->AS->Prop}
variable {gd:Option (Nat×Bool)}{rg:List Nat}{d:Nat}{ty:TypeId}{pos:String}{aft:Array Edge}{x y z:Operand}{T U E0:TypeId}
theorem PA{c:Code}{i k β:Nat}(hp:C.gB k=some β)(hB:S.b i=some ⟨T,[.ptr k 0]⟩)(h:Ok P C c (S.jt i ⟨T,[.sv (.v (.pointer (some ⟨β,0,none⟩)))]⟩) Q):Ok P C c S Q:=λa w ⟨E,hh⟩=>by
 refine h a w ⟨E,?_⟩;have hβ:E.β k=β:=hh.gB k β hp;have yX:∀j B,(S.jt i ⟨T,[.sv (.v (.pointer (some ⟨β,0,none⟩)))]⟩).b j=some B->(j=i/\B=⟨T,[.sv (.v (.pointer (some ⟨β,0,none⟩)))]⟩)\/(j≠i/\S.b j=some B):=λj B e=>by
  by_cases hj:j=i
  ·subst hj;rw[AS.cO]at e;cases e;exact .inl ⟨rfl,rfl⟩
  rw[AS.bQ _ _ _ _ hj]at e;exact .inr ⟨hj,e⟩
 have bTo:∀j,(∃B,S.b j=some B)->∃B,(S.jt i ⟨T,[.sv (.v (.pointer (some ⟨β,0,none⟩)))]⟩).b j=some B:=λj ⟨B,e⟩=>by
  by_cases hj:j=i
  ·subst hj;exact⟨_,AS.cO _ _ _⟩
  exact⟨B,by rw[AS.bQ _ _ _ _ hj];exact e⟩
 have UQ:∀j B,(S.jt i ⟨T,[.sv (.v (.pointer (some ⟨β,0,none⟩)))]⟩).b j=some B->∃B',S.b j=some B':=λj B e=>by
  rcases yX j B e with⟨rfl,_⟩|⟨_,q⟩
  ·exact⟨_,hB⟩
  exact⟨_,q⟩
 exact{hh with
  wf:=⟨λs j hj=>bTo j (hh.wf.tb s j hj),hh.wf.tr,λj B e y hy m hm=>by
    rcases yX j B e with⟨rfl,rfl⟩|⟨_,q⟩
    ·obtain rfl:y=_:=by simpa using hy
     exact(hm:False).elim
    ·exact bTo m (hh.wf.bb j B q y hy m hm),λj B e y hy m hm=>by
    rcases yX j B e with⟨rfl,rfl⟩|⟨_,q⟩
    ·obtain rfl:y=_:=by simpa using hy
     exact(hm:False).elim
    exact hh.wf.br j B q y hy m hm⟩
  bx:=λj B e=>by
   rcases yX j B e with⟨rfl,rfl⟩|⟨_,q⟩
   ·obtain⟨h1,h2,h3,vs,h4,h5⟩:=hh.bx j _ hB;refine⟨h1,h2,h3,vs,h4,?_⟩
    match vs,h5 with
    |[v],h5=>exact⟨(show v=.pointer (some ⟨β,0,none⟩)from hβ▸h5.1),aq⟩
   exact hh.bx j B q
  inj:=λj j' B B' e e' q=>by
   obtain⟨_,h1⟩:=UQ j B e;obtain⟨_,h2⟩:=UQ j' B' e';exact hh.inj j j' _ _ h1 h2 q
  rx:=λj R hR=>by
   obtain⟨p1,p2⟩:=hh.rx j R hR;refine⟨p1,λg hg=>?_⟩;obtain⟨q1,q2,q3,q4⟩:=p2 g hg;refine⟨q1,q2,q3,λm B e=>?_⟩;obtain⟨_,h1⟩:=UQ m B e
   exact q4 m _ h1}
theorem RT.yf(hg:Gd ops S gd rg)[tV:pH P T]{k β:Nat}{B:nL}(hx:S.ev x=.sv (ref [.v (.pointer (some ⟨β,0,none⟩))]))(hp:C.gB k=some β)(hB:S.b k=some B)(hd:d<S.n)
  (next:RunT P C ops nd K rest (⟨rg++aZ x,[k],[],⟨some (d,.ptr k 0),[],[]⟩⟩::acc) (S.set d (.ptr k 0))):RunT P C ops nd K (⟨some d,.load T x,ty,pos,aft,gd⟩::rest) acc S:=
 RT.value hg (aZ x) [k] [] (.ptr k 0) hd (by intro c h;cases h) (λS' ht hb _ E a w h=>by
  have h1:=h.ev x;rw[bz (λ_ h=>h) ht,hx]at h1;obtain⟨b,o,e,hc⟩:=h1;obtain⟨u,hu,WD,hs⟩:=hc 0 _ Y;have hβ:E.β k=β:=h.gB k β hp;have hs:u=.pointer (some ⟨β,0,none⟩):=hs;refine⟨u,?_,by show u=.pointer (some ⟨E.β k,0,none⟩);rw[hβ];exact hs,λj e=>?_,λj e=>e.elim⟩
  ·have Tf:w.cell? ⟨b,o,none⟩=some u:=(h.c8 _ _ _ hu).cell WD;simp[execOp,e,Instr.loadAt,Instr.sureAddr,loadVar,tV.isAgg,Tf]
  have e:j=k:=e;subst e;exact⟨B,by rw[hb j (by simp)];exact hB⟩) next
theorem RT.PB(hg:Gd ops S gd rg){f:FuncId}[dw P f]{g:Operand}{xs:Array Operand}{at_:Array TypeId}{args:List AV}{caps:Nat->List SV}{β:Nat}{T:TypeId}{c:List Oc}{res:SV}(hp:I5 P f (λβ=>args++(caps β).map AV.sv) T c (λ_ M' _ v=>res.h M' v))(i:Nat)(js:List Nat)(Hs:C.gB i=some β)(hB:S.b i=some ⟨T,cj js c⟩)(hL:Lv S js (rowsOf c))(Sa:js.Nodup)
  (IZ:args.all AV.oy=true) (hf:S.ev g=.sv (iV f (caps β))) (hargs:uX S xs.toList (args.map (AV.R7 i))) (hd:d<S.n)
  (next:RunT P C ops nd K rest (⟨rg++(aZ g++xs.toList.flatMap aZ),[i],js,⟨some (d,.sv res),[],[]⟩⟩::acc) (S.set d (.sv res))):RunT P C ops nd K (⟨some d,.call ⟨.value g,xs,at_⟩,ty,pos,aft,gd⟩::rest) acc S:=by
 refine .inl ⟨_,[i],js,_,?_,next⟩;rintro S' hn ht hb hr k a w L Q ho ⟨E,h⟩ Yg;refine cx (C:=C) ho (hg.wanted h (λs hs=>ht s (List.mem_append_left _ hs)) Y) ?_;have rT:(iV f (caps β)).h E.M (a.eval g):=by
  have h1:=h.ev g;rw[bz (λ_ h=>List.mem_append_right _ (List.mem_append_left _ h)) ht,hf]at h1;exact h1
 obtain⟨nP,rT,xI⟩:=rT;have hβ:E.β i=β:=h.gB i β Hs;have hall:=zT IZ (uX.vals h hargs (λs hs=>ht s (List.mem_append_right _ (List.mem_append_right _ hs))));have fk:S'.b i=some ⟨T,cj js c⟩:=by rw[hb i (by simp)];exact hB
 have Sb:Lv S' js (rowsOf c):=hL.congr (λk hk=>hr k hk);obtain⟨us,Px,Bb⟩:=pY h fk Sb Sa;have Yl:c9 (oe E.M (E.β i)) (args++(caps (E.β i)).map AV.sv) (xs.toList.map a.eval++nP):=hall.append (c9.vS (E:=oe E.M (E.β i)) (by rw[hβ];exact xI));have hrun:(execOp a.eval ⟨some d,.call ⟨.value g,xs,at_⟩,ty,pos,aft,gd⟩).run P w=.ok (.enter f ⟨xs.toList.map a.eval++nP⟩) w:=by
  have e2:xs.map a.eval++⟨nP⟩=⟨xs.toList.map a.eval++nP⟩:=by apply Array.ext';simp
  have e1:=dw.run (P:=P) (f:=f) (xs.map a.eval++⟨nP⟩) w;rw[<-e2];simp[execOp,resolve,rT,Deferred.ofValue,invoke,e1]
 refine cq (C:=C) (by intro c h;cases h) hrun ?_;refine⟨λh=>by simp at h,gh ((hp E.M w (E.β i) _ us h.c8 Px Yl).mono ?_)⟩;rintro e w' ⟨v,M',rfl,hM,hnew,hin,hv,IT,hos,pX,hout,hsize,jS⟩;have h1:=h.I3 fk Sb Sa Px hM hnew hin IT hos pX hout hsize jS;exact Yg _ _ ⟨_,h1.put (x:=.sv res) (v:=v) hv (by show d<S'.n;omega) eU⟩
theorem PC{α:Type}(l k:List α):(EG l k).length=l.length:=by unfold EG;simp;omega
theorem C0{M:Mem}{b:Nat}{α:Type}{e:α->List SV}[el:EL e 1]:∀(k:List α) (o:Nat),(∀(i:Nat) (row:List SV),(k.map e)[i]? =some row->∀(q:Nat) (s:SV),row[q]? =some s->∃y,M b (o+i*1+q)=some y/\y.oneCell'=true/\s.h M y)->∃cs:List Value,cs.length=k.length/\SV.dZ M (k.flatMap e) cs/\∀j v,cs[j]? =some v->M b (o+j)=some v/\v.oneCell'=true
 |[],_,_=>⟨[],Y,aq,λj v h=>by simp at h⟩
 |x::k,o,h=>by
  obtain⟨cs,h1,h2,h3⟩:=C0 k (o+1) (λi row hr q s hs=>by
   have:=h (i+1) row (by simpa using hr) q s hs;rwa[show o+(i+1)*1+q=o+1+i*1+q by omega]at this)
  have hl:=el.len x
  match he:e x,hl with
  |[s],_=>
   obtain⟨y,q1,q2,q3⟩:=h 0 [s] (by simp[he]) 0 s Y;refine⟨y::cs,by simp[h1],?_,λj v hj=>?_⟩
   ·rw[List.flatMap_cons,he];exact⟨q3,h2⟩
   cases j with
   |zero=>cases hj;exact⟨by simpa using q1,q2⟩
   |succ j=>rw[show o+(j+1)=o+1+j by omega];exact h3 j v (by simpa using hj)
theorem Gr{M:Mem}{α:Type}{e:α->List SV}[el:EL e 1]:∀(l:List α) (vs:List Value) (m:Nat),SV.dZ M (l.flatMap e) vs->SV.dZ M ((l.drop m).flatMap e) (vs.drop m)
 |l,vs,0,h=>by simpa using h
 |[],vs,m+1,h=>by
  cases vs with
  |nil=>trivial
  |cons _ _=>exact h.elim
 |x::l,vs,m+1,h=>by
  have hl:=el.len x
  match he:e x,hl with
  |[s],_=>
   rw[List.flatMap_cons,he]at h
   match vs,h with
   |v::vs,h=>exact Gr l vs m h.2
theorem RT.Ym(hg:Gd ops S gd rg)[tS:eE P T E0 1]{α:Type}{e:α->List SV}[el:EL e 1]{i:Nat}{E1:TypeId}{l k:List α}{m:Int}(hx:S.ev x=.row i)(hR:S.r i=.live (TR E1 1 e l))(hy:S.ev y=.sv (slc 1 (k.map e)))(hd:d<S.n)(hm:((Min.min k.length l.length:Nat):Int)=m)
  (next:RunT P C ops nd K rest (⟨rg++(aZ x++aZ y),[],[i],⟨some (d,.sv (.v (.int .i64 m))),[],[(i,.live (TR E1 1 e (EG l k)))]⟩⟩::acc) ((AS.bY [(i,.live (TR E1 1 e (EG l k)))] S).set d (.sv (.v (.int .i64 m))))):RunT P C ops nd K (⟨some d,.call ⟨.builtin .copy,#[x,y],#[T,U]⟩,ty,pos,aft,gd⟩::rest) acc S:=by
 subst hm;refine .inl ⟨_,[],[i],_,?_,next⟩;rintro S' hn' ht _ Le ix a w L Q ho ⟨E,h⟩ hL;refine cx (C:=C) ho (hg.wanted h (λs hs=>ht s (List.mem_append_left _ hs)) Y) ?_;have nI:S'.r i=.live (TR E1 1 e l):=by rw[Le i (by simp)];exact hR
 have h1:a.eval x=E.ν i:=by
  have h1:=h.ev x;rw[bz (λ_ h=>List.mem_append_right _ (List.mem_append_left _ h)) ht,hx]at h1;exact h1
 have h2:(slc 1 (k.map e)).h E.M (a.eval y):=by
  have h2:=h.ev y;rw[bz (λ_ h=>List.mem_append_right _ (List.mem_append_right _ h)) ht,hy]at h2;exact h2
 have hsrc:∃sa sc,a.eval y=.slice sa k.length sc:=by
  rcases h2 with⟨sa,q1,q2⟩|⟨b,o,c,q1,_⟩
  ·have:k=[]:=List.map_eq_nil_iff.1 q2;subst this;exact⟨sa,0,q1⟩
  rw[List.length_map]at q1;exact⟨_,c,q1⟩
 obtain⟨⟨us,hown,zD⟩,_⟩:=h.rx i _ nI;have adL:∃da dc,E.ν i=.slice da l.length dc:=by
  rcases hown.2 with⟨q1,q2⟩|⟨g,cap,cur,q1,_⟩
  ·have q2:l.length=0:=q2;exact⟨none,0,by rw[q2];exact q1⟩
  exact⟨_,cap,q1⟩
 obtain⟨sa,sc,hs⟩:=hsrc;by_cases h0:Nat.min k.length l.length=0
 ·obtain⟨da,dc,hdv⟩:=adL;have hc:EG l k=l:=by
   rcases Nat.eq_zero_or_pos l.length with q|q
   ·have:=List.length_eq_zero_iff.1 q;subst this;simp[EG]
   have:k.length=0:=by
    have h0:Min.min k.length l.length=0:=h0;omega
   have:=List.length_eq_zero_iff.1 this;subst this;simp[EG]
  have hr:(execOp a.eval ⟨some d,.call ⟨.builtin .copy,#[x,y],#[T,U]⟩,ty,pos,aft,gd⟩).run P w=.ok (.value (goInt 0)) w:=by
   have:=run_copy_none (P:=P) w T U ty E0 da sa l.length dc k.length sc tS.u tS.s h0;simp[execOp,resolve,invoke,builtin,h1,hs,hdv,this]
  refine cq (C:=C) (by intro c h;cases h) hr (hL _ _ ⟨E,?_⟩);rw[hc];have e0:((Min.min k.length l.length:Nat):Int)=0:=by
   have h0:Min.min k.length l.length=0:=h0;rw[h0];rfl
  rw[e0];have:AS.app S' ⟨some (d,.sv (.v (.int .i64 0))),[],[(i,.live (TR E1 1 e l))]⟩=S'.set d (.sv (.v (.int .i64 0))):=by
   show(AS.o7 S' i _).set d _=_;rw[AS.CG nI]
  rw[this];exact h.put (x:=.sv (.v (.int .i64 0))) (v:=.int .i64 0) Y (by show d<S'.n;omega) eU
 have hpos:0<Min.min k.length l.length:=Nat.pos_of_ne_zero h0;obtain⟨g,yB⟩:∃g,(E.ν i).ownBlock=some g:=by
  rcases hown.2 with⟨_,q2⟩|⟨g,cap,cur,q1,_⟩
  ·have q2:l.length=0:=q2;omega
  exact⟨g,by rw[q1];rfl⟩
 obtain⟨cur,vs,q1,q2,q3,q4,cap,q5,q6,q7,q8⟩:=Ai h nI yB;replace q2:cur.take (l.length*1)=vs:=q2;replace q3:vs.length=l.length*1:=q3;replace q6:l.length<=cap:=q6;replace q8:cur.length=cap*1:=q8;rcases h2 with⟨sa',r1,r2⟩|⟨b,o,c,r1,_,_,r4⟩
 ·have:k=[]:=List.map_eq_nil_iff.1 r2;subst this;simp at hpos
 rw[List.length_map]at r1;rw[hs]at r1;cases r1;obtain⟨cs,c1,c2,c3⟩:=C0 (M:=E.M) (b:=b) (e:=e) (k.take (Min.min k.length l.length)) o (λj row hr q s hq=>by
  refine(r4 j row ?_).2 q s hq;rw[List.map_take,List.getElem?_take]at hr;split at hr
  ·exact hr
  cases hr)
 have uE:cs.length=Nat.min k.length l.length:=by rw[c1,List.length_take];show Min.min (Min.min k.length l.length) k.length=Min.min k.length l.length;omega
 have UR:cs.length=Min.min k.length l.length:=uE;have hrun:=run_copy_row (P:=P) w T U ty E0 g 0 l.length cap ⟨b,o,none⟩ k.length sc ⟨cur⟩ E1 cs tS.u tS.s q1 uE (λj v hj=>by
  rw[fR];exact(h.c8 _ _ _ (c3 j v hj).1).cell (c3 j v hj).2) (by simp;omega) (λv hv=>by
  obtain⟨j,hj,rfl⟩:=List.getElem_of_mem hv;exact(c3 j _ (List.getElem?_eq_getElem hj)).2)
 have hr:(execOp a.eval ⟨some d,.call ⟨.builtin .copy,#[x,y],#[T,U]⟩,ty,pos,aft,gd⟩).run P w=.ok (.value (goInt cs.length)) (w.setRow g (cs++cur.drop cs.length).toArray):=by
  have hrun:(Builtin.copy_ #[T,U] ty #[.slice (some ⟨g,0,none⟩) l.length cap,.slice (some ⟨b,o,none⟩) k.length sc]).run P w=.ok (goInt cs.length) (w.setRow g (cs++cur.drop cs.length).toArray):=by simpa using hrun
  have q5:E.ν i=.slice (some ⟨g,0,none⟩) l.length cap:=q5;simp[execOp,resolve,invoke,builtin,h1,hs,q5,hrun]
 have adM:EG l k=k.take (Min.min k.length l.length)++l.drop (Min.min k.length l.length):=by
  unfold EG;have e1:k.take l.length=k.take (Min.min k.length l.length):=by rw[List.take_eq_take_iff];omega
  have e2:l.drop k.length=l.drop (Min.min k.length l.length):=by rw[List.drop_eq_drop_iff];omega
  rw[e1,e2]
 have hall:SV.dZ E.M ((EG l k).flatMap e) (cs++vs.drop cs.length):=by
  rw[adM,List.flatMap_append,<-UR];rw[<-UR]at c2;exact SV.dZ.append c2 (Gr l vs cs.length q4)
 have hh:=setRow_heap w g ⟨cur⟩ (cs++cur.drop cs.length).toArray E1 (0,0) q1;have Yn:(w.setRow g (cs++cur.drop cs.length).toArray).ownsRow 0 E1 1 (E.ν i) l.length (cs++vs.drop cs.length):=by
  refine⟨by simp;omega,.inr ⟨g,cap,_,q5,Nat.zero_le _,hh,q6,q7,by simp;omega,?_⟩⟩;rw[<-q2];simp only[List.take_append,List.length_take,List.drop_take];congr 1;rw[List.take_of_length_le (by omega)]
 have hp:=h.Ho nI yB (w':=w.setRow g (cs++cur.drop cs.length).toArray) ⟨_,_,q1⟩ Y Y Y (by simp[World.setRow]) (λk' hk'=>setRow_other w g k' _ hk') Yn hall;refine cq (C:=C) (by intro c h;cases h) hr (hL _ _ ⟨E,?_⟩);have hrow:(⟨(TR E1 1 e l).E,(TR E1 1 e l).sz,(TR E1 1 e l).n,(EG l k).flatMap e⟩:Row)=TR E1 1 e (EG l k):=by
  show Row.mk _ _ l.length _=Row.mk _ _ (EG l k).length _;rw[PC]
 rw[hrow]at hp;rw[<-UR];exact hp.put (x:=.sv (.v (.int .i64 cs.length))) (v:=.int .i64 cs.length) Y (by show d<S'.n;omega) eU
end steps
end
end Go.Fw
namespace Go.Proofs.YtningmnklfpfjaaGreat
section
open Go.Fw
noncomputable def cH(x0:Tb):Option (Bool):=match x0 with|⟨bp,bt,bB,bF,dR⟩=>cK (λ(Yo:Bool)=>some Yo) λK3=>(bif false then none else(some (!bp)).bind λef=>some ef).bind λSj=>K3 Sj
noncomputable def eX(x0:Tb):Option (Int):=match x0 with|⟨bp,bt,bB,bF,dR⟩=>(some (dR.length:Int)).bind λiN=>(some (IntKind.i64.wrap (bt+iN))).bind λdP=>some dP
noncomputable def jy(x0:Tb)(x1:Int):Option (List Qr):=match x0 with|⟨bp,bt,bB,bF,dR⟩=>(some (dR.length:Int)).bind λdP=>(BS 64 dP (⟨⟨false,[]⟩,⟨false,[]⟩⟩:Qr)).bind λiW=>(some (dR.length:Int)).bind λfS=>(cy (λ(s8:Int×(List Qr))=>match s8 with|⟨Gs,Gt⟩=>(show Option ((Int×(List Qr))⊕((List Qr)))from(some (decide ((Gs:Int)<fS))).bind λjc=>(bif jc then(cZ dR Gs).bind λlB=>(cZ lB x1).bind λ⟨⟨Sk,Sl⟩,⟨Sn,So⟩⟩=>(cQ ⟨⟨Sk,Sl⟩,⟨Sn,So⟩⟩).bind λ⟨⟨uK,uL⟩,⟨MS,MT⟩⟩=>(oM Gt Gs).bind λtJ=>(stM Gt tJ ⟨⟨uK,uL⟩,⟨MS,MT⟩⟩).bind λuo=>(some (IntKind.i64.wrap (Gs+1))).bind λjU=>some (.inl (jU,uo))else some (.inr Gt)))) (0,iW)).bind λBf=>some Bf
noncomputable def iI(x0:Tb)(x1:Int):Option (List Qr):=match x0 with|⟨bp,bt,bB,bF,dR⟩=>(some (bB.length:Int)).bind λdP=>(some (IntKind.i64.wrap (dP+bt))).bind λgM=>(BS 64 gM (⟨⟨false,[]⟩,⟨false,[]⟩⟩:Qr)).bind λfS=>(some (decide ((x1:Int)<bt))).bind λiX=>cK (λ(MU:(List Qr))=>some MU) λSd=>(bif iX then(some (bB.length:Int)).bind λiG=>(cy (λ(Wn:Int×(List Qr))=>match Wn with|⟨Bg,Bh⟩=>(show Option ((Int×(List Qr))⊕((List Qr)))from(some (decide ((Bg:Int)<iG))).bind λtJ=>(bif tJ then(cZ bB Bg).bind λtO=>(cZ tO x1).bind λ⟨⟨MV,MW⟩,⟨MX,MY⟩⟩=>(oM Bh Bg).bind λxn=>(stM Bh xn ⟨⟨MV,MW⟩,⟨MX,MY⟩⟩).bind λWo=>(some (IntKind.i64.wrap (Bg+1))).bind λsj=>some (.inl (sj,Wo))else some (.inr Bh)))) (0,fS)).bind λvD=>(some (bB.length:Int)).bind λtL=>(some (IntKind.i64.wrap (tL+x1))).bind λum=>(cD (-1)).bind λ⟨⟨CQ,CR⟩,⟨MZ,M1⟩⟩=>(oM vD um).bind λxL=>(stM vD xL ⟨⟨CQ,CR⟩,⟨MZ,M1⟩⟩).bind λWp=>Sd Wp else Sd fS)
noncomputable def ia(x0:Tb)(x1:List Qr):Option (List Qr):=match x0 with|⟨bp,bt,bB,bF,dR⟩=>(some (bB.length:Int)).bind λdP=>(some (IntKind.i64.wrap (dP+bt))).bind λgM=>(BS 64 gM (⟨⟨false,[]⟩,⟨false,[]⟩⟩:Qr)).bind λfS=>(some (x1.length:Int)).bind λjc=>(cy (λ(KT:(List Qr)×Int)=>match KT with|⟨Bi,qP⟩=>(show Option (((List Qr)×Int)⊕((List Qr)))from(some (decide ((qP:Int)<jc))).bind λlB=>(bif lB then(cZ x1 qP).bind λ⟨⟨pQ,pR⟩,⟨pS,pU⟩⟩=>cK (λ(HZ:Bool)=>cK (λ(M3:(List Qr))=>(some (IntKind.i64.wrap (qP+1))).bind λy7=>some (.inl (M3,y7))) λWh=>(bif HZ then(cZ bF qP).bind λum=>(iI ⟨bp,bt,bB,bF,dR⟩ um).bind λxL=>(fz ⟨⟨pQ,pR⟩,⟨pS,pU⟩⟩ xL Bi).bind λFu=>Wh Fu else Wh Bi)) λK19=>(cZ bF qP).bind λtJ=>(some (decide ((tJ:Int)<bt))).bind λxo=>(bif xo then(eA ⟨⟨pQ,pR⟩,⟨pS,pU⟩⟩).bind λlu=>(some (decide ((lu:Int)≠0))).bind λxn=>some xn else some false).bind λM4=>K19 M4 else some (.inr Bi)))) (fS,0)).bind λC1=>some C1
noncomputable def jq(x0:Tb):Option (List Int):=match x0 with|⟨bp,bt,bB,bF,dR⟩=>(cH ⟨bp,bt,bB,bF,dR⟩).bind λx5=>(bif x5 then some []else(some (bF.length:Int)).bind λef=>(BS 8 ef (0:Int)).bind λiN=>some (EG iN bF))
noncomputable def gb(x0:Tb):Option (List Qr):=match x0 with|⟨bp,bt,bB,bF,dR⟩=>(cH ⟨bp,bt,bB,bF,dR⟩).bind λx4=>(bif x4 then some []else(eX ⟨bp,bt,bB,bF,dR⟩).bind λx7=>(jy ⟨bp,bt,bB,bF,dR⟩ x7).bind λx8=>some x8)
noncomputable def dK(x0:Tb)(x1:Int):Option (List Qr):=match x0 with|⟨bp,bt,bB,bF,dR⟩=>cK (λ(M5:Bool)=>(bif M5 then some []else(jy ⟨bp,bt,bB,bF,dR⟩ x1).bind λjc=>(ia ⟨bp,bt,bB,bF,dR⟩ jc).bind λgN=>(iI ⟨bp,bt,bB,bF,dR⟩ x1).bind λiX=>(pP gN iX).bind λyH=>some yH)) λK6=>(cH ⟨bp,bt,bB,bF,dR⟩).bind λx6=>(bif x6 then some true else(some (decide ((x1:Int)<0))).bind λx9=>some x9).bind λSq=>(bif Sq then some true else(eX ⟨bp,bt,bB,bF,dR⟩).bind λfC=>(some (decide ((fC:Int)<=x1))).bind λeI=>some eI).bind λUS=>K6 US
noncomputable def ir(x0:Tb):Option (List Qr):=match x0 with|⟨bp,bt,bB,bF,dR⟩=>(cH ⟨bp,bt,bB,bF,dR⟩).bind λx4=>(bif x4 then some []else(gb ⟨bp,bt,bB,bF,dR⟩).bind λx7=>(ia ⟨bp,bt,bB,bF,dR⟩ x7).bind λx8=>some x8)
noncomputable def fU(x0:Tb):Option (List Qr):=match x0 with|⟨bp,bt,bB,bF,dR⟩=>(cH ⟨bp,bt,bB,bF,dR⟩).bind λx7=>(bif x7 then some []else(BS 64 bt (⟨⟨false,[]⟩,⟨false,[]⟩⟩:Qr)).bind λdP=>(gb ⟨bp,bt,bB,bF,dR⟩).bind λfC=>(some (fC.length:Int)).bind λeI=>(cy (λ(DD:Int×(List Qr))=>match DD with|⟨Bj,Bk⟩=>(show Option ((Int×(List Qr))⊕((List Qr)))from(some (decide ((Bj:Int)<eI))).bind λgM=>(bif gM then(cZ fC Bj).bind λ⟨⟨nq,nu⟩,⟨A5,A6⟩⟩=>(cZ bF Bj).bind λmU=>(some (decide ((mU:Int)<bt))).bind λjU=>cK (λ(H6:(List Qr))=>(some (IntKind.i64.wrap (Bj+1))).bind λrK=>some (.inl (rK,H6))) λKP=>(bif jU then(cZ bF Bj).bind λsq=>(oM Bk sq).bind λsj=>(stM Bk sj ⟨⟨nq,nu⟩,⟨A5,A6⟩⟩).bind λOE=>KP OE else KP Bk)else some (.inr Bk)))) (0,dP)).bind λBl=>some Bl)
noncomputable def eY(x0:Tb):Option (Bool):=match x0 with|⟨bp,bt,bB,bF,dR⟩=>(cH ⟨bp,bt,bB,bF,dR⟩).bind λx6=>(bif x6 then some false else(gb ⟨bp,bt,bB,bF,dR⟩).bind λx8=>(some (x8.length:Int)).bind λx9=>(cy (λ(I7:Int)=>(show Option ((Int)⊕((Unit)⊕(Bool)))from(some (decide ((I7:Int)<x9))).bind λiN=>(bif iN then(cZ x8 I7).bind λ⟨⟨ik,g9⟩,⟨I8,I9⟩⟩=>(eA ⟨⟨ik,g9⟩,⟨I8,I9⟩⟩).bind λeI=>(some (decide ((eI:Int)<0))).bind λgX=>(bif gX then some (.inr (.inr false))else(some (IntKind.i64.wrap (I7+1))).bind λgM=>some (.inl gM))else some (.inr (.inl ()))))) 0).bind λe6=>match e6 with|.inr v6=>some v6|.inl _=>some true)
noncomputable def fM(x0:Tb):Option (Bool):=match x0 with|⟨bp,bt,bB,bF,dR⟩=>(cH ⟨bp,bt,bB,bF,dR⟩).bind λx5=>(bif x5 then some false else(lN (λ(k:Nat) (s3:Unit)=>(show Option ((Unit)⊕(Bool))from(some ((k:Nat):Int)).bind λp8=>(dK ⟨bp,bt,bB,bF,dR⟩ p8).bind λiN=>(n7 iN).bind λdP=>(some (decide ((dP:Int)<0))).bind λiW=>(bif iW then some (.inr false)else some (.inl ())))) ((IntKind.i64.wrap (Tb.vars ⟨bp,bt,bB,bF,dR⟩+((Tb.rows ⟨bp,bt,bB,bF,dR⟩).length:Int))).toNat) ()).bind λe3=>match e3 with|.inr v3=>some v3|.inl _=>some true)
noncomputable def dW(x0:Lr):Option (Bool×Int×(List (List Qr))×(List Int)×(List (List Qr))):=match x0 with|⟨bp,bt,bB,bF⟩=>(some (bt.length:Int)).bind λeI=>(cy (λ(s6:Int×(List (List Qr)))=>match s6 with|⟨Ja,Eb⟩=>(show Option ((Int×(List (List Qr)))⊕((List (List Qr))))from(some (decide ((Ja:Int)<eI))).bind λgM=>(bif gM then(cZ bt Ja).bind λfS=>(jx fS bp).bind λnT=>(zJ 24 Eb [nT]).bind λzP=>(some (IntKind.i64.wrap (Ja+1))).bind λtO=>some (.inl (tO,zP))else some (.inr Eb)))) (0,[])).bind λpB=>(some (bB.length:Int)).bind λrB=>(cy (λ(UT:Int×(List Int)×(List (List Qr)))=>match UT with|⟨og,tX,tY⟩=>(show Option ((Int×(List Int)×(List (List Qr)))⊕((List Int)×(List (List Qr))))from(some (decide ((og:Int)<rB))).bind λyI=>(bif yI then(some (bB.length:Int)).bind λAy=>(some (IntKind.i64.wrap (bp+Ay))).bind λDB=>(some (IntKind.i64.wrap (DB+1))).bind λvR=>(BS 64 vR (⟨⟨false,[]⟩,⟨false,[]⟩⟩:Qr)).bind λtK=>(cy (λ(IU:Int×(List Qr))=>match IU with|⟨Bm,Bn⟩=>(show Option ((Int×(List Qr))⊕((List Qr)))from(some (decide ((Bm:Int)<bp))).bind λFg=>(bif Fg then(sQ bB og Bm).bind λ⟨⟨C2,yP⟩,⟨M6,M7⟩⟩=>(oM Bn Bm).bind λKQ=>(stM Bn KQ ⟨⟨C2,yP⟩,⟨M6,M7⟩⟩).bind λOA=>(some (IntKind.i64.wrap (Bm+1))).bind λHx=>some (.inl (Hx,OA))else some (.inr Bn)))) (0,tK)).bind λvE=>(some (IntKind.i64.wrap (bp+og))).bind λG5=>(cD 1).bind λ⟨⟨M8,M9⟩,⟨Na,Nb⟩⟩=>(oM vE G5).bind λKR=>(stM vE KR ⟨⟨M8,M9⟩,⟨Na,Nb⟩⟩).bind λQZ=>(some (QZ.length:Int)).bind λYp=>(some (IntKind.i64.wrap (Yp-1))).bind λJ2=>(cZ bF og).bind λ⟨⟨Sr,Ss⟩,⟨St,Su⟩⟩=>(cQ ⟨⟨Sr,Ss⟩,⟨St,Su⟩⟩).bind λ⟨⟨Nc,Nd⟩,⟨Nf,Ng⟩⟩=>(oM QZ J2).bind λPk=>(stM QZ Pk ⟨⟨Nc,Nd⟩,⟨Nf,Ng⟩⟩).bind λYq=>(zJ 24 tY [Yq]).bind λOC=>(some (IntKind.i64.wrap (bp+og))).bind λZX=>(zJ 8 tX [ZX]).bind λUU=>(some (IntKind.i64.wrap (og+1))).bind λCb=>some (.inl (Cb,UU,OC))else some (.inr (tX,tY))))) (0,[],[])).bind λe30=>match e30 with|⟨Jb,Jc⟩=>some (true,bp,pB,Jb,Jc)
noncomputable def gG(x0:Lr):Option (Bool×Int×(List (List Qr))×(List Int)×(List (List Qr))):=match x0 with|⟨bp,bt,bB,bF⟩=>(fB ⟨bp,bt,bB,bF⟩).bind λx5=>(some (!x5)).bind λx6=>(bif x6 then none else(dW ⟨bp,bt,bB,bF⟩).bind λ⟨vp,vr,AQ,AR,PD⟩=>some (vp,vr,AQ,AR,PD))
noncomputable def mO(x0:List Qr)(F5:Qr):Option (List Qr):=match F5 with|⟨⟨F6,F7⟩,⟨F8,F9⟩⟩=>(jo ⟨⟨F6,F7⟩,⟨F8,F9⟩⟩ x0).bind λx6=>some x6
noncomputable def jz(o0:Bool)(o1:Int)(o2:List (List Qr))(o3:List Int)(o4:List (List Qr))(x0:List Qr)(F5:Int)(ZY:Int):Option (List Qr):=(cZ x0 F5).bind λ⟨⟨vp,vr⟩,⟨AQ,AR⟩⟩=>(eA ⟨⟨vp,vr⟩,⟨AQ,AR⟩⟩).bind λef=>(some (decide ((ef:Int)=0))).bind λiN=>(bif iN then some x0 else(cZ x0 F5).bind λ⟨⟨kL,kM⟩,⟨FD,FE⟩⟩=>(lO ⟨⟨kL,kM⟩,⟨FD,FE⟩⟩).bind λ⟨⟨oR,oS⟩,⟨uM,uN⟩⟩=>(oM o4 ZY).bind λjT=>(o4[jT]?).bind λiX=>(fz ⟨⟨oR,oS⟩,⟨uM,uN⟩⟩ iX x0).bind λmU=>some mU)
noncomputable def dz(o0:Bool)(o1:Int)(o2:List (List Qr))(o3:List Int)(o4:List (List Qr))(x1:Int)(x2:Int):Option ((List (List Qr))×(List Int)×(List (List Qr))):=(cD 1).bind λ⟨⟨Fj,Fk⟩,⟨Sv,Sw⟩⟩=>(oM o4 x1).bind λnk=>(o4[nk]?).bind λjc=>(cZ jc x2).bind λ⟨⟨mJ,mK⟩,⟨mL,mM⟩⟩=>(nZ ⟨⟨Fj,Fk⟩,⟨Sv,Sw⟩⟩ ⟨⟨mJ,mK⟩,⟨mL,mM⟩⟩).bind λ⟨⟨⟨yg,yh⟩,⟨yj,yl⟩⟩,Ke⟩=>(oM o4 x1).bind λxn=>(o4[xn]?).bind λsj=>(mO sj ⟨⟨yg,yh⟩,⟨yj,yl⟩⟩).bind λrK=>(oM o4 x1).bind λAy=>(stM o4 Ay rK).bind λl2=>(some (l2.length:Int)).bind λFg=>(cy (λ(za:Int×(List (List Qr)))=>match za with|⟨oY,fY⟩=>(show Option ((Int×(List (List Qr)))⊕((List (List Qr))))from(some (decide ((oY:Int)<Fg))).bind λSx=>(bif Sx then(oM fY oY).bind λy7=>(fY[y7]?).bind λEH=>(some (decide ((oY:Int)≠x1))).bind λJY=>cK (λ(tc:(List (List Qr)))=>(some (IntKind.i64.wrap (oY+1))).bind λPj=>some (.inl (Pj,tc))) λUW=>(bif JY then(jz o0 o1 o2 o3 fY EH x2 x1).bind λKR=>(oM fY oY).bind λHA=>(stM fY HA KR).bind λYr=>UW Yr else UW fY)else some (.inr fY)))) (0,l2)).bind λpZ=>some (o2,o3,pZ)
noncomputable def bD(o0:Bool)(o1:Int)(o2:List (List Qr))(o3:List Int)(o4:List (List Qr))(x1:Int)(x2:Int):Option (Int×(List (List Qr))×(List Int)×(List (List Qr))):=(cH (⟨o0,o1,o2,o3,o4⟩:Tb)).bind λef=>(bif ef then some (2,o2,o3,o4)else cK (λ(Nh:Bool)=>(bif Nh then some (1,o2,o3,o4)else(some (o3.length:Int)).bind λrB=>(cy (λ(Ec:Int)=>(show Option ((Int)⊕((Unit)⊕(Int×(List (List Qr))×(List Int)×(List (List Qr)))))from(some (decide ((Ec:Int)<rB))).bind λyI=>(bif yI then(oM o3 Ec).bind λsq=>(o3[sq]?).bind λlu=>(some (decide ((lu:Int)=x2))).bind λrK=>(bif rK then some (.inr (.inr (1,o2,o3,o4)))else(some (IntKind.i64.wrap (Ec+1))).bind λAy=>some (.inl Ay))else some (.inr (.inl ()))))) 0).bind λKo=>match Ko with|.inr Wq=>some Wq|.inl _=>(oM o4 x1).bind λum=>(o4[um]?).bind λFg=>(cZ Fg x2).bind λ⟨⟨Sy,SA⟩,⟨SB,SC⟩⟩=>(eA ⟨⟨Sy,SA⟩,⟨SB,SC⟩⟩).bind λy7=>(some (decide ((y7:Int)=0))).bind λEH=>(bif EH then some (7,o2,o3,o4)else(dz o0 o1 o2 o3 o4 x1 x2).bind λ⟨Wo,l21,Wp⟩=>(oM l21 x1).bind λQ1=>(stM l21 Q1 x2).bind λl24=>some (0,Wo,l24,Wp)))) λSd=>(some (decide ((x1:Int)<0))).bind λdP=>(bif dP then some true else(some (o4.length:Int)).bind λnk=>(some (decide ((nk:Int)<=x1))).bind λjc=>some jc).bind λNi=>(bif Ni then some true else(some (decide ((x2:Int)<0))).bind λiX=>some iX).bind λUX=>(bif UX then some true else(eX (⟨o0,o1,o2,o3,o4⟩:Tb)).bind λiG=>(some (decide ((iG:Int)<=x2))).bind λzP=>some zP).bind λUY=>Sd UY)
end
section
open Go.Fw Go.Fw.Z Go.RowKit
instance:MH ah 30:=⟨by kernel_rfl⟩
theorem e5{x0:Tb}{r:Bool}(h:cH x0=some r):Pure ah 57 [ref (vc x0)] (az r):=by
 obtain⟨bp,bt,bB,bF,dR⟩:=x0;refine bw Tryz.func57 Y (af Y) (λee M vs hvs=>?_);unfold cH at h;refine sr<|ag Y<|dn<|qq ?_;refine bK h (λj3=>AS.cI 12 [(2,aj j3)] [] []) (λh=>?_) (λYo h=>?_);refine aW<|mv Y<|RT.UO .none Y Y T<|mv Y<|bE h λSj rD h=>gm Y<|RT.di (.some Y Y) Y T<|RT.bO (.some Y Y) Y T Y<|gr Y Y<|lE (F rD) λef gV rD=>KO Y _ gV ?_;obtain rfl:=O rD;exact pF Y<|ag Y<|dn<|⟨ef,h,wR []⟩
 try dsimp only
 refine aV.n<|bh ?_;obtain rfl:=O h;exact R1 Y
theorem nD{x0:Tb}{r:Int}(h:eX x0=some r):Pure ah 58 [ref (vc x0)] (ay r):=by
 obtain⟨bp,bt,bB,bF,dR⟩:=x0;refine bw Tryz.func58 Y (af Y) (λee M vs hvs=>?_);unfold eX at h;refine sr<|ag Y<|dn<|qq<|bf mixed<|mv Y<|RT.di .none Y T<|RT.bO .none Y T Y<|lr Y Y<|mv Y<|RT.di .none Y T<|RT.bO .none Y T Y<|lr Y Y<|lE h λiN pg h=>ln Y pg<|lE h λdP gu h=>ad _ Y Y gu<|ag Y ?_;refine RT.done ⟨by kernel_rfl,?_⟩;refine aV.n<|bh ?_;obtain rfl:=O h;exact R1 Y
theorem uP{x0:Tb}{x1:Int}(N:Nat){r:List Qr}(h:jy x0 x1=some r):cL ah 64 N [ref (vc x0),ay x1] (nw N (slc 4 (List.map (fQ N) r))):=by
 obtain⟨bp,bt,bB,bF,dR⟩:=x0;refine bC Tryz.func64 Y (af Y) (λee M vs hN hvs=>?_);unfold jy at h;refine sr<|aI Y (bk (N:=N) (n:=4) (e:=(fQ N)))<|dn<|sr<|mv Y<|RT.di .none Y T<|RT.bO .none Y T Y<|lr Y Y<|lE h λdP gu h=>ln Y gu<|bE h λiW kJ h=>RT.nQ (n:=4) (e:=(fQ N)) .none Y Y T Y T (by rfl) (by decide) (by exact⟨au,bk,au,bk,aq⟩) kJ<|an (s:=.row _) Y<|dn<|qq<|sr<|mv Y<|RT.di .none Y T ?_;refine RT.bO .none Y T Y<|lr Y Y<|lE h λfS kA h=>ln Y kA<|mv Y<|dn<|bE h λe8 DO wJ=>?_;refine bV (λ(Bf:(List Qr))=>AS.cI 34 [(5,.row 13)] [] [(13,TR 43 4 (fQ N) Bf)]) (λBf=>Bf=e8) ?_ (λBf DP=>?_);refine bj ?_;refine bW DO (λs8=>AS.cI 34 [(1,ai x1),(5,.row 13),(17,.sv (slc 1 (List.map (eS 4 eQ) dR))),(18,ai fS),(19,ai s8.1)] [] [(13,TR 43 4 (fQ N) s8.2)]) (wR []) (λs8 y8 G8 h DQ DR=>?_);obtain⟨Gs,Gt⟩:=s8
 try dsimp only
 refine sr<|lE h λjc pO h=>ls _ Y Y pO<|dn<|qq ?_;cases jc;refine cF<|cc<|aV.x<|aV.x<|bG.x<|aV.n ?_;obtain rfl:=O (F h);exact⟨Gt,DR _ Y,wR []⟩;refine cT<|bA<|aV.n<|qq<|bj<|sr<|mv Y<|bE (V h) λlB qM h=>ix Y Y qM<|lr Y Y<|ag Y<|ag Y<|dn<|aW<|mo (s:=.row _) Y<|mv Y<|mv Y<|mv Y ?_;obtain⟨⟨⟨Sk,Sl⟩,⟨Sn,So⟩⟩,wH,h⟩:=bS h;refine ix Y Y wH<|RT.ja (cs:=[_,_,_,_]) .none Y T Y Y ?_;obtain⟨⟨⟨uK,uL⟩,⟨MS,MT⟩⟩,DL,h⟩:=bS h;refine RT.bM .none (iT N DL) hN Y ⟨Y,aq⟩ T<|bE h λtJ CT h=>iR Y Y Y CT<|bE h λuo nU h=>sA ⟨⟨uK,uL⟩,⟨MS,MT⟩⟩ Y Y Y nU<|RT.done<|bG.n<|aV.n<|aW<|lE h λjU qw h=>ad _ Y Y qw<|mv Y<|RT.done ?_;obtain rfl:=O h;exact aV.n ⟨(jU,uo),DQ _ Y,wR []⟩;subst DP
 try dsimp only
 refine aV.n<|sr<|mo (s:=.row _) Y<|an (s:=.row _) Y<|dn<|iS (i:=13) (E1:=43) (n:=4) (e:=(fQ N)) (l:=Bf) hN (λ_ h=>h) Y<|bh ?_;obtain rfl:=O wJ;exact R1 Y
theorem td{x0:Tb}{x1:Int}{r:List Qr}(h:iI x0 x1=some r):Pure ah 78 [ref (vc x0),ay x1] (slc 4 (List.map eQ r)):=by
 obtain⟨bp,bt,bB,bF,dR⟩:=x0;refine bw Tryz.func78 Y (af Y) (λee M vs hvs=>?_);unfold iI at h;refine sr<|aI Y (aB (n:=4) (e:=eQ))<|dn<|qq<|bf mixed<|mv Y<|RT.di .none Y T<|RT.bO .none Y T Y<|lr Y Y<|lE h λdP gu h=>ln Y gu<|mv Y<|RT.di .none Y T<|RT.bO .none Y T Y<|lr Y Y<|lE h λgM mW h=>ad _ Y Y mW<|bE h λfS kA h=>RT.nQ (n:=4) (e:=eQ) .none Y Y T Y T (by rfl) (by decide) (by exact⟨au,aB,au,aB,aq⟩) kA ?_;refine an (s:=.row _) Y ?_;refine RT.done ⟨by kernel_rfl,?_⟩;refine aV.n<|qq<|sr<|mv Y<|mv Y<|RT.di .none Y T<|RT.bO .none Y T Y<|lr Y Y<|lE h λiX oP h=>ls _ Y Y oP<|dn ?_;refine bK h (λUL=>AS.cI 54 [(5,.row 18)] [] [(18,TR 43 4 eQ UL)]) (λh=>?_) (λMU h=>?_);cases iX;exact fs<|⟨fS,(F h),wR []⟩;refine cT<|qq<|sr<|mv Y<|RT.di .none Y T<|RT.bO .none Y T Y<|lr Y Y<|lE (V h) λiG nm h=>ln Y nm<|mv Y<|dn<|bE h λe18 adP Bo=>?_;refine bV (λ(vD:(List Qr))=>AS.cI 54 [(0,.sv (ref [az bp,ay bt,slc 1 (List.map (eS 4 eQ) bB),slc 1 (List.map cM bF),slc 1 (List.map (eS 4 eQ) dR)])),(1,ai x1),(5,.row 18)] [] [(18,TR 43 4 eQ vD)]) (λvD=>vD=e18) ?_ (λvD adQ=>?_);refine bj ?_
 refine bW adP (λWn=>AS.cI 54 [(0,.sv (ref [az bp,ay bt,slc 1 (List.map (eS 4 eQ) bB),slc 1 (List.map cM bF),slc 1 (List.map (eS 4 eQ) dR)])),(1,ai x1),(5,.row 18),(28,.sv (slc 1 (List.map (eS 4 eQ) bB))),(29,ai iG),(30,ai Wn.1)] [] [(18,TR 43 4 eQ Wn.2)]) (wR []) (λWn y18 G18 h adR adS=>?_);obtain⟨Bg,Bh⟩:=Wn
 try dsimp only
 refine sr<|lE h λtJ CT h=>ls _ Y Y CT<|dn<|qq ?_;cases tJ;refine cF<|cc<|aV.x<|aV.x<|bG.x<|aV.n ?_;obtain rfl:=O (F h);exact⟨Bh,adS _ Y,wR []⟩;refine cT<|bA<|aV.n<|qq<|bj<|sr<|mv Y<|bE (V h) λtO zR h=>ix Y Y zR<|lr Y Y<|ag Y<|ag Y<|dn<|aW<|mo (s:=.row _) Y<|mv Y<|mv Y<|mv Y ?_;obtain⟨⟨⟨MV,MW⟩,⟨MX,MY⟩⟩,DT,h⟩:=bS h;refine ix Y Y DT<|RT.ja (cs:=[_,_,_,_]) .none Y T Y Y<|bE h λxn HH h=>iR Y Y Y HH<|bE h λWo Ys h=>sA ⟨⟨MV,MW⟩,⟨MX,MY⟩⟩ Y Y Y Ys<|RT.done<|bG.n<|aV.n<|aW<|lE h λsj DM h=>ad _ Y Y DM<|mv Y<|RT.done ?_;obtain rfl:=O h;exact aV.n ⟨(sj,Wo),adR _ Y,wR []⟩;subst adQ
 try dsimp only
 refine aV.n<|bf mixed<|mo (s:=.row _) Y<|mv Y<|RT.di .none Y T<|RT.bO .none Y T Y<|lr Y Y<|lE Bo λtL h48 Bo=>ln Y h48<|mv Y<|lE Bo λum Fz Bo=>ad _ Y Y Fz ?_;obtain⟨⟨⟨CQ,CR⟩,⟨MZ,M1⟩⟩,J7,Bo⟩:=bS Bo;refine cl (gw J7) ⟨Y,aq⟩<|bE Bo λxL DN Bo=>iR Y Y Y DN<|bE Bo λWp Yt Bo=>sA ⟨⟨CQ,CR⟩,⟨MZ,M1⟩⟩ Y Y Y Yt ?_;refine RT.done ⟨by kernel_rfl,?_⟩;exact aV.n<|⟨Wp,Bo,wR []⟩
 try dsimp only
 refine aV.n<|sr<|mo (s:=.row _) Y<|an (s:=.row _) Y<|dn<|cY (pL (i:=18) (E1:=43) (n:=4) (e:=eQ) (l:=MU) Y)<|bh ?_;obtain rfl:=O h;exact R1 Y
theorem rG{x0:Tb}{x1:List Qr}(N:Nat){r:List Qr}(h:ia x0 x1=some r):cL ah 77 N [ref (vc x0),slc 4 (List.map eQ x1)] (nw N (slc 4 (List.map (fQ N) r))):=by
 obtain⟨bp,bt,bB,bF,dR⟩:=x0;refine bC Tryz.func77 Y (af Y) (λee M vs hN hvs=>?_);unfold ia at h;refine sr<|aI Y (bk (N:=N) (n:=4) (e:=(fQ N)))<|dn<|qq<|bf mixed<|mv Y<|RT.di .none Y T<|RT.bO .none Y T Y<|lr Y Y<|lE h λdP gu h=>ln Y gu<|mv Y<|RT.di .none Y T<|RT.bO .none Y T Y<|lr Y Y<|lE h λgM mW h=>ad _ Y Y mW<|bE h λfS kA h=>RT.nQ (n:=4) (e:=(fQ N)) .none Y Y T Y T (by rfl) (by decide) (by exact⟨au,bk,au,bk,aq⟩) kA ?_;refine an (s:=.row _) Y ?_;refine RT.done ⟨by kernel_rfl,?_⟩;refine aV.n<|qq<|sr<|mv Y<|lE h λjc pO h=>ln Y pO<|mv Y<|dn<|iS (i:=18) (E1:=43) (n:=4) (e:=(fQ N)) (l:=fS) hN (λ_ h=>h) Y<|bE h λKo H7 lT=>?_;refine bV (λ(C1:(List Qr))=>AS.cI 57 [(5,.sv (nw N (slc 4 (List.map (fQ N) C1))))] [] []) (λC1=>C1=Ko) ?_ (λC1 H8=>?_);refine bj ?_;refine bW H7 (λKT=>AS.cI 57 [(0,.sv (ref [az bp,ay bt,slc 1 (List.map (eS 4 eQ) bB),slc 1 (List.map cM bF),slc 1 (List.map (eS 4 eQ) dR)])),(5,.sv (nw N (slc 4 (List.map (fQ N) KT.1)))),(19,.sv (slc 4 (List.map eQ x1))),(20,ai jc),(21,ai KT.2)] [] []) (wR []) (λKT y16 G16 h H9 Cn=>?_);obtain⟨Bi,qP⟩:=KT
 try dsimp only
 refine sr<|lE h λlB qM h=>ls _ Y Y qM<|dn<|qq ?_;cases lB;refine cF<|cc<|aV.x<|aV.x<|bG.x<|aV.n ?_;obtain rfl:=O (F h);exact⟨Bi,Cn _ Y,wR []⟩;refine cT<|bA<|aV.n<|qq<|bj<|sr<|mv Y ?_;obtain⟨⟨⟨pQ,pR⟩,⟨pS,pU⟩⟩,oP,h⟩:=bS (V h);refine ix Y Y oP<|RT.ja (cs:=[_,_,_,_]) .none Y T Y Y<|al (cs:=[az false,nw N ax,az false,nw N ax]) (by exact⟨au,bk,au,bk,aq⟩) Y<|ag Y<|so Y Y Y<|dn<|qq ?_;refine bK h (λj19=>AS.cI 57 [(0,.sv (ref [az bp,ay bt,slc 1 (List.map (eS 4 eQ) bB),slc 1 (List.map cM bF),slc 1 (List.map (eS 4 eQ) dR)])),(5,.sv (nw N (slc 4 (List.map (fQ N) Bi)))),(6,ai qP),(7,.ptr 7 0),(19,.sv (slc 4 (List.map eQ x1))),(20,ai jc),(21,ai qP),(42,aj j19)] [(7,⟨43,[aj pQ,.sv (slc 1 (List.map aX pR)),aj pS,.sv (slc 1 (List.map aX pU))]⟩)] []) (λh=>?_) (λHZ h=>?_);refine bf mixed<|mv Y<|RT.di .none Y T<|RT.bO .none Y T Y<|lr Y Y<|mv Y<|bE h λtJ CT h=>ix Y Y CT<|lr Y Y<|mv Y<|RT.di .none Y T<|RT.bO .none Y T Y<|lr Y Y<|lE h λxo FA h=>ls _ Y Y FA<|mv Y<|bE h λM4 Ck h=>?_;cases xo;obtain rfl:=O (F Ck);refine ww<|ww<|ww<|pF Y ?_;refine RT.done ⟨by kernel_rfl,?_⟩;exact aV.n<|⟨false,h,wR []⟩
 refine gl Y Y (.k4 Y Y Y Y)<|bE (V Ck) λlu rC Ck=>gc (gx rC) ⟨Y,aq⟩<|lE Ck λxn HH Ck=>gq _ Y Y (G4 (p:=lu) (q:=0) HH) ?_;obtain rfl:=O Ck;refine pT Y ?_;refine RT.done ⟨by kernel_rfl,?_⟩;exact aV.n<|⟨xn,h,wR []⟩
 try dsimp only
 refine aV.n ?_;refine bK h (λX4=>AS.cI 57 [(0,.sv (ref [az bp,ay bt,slc 1 (List.map (eS 4 eQ) bB),slc 1 (List.map cM bF),slc 1 (List.map (eS 4 eQ) dR)])),(5,.sv (nw N (slc 4 (List.map (fQ N) X4)))),(19,.sv (slc 4 (List.map eQ x1))),(20,ai jc),(21,ai qP)] [] []) (λh=>?_) (λM3 h=>?_);cases HZ;exact fs<|⟨Bi,(F h),wR []⟩;refine cT<|bf mixed<|ld Y Y (.k4 Y Y Y Y)<|mv Y<|mv Y<|RT.di .none Y T<|RT.bO .none Y T Y<|lr Y Y<|mv Y<|bE (V h) λum Fz h=>ix Y Y Fz<|lr Y Y<|bE h λxL DN h=>cl (td DN) ⟨Y,Y,aq⟩<|mv Y<|bE h λFu IW h=>RT.bM .none ((pV N IW).w (args':=[_,_,_]) ⟨au,au,Oz,aq⟩) hN Y ⟨Y,Y,Y,aq⟩ T ?_;refine ag Y ?_;refine RT.done ⟨by kernel_rfl,?_⟩;exact aV.n<|⟨Fu,h,wR []⟩
 try dsimp only
 refine bG.n<|aV.n<|aW<|lE h λy7 Mh h=>ad _ Y Y Mh<|mv Y<|RT.done ?_;obtain rfl:=O h;exact aV.n ⟨(M3,y7),H9 _ Y,wR []⟩;subst H8
 try dsimp only
 refine aV.n<|sr<|mv Y<|ag Y<|dn<|bh ?_;obtain rfl:=O lT;exact R1 Y
theorem Ed{x0:Tb}(N:Nat){r:List Int}(h:jq x0=some r):cL ah 17 N [ref (vc x0)] (nw N (slc 1 (List.map cM r))):=by
 obtain⟨bp,bt,bB,bF,dR⟩:=x0;refine bC Tryz.func17 Y (af Y) (λee M vs hN hvs=>?_);unfold jq at h;refine sr<|aI Y (bk (N:=N) (n:=1) (e:=cM))<|dn<|qq<|sr<|mv Y<|bE h λx5 h5 h=>cl (e5 h5) ⟨Y,aq⟩<|dn ?_;cases x5;refine fs<|sr<|mv Y<|RT.di .none Y T<|RT.bO .none Y T Y<|lr Y Y<|lE (F h) λef gV h=>ln Y gV<|bE h λiN pg h=>RT.nQ (n:=1) (e:=cM) .none Y Y T Y T (by rfl) (by decide) (by exact⟨au,aq⟩) pg<|an (s:=.row _) Y<|dn<|sr<|mo (s:=.row _) Y<|mv Y<|RT.di .none Y T<|RT.bO .none Y T Y<|lr Y Y ?_;refine RT.Ym (l:=iN) (k:=bF) (e:=cM) .none Y Y Y T Y<|dn<|sr<|mo (s:=.row _) Y<|an (s:=.row _) Y<|dn<|iS (i:=11) (E1:=3) (n:=1) (e:=cM) (l:=(EG iN bF)) hN (λ_ h=>h) Y<|bh ?_;obtain rfl:=O h;exact R1 Y;refine cT<|sr<|aI Y (bk (N:=N) (n:=1) (e:=cM))<|dn<|bh<|aV.r ?_;obtain rfl:=O (V h);exact R1 Y
theorem qQ{x0:Tb}(N:Nat){r:List Qr}(h:gb x0=some r):cL ah 19 N [ref (vc x0)] (nw N (slc 4 (List.map (fQ N) r))):=by
 obtain⟨bp,bt,bB,bF,dR⟩:=x0;refine bC Tryz.func19 Y (af Y) (λee M vs hN hvs=>?_);unfold gb at h;refine sr<|aI Y (bk (N:=N) (n:=4) (e:=(fQ N)))<|dn<|qq<|sr<|mv Y<|bE h λx4 h4 h=>cl (e5 h4) ⟨Y,aq⟩<|dn ?_;cases x4;refine fs<|sr<|mv Y<|mv Y<|bE (F h) λx7 h7 h=>cl (nD h7) ⟨Y,aq⟩<|bE h λx8 h8 h=>RT.bM .none (uP N h8) hN Y ⟨Y,Y,aq⟩ T<|ag Y<|dn<|bh ?_;obtain rfl:=O h;exact R1 Y;refine cT<|sr<|aI Y (bk (N:=N) (n:=4) (e:=(fQ N)))<|dn<|bh<|aV.r ?_;obtain rfl:=O (V h);exact R1 Y
theorem Ia{x0:Tb}{r:List Qr}(h:gb x0=some r):Pure ah 19 [ref (vc x0)] (slc 4 (List.map eQ r)):=dO (λN=>qQ N h) (λN=>Oz)
theorem oh{x0:Tb}{x1:Int}(N:Nat){r:List Qr}(h:dK x0 x1=some r):cL ah 28 N [ref (vc x0),ay x1] (nw N (slc 4 (List.map (fQ N) r))):=by
 obtain⟨bp,bt,bB,bF,dR⟩:=x0;refine bC Tryz.func28 Y (af Y) (λee M vs hN hvs=>?_);unfold dK at h;refine sr<|aI Y (bk (N:=N) (n:=4) (e:=(fQ N)))<|dn<|qq<|qq ?_;refine bK h (λj6=>AS.cI 26 [(0,.sv (ref [az bp,ay bt,slc 1 (List.map (eS 4 eQ) bB),slc 1 (List.map cM bF),slc 1 (List.map (eS 4 eQ) dR)])),(1,ai x1),(16,aj j6)] [] []) (λh=>?_) (λM5 h=>?_);refine aW<|mv Y<|bE h λx6 h6 h=>cl (e5 h6) ⟨Y,aq⟩<|mv Y<|bE h λSq UA h=>?_;cases x6;refine gm Y<|lE (F UA) λx9 h9 UA=>RT.lss (.some Y Y) _ Y Y T h9 ?_;obtain rfl:=O UA;refine pF Y<|mv Y<|bE h λagV My h=>?_;cases x9;refine gm Y<|gm Y<|bE (F My) λfC lz My=>gc (nD lz) ⟨Y,aq⟩<|lE My λeI jh My=>RT.geq (.some Y Y) _ Y Y T jh ?_;obtain rfl:=O My;exact pF Y<|dn<|⟨eI,h,wR []⟩;obtain rfl:=O (V My);exact ww<|ww<|ww<|ww<|pT Y<|dn<|⟨true,h,wR []⟩;obtain rfl:=O (V UA);refine ww<|ww<|pT Y<|mv Y<|bE h λagW hg9 h=>?_;obtain rfl:=O (V hg9);exact ww<|ww<|ww<|ww<|pT Y<|dn<|⟨true,h,wR []⟩
 try dsimp only
 refine aV.n ?_;cases M5;refine fs<|sr<|mv Y<|mv Y<|mv Y<|bE (F h) λjc pO h=>RT.bM .none (uP N pO) hN Y ⟨Y,Y,aq⟩ T<|bE h λgN oH h=>RT.bM .none ((rG N oH).w (args':=[_,_]) ⟨au,Oz,aq⟩) hN Y ⟨Y,Y,aq⟩ T<|mv Y<|mv Y<|bE h λiX oP h=>cl (td oP) ⟨Y,Y,aq⟩<|bE h λyH xP h=>RT.bM .none ((HV N xP).w (args':=[_,_]) ⟨Oz,au,aq⟩) hN Y ⟨Y,Y,aq⟩ T ?_;refine ag Y<|dn<|bh ?_;obtain rfl:=O h;exact R1 Y;refine cT<|sr<|aI Y (bk (N:=N) (n:=4) (e:=(fQ N)))<|dn<|bh<|aV.r ?_;obtain rfl:=O (V h);exact R1 Y
theorem vF{x0:Tb}{x1:Int}{r:List Qr}(h:dK x0 x1=some r):Pure ah 28 [ref (vc x0),ay x1] (slc 4 (List.map eQ r)):=dO (λN=>oh N h) (λN=>Oz)
theorem Ee{x0:Tb}(N:Nat){r:List Qr}(h:ir x0=some r):cL ah 38 N [ref (vc x0)] (nw N (slc 4 (List.map (fQ N) r))):=by
 obtain⟨bp,bt,bB,bF,dR⟩:=x0;refine bC Tryz.func38 Y (af Y) (λee M vs hN hvs=>?_);unfold ir at h;refine sr<|aI Y (bk (N:=N) (n:=4) (e:=(fQ N)))<|dn<|qq<|sr<|mv Y<|bE h λx4 h4 h=>cl (e5 h4) ⟨Y,aq⟩<|dn ?_;cases x4;refine fs<|sr<|mv Y<|mv Y<|bE (F h) λx7 h7 h=>RT.bM .none (qQ N h7) hN Y ⟨Y,aq⟩ T<|bE h λx8 h8 h=>RT.bM .none ((rG N h8).w (args':=[_,_]) ⟨au,Oz,aq⟩) hN Y ⟨Y,Y,aq⟩ T<|ag Y<|dn<|bh ?_;obtain rfl:=O h;exact R1 Y;refine cT<|sr<|aI Y (bk (N:=N) (n:=4) (e:=(fQ N)))<|dn<|bh<|aV.r ?_;obtain rfl:=O (V h);exact R1 Y
theorem zq{x0:Tb}(N:Nat){r:List Qr}(h:fU x0=some r):cL ah 21 N [ref (vc x0)] (nw N (slc 4 (List.map (fQ N) r))):=by
 obtain⟨bp,bt,bB,bF,dR⟩:=x0;refine bC Tryz.func21 Y (af Y) (λee M vs hN hvs=>?_);unfold fU at h;refine sr<|aI Y (bk (N:=N) (n:=4) (e:=(fQ N)))<|dn<|qq<|sr<|mv Y<|bE h λx7 h7 h=>cl (e5 h7) ⟨Y,aq⟩<|dn ?_;cases x7;refine fs<|sr<|mv Y<|RT.di .none Y T<|RT.bO .none Y T Y<|lr Y Y<|bE (F h) λdP gu h=>RT.nQ (n:=4) (e:=(fQ N)) .none Y Y T Y T (by rfl) (by decide) (by exact⟨au,bk,au,bk,aq⟩) gu<|an (s:=.row _) Y<|dn<|qq<|sr<|mv Y<|bE h λfC lz h=>RT.bM .none (qQ N lz) hN Y ⟨Y,aq⟩ T<|lE h λeI jh h=>RT.CO .none Y T jh<|mv Y ?_;refine dn<|bE h λMb DH zb=>?_;refine bV (λ(Bl:(List Qr))=>AS.cI 45 [(3,.row 12)] [] [(12,TR 43 4 (fQ N) Bl)]) (λBl=>Bl=Mb) ?_ (λBl DI=>?_);refine bj ?_;refine bW DH (λDD=>AS.cI 45 [(0,.sv (ref [az bp,ay bt,slc 1 (List.map (eS 4 eQ) bB),slc 1 (List.map cM bF),slc 1 (List.map (eS 4 eQ) dR)])),(3,.row 12),(14,.sv (nw N (slc 4 (List.map (fQ N) fC)))),(15,ai eI),(16,ai DD.1)] [] [(12,TR 43 4 (fQ N) DD.2)]) (wR []) (λDD ZQ ZR h DJ AD=>?_);obtain⟨Bj,Bk⟩:=DD
 try dsimp only
 refine sr<|lE h λgM mW h=>ls _ Y Y mW<|dn<|qq ?_;cases gM;refine cF<|cc<|aV.x<|aV.x<|bG.x<|aV.n ?_;obtain rfl:=O (F h);exact⟨Bk,AD _ Y,wR []⟩;refine cT<|bA<|aV.n<|qq<|bj<|sr<|mv Y ?_;obtain⟨⟨⟨nq,nu⟩,⟨A5,A6⟩⟩,oG,h⟩:=bS (V h);refine RT.Xh .none Y Y T oG<|RT.ja (cs:=[_,_,_,_]) .none Y T Y Y<|al (cs:=[az false,nw N ax,az false,nw N ax]) (by exact⟨au,bk,au,bk,aq⟩) Y<|ag Y<|so Y Y Y<|dn<|qq<|bf mixed<|mv Y<|RT.di .none Y T<|RT.bO .none Y T Y<|lr Y Y<|mv Y<|bE h λmU tR h=>ix Y Y tR ?_;refine lr Y Y<|mv Y<|RT.di .none Y T<|RT.bO .none Y T Y<|lr Y Y<|lE h λjU qw h=>ls _ Y Y qw ?_;refine RT.done ⟨by kernel_rfl,?_⟩;refine aV.n ?_;refine bK h (λJ4=>AS.cI 45 [(0,.sv (ref [az bp,ay bt,slc 1 (List.map (eS 4 eQ) bB),slc 1 (List.map cM bF),slc 1 (List.map (eS 4 eQ) dR)])),(3,.row 12),(14,.sv (nw N (slc 4 (List.map (fQ N) fC)))),(15,ai eI),(16,ai Bj)] [] [(12,TR 43 4 (fQ N) J4)]) (λh=>?_) (λH6 h=>?_);cases jU;exact fs<|⟨Bk,(F h),wR []⟩;refine cT<|bf mixed<|mo (s:=.row _) Y<|mv Y<|RT.di .none Y T<|RT.bO .none Y T Y<|lr Y Y<|mv Y<|bE (V h) λsq DT h=>ix Y Y DT<|lr Y Y<|ld Y Y (.k4 Y Y Y Y)<|bE h λsj DM h=>iR Y Y Y DM<|bE h λOE Yu h=>sA ⟨⟨nq,nu⟩,⟨A5,A6⟩⟩ Y Y Y Yu ?_;refine RT.done ⟨by kernel_rfl,?_⟩
 exact aV.n<|⟨OE,h,wR []⟩
 try dsimp only
 refine bG.n<|aV.n<|aW<|lE h λrK CU h=>ad _ Y Y CU<|mv Y<|RT.done ?_;obtain rfl:=O h;exact aV.n ⟨(rK,H6),DJ _ Y,wR []⟩;subst DI
 try dsimp only
 refine aV.n<|sr<|mo (s:=.row _) Y<|an (s:=.row _) Y<|dn<|iS (i:=12) (E1:=43) (n:=4) (e:=(fQ N)) (l:=Bl) hN (λ_ h=>h) Y<|bh ?_;obtain rfl:=O zb;exact R1 Y;refine cT<|sr<|aI Y (bk (N:=N) (n:=4) (e:=(fQ N)))<|dn<|bh<|aV.r ?_;obtain rfl:=O (V h);exact R1 Y
theorem zu{x0:Tb}{r:Bool}(h:eY x0=some r):Pure ah 35 [ref (vc x0)] (az r):=by
 obtain⟨bp,bt,bB,bF,dR⟩:=x0;refine bw Tryz.func35 Y (af Y) (λee M vs hvs=>?_);unfold eY at h;refine sr<|ag Y<|dn<|qq<|sr<|mv Y<|bE h λx6 h6 h=>cl (e5 h6) ⟨Y,aq⟩<|dn ?_;cases x6;refine fs<|qq<|sr<|mv Y<|bE (F h) λx8 h8 h=>cl (Ia h8) ⟨Y,aq⟩<|lE h λx9 h9 h=>ln Y h9<|mv Y<|dn<|bE h λe6 Fv nx=>?_;refine bV (λ(DK:Unit)=>AS.cI 18 [] [] []) (λDK=>.inl DK=e6) ?_ (λDK Fx=>?_);refine bj ?_;refine bW Fv (λs6=>AS.cI 18 [(8,.sv (slc 4 (List.map eQ x8))),(9,ai x9),(10,ai s6)] [] []) (wR []) (λI7 y6 G6 h Fy AE=>?_)
 try dsimp only
 refine sr<|lE h λiN pg h=>ls _ Y Y pg<|dn<|qq ?_;cases iN;refine cF<|cc<|aV.x<|aV.x<|bG.x<|aV.n ?_;obtain rfl:=O (F h);exact⟨(),AE _ Y,wR []⟩;refine cT<|bA<|aV.n<|qq<|bj<|sr ?_;obtain⟨⟨⟨ik,g9⟩,⟨I8,I9⟩⟩,gu,h⟩:=bS (V h);refine ix Y Y gu<|RT.ja (cs:=[_,_,_,_]) .none Y T Y Y<|al (cs:=[az false,ax,az false,ax]) (by exact⟨au,aB,au,aB,aq⟩) Y<|so Y Y Y<|dn<|sr<|ld Y Y (.k4 Y Y Y Y)<|bE h λeI jh h=>cl (gx jh) ⟨Y,aq⟩<|lE h λgX lC h=>ls _ Y Y lC<|dn ?_;cases gX;refine cF<|bA<|bG.n<|aV.n<|aW<|lE (F h) λgM mW h=>ad _ Y Y mW<|mv Y<|RT.done ?_;obtain rfl:=O h;exact aV.n ⟨gM,Fy _ Y,wR []⟩;refine cT<|sr<|ag Y<|dn<|bh<|bG.r<|aV.r ?_;obtain rfl:=O (V h);have Mc:=AE _ Y;subst Mc;refine aV.r<|bG.r<|aV.r<|aV.r ?_;obtain rfl:=O nx;exact R1 Y;subst Fx
 try dsimp only
 refine aV.n<|sr<|ag Y<|dn<|bh ?_;obtain rfl:=O nx;exact R1 Y;refine cT<|sr<|ag Y<|dn<|bh<|aV.r ?_;obtain rfl:=O (V h);exact R1 Y
theorem Bp(t:Tb):Pure ah 65 [ref (vc t)] (iV 114 [ref [ref (vc t)]]):=by
 refine bw Tryz.func65 Y (af Y) (λee M vs hvs=>?_);exact sr<|RT.xw .none (s:=.sv _) Y T Y Y<|ag Y<|dn<|sr<|RT.makeFunc .none (.box Y (.nil)) T<|an (s:=.fW _ _) Y<|dn<|cY (gW (i:=1) Y [ref (vc t)] (.cons Y .nil) .any 0 [(2,.fW 114 [.val (ref [ref (vc t)])])] (λ_ _ _=>trivial) (qA.h (l:=[ref (vc t)])) ⟨@FT.fW _ _ _ _ _ 2 114 [.box 1] Y,aq⟩)<|cY (Ds 2 (iV 114 [ref [ref (vc t)]]) (λ_ _ h=>Dt h))<|bh<|⟨.inr Y,Dr (.tmp Y (.nil)) Y⟩
theorem PE(n:Int):IntKind.i64.wrap n<=9223372036854775807:=by
 show(if(true&&decide (n%18446744073709551616≥9223372036854775808))=true then n%18446744073709551616-18446744073709551616 else n%18446744073709551616)<=9223372036854775807;by_cases h:n%18446744073709551616≥9223372036854775808
 ·simp only[h,decide_true,Bool.and_self,if_true];omega
 simp only[h,decide_false,Bool.and_false,Bool.false_eq_true,if_false];omega
theorem width_eq(t:Tb):eX t=some (IntKind.i64.wrap (t.vars+(t.rows.length:Int))):=by
 cases t;rfl
theorem Bq(t:Tb):Iter ah 114 [ref [ref (vc t)]] (IntKind.i64.wrap (t.vars+(t.rows.length:Int))).toNat (λk=>[ay (k:Int)]):=by
 refine qF Tryz.func114 Y Y (af Y) (λee M O l J hJ xI hr=>?_);have hw:=PE (t.vars+(t.rows.length:Int));have hwd:=width_eq t;generalize (IntKind.i64.wrap (t.vars+(t.rows.length:Int)))=W at hw hwd hr⊢;refine bH ?_;refine aW ?_;refine RT.dj .none Y Y (tl Y) ?_;refine RT.call .none (nD hwd) Y ⟨Y,aq⟩ (tl Y) ?_;refine RT.mv .none Y (tl Y) ?_;refine RT.done ?_;refine aV.n ?_;refine bj ?_
 refine vV (I:=λx:{i:Nat//i<=W.toNat}=>AS.cI 14 [(0,.sv (.v (.func (.yield l) #[] #[]))),(1,.sv (ref [ref (vc t)])),(5,ai W),(6,ai ((x.1:Nat):Int))] [] [] (x.1)) (μ:=λx=>W.toNat-x.1) ⟨0,by omega⟩ (by(try dsimp only);exact ec id Y Y Y Y Y ⟨.sv (by first|exact au|exact SV.aY (by omega)|exact SV.aY (by push_cast;omega)|exact SV.aY (by dsimp only;omega)|exact SV.imp_eq (by simp)),.sv (by first|exact au|exact SV.aY (by omega)|exact SV.aY (by push_cast;omega)|exact SV.aY (by dsimp only;omega)|exact SV.imp_eq (by simp)),.sv (by first|exact au|exact SV.aY (by omega)|exact SV.aY (by push_cast;omega)|exact SV.aY (by dsimp only;omega)|exact SV.imp_eq (by simp)),.sv (by first|exact au|exact SV.aY (by omega)|exact SV.aY (by push_cast;omega)|exact SV.aY (by dsimp only;omega)|exact SV.imp_eq (by simp)),aq⟩ trivial trivial (λ_ _=>Y)) ?_;rintro⟨i,TY⟩
 try dsimp only
 rcases Nat.lt_or_eq_of_le TY with hi|hi
 ·
  refine bH ?_;refine aW ?_;refine RT.lss .none (true) Y Y (tl Y) (by simp;omega) ?_;refine RT.done ?_;refine aV.n ?_;refine bH ?_;refine cJ Y ?_;refine bA ?_;refine aV.n ?_;refine bH ?_;refine bj ?_;refine bH ?_;refine aW ?_;refine RT.mv .none Y (tl Y) ?_;refine RT.Ah .none Y (tl Y) ?_;refine RT.done ?_;refine aV.n ?_;refine bH ?_;refine aW ?_;refine RT.mv .none Y (tl Y) ?_;refine RT.mv .none Y (tl Y) ?_;refine RT.yield .none hr Y (λ_ h=>h) Y (i) Y Y (by omega) (by exact⟨Y,aq⟩) (tl Y) (λyb=>?_);cases yb
  ·
   refine RT.not .none Y (tl Y) true Y ?_;refine RT.done ?_;refine aV.n ?_;refine cJ Y ?_;refine bh ?_;refine bG.r ?_;refine aV.r ?_;refine aV.r ?_;refine bG.r ?_;exact⟨.inr rfl,(λh=>by cases h)⟩
  refine RT.not .none Y (tl Y) false Y ?_;refine RT.done ?_;refine aV.n ?_;refine dV Y ?_;refine bA ?_;refine bG.n ?_;refine aV.n ?_;refine aW ?_;refine RT.add .none (((i:Nat):Int)+1) Y Y (tl Y) (kG (by omega)) ?_;refine RT.mv .none Y (tl Y) ?_;refine RT.done ?_;refine aV.n ?_;refine⟨⟨i+1,by omega⟩,(by dsimp only;omega),?_⟩
  try dsimp only
  exact ec id Y Y Y Y Y ⟨.sv (by first|exact au|exact SV.aY (by omega)|exact SV.aY (by push_cast;omega)|exact SV.aY (by dsimp only;omega)|exact SV.imp_eq (by simp)),.sv (by first|exact au|exact SV.aY (by omega)|exact SV.aY (by push_cast;omega)|exact SV.aY (by dsimp only;omega)|exact SV.imp_eq (by simp)),.sv (by first|exact au|exact SV.aY (by omega)|exact SV.aY (by push_cast;omega)|exact SV.aY (by dsimp only;omega)|exact SV.imp_eq (by simp)),.sv (by first|exact au|exact SV.aY (by omega)|exact SV.aY (by push_cast;omega)|exact SV.aY (by dsimp only;omega)|exact SV.imp_eq (by simp)),aq⟩ trivial trivial (λ_ _=>Y)
 subst hi;refine bH ?_;refine aW ?_;refine RT.lss .none (false) Y Y (tl Y) (by simp;omega) ?_;refine RT.done ?_;refine aV.n ?_;refine bH ?_;refine dV Y ?_;refine cc ?_;refine aV.x ?_;refine aV.x ?_;refine bG.x ?_;exact⟨.inl Y,(λ_=>Y)⟩
theorem Br{x0:Tb}{r:Bool}(h:fM x0=some r):Pure ah 42 [ref (vc x0)] (az r):=by
 obtain⟨bp,bt,bB,bF,dR⟩:=x0;refine bw Tryz.func42 Y (af Y) (λee M vs hvs=>?_);unfold fM at h;refine sr<|RT.xw .none (s:=.sv _) Y T Y Y<|al (cs:=[az false]) (by exact⟨au,aq⟩) Y<|dn<|qq<|sr<|lV Y Y Y<|bE h λx5 h5 h=>cl (e5 h5) ⟨Y,aq⟩<|dn ?_;cases x5;refine fs<|qq<|sr<|lV Y Y Y<|cl (Bp ⟨bp,bt,bB,bF,dR⟩) ⟨Y,aq⟩<|dn<|bj<|bE (F h) λe3 Tx UC=>?_;obtain⟨m3,st3,ZU,ht3,hn3⟩:=xE Tx;refine lY (Bq ⟨bp,bt,bB,bF,dR⟩) (λ_ _ _ _ _=>trivial) Y (λk=>AS.cI 14 [(1,.ptr 1 0),(2,.ptr 2 0),(7,.sv (iV 114 [ref [ref [az bp,ay bt,slc 1 (List.map (eS 4 eQ) bB),slc 1 (List.map cM bF),slc 1 (List.map (eS 4 eQ) dR)]]]))] [(2,⟨4,[aj false]⟩),(1,⟨30,[.sv (ref [az bp,ay bt,slc 1 (List.map (eS 4 eQ) bB),slc 1 (List.map cM bF),slc 1 (List.map (eS 4 eQ) dR)])]⟩)] []) [2,1] Y (λ_=>⟨Y,Y⟩) (rY Y) (λ_=>Y) (rZ Y) (by(try dsimp only);(try dsimp only);exact ec id Y Y Y Y Y ⟨.ptr,.ptr,.sv au,aq⟩ ⟨⟨_,Y,⟨.sv au,aq⟩⟩,⟨_,Y,⟨.sv au,aq⟩⟩,aq⟩ trivial (λ_ _=>Y)) m3 (λk hk hkm D hD=>?_) (λhdn=>?_);obtain⟨y3,h,hG3,hE3⟩:=ht3 k hk hkm;dsimp only[AS.Ov,rX]
 try dsimp only at h
 refine lE h λp8 hp8 h=>?_;rw[hp8];refine aW<|ag Y<|RT.done ?_;refine aV.n ⟨Y,?_⟩;dsimp only[AS.B5];refine bj<|sr<|lV Y Y Y<|mv Y<|bE h λiN pg h=>cl (vF pg) ⟨Y,Y,aq⟩<|bE h λdP gu h=>cl (Gf gu) ⟨Y,aq⟩<|lE h λiW kJ h=>ls _ Y Y kJ<|dn ?_;cases iW;refine cF<|bA<|bG.n ?_;obtain rfl:=O (F h);obtain⟨hm3,hq3⟩:=hG3 _ Y;exact⟨hm3,Y,Y,wR []⟩;refine cT<|sr<|RT.nM (cells:=[_]) .none (s:=.sv _) Y Y Y T Y<|dn<|bh<|bG.r ?_;obtain rfl:=O (V h);have he3:=hE3 _ Y;subst he3;refine⟨Y,Y,?_⟩;refine bG.r<|aV.r ?_;obtain rfl:=O UC;exact RZ (.one Y Y Y (.nil));have hd3:=hn3 hdn;subst hd3;obtain⟨ee3,UD⟩:∃q,st3 ((IntKind.i64.wrap (Tb.vars ⟨bp,bt,bB,bF,dR⟩+((Tb.rows ⟨bp,bt,bB,bF,dR⟩).length:Int))).toNat)=q:=⟨_,Y⟩;rw[UD]at UC
 try dsimp only
 refine bG.n<|aV.n<|sr<|RT.nM (cells:=[_]) .none (s:=.sv _) Y Y Y T Y<|dn<|bh ?_;obtain rfl:=O UC;exact RZ (.one Y Y Y (.nil));refine cT<|sr<|RT.nM (cells:=[_]) .none (s:=.sv _) Y Y Y T Y<|dn<|bh<|aV.r ?_;obtain rfl:=O (V h);exact RZ (.one Y Y Y (.nil))
theorem Bs{o0:Bool}{o1:Int}{o2:List (List Qr)}{o3:List Int}{o4:List (List Qr)}{r:Bool}(h:cH (⟨o0,o1,o2,o3,o4⟩:Tb)=some r):Bd ah 57 [.ptr 1000 0] 79 [.s (az o0),.s (ay o1),.r (TR 23 1 (eS 4 eQ) o2),.r (TR 3 1 cM o3),.r (TR 23 1 (eS 4 eQ) o4)] (az r):=eT (cells:=vc (⟨o0,o1,o2,o3,o4⟩:Tb)) (r:=λN=>(az r)) (λN=>by exact l7 (e5 h) N) Y ⟨⟨au,λ_ _ q=>One.h _ _ q⟩,⟨au,λ_ _ q=>One.h _ _ q⟩,dG,dG,dG,aq⟩ I6
theorem Ef{o0:Bool}{o1:Int}{o2:List (List Qr)}{o3:List Int}{o4:List (List Qr)}{r:Int}(h:eX (⟨o0,o1,o2,o3,o4⟩:Tb)=some r):Bd ah 58 [.ptr 1000 0] 79 [.s (az o0),.s (ay o1),.r (TR 23 1 (eS 4 eQ) o2),.r (TR 3 1 cM o3),.r (TR 23 1 (eS 4 eQ) o4)] (ay r):=eT (cells:=vc (⟨o0,o1,o2,o3,o4⟩:Tb)) (r:=λN=>(ay r)) (λN=>by exact l7 (nD h) N) Y ⟨⟨au,λ_ _ q=>One.h _ _ q⟩,⟨au,λ_ _ q=>One.h _ _ q⟩,dG,dG,dG,aq⟩ I6
theorem Eg{o0:Bool}{o1:Int}{o2:List (List Qr)}{o3:List Int}{o4:List (List Qr)}{r:List Int}(h:jq (⟨o0,o1,o2,o3,o4⟩:Tb)=some r):Bd ah 17 [.ptr 1000 0] 79 [.s (az o0),.s (ay o1),.r (TR 23 1 (eS 4 eQ) o2),.r (TR 3 1 cM o3),.r (TR 23 1 (eS 4 eQ) o4)] (slc 1 (List.map cM r)):=eT (cells:=vc (⟨o0,o1,o2,o3,o4⟩:Tb)) (r:=λN=>nw N (slc 1 (List.map cM r))) (λN=>by exact Ed N h) Y ⟨⟨au,λ_ _ q=>One.h _ _ q⟩,⟨au,λ_ _ q=>One.h _ _ q⟩,dG,dG,dG,aq⟩ UP
theorem vG{o0:Bool}{o1:Int}{o2:List (List Qr)}{o3:List Int}{o4:List (List Qr)}{r:List Qr}(h:gb (⟨o0,o1,o2,o3,o4⟩:Tb)=some r):Bd ah 19 [.ptr 1000 0] 79 [.s (az o0),.s (ay o1),.r (TR 23 1 (eS 4 eQ) o2),.r (TR 3 1 cM o3),.r (TR 23 1 (eS 4 eQ) o4)] (slc 4 (List.map eQ r)):=eT (cells:=vc (⟨o0,o1,o2,o3,o4⟩:Tb)) (r:=λN=>nw N (slc 4 (List.map (fQ N) r))) (λN=>by exact qQ N h) Y ⟨⟨au,λ_ _ q=>One.h _ _ q⟩,⟨au,λ_ _ q=>One.h _ _ q⟩,dG,dG,dG,aq⟩ zU
theorem vH{o0:Bool}{o1:Int}{o2:List (List Qr)}{o3:List Int}{o4:List (List Qr)}{x1:Int}{r:List Qr}(h:dK (⟨o0,o1,o2,o3,o4⟩:Tb) x1=some r):Bd ah 28 [.ptr 1000 0,ai x1] 79 [.s (az o0),.s (ay o1),.r (TR 23 1 (eS 4 eQ) o2),.r (TR 3 1 cM o3),.r (TR 23 1 (eS 4 eQ) o4)] (slc 4 (List.map eQ r)):=eT (cells:=vc (⟨o0,o1,o2,o3,o4⟩:Tb)) (r:=λN=>nw N (slc 4 (List.map (fQ N) r))) (λN=>by exact oh N h) Y ⟨⟨au,λ_ _ q=>One.h _ _ q⟩,⟨au,λ_ _ q=>One.h _ _ q⟩,dG,dG,dG,aq⟩ zU
theorem qR{o0:Bool}{o1:Int}{o2:List (List Qr)}{o3:List Int}{o4:List (List Qr)}{r:List Qr}(h:ir (⟨o0,o1,o2,o3,o4⟩:Tb)=some r):Bd ah 38 [.ptr 1000 0] 79 [.s (az o0),.s (ay o1),.r (TR 23 1 (eS 4 eQ) o2),.r (TR 3 1 cM o3),.r (TR 23 1 (eS 4 eQ) o4)] (slc 4 (List.map eQ r)):=eT (cells:=vc (⟨o0,o1,o2,o3,o4⟩:Tb)) (r:=λN=>nw N (slc 4 (List.map (fQ N) r))) (λN=>by exact Ee N h) Y ⟨⟨au,λ_ _ q=>One.h _ _ q⟩,⟨au,λ_ _ q=>One.h _ _ q⟩,dG,dG,dG,aq⟩ zU
theorem rH{o0:Bool}{o1:Int}{o2:List (List Qr)}{o3:List Int}{o4:List (List Qr)}{r:List Qr}(h:fU (⟨o0,o1,o2,o3,o4⟩:Tb)=some r):Bd ah 21 [.ptr 1000 0] 79 [.s (az o0),.s (ay o1),.r (TR 23 1 (eS 4 eQ) o2),.r (TR 3 1 cM o3),.r (TR 23 1 (eS 4 eQ) o4)] (slc 4 (List.map eQ r)):=eT (cells:=vc (⟨o0,o1,o2,o3,o4⟩:Tb)) (r:=λN=>nw N (slc 4 (List.map (fQ N) r))) (λN=>by exact zq N h) Y ⟨⟨au,λ_ _ q=>One.h _ _ q⟩,⟨au,λ_ _ q=>One.h _ _ q⟩,dG,dG,dG,aq⟩ zU
theorem mZ{o0:Bool}{o1:Int}{o2:List (List Qr)}{o3:List Int}{o4:List (List Qr)}{r:Bool}(h:eY (⟨o0,o1,o2,o3,o4⟩:Tb)=some r):Bd ah 35 [.ptr 1000 0] 79 [.s (az o0),.s (ay o1),.r (TR 23 1 (eS 4 eQ) o2),.r (TR 3 1 cM o3),.r (TR 23 1 (eS 4 eQ) o4)] (az r):=eT (cells:=vc (⟨o0,o1,o2,o3,o4⟩:Tb)) (r:=λN=>(az r)) (λN=>by exact l7 (zu h) N) Y ⟨⟨au,λ_ _ q=>One.h _ _ q⟩,⟨au,λ_ _ q=>One.h _ _ q⟩,dG,dG,dG,aq⟩ I6
theorem om{o0:Bool}{o1:Int}{o2:List (List Qr)}{o3:List Int}{o4:List (List Qr)}{r:Bool}(h:fM (⟨o0,o1,o2,o3,o4⟩:Tb)=some r):Bd ah 42 [.ptr 1000 0] 79 [.s (az o0),.s (ay o1),.r (TR 23 1 (eS 4 eQ) o2),.r (TR 3 1 cM o3),.r (TR 23 1 (eS 4 eQ) o4)] (az r):=eT (cells:=vc (⟨o0,o1,o2,o3,o4⟩:Tb)) (r:=λN=>(az r)) (λN=>by exact l7 (Br h) N) Y ⟨⟨au,λ_ _ q=>One.h _ _ q⟩,⟨au,λ_ _ q=>One.h _ _ q⟩,dG,dG,dG,aq⟩ I6
end
section
open Go.Fw Go.Fw.Z Go.RowKit
set_option maxHeartbeats 4000000 in
theorem lG{x0:Lr}{r:Bool×Int×(List (List Qr))×(List Int)×(List (List Qr))}(h:dW x0=some r):Kk ah 56 [.agg (Dw x0)] false [] 79 [.s (az r.1),.s (ay r.2.1),.r (TR 23 1 (eS 4 eQ) r.2.2.1),.r (TR 3 1 cM r.2.2.2.1),.r (TR 23 1 (eS 4 eQ) r.2.2.2.2)]:=by
 obtain⟨bp,bt,bB,bF⟩:=x0;refine Gj Tryz.func56 Y (af Y) (λee M vs hvs=>?_);unfold dW at h;refine sr<|bx Y<|ag Y<|dn<|sr<|fa Y Y<|lV Y Y Y<|bI (cs:=[_,_,_,_,_]) (cs':=[az true,ay bp,.v (.slice none 0 0),.v (.slice none 0 0),.v (.slice none 0 0)]) (.one Y (.one Y (.nil))) ⟨au,au,au,au,au,aq⟩<|bx Y<|an (s:=.ptr _ _) Y<|dn<|cY (xG 12 2 304 23 1 Y Y Y T)<|cY (xG 12 3 305 3 1 Y Y Y T) ?_;refine cY (xG 12 4 306 23 1 Y Y Y T)<|qq<|sr<|fa Y Y<|lV Y Y Y<|lE h λeI jh h=>ln Y jh<|mv Y<|dn<|bE h λe6 Fv nx=>?_;refine bV (λ(pB:(List (List Qr)))=>AS.cI 105 [(1,.ptr 1 0),(3,.ptr 12 0)] [(12,⟨79,[aj true,ai bp,.row 308,.row 305,.row 306]⟩),(1,⟨25,[ai bp,.sv (slc 1 (List.map (eS 4 eQ) bt)),.sv (slc 1 (List.map (eS 4 eQ) bB)),.sv (slc 4 (List.map eQ bF))]⟩)] [(308,TR 23 1 (eS 4 eQ) pB),(305,TR 3 1 cM []),(306,TR 23 1 (eS 4 eQ) [])]) (λpB=>pB=e6) ?_ (λpB Fx=>?_);refine bj ?_
 refine bW Fv (λs6=>AS.cI 105 [(1,.ptr 1 0),(3,.ptr 12 0),(14,.sv (slc 1 (List.map (eS 4 eQ) bt))),(15,ai eI),(16,ai s6.1)] [(12,⟨79,[aj true,ai bp,.row 308,.row 305,.row 306]⟩),(1,⟨25,[ai bp,.sv (slc 1 (List.map (eS 4 eQ) bt)),.sv (slc 1 (List.map (eS 4 eQ) bB)),.sv (slc 4 (List.map eQ bF))]⟩)] [(308,TR 23 1 (eS 4 eQ) s6.2),(305,TR 3 1 cM []),(306,TR 23 1 (eS 4 eQ) [])]) (ec (λi=>bif Nat.beq i 308 then 304 else i) Y Y Y Y Y ⟨.ptr,.ptr,.sv au,.sv au,.sv au,aq⟩ ⟨⟨_,Y,⟨.sv au,.sv au,.row Y,.row Y,.row Y,aq⟩⟩,⟨_,Y,⟨.sv au,.sv au,.sv au,.sv au,aq⟩⟩,aq⟩ ⟨⟨_,Y,cP.refl _⟩,⟨_,Y,cP.refl _⟩,⟨_,Y,cP.refl _⟩,aq⟩ (λi hi=>by rw[cV (show i≠308 by omega)];rfl)) (λs6 y6 G6 h Fy AE=>?_);obtain⟨Ja,Eb⟩:=s6
 try dsimp only
 refine sr<|lE h λgM mW h=>ls _ Y Y mW<|dn<|qq ?_;cases gM;refine cF<|cc<|aV.x<|aV.x<|bG.x<|aV.n ?_;obtain rfl:=O (F h);exact⟨Eb,AE _ Y,wR []⟩;refine cT<|bA<|aV.n<|qq<|bj<|sr<|bE (V h) λfS kA h=>ix Y Y kA<|lr Y Y<|ag Y<|dn<|bf mixed<|mo (s:=.ptr _ _) Y<|mo (s:=.ptr _ _) Y<|RT.ey .none Y T<|fa Y Y<|RT.ig .none (s:=.row _) Y Y Y T<|mv Y<|fa Y Y<|lV Y Y Y<|bE h λnT wH h=>cl (Ch wH) ⟨Y,Y,aq⟩<|bl (l:=[nT]) (e:=(eS 4 eQ)) (.one Y (.nil)) Y Y Y Y Y Y ?_;refine bE h λzP DL h=>aR (k:=[nT]) (e:=(eS 4 eQ)) Y Y Y DL<|RT.ey .none Y T<|fa Y Y<|RT.nN (cells:=[_,_,_,_,_]) .none Y Y Y Y T Y ?_;refine RT.done ⟨by kernel_rfl,?_⟩;refine bG.n<|aV.n<|aW<|lE h λtO zR h=>ad _ Y Y zR<|mv Y<|RT.done ?_;obtain rfl:=O h;exact aV.n ⟨(tO,zP),Fy _ Y,ec (λi=>bif Nat.beq i 308 then 30 else i) Y Y Y Y Y ⟨.ptr,.ptr,.sv au,.sv au,.sv au,aq⟩ ⟨⟨_,Y,⟨.sv au,.sv au,.row Y,.row Y,.row Y,aq⟩⟩,⟨_,Y,⟨.sv au,.sv au,.sv au,.sv au,aq⟩⟩,aq⟩ ⟨⟨_,Y,cP.refl _⟩,⟨_,Y,cP.refl _⟩,⟨_,Y,cP.refl _⟩,aq⟩ (λi hi=>by rw[cV (show i≠308 by omega)];rfl)⟩;subst Fx
 try dsimp only
 refine aV.n<|qq<|sr<|fa Y Y<|lV Y Y Y<|lE nx λrB wL nx=>ln Y wL<|mv Y<|dn<|bE nx λe30 adV adW=>?_;refine bV (λ(Kp:(List Int)×(List (List Qr)))=>AS.cI 105 [(3,.ptr 12 0)] [(12,⟨79,[aj true,ai bp,.row 308,.row 312,.row 313]⟩)] [(308,TR 23 1 (eS 4 eQ) pB),(312,TR 3 1 cM Kp.1),(313,TR 23 1 (eS 4 eQ) Kp.2)]) (λKp=>Kp=e30) ?_ (λKp adX=>?_);refine bj ?_;refine bW adV (λUT=>AS.cI 105 [(1,.ptr 1 0),(3,.ptr 12 0),(36,ai rB),(37,ai UT.1)] [(12,⟨79,[aj true,ai bp,.row 308,.row 312,.row 313]⟩),(1,⟨25,[ai bp,.sv (slc 1 (List.map (eS 4 eQ) bt)),.sv (slc 1 (List.map (eS 4 eQ) bB)),.sv (slc 4 (List.map eQ bF))]⟩)] [(308,TR 23 1 (eS 4 eQ) pB),(312,TR 3 1 cM UT.2.1),(313,TR 23 1 (eS 4 eQ) UT.2.2)]) (ec (λi=>bif Nat.beq i 312 then 305 else bif Nat.beq i 313 then 306 else i) Y Y Y Y Y ⟨.ptr,.ptr,.sv au,.sv au,aq⟩ ⟨⟨_,Y,⟨.sv au,.sv au,.row Y,.row Y,.row Y,aq⟩⟩,⟨_,Y,⟨.sv au,.sv au,.sv au,.sv au,aq⟩⟩,aq⟩ ⟨⟨_,Y,cP.refl _⟩,⟨_,Y,cP.refl _⟩,⟨_,Y,cP.refl _⟩,aq⟩ (λi hi=>by rw[cV (show i≠312 by omega)];rw[cV (show i≠313 by omega)];rfl)) (λUT y30 G30 h adY adZ=>?_);obtain⟨og,tX,tY⟩:=UT
 try dsimp only
 refine sr<|lE h λyI HG h=>ls _ Y Y HG<|dn<|qq ?_;cases yI;refine cF<|cc<|aV.x<|aV.x<|bG.x<|aV.n ?_;obtain rfl:=O (F h);exact⟨(tX,tY),adZ _ Y,wR []⟩;refine cT<|bA<|aV.n<|qq<|bj<|sr<|mv Y<|ag Y<|dn<|sr<|fa Y Y<|lV Y Y Y<|fa Y Y<|lV Y Y Y<|lE (V h) λAy FB h=>ln Y FB<|lE h λDB Me h=>ad _ Y Y Me<|lE h λvR h46 h=>ad _ Y Y h46<|bE h λtK ze h=>RT.nQ (n:=4) (e:=eQ) .none Y Y T Y T (by rfl) (by decide) (by exact⟨au,aB,au,aB,aq⟩) ze ?_;refine an (s:=.row _) Y<|dn<|qq<|sr<|fa Y Y<|lV Y Y Y<|mv Y<|dn<|bE h λXj TZ gC=>?_;refine bV (λ(vE:(List Qr))=>AS.cI 105 [(1,.ptr 1 0),(3,.ptr 12 0),(6,ai og),(7,.row 47),(36,ai rB),(37,ai og)] [(12,⟨79,[aj true,ai bp,.row 308,.row 312,.row 313]⟩),(1,⟨25,[ai bp,.sv (slc 1 (List.map (eS 4 eQ) bt)),.sv (slc 1 (List.map (eS 4 eQ) bB)),.sv (slc 4 (List.map eQ bF))]⟩)] [(47,TR 43 4 eQ vE),(308,TR 23 1 (eS 4 eQ) pB),(312,TR 3 1 cM tX),(313,TR 23 1 (eS 4 eQ) tY)]) (λvE=>vE=Xj) ?_ (λvE T0=>?_);refine bj ?_
 refine bW TZ (λIU=>AS.cI 105 [(1,.ptr 1 0),(3,.ptr 12 0),(6,ai og),(7,.row 47),(36,ai rB),(37,ai og),(49,ai bp),(50,ai IU.1)] [(12,⟨79,[aj true,ai bp,.row 308,.row 312,.row 313]⟩),(1,⟨25,[ai bp,.sv (slc 1 (List.map (eS 4 eQ) bt)),.sv (slc 1 (List.map (eS 4 eQ) bB)),.sv (slc 4 (List.map eQ bF))]⟩)] [(47,TR 43 4 eQ IU.2),(308,TR 23 1 (eS 4 eQ) pB),(312,TR 3 1 cM tX),(313,TR 23 1 (eS 4 eQ) tY)]) (wR []) (λIU y38 G38 h T1 T2=>?_);obtain⟨Bm,Bn⟩:=IU
 try dsimp only
 refine sr<|lE h λFg J7 h=>ls _ Y Y J7<|dn<|qq ?_;cases Fg;refine cF<|cc<|aV.x<|aV.x<|bG.x<|aV.n ?_;obtain rfl:=O (F h);exact⟨Bn,T2 _ Y,wR []⟩;refine cT<|bA<|aV.n<|qq<|bj<|sr<|mv Y<|ag Y<|dn<|aW<|mo (s:=.row _) Y<|mv Y<|fa Y Y<|lV Y Y Y<|mv Y<|mv Y ?_;obtain⟨⟨⟨C2,yP⟩,⟨M6,M7⟩⟩,Po,h⟩:=bS (V h);refine cl (Kg Po) ⟨Y,Y,Y,aq⟩<|bE h λKQ Pp h=>iR Y Y Y Pp<|bE h λOA Yv h=>sA ⟨⟨C2,yP⟩,⟨M6,M7⟩⟩ Y Y Y Yv<|RT.done<|bG.n<|aV.n<|aW<|lE h λHx T3 h=>ad _ Y Y T3<|mv Y<|RT.done ?_;obtain rfl:=O h;exact aV.n ⟨(Hx,OA),T1 _ Y,wR []⟩;subst T0
 try dsimp only
 refine aV.n<|qq<|bf mixed<|mo (s:=.row _) Y<|fa Y Y<|lV Y Y Y<|mv Y<|lE gC λG5 T4 gC=>ad _ Y Y T4 ?_;obtain⟨⟨⟨M8,M9⟩,⟨Na,Nb⟩⟩,XS,gC⟩:=bS gC;refine cl (gw XS) ⟨Y,aq⟩<|bE gC λKR XQ gC=>iR Y Y Y XQ<|bE gC λQZ Mf gC=>sA ⟨⟨M8,M9⟩,⟨Na,Nb⟩⟩ Y Y Y Mf ?_;refine RT.done ⟨by kernel_rfl,?_⟩;refine aV.n<|sr<|mo (s:=.row _) Y<|mo (s:=.row _) Y<|lE gC λYp h71 gC=>lL Y Y h71<|lE gC λJ2 T8 gC=>sb _ Y Y T8<|fa Y Y<|lV Y Y Y<|mv Y ?_;obtain⟨⟨⟨Sr,Ss⟩,⟨St,Su⟩⟩,Yw,gC⟩:=bS gC;refine ix Y Y Yw<|RT.ja (cs:=[_,_,_,_]) .none Y T Y Y ?_;obtain⟨⟨⟨Nc,Nd⟩,⟨Nf,Ng⟩⟩,h78,gC⟩:=bS gC;refine cl (oU h78) ⟨Y,aq⟩<|bE gC λPk XT gC=>iR Y Y Y XT<|bE gC λYq Yx gC=>sA ⟨⟨Nc,Nd⟩,⟨Nf,Ng⟩⟩ Y Y Y Yx<|dn<|qq<|cY (pL (i:=47) (E1:=43) (n:=4) (e:=eQ) (l:=Yq) Y)<|aW<|mo (s:=.ptr _ _) Y<|mo (s:=.ptr _ _) Y<|RT.ey .none Y T<|fa Y Y<|RT.ig .none (s:=.row _) Y Y Y T<|mv Y<|bl (l:=[Yq]) (e:=(eS 4 eQ)) (.one Y (.nil)) Y Y Y Y Y Y ?_;refine bE gC λOC XV gC=>aR (k:=[Yq]) (e:=(eS 4 eQ)) Y Y Y XV<|RT.ey .none Y T<|fa Y Y<|RT.nN (cells:=[_,_,_,_,_]) .none Y Y Y Y T Y<|dn<|bf mixed<|mo (s:=.ptr _ _) Y<|mo (s:=.ptr _ _) Y<|RT.ey .none Y T<|fa Y Y<|RT.ig .none (s:=.row _) Y Y Y T<|fa Y Y<|lV Y Y Y<|mv Y<|lE gC λZX h98 gC=>ad _ Y Y h98 ?_
 refine bl (l:=[ZX]) (e:=cM) (.one Y (.nil)) Y Y Y Y Y Y<|bE gC λUU ad2 gC=>aR (k:=[ZX]) (e:=cM) Y Y Y ad2<|RT.ey .none Y T<|fa Y Y<|RT.nN (cells:=[_,_,_,_,_]) .none Y Y Y Y T Y ?_;refine RT.done ⟨by kernel_rfl,?_⟩;refine bG.n<|aV.n<|aW<|lE gC λCb Mj gC=>ad _ Y Y Mj<|mv Y<|RT.done ?_;obtain rfl:=O gC;exact aV.n ⟨(Cb,UU,OC),adY _ Y,ec (λi=>bif Nat.beq i 312 then 100 else bif Nat.beq i 313 then 87 else i) Y Y Y Y Y ⟨.ptr,.ptr,.sv au,.sv au,aq⟩ ⟨⟨_,Y,⟨.sv au,.sv au,.row Y,.row Y,.row Y,aq⟩⟩,⟨_,Y,⟨.sv au,.sv au,.sv au,.sv au,aq⟩⟩,aq⟩ ⟨⟨_,Y,cP.refl _⟩,⟨_,Y,cP.refl _⟩,⟨_,Y,cP.refl _⟩,aq⟩ (λi hi=>by rw[cV (show i≠312 by omega)];rw[cV (show i≠313 by omega)];rfl)⟩;subst adX;obtain⟨Jb,Jc⟩:=Kp
 try dsimp only
 refine aV.n<|sr<|mo (s:=.ptr _ _) Y<|an (s:=.ptr _ _) Y<|dn<|bh ?_;obtain rfl:=O adW;exact⟨.inr Y,12,[308,312,313],.tmp Y,Y,⟨Y,Y,Y,aq⟩,by decide⟩
theorem tf{x0:Lr}{r:Bool×Int×(List (List Qr))×(List Int)×(List (List Qr))}(h:gG x0=some r):Kk ah 12 [.agg (Dw x0)] true [ay 0] 79 [.s (az r.1),.s (ay r.2.1),.r (TR 23 1 (eS 4 eQ) r.2.2.1),.r (TR 3 1 cM r.2.2.2.1),.r (TR 23 1 (eS 4 eQ) r.2.2.2.2)]:=by
 obtain⟨bp,bt,bB,bF⟩:=x0;refine Gk (t1:=2) (t2:=3) Tryz.func12 Y (af Y) Y (λee M vs hvs=>?_);unfold gG at h;refine sr<|bx Y<|ag Y<|ag Y<|dn<|qq<|sr<|ld Y Y (.k4 Y Y Y Y)<|bE h λx5 h5 h=>cl (oX h5) ⟨Y,aq⟩<|lE h λx6 h6 h=>nt Y _ h6<|dn ?_;cases x6;refine fs<|sr<|ld Y Y (.k4 Y Y Y Y) ?_;obtain⟨⟨vp,vr,AQ,AR,PD⟩,h8,h⟩:=bS (F h);refine RT.MJ .none (lG h8) [304,305,306] (by decide) Y ⟨⟨Y,T⟩,⟨Y,T⟩,⟨Y,T⟩,aq⟩ Y ⟨Y,aq⟩ T Y Y<|an (s:=.ptr _ _) Y<|ag Y<|dn<|bh ?_;obtain rfl:=O h;exact⟨.inr Y,8,[304,305,306],Y,Y,Y,⟨Y,Y,Y,aq⟩,by decide⟩;refine cT<|sr<|ag Y<|ag Y<|dn<|bh<|aV.r ?_;replace h:=V h;cases h
theorem Eh{x0:List Qr}{F5:Qr}{r:List Qr}(h:mO x0 F5=some r):Pure ah 106 [slc 4 (List.map eQ x0),ref (eQ F5)] (slc 4 (List.map eQ r)):=by
 obtain⟨⟨F6,F7⟩,⟨F8,F9⟩⟩:=F5;refine bw Tryz.func106 Y (af Y) (λee M vs hvs=>?_);unfold mO at h;refine sr<|aI Y (aB (n:=4) (e:=eQ))<|dn<|sr<|RT.ja (cs:=[_,_,_,_]) .none Y T Y Y<|mv Y<|bE h λx6 h6 h=>cl (wQ h6) ⟨Y,Y,aq⟩<|ag Y<|dn<|bh ?_;obtain rfl:=O h;exact R1 Y
theorem Co{o0:Bool}{o1:Int}{o2:List (List Qr)}{o3:List Int}{o4:List (List Qr)}{x0:List Qr}{F5:Int}{ZY:Int}{r:List Qr}(h:jz o0 o1 o2 o3 o4 x0 F5 ZY=some r):I5 ah 107 (λβ=>[.sv (slc 4 (List.map eQ x0)),.sv (ref [ay F5]),.sv (ref [.v (.pointer (some ⟨β,0,none⟩))]),.sv (ref [ay ZY])]) 79 [.s (az o0),.s (ay o1),.r (TR 23 1 (eS 4 eQ) o2),.r (TR 3 1 cM o3),.r (TR 23 1 (eS 4 eQ) o4)] (λ_ M' _ v=>SV.h (slc 4 (List.map eQ r)) M' v):=by
 refine Ea [1001,1002,1003] Tryz.func107 Y (λ_=>(af Y)) (λ_=>Y) (by decide) Y Y ⟨⟨_,Y⟩,⟨_,Y⟩,aq,aq,aq,aq⟩ (λee M β us=>?_);unfold jz at h;refine sr<|aI Y (aB (n:=4) (e:=eQ))<|dn<|qq<|sr<|mv Y<|lr Y Y ?_;obtain⟨⟨⟨vp,vr⟩,⟨AQ,AR⟩⟩,h8,h⟩:=bS h;refine ix Y Y h8<|RT.ja (cs:=[_,_,_,_]) .none Y T Y Y<|bE h λef gV h=>cl (gx gV) ⟨Y,aq⟩<|lE h λiN pg h=>eq _ Y Y (wj (p:=ef) (q:=0) pg)<|dn ?_;cases iN;refine fs<|qq<|bf mixed<|mv Y<|lr Y Y ?_;obtain⟨⟨⟨kL,kM⟩,⟨FD,FE⟩⟩,jh,h⟩:=bS (F h);refine ix Y Y jh<|RT.ja (cs:=[_,_,_,_]) .none Y T Y Y ?_;obtain⟨⟨⟨oR,oS⟩,⟨uM,uN⟩⟩,mW,h⟩:=bS h;refine cl (FV mW) ⟨Y,aq⟩<|RT.yf (k:=1000) .none Y Y Y T<|RT.ey .none Y T<|fa Y Y<|RT.ig .none (s:=.row _) Y Y Y T<|lr Y Y<|bE h λjT sD h=>iR Y Y Y sD<|bE h λiX oP h=>lR (e:=(eS 4 eQ)) Y Y oP Y<|mv Y<|bE h λmU tR h=>cl (ya tR) ⟨Y,Y,Y,aq⟩<|ag Y ?_;refine RT.done ⟨by kernel_rfl,?_⟩;refine aV.n<|bh ?_;obtain rfl:=O h;exact⟨.inr Y,gi (.tmp Y (.nil)) au,Y,⟨Y,Y,Y,aq⟩⟩;refine cT<|sr<|mv Y<|ag Y<|dn<|bh<|aV.r ?_;obtain rfl:=O (V h);exact⟨.inr Y,gi (.tmp Y (.nil)) au,Y,⟨Y,Y,Y,aq⟩⟩
set_option maxHeartbeats 4000000 in
theorem nE{o0:Bool}{o1:Int}{o2:List (List Qr)}{o3:List Int}{o4:List (List Qr)}{x1:Int}{x2:Int}{r:(List (List Qr))×(List Int)×(List (List Qr))}(h:dz o0 o1 o2 o3 o4 x1 x2=some r):Pt ah 60 [.ptr 1000 0,ai x1,ai x2] 79 [.s (az o0),.s (ay o1),.r (TR 23 1 (eS 4 eQ) o2),.r (TR 3 1 cM o3),.r (TR 23 1 (eS 4 eQ) o4)] (.any) [.s (az o0),.s (ay o1),.r (TR 23 1 (eS 4 eQ) r.1),.r (TR 3 1 cM r.2.1),.r (TR 23 1 (eS 4 eQ) r.2.2)]:=by
 refine Ba [1001,1002,1003] Tryz.func60 Y (af Y) Y (by decide) Y (λee M β us=>?_);unfold dz at h;refine sr<|RT.xw .none (s:=.ptr _ _) Y T Y Y<|RT.xw .none (s:=.sv _) Y T Y Y<|RT.xw .none (s:=.sv _) Y T Y Y<|dn<|PA (i:=3) Y Y<|cY (gW (i:=3) Y [.v (.pointer (some ⟨β,0,none⟩))] (.cons Y (.nil)) .any 0 [(3,.sv (ref [.v (.pointer (some ⟨β,0,none⟩))]))] (λ_ _ _=>trivial) (qA.h (l:=[.v (.pointer (some ⟨β,0,none⟩))])) ⟨@FT.ptr _ _ _ _ _ 3 0 Y,aq⟩)<|cY (gW (i:=4) Y [ay x1] (.cons Y (.nil)) .any 0 [(4,.sv (ref [ay x1]))] (λ_ _ _=>trivial) (qA.h (l:=[ay x1])) ⟨@FT.ptr _ _ _ _ _ 4 0 Y,aq⟩) ?_;refine cY (gW (i:=5) Y [ay x2] (.cons Y (.nil)) .any 0 [(5,.sv (ref [ay x2]))] (λ_ _ _=>trivial) (qA.h (l:=[ay x2])) ⟨@FT.ptr _ _ _ _ _ 5 0 Y,aq⟩)<|qq<|bf mixed ?_;obtain⟨⟨⟨Fj,Fk⟩,⟨Sv,Sw⟩⟩,kJ,h⟩:=bS h;refine cl (gw kJ) ⟨Y,aq⟩<|RT.yf (k:=1000) .none Y Y Y T<|RT.ey .none Y T<|fa Y Y<|RT.ig .none (s:=.row _) Y Y Y T<|lr Y Y<|bE h λnk oG h=>iR Y Y Y oG<|bE h λjc pO h=>lR (e:=(eS 4 eQ)) Y Y pO Y<|lr Y Y ?_;obtain⟨⟨⟨mJ,mK⟩,⟨mL,mM⟩⟩,qM,h⟩:=bS h;refine ix Y Y qM<|RT.ja (cs:=[_,_,_,_]) .none Y T Y Y ?_;obtain⟨⟨⟨⟨yg,yh⟩,⟨yj,yl⟩⟩,Ke⟩,oP,h⟩:=bS h
 refine cl (FR oP) ⟨Y,Y,aq⟩<|mv Y<|ex Y Y<|ex Y Y<|al (cs:=[az false,ax,az false,ax]) (by exact⟨au,aB,au,aB,aq⟩) Y<|so Y Y Y<|ag Y ?_;refine RT.done ⟨by kernel_rfl,?_⟩;refine aV.n ?_;refine cY (gW (i:=6) Y [az yg,slc 1 (List.map aX yh),az yj,slc 1 (List.map aX yl)] (.k4 Y Y Y Y) .any 0 [(6,.sv (ref [az yg,slc 1 (List.map aX yh),az yj,slc 1 (List.map aX yl)]))] (λ_ _ _=>trivial) (qA.h (l:=[az yg,slc 1 (List.map aX yh),az yj,slc 1 (List.map aX yl)])) ⟨@FT.ptr _ _ _ _ _ 6 0 Y,aq⟩)<|sr<|RT.xH (caps:=[_]) .none ⟨Y,aq⟩ T<|bI (cs:=[_]) (cs':=[iV 106 [ref [az yg,slc 1 (List.map aX yh),az yj,slc 1 (List.map aX yl)]]]) (.one Y (.nil)) ⟨au,aq⟩ ?_;refine RT.alloc .none T Y Y<|so Y Y Y<|dn<|qq<|bf mixed<|RT.yf (k:=1000) .none Y Y Y T<|RT.ey .none Y T<|fa Y Y<|RT.ig .none (s:=.row _) Y Y Y T<|lr Y Y<|fa Y Y<|lV Y Y Y<|RT.yf (k:=1000) .none Y Y Y T<|RT.ey .none Y T<|fa Y Y<|RT.ig .none (s:=.row _) Y Y Y T<|lr Y Y<|bE h λxn HH h=>iR Y Y Y HH ?_;refine bE h λsj DM h=>lR (e:=(eS 4 eQ)) Y Y DM Y<|bE h λrK CU h=>RT.Xd (args:=[_]) (caps:=[_]) .none (Eh CU) Y ⟨Y,aq⟩ T<|bE h λAy FB h=>iR Y Y Y FB<|bE h λl2 ad3 h=>sR rK Y Y Y Y ad3 ?_;refine RT.done ⟨by kernel_rfl,?_⟩
 refine aV.n<|sr<|RT.xH (caps:=[_,_,_]) .none ⟨Y,Y,Y,aq⟩ T<|bI (cs:=[_]) (cs':=[iV 107 [ref [ay x2],ref [.v (.pointer (some ⟨β,0,none⟩))],ref [ay x1]]]) (.one Y (.nil)) ⟨au,aq⟩<|RT.alloc .none T Y Y<|so Y Y Y<|dn<|sr<|RT.yf (k:=1000) .none Y Y Y T<|RT.ey .none Y T<|fa Y Y<|RT.ig .none (s:=.row _) Y Y Y T<|lE h λFg J7 h=>lL Y Y J7 ?_;refine mv Y<|dn<|bE h λKS DS mE=>?_;refine bV (λ(pZ:(List (List Qr)))=>AS.cI 71 [] [(1000,⟨79,[aj o0,ai o1,.row 1001,.row 1002,.row 1003]⟩)] [(1001,TR 23 1 (eS 4 eQ) o2),(1002,TR 3 1 cM o3),(1003,TR 23 1 (eS 4 eQ) pZ)]) (λpZ=>pZ=KS) ?_ (λpZ Mi=>?_);refine bj ?_;refine bW DS (λza=>AS.cI 71 [(3,.sv (ref [.v (.pointer (some ⟨β,0,none⟩))])),(4,.sv (ref [ay x1])),(9,.ptr 9 0),(50,.row 1003),(51,ai Fg),(52,ai za.1)] [(1000,⟨79,[aj o0,ai o1,.row 1001,.row 1002,.row 1003]⟩),(9,⟨124,[.sv (iV 107 [ref [ay x2],ref [.v (.pointer (some ⟨β,0,none⟩))],ref [ay x1]])]⟩)] [(1003,TR 23 1 (eS 4 eQ) za.2),(1001,TR 23 1 (eS 4 eQ) o2),(1002,TR 3 1 cM o3)]) (wR []) (λza y12 G12 h HI HJ=>?_);obtain⟨oY,fY⟩:=za
 try dsimp only
 refine sr<|lE h λSx T7 h=>ls _ Y Y T7<|dn<|qq ?_;cases Sx;refine cF<|cc<|aV.x<|aV.x<|bG.x<|aV.n ?_;obtain rfl:=O (F h);exact⟨fY,HJ _ Y,wR []⟩;refine cT<|bA<|aV.n<|qq<|bj<|sr<|mv Y<|bE (V h) λy7 Mh h=>iR Y Y Y Mh<|bE h λEH Mg h=>lR (e:=(eS 4 eQ)) Y Y Mg Y<|ag Y<|ag Y<|dn<|sr<|mv Y<|lr Y Y<|lE h λJY Po h=>ne _ Y Y (G4 (p:=oY) (q:=x1) Po)<|dn ?_;refine bK h (λj15=>AS.cI 71 [(3,.sv (ref [.v (.pointer (some ⟨β,0,none⟩))])),(4,.sv (ref [ay x1])),(9,.ptr 9 0),(50,.row 1003),(51,ai Fg),(52,ai oY)] [(1000,⟨79,[aj o0,ai o1,.row 1001,.row 1002,.row 1003]⟩),(9,⟨124,[.sv (iV 107 [ref [ay x2],ref [.v (.pointer (some ⟨β,0,none⟩))],ref [ay x1]])]⟩)] [(1003,TR 23 1 (eS 4 eQ) j15),(1001,TR 23 1 (eS 4 eQ) o2),(1002,TR 3 1 cM o3)]) (λh=>?_) (λtc h=>?_);cases JY;exact fs<|⟨fY,(F h),wR []⟩;refine cT<|bf mixed<|RT.yf (k:=1000) .none Y Y Y T<|RT.ey .none Y T<|fa Y Y<|RT.ig .none (s:=.row _) Y Y Y T<|mv Y<|fa Y Y<|lV Y Y Y<|mv Y<|bE (V h) λKR XQ h=>RT.PB (args:=[.sv (slc 4 (List.map eQ EH))]) (caps:=λβ=>[ref [ay x2],ref [.v (.pointer (some ⟨β,0,none⟩))],ref [ay x1]]) .none (Co XQ) 1000 [1001,1002,1003] Y Y ⟨Y,Y,Y,aq⟩ (by decide) Y Y (.cons Y (.nil)) T ?_
 refine bE h λHA T5 h=>iR Y Y Y T5<|bE h λYr Yy h=>sR KR Y Y Y Y Yy ?_;refine RT.done ⟨by kernel_rfl,?_⟩;exact aV.n<|⟨Yr,h,wR []⟩
 try dsimp only
 refine bG.n<|aV.n<|aW<|lE h λPj h70 h=>ad _ Y Y h70<|mv Y<|RT.done ?_;obtain rfl:=O h;exact aV.n ⟨(Pj,tc),HI _ Y,wR []⟩;subst Mi
 try dsimp only
 obtain rfl:=O mE;exact⟨.inl Y,gi .nil (λ_ _ _=>trivial),[1001,1002,1003],Y,⟨Y,Y,Y,aq⟩,by decide⟩
set_option maxHeartbeats 4000000 in
theorem gH{o0:Bool}{o1:Int}{o2:List (List Qr)}{o3:List Int}{o4:List (List Qr)}{x1:Int}{x2:Int}{r:Int×(List (List Qr))×(List Int)×(List (List Qr))}(h:bD o0 o1 o2 o3 o4 x1 x2=some r):Pt ah 14 [.ptr 1000 0,ai x1,ai x2] 79 [.s (az o0),.s (ay o1),.r (TR 23 1 (eS 4 eQ) o2),.r (TR 3 1 cM o3),.r (TR 23 1 (eS 4 eQ) o4)] (ay r.1) [.s (az o0),.s (ay o1),.r (TR 23 1 (eS 4 eQ) r.2.1),.r (TR 3 1 cM r.2.2.1),.r (TR 23 1 (eS 4 eQ) r.2.2.2)]:=by
 refine Ba [1001,1002,1003] Tryz.func14 Y (af Y) Y (by decide) Y (λee M β us=>?_);unfold bD at h;refine sr<|ag Y<|dn<|qq<|sr<|mo (s:=.ptr _ _) Y<|bE h λef gV h=>RT.iO .none (Bs gV) 1000 [1001,1002,1003] Y ⟨Y,Y,Y,aq⟩ (by decide) Y Y (.cons Y (.nil)) T<|dn ?_;cases ef;refine fs<|qq<|qq ?_;refine bK (F h) (λUL=>AS.cI 68 [(0,.ptr 1000 0),(1,ai x1),(2,ai x2),(31,aj UL)] [(1000,⟨79,[aj o0,ai o1,.row 1001,.row 1002,.row 1003]⟩)] [(1001,TR 23 1 (eS 4 eQ) o2),(1002,TR 3 1 cM o3),(1003,TR 23 1 (eS 4 eQ) o4)]) (λh=>?_) (λNh h=>?_);refine aW<|mv Y<|lE h λdP gu h=>ls _ Y Y gu<|mv Y<|bE h λNi vI h=>?_;cases dP;refine gm Y<|RT.move (.some Y Y) (s:=.ptr _ _) Y T<|RT.ey (.some Y Y) Y T<|RT.fieldAddr (.some Y Y) Y T Y<|RT.ig (.some Y Y) (s:=.row _) Y Y Y T<|lE (F vI) λnk oG vI=>RT.QY (.some Y Y) Y Y T oG<|lE vI λjc pO vI=>RT.geq (.some Y Y) _ Y Y T pO ?_;obtain rfl:=O vI;refine pF Y<|mv Y<|bE h λad5 Ei h=>?_;cases jc;refine gm Y<|lE (F Ei) λiX oP Ei=>RT.lss (.some Y Y) _ Y Y T oP ?_;obtain rfl:=O Ei;refine pF Y<|mv Y<|bE h λad6 rL h=>?_;cases iX
 refine gm Y<|RT.move (.some Y Y) (s:=.ptr _ _) Y T<|bE (F rL) λiG nm rL=>RT.iO (.some Y Y) (Ef nm) 1000 [1001,1002,1003] Y ⟨Y,Y,Y,aq⟩ (by decide) Y Y (.cons Y (.nil)) T<|lE rL λzP DL rL=>RT.geq (.some Y Y) _ Y Y T DL ?_;obtain rfl:=O rL;exact pF Y<|dn<|⟨zP,h,wR []⟩;obtain rfl:=O (V rL);exact ww<|ww<|ww<|ww<|pT Y<|dn<|⟨true,h,wR []⟩;obtain rfl:=O (V Ei);refine ww<|ww<|pT Y<|mv Y<|bE h λad7 xY h=>?_;obtain rfl:=O (V xY);exact ww<|ww<|ww<|ww<|pT Y<|dn<|⟨true,h,wR []⟩;obtain rfl:=O (V vI);refine ww<|ww<|ww<|ww<|ww<|ww<|ww<|pT Y<|mv Y<|bE h λad8 xZ h=>?_;obtain rfl:=O (V xZ);refine ww<|ww<|pT Y<|mv Y<|bE h λad9 vu h=>?_;obtain rfl:=O (V vu);exact ww<|ww<|ww<|ww<|pT Y<|dn<|⟨true,h,wR []⟩
 try dsimp only
 refine aV.n ?_;cases Nh;refine fs<|qq<|sr<|mo (s:=.ptr _ _) Y<|RT.ey .none Y T<|fa Y Y<|RT.ig .none (s:=.row _) Y Y Y T<|lE (F h) λrB wL h=>lL Y Y wL<|mv Y<|dn<|bE h λKo H7 lT=>?_;refine bV (λ(Bt:Unit)=>AS.cI 68 [(0,.ptr 1000 0),(1,ai x1),(2,ai x2)] [(1000,⟨79,[aj o0,ai o1,.row 1001,.row 1002,.row 1003]⟩)] [(1001,TR 23 1 (eS 4 eQ) o2),(1002,TR 3 1 cM o3),(1003,TR 23 1 (eS 4 eQ) o4)]) (λBt=>.inl Bt=Ko) ?_ (λBt H8=>?_);refine bj ?_;refine bW H7 (λKT=>AS.cI 68 [(0,.ptr 1000 0),(1,ai x1),(2,ai x2),(35,.row 1002),(36,ai rB),(37,ai KT)] [(1000,⟨79,[aj o0,ai o1,.row 1001,.row 1002,.row 1003]⟩)] [(1002,TR 3 1 cM o3),(1001,TR 23 1 (eS 4 eQ) o2),(1003,TR 23 1 (eS 4 eQ) o4)]) (wR []) (λEc y16 G16 h H9 Cn=>?_)
 try dsimp only
 refine sr<|lE h λyI HG h=>ls _ Y Y HG<|dn<|qq ?_;cases yI;refine cF<|cc<|aV.x<|aV.x<|bG.x<|aV.n ?_;obtain rfl:=O (F h);exact⟨(),Cn _ Y,wR []⟩;refine cT<|bA<|aV.n<|qq<|bj<|sr<|bE (V h) λsq DT h=>iR Y Y Y DT<|bE h λlu rC h=>lR Y Y rC Y<|ag Y<|dn<|sr<|mv Y<|mv Y<|lE h λrK CU h=>eq _ Y Y (wj (p:=lu) (q:=x2) CU)<|dn ?_;cases rK;refine cF<|bA<|bG.n<|aV.n<|aW<|lE (F h) λAy FB h=>ad _ Y Y FB<|mv Y<|RT.done ?_;obtain rfl:=O h;exact aV.n ⟨Ay,H9 _ Y,wR []⟩;refine cT<|sr<|ag Y<|dn<|bh<|bG.r<|aV.r ?_;obtain rfl:=O (V h);have Nj:=Cn _ Y;subst Nj;refine aV.r<|bG.r<|aV.r<|aV.r ?_;obtain rfl:=O lT;exact⟨.inr Y,gi (.tmp Y (.nil)) au,[1001,1002,1003],Y,⟨Y,Y,Y,aq⟩,by decide⟩;subst H8
 try dsimp only
 refine aV.n<|qq<|sr<|mo (s:=.ptr _ _) Y<|RT.ey .none Y T<|fa Y Y<|RT.ig .none (s:=.row _) Y Y Y T<|mv Y<|bE lT λum Fz lT=>iR Y Y Y Fz<|bE lT λFg J7 lT=>lR (e:=(eS 4 eQ)) Y Y J7 Y<|mv Y ?_;obtain⟨⟨⟨Sy,SA⟩,⟨SB,SC⟩⟩,T7,lT⟩:=bS lT;refine ix Y Y T7<|RT.ja (cs:=[_,_,_,_]) .none Y T Y Y<|bE lT λy7 Mh lT=>cl (gx Mh) ⟨Y,aq⟩<|lE lT λEH Mg lT=>eq _ Y Y (wj (p:=y7) (q:=0) Mg)<|dn ?_;cases EH;refine fs<|sr<|mo (s:=.ptr _ _) Y<|mv Y<|mv Y ?_;obtain⟨⟨Wo,l21,Wp⟩,Pp,lT⟩:=bS (F lT);refine RT.I0 .none (nE Pp) 1000 [1001,1002,1003] [304,305,306] Y ⟨Y,Y,Y,aq⟩ (by decide) (by decide) Y ⟨⟨Y,T⟩,⟨Y,T⟩,⟨Y,T⟩,aq⟩ Y Y (.k3 Y Y Y) T<|dn<|sr<|mo (s:=.ptr _ _) Y<|RT.ey .none Y T<|fa Y Y<|RT.ig .none (s:=.row _) Y Y Y T<|mv Y<|mv Y<|bE lT λQ1 XS lT=>iR Y Y Y XS<|bE lT λl24 Yz lT=>sR x2 Y Y Y Y Yz ?_;refine dn<|sr<|ag Y<|dn<|bh ?_;obtain rfl:=O lT;exact⟨.inr Y,gi (.tmp Y (.nil)) au,[304,305,306],Y,⟨Y,Y,Y,aq⟩,by decide⟩;refine cT<|sr<|ag Y<|dn<|bh<|aV.r ?_;obtain rfl:=O (V lT);exact⟨.inr Y,gi (.tmp Y (.nil)) au,[1001,1002,1003],Y,⟨Y,Y,Y,aq⟩,by decide⟩;refine cT<|sr<|ag Y<|dn<|bh<|aV.r ?_;obtain rfl:=O (V h);exact⟨.inr Y,gi (.tmp Y (.nil)) au,[1001,1002,1003],Y,⟨Y,Y,Y,aq⟩,by decide⟩
 refine cT<|sr<|ag Y<|dn<|bh<|aV.r ?_;obtain rfl:=O (V h);exact⟨.inr Y,gi (.tmp Y (.nil)) au,[1001,1002,1003],Y,⟨Y,Y,Y,aq⟩,by decide⟩
end
section
open Go.Fw
noncomputable def jA(x0:List (List Qr)):Option (Int):=(cy (λ(s6:Int×Int)=>match s6 with|⟨pz,PF⟩=>(show Option ((Int×Int)⊕(Int))from(some (x0.length:Int)).bind λx7=>(some (decide ((PF:Int)<x7))).bind λx8=>(bif x8 then(cZ x0 PF).bind λfC=>(some (fC.length:Int)).bind λgX=>(some (max (pz:Int) gX)).bind λgM=>(some (IntKind.i64.wrap (PF+1))).bind λef=>some (.inl (gM,ef))else some (.inr pz)))) (0,0)).bind λyc=>some yc
noncomputable def iJ(x0:List (List Qr))(x1:Int):Option (Bool):=(jA x0).bind λx6=>(some (decide ((x6:Int)<=x1))).bind λx8=>some x8
noncomputable def ku(x0:Lr):Option (Bool):=match x0 with|⟨bp,bt,bB,bF⟩=>cK (λ(Ib:Bool)=>(bif Ib then some false else cK (λ(FC:Bool)=>some FC) λZS=>(iJ bt bp).bind λsj=>(bif sj then(iJ bB bp).bind λtL=>some tL else some false).bind λNk=>ZS Nk)) λWh=>(some (decide ((bp:Int)<0))).bind λx5=>(bif x5 then some true else(some (decide ((64:Int)<bp))).bind λx9=>some x9).bind λNl=>(bif Nl then some true else(some (bt.length:Int)).bind λfC=>(some (decide ((fC:Int)<1))).bind λeI=>some eI).bind λUZ=>(bif UZ then some true else(some (bt.length:Int)).bind λjc=>(some (decide ((4:Int)<jc))).bind λgN=>some gN).bind λU0=>(bif U0 then some true else(some (bB.length:Int)).bind λmU=>(some (decide ((128:Int)<mU))).bind λlD=>some lD).bind λU1=>(bif U1 then some true else(some (bF.length:Int)).bind λjU=>(some (bB.length:Int)).bind λrN=>(some (decide ((jU:Int)≠rN))).bind λrB=>some rB).bind λU3=>Wh U3
end
section
open Go.Fw Go.Fw.Z Go.RowKit
theorem uQ{x0:List (List Qr)}{r:Int}(h:jA x0=some r):Pure ah 118 [slc 1 (List.map (eS 4 eQ) x0)] (ay r):=by
 refine bw Tryz.func118 Y (af Y) (λee M vs hvs=>?_);unfold jA at h;refine sr<|ag Y<|dn<|sr<|ag Y<|dn<|qq<|sr<|ag Y<|dn<|bE h λe6 Fv nx=>?_;refine bV (λ(yc:Int)=>AS.cI 19 [(3,ai yc)] [] []) (λyc=>yc=e6) ?_ (λyc Fx=>?_);refine bj ?_;refine bW Fv (λs6=>AS.cI 19 [(0,.sv (slc 1 (List.map (eS 4 eQ) x0))),(3,ai s6.1),(4,ai s6.2)] [] []) (wR []) (λs6 y6 G6 h Fy AE=>?_);obtain⟨pz,PF⟩:=s6
 try dsimp only
 refine qq<|sr<|mv Y<|mv Y<|lE h λx7 h7 h=>ln Y h7<|lE h λx8 h8 h=>ls _ Y Y h8<|dn ?_;cases x8;refine cF<|cc<|aV.x<|aV.x<|bG.x<|aV.n ?_;obtain rfl:=O (F h);exact⟨pz,AE _ Y,wR []⟩;refine cT<|bA<|aV.n<|qq<|bj<|aW<|mv Y<|mv Y<|mv Y<|bE (V h) λfC lz h=>ix Y Y lz<|lr Y Y<|lE h λgX lC h=>ln Y lC<|lE h λgM mW h=>RT.max .none _ Y Y T (LJ (p:=pz) (q:=gX) mW)<|ag Y<|RT.done<|bG.n<|aV.n<|aW<|mv Y<|lE h λef gV h=>ad _ Y Y gV<|ag Y<|RT.done ?_;obtain rfl:=O h;exact aV.n ⟨(gM,ef),Fy _ Y,wR []⟩;subst Fx
 try dsimp only
 refine aV.n<|sr<|mv Y<|ag Y<|dn<|bh ?_;obtain rfl:=O nx;exact R1 Y
theorem tg{x0:List (List Qr)}{x1:Int}{r:Bool}(h:iJ x0 x1=some r):Pure ah 72 [slc 1 (List.map (eS 4 eQ) x0),ay x1] (az r):=by
 refine bw Tryz.func72 Y (af Y) (λee M vs hvs=>?_);unfold iJ at h;refine sr<|ag Y<|dn<|sr<|mv Y<|bE h λx6 h6 h=>cl (uQ h6) ⟨Y,aq⟩<|mv Y<|lE h λx8 h8 h=>RT.leq .none _ Y Y T h8<|ag Y<|dn<|bh ?_;obtain rfl:=O h;exact R1 Y
theorem qS{x0:Lr}{r:Bool}(h:ku x0=some r):Pure ah 24 [.agg (Dw x0)] (az r):=by
 obtain⟨bp,bt,bB,bF⟩:=x0;refine bw Tryz.func24 Y (af Y) (λee M vs hvs=>?_);unfold ku at h;refine sr<|bx Y<|ag Y<|dn<|qq<|qq ?_;refine bK h (λX4=>AS.cI 50 [(1,.ptr 1 0),(37,aj X4)] [(1,⟨25,[ai bp,.sv (slc 1 (List.map (eS 4 eQ) bt)),.sv (slc 1 (List.map (eS 4 eQ) bB)),.sv (slc 4 (List.map eQ bF))]⟩)] []) (λh=>?_) (λIb h=>?_);refine aW<|fa Y Y<|lV Y Y Y<|lE h λx5 h5 h=>ls _ Y Y h5<|mv Y<|bE h λNl Ei h=>?_;cases x5;refine RT.fieldAddr (.some Y Y) Y T Y<|RT.rI (.some Y Y) Y Y Y T<|lE (F Ei) λx9 h9 Ei=>gg _ Y Y h9 ?_;obtain rfl:=O Ei;refine pF Y<|mv Y<|bE h λaea rL h=>?_;cases x9;refine RT.fieldAddr (.some Y Y) Y T Y<|RT.rI (.some Y Y) Y Y Y T<|lE (F rL) λfC lz rL=>gn Y lz<|lE rL λeI jh rL=>RT.lss (.some Y Y) _ Y Y T jh ?_;obtain rfl:=O rL;refine pF Y<|mv Y<|bE h λaeb xY h=>?_;cases eI;refine RT.fieldAddr (.some Y Y) Y T Y<|RT.rI (.some Y Y) Y Y Y T<|lE (F xY) λjc pO xY=>gn Y pO<|lE xY λgN oH xY=>gg _ Y Y oH ?_;obtain rfl:=O xY;refine pF Y<|mv Y<|bE h λaec xZ h=>?_;cases gN;refine RT.fieldAddr (.some Y Y) Y T Y<|RT.rI (.some Y Y) Y Y Y T<|lE (F xZ) λmU tR xZ=>gn Y tR<|lE xZ λlD tW xZ=>gg _ Y Y tW ?_;obtain rfl:=O xZ;refine pF Y<|mv Y<|bE h λaed vu h=>?_;cases lD
 refine RT.fieldAddr (.some Y Y) Y T Y<|RT.rI (.some Y Y) Y Y Y T<|lE (F vu) λjU qw vu=>gn Y qw<|RT.fieldAddr (.some Y Y) Y T Y<|RT.rI (.some Y Y) Y Y Y T<|lE vu λrN AF vu=>gn Y AF<|lE vu λrB wL vu=>gq _ Y Y (G4 (p:=jU) (q:=rN) wL) ?_;obtain rfl:=O vu;exact pF Y<|dn<|⟨rB,h,wR []⟩;obtain rfl:=O (V vu);exact ww<|ww<|ww<|ww<|ww<|ww<|ww<|pT Y<|dn<|⟨true,h,wR []⟩;obtain rfl:=O (V xZ);refine ww<|ww<|ww<|ww<|pT Y<|mv Y<|bE h λaee Kf h=>?_;obtain rfl:=O (V Kf);exact ww<|ww<|ww<|ww<|ww<|ww<|ww<|pT Y<|dn<|⟨true,h,wR []⟩;obtain rfl:=O (V xY);refine ww<|ww<|ww<|ww<|pT Y<|mv Y<|bE h λaef Ur h=>?_;obtain rfl:=O (V Ur);refine ww<|ww<|ww<|ww<|pT Y<|mv Y<|bE h λaeg Us h=>?_;obtain rfl:=O (V Us);exact ww<|ww<|ww<|ww<|ww<|ww<|ww<|pT Y<|dn<|⟨true,h,wR []⟩;obtain rfl:=O (V rL);refine ww<|ww<|ww<|ww<|pT Y<|mv Y<|bE h λaeh Ut h=>?_;obtain rfl:=O (V Ut);refine ww<|ww<|ww<|ww<|pT Y<|mv Y<|bE h λaei Uu h=>?_;obtain rfl:=O (V Uu);refine ww<|ww<|ww<|ww<|pT Y<|mv Y<|bE h λaej Uv h=>?_;obtain rfl:=O (V Uv);exact ww<|ww<|ww<|ww<|ww<|ww<|ww<|pT Y<|dn<|⟨true,h,wR []⟩;obtain rfl:=O (V Ei);refine ww<|ww<|ww<|pT Y<|mv Y<|bE h λaek Uw h=>?_;obtain rfl:=O (V Uw);refine ww<|ww<|ww<|ww<|pT Y<|mv Y<|bE h λael Ux h=>?_
 obtain rfl:=O (V Ux);refine ww<|ww<|ww<|ww<|pT Y<|mv Y<|bE h λaem Uy h=>?_;obtain rfl:=O (V Uy);refine ww<|ww<|ww<|ww<|pT Y<|mv Y<|bE h λaen Uz h=>?_;obtain rfl:=O (V Uz);exact ww<|ww<|ww<|ww<|ww<|ww<|ww<|pT Y<|dn<|⟨true,h,wR []⟩
 try dsimp only
 refine aV.n ?_;cases Ib;refine fs<|qq ?_;refine bK (F h) (λRh=>AS.cI 50 [(2,aj Rh)] [] []) (λh=>?_) (λFC h=>?_);refine aW<|fa Y Y<|lV Y Y Y<|fa Y Y<|lV Y Y Y<|bE h λsj DM h=>cl (tg DM) ⟨Y,Y,aq⟩<|mv Y<|bE h λNk vI h=>?_;cases sj;obtain rfl:=O (F vI);exact ww<|ww<|ww<|ww<|ww<|pF Y<|ag Y<|dn<|⟨false,h,wR []⟩;refine RT.fieldAddr (.some Y Y) Y T Y<|RT.rI (.some Y Y) Y Y Y T<|RT.fieldAddr (.some Y Y) Y T Y<|RT.rI (.some Y Y) Y Y Y T<|bE (V vI) λtL h48 vI=>gc (tg h48) ⟨Y,Y,aq⟩ ?_;obtain rfl:=O vI;exact pT Y<|ag Y<|dn<|⟨tL,h,wR []⟩
 try dsimp only
 refine aV.n<|bh ?_;obtain rfl:=O h;exact R1 Y;refine cT<|sr<|ag Y<|dn<|bh<|aV.r ?_;obtain rfl:=O (V h);exact R1 Y
end
section
open Go.Fw
noncomputable def kT(x0:List Zr):Option (Bool):=(cy (λ(pz:Int)=>(show Option ((Int)⊕((Unit)⊕(Bool)))from(some (x0.length:Int)).bind λx6=>(some (decide ((pz:Int)<x6))).bind λx7=>(bif x7 then(cZ x0 pz).bind λ⟨ik,g9⟩=>(some (g9.length:Int)).bind λeI=>(some (decide ((12:Int)<eI))).bind λgX=>(bif gX then some (.inr (.inr true))else(some (IntKind.i64.wrap (pz+1))).bind λx9=>some (.inl x9))else some (.inr (.inl ()))))) 0).bind λe6=>match e6 with|.inr v6=>some v6|.inl _=>some false
end
section
open Go.Fw Go.Fw.Z Go.RowKit
theorem Cp{x0:List Zr}{r:Bool}(h:kT x0=some r):Pure ah 125 [slc 2 (List.map eZ x0)] (az r):=by
 refine bw Tryz.func125 Y (af Y) (λee M vs hvs=>?_);unfold kT at h;refine sr<|ag Y<|dn<|qq<|sr<|ag Y<|dn<|bE h λe6 Fv nx=>?_;refine bV (λ(DK:Unit)=>AS.cI 17 [] [] []) (λDK=>.inl DK=e6) ?_ (λDK Fx=>?_);refine bj ?_;refine bW Fv (λs6=>AS.cI 17 [(0,.sv (slc 2 (List.map eZ x0))),(3,ai s6)] [] []) (wR []) (λpz y6 G6 h Fy AE=>?_)
 try dsimp only
 refine qq<|sr<|mv Y<|mv Y<|lE h λx6 h6 h=>ln Y h6<|lE h λx7 h7 h=>ls _ Y Y h7<|dn ?_;cases x7;refine cF<|cc<|aV.x<|aV.x<|bG.x<|aV.n ?_;obtain rfl:=O (F h);exact⟨(),AE _ Y,wR []⟩;refine cT<|bA<|aV.n<|qq<|bj<|sr<|mv Y<|mv Y ?_;obtain⟨⟨ik,g9⟩,gu,h⟩:=bS (V h);refine ix Y Y gu<|RT.bO .none Y T Y<|lr Y Y<|lE h λeI jh h=>ln Y jh<|lE h λgX lC h=>gt _ Y Y lC<|dn ?_;cases gX;refine cF<|bA<|bG.n<|aV.n<|aW<|mv Y<|lE (F h) λx9 h9 h=>ad _ Y Y h9<|ag Y<|RT.done ?_;obtain rfl:=O h;exact aV.n ⟨x9,Fy _ Y,wR []⟩;refine cT<|sr<|ag Y<|dn<|bh<|bG.r<|aV.r ?_;obtain rfl:=O (V h);have Mc:=AE _ Y;subst Mc;refine aV.r<|bG.r<|aV.r<|aV.r ?_;obtain rfl:=O nx;exact R1 Y;subst Fx
 try dsimp only
 refine aV.n<|sr<|ag Y<|dn<|bh ?_;obtain rfl:=O nx;exact R1 Y
end
section
open Go.Fw
noncomputable def kU(x0:List Qr):Option (Bool):=(cy (λ(uw:Int)=>(show Option ((Int)⊕((Unit)⊕(Bool)))from(some (x0.length:Int)).bind λx6=>(some (decide ((uw:Int)<x6))).bind λx7=>(bif x7 then cK (λ(Ic:Bool)=>(bif Ic then some (.inr (.inr true))else(some (IntKind.i64.wrap (uw+1))).bind λx9=>some (.inl x9))) λK22=>(cZ x0 uw).bind λ⟨⟨ik,g9⟩,⟨I8,I9⟩⟩=>(cZ x0 uw).bind λ⟨⟨oR,oS⟩,⟨uM,uN⟩⟩=>(kT [⟨ik,g9⟩,⟨uM,uN⟩]).bind λgN=>(bif gN then some true else(cZ x0 uw).bind λ⟨⟨lF,kI⟩,⟨sN,sO⟩⟩=>(some (kI.length:Int)).bind λiG=>(some (decide ((6:Int)<iG))).bind λzP=>some zP).bind λNm=>(bif Nm then some true else(cZ x0 uw).bind λ⟨⟨YA,YB⟩,⟨YC,SD⟩⟩=>(some (SD.length:Int)).bind λsq=>(some (decide ((6:Int)<sq))).bind λlu=>some lu).bind λU4=>K22 U4 else some (.inr (.inl ()))))) 0).bind λKo=>match Ko with|.inr Wq=>some Wq|.inl _=>some false
end
section
open Go.Fw Go.Fw.Z Go.RowKit
theorem Cq{x0:List Qr}{r:Bool}(h:kU x0=some r):Pure ah 82 [slc 4 (List.map eQ x0)] (az r):=by
 refine bw Tryz.func82 Y (af Y) (λee M vs hvs=>?_);unfold kU at h;refine sr<|ag Y<|dn<|qq<|sr<|ag Y<|dn<|bE h λKo H7 lT=>?_;refine bV (λ(Bt:Unit)=>AS.cI 42 [] [] []) (λBt=>.inl Bt=Ko) ?_ (λBt H8=>?_);refine bj ?_;refine bW H7 (λKT=>AS.cI 42 [(0,.sv (slc 4 (List.map eQ x0))),(3,ai KT)] [] []) (wR []) (λuw y16 G16 h H9 Cn=>?_)
 try dsimp only
 refine qq<|sr<|mv Y<|mv Y<|lE h λx6 h6 h=>ln Y h6<|lE h λx7 h7 h=>ls _ Y Y h7<|dn ?_;cases x7;refine cF<|cc<|aV.x<|aV.x<|bG.x<|aV.n ?_;obtain rfl:=O (F h);exact⟨(),Cn _ Y,wR []⟩;refine cT<|bA<|aV.n<|qq<|bj<|qq ?_;refine bK (V h) (λj22=>AS.cI 42 [(0,.sv (slc 4 (List.map eQ x0))),(3,ai uw),(41,aj j22)] [] []) (λh=>?_) (λIc h=>?_);refine bf mixed<|mv Y<|mv Y ?_;obtain⟨⟨⟨ik,g9⟩,⟨I8,I9⟩⟩,gu,h⟩:=bS h;refine ix Y Y gu<|RT.bO .none Y T Y<|RT.ja (cs:=[_,_]) .none Y T Y Y<|mv Y<|mv Y ?_;obtain⟨⟨⟨oR,oS⟩,⟨uM,uN⟩⟩,mW,h⟩:=bS h;refine ix Y Y mW<|RT.bO .none Y T Y<|RT.ja (cs:=[_,_]) .none Y T Y Y<|bl (l:=[⟨ik,g9⟩,⟨uM,uN⟩]) (e:=eZ) (.agg Y (.agg Y (.nil))) Y Y Y Y Y Y<|bE h λgN oH h=>cl (Cp oH) ⟨Y,aq⟩<|mv Y<|bE h λNm qO h=>?_;cases gN;refine gm Y<|gm Y ?_;obtain⟨⟨⟨lF,kI⟩,⟨sN,sO⟩⟩,xP,qO⟩:=bS (F qO);refine RT.TB (.some Y Y) Y Y T xP<|RT.bO (.some Y Y) Y T Y<|RT.bO (.some Y Y) Y T Y<|gr Y Y<|lE qO λiG nm qO=>gn Y nm<|lE qO λzP DL qO=>gg _ Y Y DL ?_;obtain rfl:=O qO;refine pF Y<|mv Y<|bE h λaeq sX h=>?_;cases zP;refine gm Y<|gm Y ?_;obtain⟨⟨⟨YA,YB⟩,⟨YC,SD⟩⟩,AF,sX⟩:=bS (F sX)
 refine RT.TB (.some Y Y) Y Y T AF<|RT.bO (.some Y Y) Y T Y<|RT.bO (.some Y Y) Y T Y<|gr Y Y<|lE sX λsq DT sX=>gn Y DT<|lE sX λlu rC sX=>gg _ Y Y rC ?_;obtain rfl:=O sX;refine pF Y ?_;refine RT.done ⟨by kernel_rfl,?_⟩;exact aV.n<|⟨lu,h,wR []⟩;obtain rfl:=O (V sX);refine ww<|ww<|ww<|ww<|ww<|ww<|ww<|ww<|pT Y ?_;refine RT.done ⟨by kernel_rfl,?_⟩;exact aV.n<|⟨true,h,wR []⟩;obtain rfl:=O (V qO);refine ww<|ww<|ww<|ww<|ww<|ww<|ww<|ww<|pT Y<|mv Y<|bE h λaer vI h=>?_;obtain rfl:=O (V vI);refine ww<|ww<|ww<|ww<|ww<|ww<|ww<|ww<|pT Y ?_;refine RT.done ⟨by kernel_rfl,?_⟩;exact aV.n<|⟨true,h,wR []⟩
 try dsimp only
 refine aV.n ?_;cases Ic;refine cF<|bA<|bG.n<|aV.n<|aW<|mv Y<|lE (F h) λx9 h9 h=>ad _ Y Y h9<|ag Y<|RT.done ?_;obtain rfl:=O h;exact aV.n ⟨x9,H9 _ Y,wR []⟩;refine cT<|sr<|ag Y<|dn<|bh<|bG.r<|aV.r ?_;obtain rfl:=O (V h);have Nj:=Cn _ Y;subst Nj;refine aV.r<|bG.r<|aV.r<|aV.r ?_;obtain rfl:=O lT;exact R1 Y;subst H8
 try dsimp only
 refine aV.n<|sr<|ag Y<|dn<|bh ?_;obtain rfl:=O lT;exact R1 Y
end
section
open Go.Fw
noncomputable def gy(x0:List (List Qr)):Option (Bool):=(cy (λ(Kq:Int)=>(show Option ((Int)⊕((Unit)⊕(Bool)))from(some (x0.length:Int)).bind λx6=>(some (decide ((Kq:Int)<x6))).bind λx7=>(bif x7 then cK (λ(Ie:Bool)=>(bif Ie then some (.inr (.inr true))else(some (IntKind.i64.wrap (Kq+1))).bind λx9=>some (.inl x9))) λKP=>(cZ x0 Kq).bind λdP=>(some (dP.length:Int)).bind λfC=>(some (decide ((20:Int)<fC))).bind λeI=>(bif eI then some true else(cZ x0 Kq).bind λnk=>(kU nk).bind λgN=>some gN).bind λNn=>KP Nn else some (.inr (.inl ()))))) 0).bind λMb=>match Mb with|.inr v10=>some v10|.inl _=>some false
noncomputable def jB(x0:List (List (List Qr))):Option (Bool):=(cy (λ(uw:Int)=>(show Option ((Int)⊕((Unit)⊕(Bool)))from(some (x0.length:Int)).bind λx6=>(some (decide ((uw:Int)<x6))).bind λx7=>(bif x7 then cK (λ(Ig:Bool)=>(bif Ig then some (.inr (.inr true))else(some (IntKind.i64.wrap (uw+1))).bind λx9=>some (.inl x9))) λK22=>(cZ x0 uw).bind λdP=>(some (dP.length:Int)).bind λfC=>(some (decide ((8:Int)<fC))).bind λeI=>(bif eI then some true else(cZ x0 uw).bind λnk=>(jA nk).bind λgN=>(some (decide ((8:Int)<gN))).bind λlB=>some lB).bind λEj=>(bif Ej then some true else(cZ x0 uw).bind λlD=>(gy lD).bind λiG=>some iG).bind λU5=>K22 U5 else some (.inr (.inl ()))))) 0).bind λKo=>match Ko with|.inr Wq=>some Wq|.inl _=>some false
noncomputable def l8:Option (Lr):=(hH [[3,5]]).bind λx3=>(hH [[1,0],[0,2],[3,2]]).bind λx8=>(cS [4,12,18]).bind λef=>some ⟨2,x3,x8,ef⟩
noncomputable def kV(x0:List (List Qr)):Option (Bool):=(cy (λ(pz:Int)=>(show Option ((Int)⊕((Unit)⊕(Bool)))from(some (x0.length:Int)).bind λx6=>(some (decide ((pz:Int)<x6))).bind λx7=>(bif x7 then(cZ x0 pz).bind λdP=>(some (dP.length:Int)).bind λfC=>(some (decide ((0:Int)<fC))).bind λeI=>(bif eI then some (.inr (.inr false))else(some (IntKind.i64.wrap (pz+1))).bind λx9=>some (.inl x9))else some (.inr (.inl ()))))) 0).bind λe6=>match e6 with|.inr v6=>some v6|.inl _=>some true
noncomputable def mP(x0:List Qr):Option (List Qr):=(some (x0.length:Int)).bind λx5=>(some (min (x5:Int) 20)).bind λx6=>(y4 x0 0 x6).bind λx7=>some x7
noncomputable def kW(x0:Lr):Option (Bool):=match x0 with|⟨bp,bt,bB,bF⟩=>cK (λ(SE:Bool)=>some SE) λK59=>(some (bt.length:Int)).bind λx5=>(some (decide ((6:Int)<x5))).bind λx6=>(bif x6 then some true else(some (bB.length:Int)).bind λef=>(some (decide ((140:Int)<ef))).bind λiN=>some iN).bind λNo=>(bif No then some true else(some (bF.length:Int)).bind λgX=>(some (decide ((140:Int)<gX))).bind λgM=>some gM).bind λPG=>(bif PG then some true else(some (bB.length:Int)).bind λlB=>(some (decide ((8:Int)<lB))).bind λjT=>(bif jT then(kV bB).bind λlD=>(some (!lD)).bind λnT=>some nT else some false).bind λPI=>some PI).bind λPJ=>(bif PJ then some true else(some (bB.length:Int)).bind λqH=>(some (decide ((qH:Int)<=8))).bind λrN=>(bif rN then(jB [bB]).bind λlu=>some lu else some false).bind λPK=>some PK).bind λPL=>(bif PL then some true else(jB [bt]).bind λtK=>some tK).bind λPM=>(bif PM then some true else(mP bF).bind λxL=>(gy [xL]).bind λFu=>some Fu).bind λPN=>K59 PN
end
section
open Go.Fw Go.Fw.Z Go.RowKit
theorem gI{x0:List (List Qr)}{r:Bool}(h:gy x0=some r):Pure ah 33 [slc 1 (List.map (eS 4 eQ) x0)] (az r):=by
 refine bw Tryz.func33 Y (af Y) (λee M vs hvs=>?_);unfold gy at h;refine sr<|ag Y<|dn<|qq<|sr<|ag Y<|dn<|bE h λMb DH zb=>?_;refine bV (λ(U6:Unit)=>AS.cI 23 [] [] []) (λU6=>.inl U6=Mb) ?_ (λU6 DI=>?_);refine bj ?_;refine bW DH (λDD=>AS.cI 23 [(0,.sv (slc 1 (List.map (eS 4 eQ) x0))),(3,ai DD)] [] []) (wR []) (λKq ZQ ZR h DJ AD=>?_)
 try dsimp only
 refine qq<|sr<|mv Y<|mv Y<|lE h λx6 h6 h=>ln Y h6<|lE h λx7 h7 h=>ls _ Y Y h7<|dn ?_;cases x7;refine cF<|cc<|aV.x<|aV.x<|bG.x<|aV.n ?_;obtain rfl:=O (F h);exact⟨(),AD _ Y,wR []⟩;refine cT<|bA<|aV.n<|qq<|bj<|qq ?_;refine bK (V h) (λJ4=>AS.cI 23 [(0,.sv (slc 1 (List.map (eS 4 eQ) x0))),(3,ai Kq),(22,aj J4)] [] []) (λh=>?_) (λIe h=>?_);refine aW<|mv Y<|mv Y<|bE h λdP gu h=>ix Y Y gu<|lr Y Y<|lE h λfC lz h=>ln Y lz<|lE h λeI jh h=>gt _ Y Y jh<|mv Y<|bE h λNn eD h=>?_;cases eI;refine gm Y<|gm Y<|bE (F eD) λnk oG eD=>RT.TB (.some Y Y) Y Y T oG<|gr Y Y<|bE eD λgN oH eD=>gc (Cq oH) ⟨Y,aq⟩ ?_;obtain rfl:=O eD;exact pF Y<|dn<|⟨gN,h,wR []⟩;obtain rfl:=O (V eD);exact ww<|ww<|ww<|ww<|ww<|pT Y<|dn<|⟨true,h,wR []⟩
 try dsimp only
 refine aV.n ?_;cases Ie;refine cF<|bA<|bG.n<|aV.n<|aW<|mv Y<|lE (F h) λx9 h9 h=>ad _ Y Y h9<|ag Y<|RT.done ?_;obtain rfl:=O h;exact aV.n ⟨x9,DJ _ Y,wR []⟩;refine cT<|sr<|ag Y<|dn<|bh<|bG.r<|aV.r ?_;obtain rfl:=O (V h);have aes:=AD _ Y;subst aes;refine aV.r<|bG.r<|aV.r<|aV.r ?_;obtain rfl:=O zb;exact R1 Y;subst DI
 try dsimp only
 refine aV.n<|sr<|ag Y<|dn<|bh ?_;obtain rfl:=O zb;exact R1 Y
theorem iK{x0:List (List (List Qr))}{r:Bool}(h:jB x0=some r):Pure ah 98 [slc 1 (List.map (eS 1 (eS 4 eQ)) x0)] (az r):=by
 refine bw Tryz.func98 Y (af Y) (λee M vs hvs=>?_);unfold jB at h;refine sr<|ag Y<|dn<|qq<|sr<|ag Y<|dn<|bE h λKo H7 lT=>?_;refine bV (λ(Bt:Unit)=>AS.cI 31 [] [] []) (λBt=>.inl Bt=Ko) ?_ (λBt H8=>?_);refine bj ?_;refine bW H7 (λKT=>AS.cI 31 [(0,.sv (slc 1 (List.map (eS 1 (eS 4 eQ)) x0))),(3,ai KT)] [] []) (wR []) (λuw y16 G16 h H9 Cn=>?_)
 try dsimp only
 refine qq<|sr<|mv Y<|mv Y<|lE h λx6 h6 h=>ln Y h6<|lE h λx7 h7 h=>ls _ Y Y h7<|dn ?_;cases x7;refine cF<|cc<|aV.x<|aV.x<|bG.x<|aV.n ?_;obtain rfl:=O (F h);exact⟨(),Cn _ Y,wR []⟩;refine cT<|bA<|aV.n<|qq<|bj<|qq ?_;refine bK (V h) (λj22=>AS.cI 31 [(0,.sv (slc 1 (List.map (eS 1 (eS 4 eQ)) x0))),(3,ai uw),(30,aj j22)] [] []) (λh=>?_) (λIg h=>?_);refine aW<|mv Y<|mv Y<|bE h λdP gu h=>ix Y Y gu<|lr Y Y<|lE h λfC lz h=>ln Y lz<|lE h λeI jh h=>gt _ Y Y jh<|mv Y<|bE h λEj qO h=>?_;cases eI;refine gm Y<|gm Y<|bE (F qO) λnk oG qO=>RT.TB (.some Y Y) Y Y T oG<|gr Y Y<|bE qO λgN oH qO=>gc (uQ oH) ⟨Y,aq⟩<|lE qO λlB qM qO=>gg _ Y Y qM ?_;obtain rfl:=O qO;refine pF Y<|mv Y<|bE h λaet sX h=>?_;cases lB;refine gm Y<|gm Y<|bE (F sX) λlD tW sX=>RT.TB (.some Y Y) Y Y T tW<|gr Y Y<|bE sX λiG nm sX=>gc (gI nm) ⟨Y,aq⟩ ?_;obtain rfl:=O sX;exact pF Y<|dn<|⟨iG,h,wR []⟩;obtain rfl:=O (V sX);exact ww<|ww<|ww<|ww<|ww<|pT Y<|dn<|⟨true,h,wR []⟩;obtain rfl:=O (V qO);refine ww<|ww<|ww<|ww<|ww<|ww<|pT Y<|mv Y<|bE h λaeu vI h=>?_;obtain rfl:=O (V vI);exact ww<|ww<|ww<|ww<|ww<|pT Y<|dn<|⟨true,h,wR []⟩
 try dsimp only
 refine aV.n ?_;cases Ig;refine cF<|bA<|bG.n<|aV.n<|aW<|mv Y<|lE (F h) λx9 h9 h=>ad _ Y Y h9<|ag Y<|RT.done ?_;obtain rfl:=O h;exact aV.n ⟨x9,H9 _ Y,wR []⟩;refine cT<|sr<|ag Y<|dn<|bh<|bG.r<|aV.r ?_;obtain rfl:=O (V h);have Nj:=Cn _ Y;subst Nj;refine aV.r<|bG.r<|aV.r<|aV.r ?_;obtain rfl:=O lT;exact R1 Y;subst H8
 try dsimp only
 refine aV.n<|sr<|ag Y<|dn<|bh ?_;obtain rfl:=O lT;exact R1 Y
theorem Bu{r:Lr}(h:l8=some r):Pure ah 53 [] (.agg (Dw r)):=by
 refine bw Tryz.func53 Y (af Y) (λee M vs hvs=>?_);unfold l8 at h;refine sr<|al (cs:=[ay 0,slc 1 (List.map (eS 4 eQ) []),slc 1 (List.map (eS 4 eQ) []),slc 4 (List.map eQ [])]) (by exact⟨au,aB,aB,aB,aq⟩) Y<|dn<|sr<|bl (l:=[3,5]) (e:=cM) (.one Y (.one Y (.nil))) Y Y Y Y Y Y<|bl (l:=[[3,5]]) (e:=(eS 1 cM)) (.one Y (.nil)) Y Y Y Y Y Y<|bE h λx3 h3 h=>cl (rF h3) ⟨Y,aq⟩<|bl (l:=[1,0]) (e:=cM) (.one Y (.one Y (.nil))) Y Y Y Y Y Y ?_;refine bl (l:=[0,2]) (e:=cM) (.one Y (.one Y (.nil))) Y Y Y Y Y Y<|bl (l:=[3,2]) (e:=cM) (.one Y (.one Y (.nil))) Y Y Y Y Y Y<|bl (l:=[[1,0],[0,2],[3,2]]) (e:=(eS 1 cM)) (.one Y (.one Y (.one Y (.nil)))) Y Y Y Y Y Y<|bE h λx8 h8 h=>cl (rF h8) ⟨Y,aq⟩<|bl (l:=[4,12,18]) (e:=cM) (.one Y (.one Y (.one Y (.nil)))) Y Y Y Y Y Y<|bE h λef gV h=>cl (dM gV) ⟨Y,aq⟩ ?_;refine bI (cs:=[_,_,_,_]) (cs':=[ay 2,slc 1 (List.map (eS 4 eQ) x3),slc 1 (List.map (eS 4 eQ) x8),slc 4 (List.map eQ ef)]) (.one Y (.one Y (.one Y (.one Y (.nil))))) ⟨au,au,au,au,aq⟩<|so Y Y Y<|dn<|bh ?_;obtain rfl:=O h;exact RZ (.agg Y Y (.k4 Y Y Y Y) Y (.nil))
theorem Cr{x0:List (List Qr)}{r:Bool}(h:kV x0=some r):Pure ah 97 [slc 1 (List.map (eS 4 eQ) x0)] (az r):=by
 refine bw Tryz.func97 Y (af Y) (λee M vs hvs=>?_);unfold kV at h;refine sr<|ag Y<|dn<|qq<|sr<|ag Y<|dn<|bE h λe6 Fv nx=>?_;refine bV (λ(DK:Unit)=>AS.cI 16 [] [] []) (λDK=>.inl DK=e6) ?_ (λDK Fx=>?_);refine bj ?_;refine bW Fv (λs6=>AS.cI 16 [(0,.sv (slc 1 (List.map (eS 4 eQ) x0))),(3,ai s6)] [] []) (wR []) (λpz y6 G6 h Fy AE=>?_)
 try dsimp only
 refine qq<|sr<|mv Y<|mv Y<|lE h λx6 h6 h=>ln Y h6<|lE h λx7 h7 h=>ls _ Y Y h7<|dn ?_;cases x7;refine cF<|cc<|aV.x<|aV.x<|bG.x<|aV.n ?_;obtain rfl:=O (F h);exact⟨(),AE _ Y,wR []⟩;refine cT<|bA<|aV.n<|qq<|bj<|sr<|mv Y<|mv Y<|bE (V h) λdP gu h=>ix Y Y gu<|lr Y Y<|lE h λfC lz h=>ln Y lz<|lE h λeI jh h=>gt _ Y Y jh<|dn ?_;cases eI;refine cF<|bA<|bG.n<|aV.n<|aW<|mv Y<|lE (F h) λx9 h9 h=>ad _ Y Y h9<|ag Y<|RT.done ?_;obtain rfl:=O h;exact aV.n ⟨x9,Fy _ Y,wR []⟩;refine cT<|sr<|ag Y<|dn<|bh<|bG.r<|aV.r ?_;obtain rfl:=O (V h);have Mc:=AE _ Y;subst Mc;refine aV.r<|bG.r<|aV.r<|aV.r ?_;obtain rfl:=O nx;exact R1 Y;subst Fx
 try dsimp only
 refine aV.n<|sr<|ag Y<|dn<|bh ?_;obtain rfl:=O nx;exact R1 Y
theorem nF{x0:List Qr}{r:List Qr}(h:mP x0=some r):Pure ah 99 [slc 4 (List.map eQ x0)] (slc 4 (List.map eQ r)):=by
 refine bw Tryz.func99 Y (af Y) (λee M vs hvs=>?_);unfold mP at h;refine sr<|aI Y (aB (n:=4) (e:=eQ))<|dn<|sr<|mv Y<|mv Y<|lE h λx5 h5 h=>ln Y h5<|lE h λx6 h6 h=>RT.min .none _ Y Y T (O0 (p:=x5) (q:=20) h6)<|bE h λx7 h7 h=>RT.As .none 0 x6 Y Y ⟨_,Y⟩ T h7<|ag Y<|dn<|bh ?_;obtain rfl:=O h;exact R1 Y
set_option maxHeartbeats 4000000 in
theorem Cs{x0:Lr}{r:Bool}(h:kW x0=some r):Pure ah 52 [.agg (Dw x0)] (az r):=by
 obtain⟨bp,bt,bB,bF⟩:=x0;refine bw Tryz.func52 Y (af Y) (λee M vs hvs=>?_);unfold kW at h;refine sr<|bx Y<|ag Y<|dn<|qq ?_;refine bK h (λj59=>AS.cI 56 [(2,aj j59)] [] []) (λh=>?_) (λSE h=>?_);refine aW<|fa Y Y<|lV Y Y Y<|lE h λx5 h5 h=>ln Y h5<|lE h λx6 h6 h=>gt _ Y Y h6<|mv Y<|bE h λNo Gu h=>?_;cases x6;refine RT.fieldAddr (.some Y Y) Y T Y<|RT.rI (.some Y Y) Y Y Y T<|lE (F Gu) λef gV Gu=>gn Y gV<|lE Gu λiN pg Gu=>gg _ Y Y pg ?_;obtain rfl:=O Gu;refine pF Y<|mv Y<|bE h λaev Gv h=>?_;cases iN;refine RT.fieldAddr (.some Y Y) Y T Y<|RT.rI (.some Y Y) Y Y Y T<|lE (F Gv) λgX lC Gv=>gn Y lC<|lE Gv λgM mW Gv=>gg _ Y Y mW ?_;obtain rfl:=O Gv;refine pF Y<|mv Y<|bE h λaew Bv h=>?_;cases gM;refine RT.fieldAddr (.some Y Y) Y T Y<|RT.rI (.some Y Y) Y Y Y T<|lE (F Bv) λlB qM Bv=>gn Y qM<|lE Bv λjT sD Bv=>gg _ Y Y sD<|gm Y<|bE Bv λaex Gw Bv=>?_;cases jT;obtain rfl:=O (F Gw);refine ww<|ww<|ww<|ww<|gF Y ?_;obtain rfl:=O Bv;refine pF Y<|mv Y<|bE h λaey zw h=>RT.fieldAddr (.some Y Y) Y T Y<|RT.rI (.some Y Y) Y Y Y T<|lE (F zw) λqH wF zw=>gn Y wF<|lE zw λrN AF zw=>RT.leq (.some Y Y) _ Y Y T AF<|gm Y<|bE zw λaez Ct zw=>?_;cases rN;obtain rfl:=O (F Ct);refine ww<|ww<|ww<|ww<|gF Y ?_;obtain rfl:=O zw
 refine pF Y<|mv Y<|bE h λaeA Ek h=>RT.fieldAddr (.some Y Y) Y T Y<|RT.rI (.some Y Y) Y Y Y T<|RT.eK (l:=[bt]) (e:=(eS 1 (eS 4 eQ))) (.some Y Y) (.one Y (.nil)) T Y Y Y Y Y Y<|bE (F Ek) λtK ze Ek=>gc (iK ze) ⟨Y,aq⟩ ?_;obtain rfl:=O Ek;refine pF Y<|mv Y<|bE h λaeB w6 h=>?_;cases tK;refine RT.fieldAddr (.some Y Y) Y T Y<|RT.rI (.some Y Y) Y Y Y T<|bE (F w6) λxL DN w6=>gc (nF DN) ⟨Y,aq⟩<|RT.eK (l:=[xL]) (e:=(eS 4 eQ)) (.some Y Y) (.one Y (.nil)) T Y Y Y Y Y Y<|bE w6 λFu IW w6=>gc (gI IW) ⟨Y,aq⟩ ?_;obtain rfl:=O w6;exact pF Y<|ag Y<|dn<|⟨Fu,h,wR []⟩;obtain rfl:=O (V w6);exact ww<|ww<|ww<|ww<|ww<|pT Y<|ag Y<|dn<|⟨true,h,wR []⟩;refine RT.fieldAddr (.some Y Y) Y T Y<|RT.rI (.some Y Y) Y Y Y T<|RT.eK (l:=[bB]) (e:=(eS 1 (eS 4 eQ))) (.some Y Y) (.one Y (.nil)) T Y Y Y Y Y Y<|bE (V Ct) λlu rC Ct=>gc (iK rC) ⟨Y,aq⟩ ?_;obtain rfl:=O Ct;refine gT Y ?_;obtain rfl:=O zw;refine pF Y<|mv Y<|bE h λaeC Gx h=>?_;cases lu;refine RT.fieldAddr (.some Y Y) Y T Y<|RT.rI (.some Y Y) Y Y Y T<|RT.eK (l:=[bt]) (e:=(eS 1 (eS 4 eQ))) (.some Y Y) (.one Y (.nil)) T Y Y Y Y Y Y<|bE (F Gx) λtK ze Gx=>gc (iK ze) ⟨Y,aq⟩ ?_;obtain rfl:=O Gx;refine pF Y<|mv Y<|bE h λaeD Gy h=>?_;cases tK
 refine RT.fieldAddr (.some Y Y) Y T Y<|RT.rI (.some Y Y) Y Y Y T<|bE (F Gy) λxL DN Gy=>gc (nF DN) ⟨Y,aq⟩<|RT.eK (l:=[xL]) (e:=(eS 4 eQ)) (.some Y Y) (.one Y (.nil)) T Y Y Y Y Y Y<|bE Gy λFu IW Gy=>gc (gI IW) ⟨Y,aq⟩ ?_;obtain rfl:=O Gy;exact pF Y<|ag Y<|dn<|⟨Fu,h,wR []⟩;obtain rfl:=O (V Gy);exact ww<|ww<|ww<|ww<|ww<|pT Y<|ag Y<|dn<|⟨true,h,wR []⟩;obtain rfl:=O (V Gx);refine ww<|ww<|ww<|ww<|pT Y<|mv Y<|bE h λaeE U7 h=>?_;obtain rfl:=O (V U7);exact ww<|ww<|ww<|ww<|ww<|pT Y<|ag Y<|dn<|⟨true,h,wR []⟩;refine RT.fieldAddr (.some Y Y) Y T Y<|RT.rI (.some Y Y) Y Y Y T<|bE (V Gw) λlD tW Gw=>gc (Cr tW) ⟨Y,aq⟩<|lE Gw λnT wH Gw=>KO Y _ wH ?_;obtain rfl:=O Gw;refine gT Y ?_;obtain rfl:=O Bv;refine pF Y<|mv Y<|bE h λaeF Bw h=>?_;cases nT;refine RT.fieldAddr (.some Y Y) Y T Y<|RT.rI (.some Y Y) Y Y Y T<|lE (F Bw) λqH wF Bw=>gn Y wF<|lE Bw λrN AF Bw=>RT.leq (.some Y Y) _ Y Y T AF<|gm Y<|bE Bw λaeG Kr Bw=>?_;cases rN;obtain rfl:=O (F Kr);refine ww<|ww<|ww<|ww<|gF Y ?_;obtain rfl:=O Bw;refine pF Y<|mv Y<|bE h λaeH Cu h=>RT.fieldAddr (.some Y Y) Y T Y<|RT.rI (.some Y Y) Y Y Y T<|RT.eK (l:=[bt]) (e:=(eS 1 (eS 4 eQ))) (.some Y Y) (.one Y (.nil)) T Y Y Y Y Y Y<|bE (F Cu) λtK ze Cu=>gc (iK ze) ⟨Y,aq⟩ ?_
 obtain rfl:=O Cu;refine pF Y<|mv Y<|bE h λaeI Bx h=>?_;cases tK;refine RT.fieldAddr (.some Y Y) Y T Y<|RT.rI (.some Y Y) Y Y Y T<|bE (F Bx) λxL DN Bx=>gc (nF DN) ⟨Y,aq⟩<|RT.eK (l:=[xL]) (e:=(eS 4 eQ)) (.some Y Y) (.one Y (.nil)) T Y Y Y Y Y Y<|bE Bx λFu IW Bx=>gc (gI IW) ⟨Y,aq⟩ ?_;obtain rfl:=O Bx;exact pF Y<|ag Y<|dn<|⟨Fu,h,wR []⟩;obtain rfl:=O (V Bx);exact ww<|ww<|ww<|ww<|ww<|pT Y<|ag Y<|dn<|⟨true,h,wR []⟩;refine RT.fieldAddr (.some Y Y) Y T Y<|RT.rI (.some Y Y) Y Y Y T<|RT.eK (l:=[bB]) (e:=(eS 1 (eS 4 eQ))) (.some Y Y) (.one Y (.nil)) T Y Y Y Y Y Y<|bE (V Kr) λlu rC Kr=>gc (iK rC) ⟨Y,aq⟩ ?_;obtain rfl:=O Kr;refine gT Y ?_;obtain rfl:=O Bw;refine pF Y<|mv Y<|bE h λaeJ Ks h=>?_;cases lu;refine RT.fieldAddr (.some Y Y) Y T Y<|RT.rI (.some Y Y) Y Y Y T<|RT.eK (l:=[bt]) (e:=(eS 1 (eS 4 eQ))) (.some Y Y) (.one Y (.nil)) T Y Y Y Y Y Y<|bE (F Ks) λtK ze Ks=>gc (iK ze) ⟨Y,aq⟩ ?_;obtain rfl:=O Ks;refine pF Y<|mv Y<|bE h λaeK vJ h=>?_;cases tK;refine RT.fieldAddr (.some Y Y) Y T Y<|RT.rI (.some Y Y) Y Y Y T<|bE (F vJ) λxL DN vJ=>gc (nF DN) ⟨Y,aq⟩<|RT.eK (l:=[xL]) (e:=(eS 4 eQ)) (.some Y Y) (.one Y (.nil)) T Y Y Y Y Y Y<|bE vJ λFu IW vJ=>gc (gI IW) ⟨Y,aq⟩ ?_;obtain rfl:=O vJ
 exact pF Y<|ag Y<|dn<|⟨Fu,h,wR []⟩;obtain rfl:=O (V vJ);exact ww<|ww<|ww<|ww<|ww<|pT Y<|ag Y<|dn<|⟨true,h,wR []⟩;obtain rfl:=O (V Ks);refine ww<|ww<|ww<|ww<|pT Y<|mv Y<|bE h λaeL Cv h=>?_;obtain rfl:=O (V Cv);exact ww<|ww<|ww<|ww<|ww<|pT Y<|ag Y<|dn<|⟨true,h,wR []⟩;obtain rfl:=O (V Bw);refine ww<|ww<|ww<|ww<|ww<|wu<|wu<|wu<|wu<|ww<|pT Y<|mv Y<|bE h λaeM ux h=>?_;obtain rfl:=O (V ux);refine ww<|ww<|ww<|ww<|pT Y<|mv Y<|bE h λaeN Gz h=>?_;obtain rfl:=O (V Gz);exact ww<|ww<|ww<|ww<|ww<|pT Y<|ag Y<|dn<|⟨true,h,wR []⟩;obtain rfl:=O (V Bv);refine ww<|ww<|ww<|ww<|ww<|wu<|wu<|wu<|wu<|ww<|pT Y<|mv Y<|bE h λaeO aeP h=>?_;obtain rfl:=O (V aeP);refine ww<|ww<|ww<|ww<|ww<|wu<|wu<|wu<|wu<|ww<|pT Y<|mv Y<|bE h λaeQ aeR h=>?_;obtain rfl:=O (V aeR);refine ww<|ww<|ww<|ww<|pT Y<|mv Y<|bE h λZZ YD h=>?_;obtain rfl:=O (V YD);exact ww<|ww<|ww<|ww<|ww<|pT Y<|ag Y<|dn<|⟨true,h,wR []⟩;obtain rfl:=O (V Gv);refine ww<|ww<|ww<|ww<|pT Y<|mv Y<|bE h λZ0 YE h=>?_;obtain rfl:=O (V YE);refine ww<|ww<|ww<|ww<|ww<|wu<|wu<|wu<|wu<|ww<|pT Y<|mv Y<|bE h λZ1 YF h=>?_;obtain rfl:=O (V YF);refine ww<|ww<|ww<|ww<|ww<|wu<|wu<|wu<|wu<|ww<|pT Y<|mv Y<|bE h λZ2 YG h=>?_;obtain rfl:=O (V YG)
 refine ww<|ww<|ww<|ww<|pT Y<|mv Y<|bE h λZ3 YH h=>?_;obtain rfl:=O (V YH);exact ww<|ww<|ww<|ww<|ww<|pT Y<|ag Y<|dn<|⟨true,h,wR []⟩;obtain rfl:=O (V Gu);refine ww<|ww<|ww<|ww<|pT Y<|mv Y<|bE h λZ4 YI h=>?_;obtain rfl:=O (V YI);refine ww<|ww<|ww<|ww<|pT Y<|mv Y<|bE h λZ5 YJ h=>?_;obtain rfl:=O (V YJ);refine ww<|ww<|ww<|ww<|ww<|wu<|wu<|wu<|wu<|ww<|pT Y<|mv Y<|bE h λZ6 YK h=>?_;obtain rfl:=O (V YK);refine ww<|ww<|ww<|ww<|ww<|wu<|wu<|wu<|wu<|ww<|pT Y<|mv Y<|bE h λZ7 YL h=>?_;obtain rfl:=O (V YL);refine ww<|ww<|ww<|ww<|pT Y<|mv Y<|bE h λZ8 YM h=>?_;obtain rfl:=O (V YM);exact ww<|ww<|ww<|ww<|ww<|pT Y<|ag Y<|dn<|⟨true,h,wR []⟩
 try dsimp only
 refine aV.n<|bh ?_;obtain rfl:=O h;exact R1 Y
end
section
open Go.Fw
noncomputable def kX(x0:List Int)(x1:List Int):Option (Bool):=(some (x0.length:Int)).bind λx7=>(some (x1.length:Int)).bind λx9=>(some (decide ((x7:Int)≠x9))).bind λef=>(bif ef then some false else(cy (λ(rJ:Int)=>(show Option ((Int)⊕((Unit)⊕(Bool)))from(some (x0.length:Int)).bind λiW=>(some (decide ((rJ:Int)<iW))).bind λfC=>(bif fC then(cZ x0 rJ).bind λnk=>(cZ x1 rJ).bind λjT=>(some (decide ((nk:Int)≠jT))).bind λyH=>(bif yH then some (.inr (.inr false))else(some (IntKind.i64.wrap (rJ+1))).bind λgX=>some (.inl gX))else some (.inr (.inl ()))))) 0).bind λe6=>match e6 with|.inr v6=>some v6|.inl _=>some true)
noncomputable def ei:Option (Bool):=(l8).bind λ⟨YN,YO,YP,YQ⟩=>(gG ⟨YN,YO,YP,YQ⟩).bind λ⟨uy,uz,Kt,Ku,Kv⟩=>cK (λ(Np:Bool)=>(bif Np then some false else(bD uy uz Kt Ku Kv 1 1).bind λ⟨lu,Wr,OE,Ws⟩=>cK (λ(Ih:Bool)=>(bif Ih then some false else(bD uy uz Wr OE Ws 2 0).bind λ⟨KU,Wt,Wu,Wv⟩=>cK (λ(SF:Bool)=>some SF) λZP=>(some (decide ((KU:Int)=0))).bind λG5=>(bif G5 then(gb (⟨uy,uz,Wt,Wu,Wv⟩:Tb)).bind λHA=>(cS [2,6,2]).bind λYp=>(dy HA Yp).bind λJ2=>some J2 else some false).bind λNq=>(bif Nq then(fU (⟨uy,uz,Wt,Wu,Wv⟩:Tb)).bind λWw=>(cS [2,6]).bind λx78=>(dy Ww x78).bind λPk=>some Pk else some false).bind λU8=>(bif U8 then(ir (⟨uy,uz,Wt,Wu,Wv⟩:Tb)).bind λYR=>(cS [36,(-2),(-6)]).bind λXp=>(dy YR Xp).bind λOB=>some OB else some false).bind λU9=>(bif U9 then(fM (⟨uy,uz,Wt,Wu,Wv⟩:Tb)).bind λWd=>some Wd else some false).bind λVc=>(bif Vc then(eY (⟨uy,uz,Wt,Wu,Wv⟩:Tb)).bind λx94=>some x94 else some false).bind λVd=>ZP Vd)) λZT=>(some (decide ((lu:Int)≠0))).bind λsj=>(bif sj then some true else(gb (⟨uy,uz,Wr,OE,Ws⟩:Tb)).bind λDB=>(cS [4,6,6]).bind λtK=>(dy DB tK).bind λtL=>(some (!tL)).bind λWc=>some Wc).bind λNr=>(bif Nr then some true else(ir (⟨uy,uz,Wr,OE,Ws⟩:Tb)).bind λSx=>(cS [30,0,(-6)]).bind λy7=>(dy Sx y7).bind λEH=>(some (!EH)).bind λPg=>some Pg).bind λVe=>(bif Ve then some true else(fM (⟨uy,uz,Wr,OE,Ws⟩:Tb)).bind λHx=>some Hx).bind λVf=>ZT Vf)) λSd=>(bif false then none else some false).bind λNs=>(bif Ns then some true else(jq (⟨uy,uz,Kt,Ku,Kv⟩:Tb)).bind λfS=>(kX fS [2,3,4]).bind λjc=>(some (!jc)).bind λgN=>some gN).bind λVg=>(bif Vg then some true else(gb (⟨uy,uz,Kt,Ku,Kv⟩:Tb)).bind λyH=>(cS [4,12,18]).bind λlD=>(dy yH lD).bind λnT=>(some (!nT)).bind λiG=>some iG).bind λVh=>(bif Vh then some true else(dK (⟨uy,uz,Kt,Ku,Kv⟩:Tb) 0).bind λtO=>(cS [(-3),1,0]).bind λrN=>(dy tO rN).bind λrB=>(some (!rB)).bind λxo=>some xo).bind λVi=>Sd Vi
end
end Go.Proofs.YtningmnklfpfjaaGreat
