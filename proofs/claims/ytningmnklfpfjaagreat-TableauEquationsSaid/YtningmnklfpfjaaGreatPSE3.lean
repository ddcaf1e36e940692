/- A part of the proof: the framework, the plain functions, the followed functions, the plain laws. -/
import Derived.Test.YtningmnklfpfjaaGreatPSE2
set_option linter.unusedVariables false
set_option linter.unusedSimpArgs false
set_option linter.unusedSectionVars false
namespace Go.Proofs.YtningmnklfpfjaaGreat
section
open Go.Fw Go.Fw.Z Go.RowKit
theorem w9{x0:Int}(N:Nat){r:Qr}(h:cG x0=some r):cK ah 41 N [ay x0] (.agg ((fQ N) r)):=by
 refine bA Tryz.func41 Y (af Y) (λec M vs hN hvs=>?_);unfold cG at h;refine sr<|al (cs:=[az false,nw N ax,az false,nw N ax]) (by exact⟨au,bk,au,bk,aq⟩) Y<|dn<|sr<|mv Y ?_;obtain⟨⟨T2,T3⟩,h4,h⟩:=bS h;refine RT.bM .none (dV N h4) hN Y ⟨Y,aq⟩ T<|bI (cs:=[_,_,_,_]) (cs':=[az T2,nw N (slc 1 (List.map aY T3)),az false,nw N ax]) (.agg Y (.nil)) ⟨au,au,au,bk,aq⟩<|so Y Y Y<|dn<|bf ?_;obtain rfl:=O h;exact RZ (.agg Y Y (.k4 Y Y Y Y) Y (.nil))
theorem gw{x0:Int}{r:Qr}(h:cG x0=some r):Pure ah 41 [ay x0] (.agg (eQ r)):=dD (λN=>w9 N h) (λN=>(SV.dB (qI _ _)))
theorem iX{x0:Qr}(N:Nat){r:Qr}(h:cH x0=some r):cK ah 93 N [.agg (eQ x0)] (.agg ((fQ N) r)):=by
 obtain⟨⟨bp,bt⟩,⟨bC,bF⟩⟩:=x0;refine bA Tryz.func93 Y (af Y) (λec M vs hN hvs=>?_);unfold cH at h;refine sr<|bx Y<|al (cs:=[az false,nw N ax,az false,nw N ax]) (by exact⟨au,bk,au,bk,aq⟩) Y<|dn<|qq<|sr<|ld Y Y (.k4 Y Y Y Y) ?_;obtain⟨⟨x8a,x8b,x8c⟩,h8,h⟩:=bS h;refine cl (e9 h8) ⟨Y,aq⟩<|mv Y<|ex Y Y<|ex Y Y<|ex Y Y<|ag Y<|ag Y<|ag Y<|dn<|sr<|mv Y<|dn ?_;cases x8c;refine fs<|sr<|ld Y Y (.k4 Y Y Y Y) ?_;obtain⟨⟨⟨Mr,Ms⟩,⟨Mt,Mu⟩⟩,kU,h⟩:=bS (F h);refine cl (dO kU) ⟨Y,aq⟩<|ex Y Y<|ex Y Y ?_;obtain⟨⟨⟨Q3,Q4⟩,⟨Q5,Q6⟩⟩,pK,h⟩:=bS h;refine RT.bM .none (jn N pK) hN Y ⟨Y,Y,aq⟩ T<|so Y Y Y<|dn<|bf ?_;obtain rfl:=O h;exact RZ (.agg Y Y (.k4 Y Y Y Y) Y (.nil));refine cT<|sr<|mv Y<|mv Y ?_;obtain⟨⟨⟨kW,kX⟩,⟨FK,FL⟩⟩,iZ,h⟩:=bS (V h);refine RT.bM .none (jO N iZ) hN Y ⟨Y,Y,aq⟩ T<|so Y Y Y<|dn<|bf<|aV.r ?_;obtain rfl:=O h;exact RZ (.agg Y Y (.k4 Y Y Y Y) Y (.nil))
theorem k7{x0:Qr}{r:Qr}(h:cH x0=some r):Pure ah 93 [.agg (eQ x0)] (.agg (eQ r)):=dD (λN=>iX N h) (λN=>(SV.dB (qI _ _)))
theorem gx{x0:Qr}{r:Int}(h:eC x0=some r):Pure ah 59 [.agg (eQ x0)] (ay r):=by
 obtain⟨⟨bp,bt⟩,⟨bC,bF⟩⟩:=x0;refine bz Tryz.func59 Y (af Y) (λec M vs hvs=>?_);unfold eC at h;refine sr<|bx Y<|ag Y<|dn<|qq<|sr<|fa Y Y<|ld Y Y (.k2 Y Y)<|bE h λx5 h5 h=>cl (eX h5) ⟨Y,aq⟩<|lE h λx6 h6 h=>ls _ Y Y h6<|dn ?_;cases x6;refine fs<|sr<|fa Y Y<|ld Y Y (.k2 Y Y)<|bE (F h) λgh jJ h=>cl (eX jJ) ⟨Y,aq⟩<|ag Y<|dn<|bf ?_;obtain rfl:=O h;exact R1 Y;refine cT<|sr<|fa Y Y<|ld Y Y (.k2 Y Y)<|bE (V h) λx9 h9 h=>cl (eX h9) ⟨Y,aq⟩<|lE h λdZ gM h=>RT.neg .none _ Y T gM<|ag Y<|dn<|bf<|aV.r ?_;obtain rfl:=O h;exact R1 Y
theorem ze{x0:Qr}{x1:Qr}(N:Nat){r:Qr}(h:ko x0 x1=some r):cK ah 132 N [.agg (eQ x0),.agg (eQ x1)] (.agg ((fQ N) r)):=by
 obtain⟨⟨bp,bt⟩,⟨bC,bF⟩⟩:=x0;obtain⟨⟨cE,cD⟩,⟨gE,gG⟩⟩:=x1;refine bA Tryz.func132 Y (af Y) (λec M vs hN hvs=>?_);unfold ko at h;refine sr<|bx Y<|bx Y<|al (cs:=[az false,nw N ax,az false,nw N ax]) (by exact⟨au,bk,au,bk,aq⟩) Y<|dn<|sr<|ld Y Y (.k4 Y Y Y Y) ?_;obtain⟨⟨Bc,yq,Bd⟩,jJ,h⟩:=bS h;refine cl (e9 jJ) ⟨Y,aq⟩<|mv Y<|ex Y Y<|ex Y Y<|ex Y Y<|ag Y<|ag Y<|ag Y<|dn<|sr<|ld Y Y (.k4 Y Y Y Y) ?_;obtain⟨⟨Be,yt,Bf⟩,oa,h⟩:=bS h;refine cl (e9 oa) ⟨Y,aq⟩<|mv Y<|ex Y Y<|ex Y Y<|ex Y Y<|ag Y<|ag Y<|ag Y<|dn<|qq<|qq ?_;refine bK h (λj3=>AS.cM 41 [(2,.ptr 2 0),(3,.ptr 3 0),(4,.ptr 4 0),(5,ai Bc),(6,ai yq),(8,ai Be),(9,ai yt),(26,aj j3)] [(4,⟨43,[aj false,.sv (nw N ax),aj false,.sv (nw N ax)]⟩),(3,⟨43,[aj cE,.sv (slc 1 (List.map aY cD)),aj gE,.sv (slc 1 (List.map aY gG))]⟩),(2,⟨43,[aj bp,.sv (slc 1 (List.map aY bt)),aj bC,.sv (slc 1 (List.map aY bF))]⟩)] []) (λh=>?_) (λsH h=>?_);refine aW<|mv Y<|mv Y<|bE h λzb rK h=>?_;cases Bd;obtain rfl:=O (F rK);exact ww<|pF Y<|dn<|⟨false,h,wR []⟩;refine gm Y ?_;obtain rfl:=O (V rK);exact pT Y<|dn<|⟨Bf,h,wR []⟩
 try dsimp only
 refine aV.n ?_;cases sH;refine fs<|sr<|ld Y Y (.k4 Y Y Y Y)<|ld Y Y (.k4 Y Y Y Y) ?_;obtain⟨⟨⟨y9,za⟩,⟨FR,FU⟩⟩,rS,h⟩:=bS (F h);refine RT.bM .none (zE N rS) hN Y ⟨Y,Y,Y,aq⟩ T<|so Y Y Y<|dn<|bf ?_;obtain rfl:=O h;exact RZ (.agg Y Y (.k4 Y Y Y Y) Y (.nil));refine cT<|sr<|mv Y<|mv Y<|lE (V h) λiK nI h=>RT.mul .none _ Y Y T nI<|mv Y<|mv Y<|lE h λjX pS h=>RT.mul .none _ Y Y T pS<|lE h λtZ Ab h=>ad _ Y Y Ab<|mv Y<|mv Y<|lE h λpR w6 h=>RT.mul .none _ Y Y T w6 ?_;obtain⟨⟨⟨FM,FN⟩,⟨FO,FP⟩⟩,D3,h⟩:=bS h;refine RT.bM .none (jO N D3) hN Y ⟨Y,Y,aq⟩ T<|so Y Y Y<|dn<|bf<|aV.r ?_;obtain rfl:=O h;exact RZ (.agg Y Y (.k4 Y Y Y Y) Y (.nil))
theorem FV{x0:Qr}{x1:Qr}{r:Qr}(h:ko x0 x1=some r):Pure ah 132 [.agg (eQ x0),.agg (eQ x1)] (.agg (eQ r)):=dD (λN=>ze N h) (λN=>(SV.dB (qI _ _)))
theorem zg{x0:Qr}{x1:Qr}(N:Nat){r:Qr}(h:kp x0 x1=some r):cK ah 94 N [.agg (eQ x0),.agg (eQ x1)] (.agg ((fQ N) r)):=by
 obtain⟨⟨bp,bt⟩,⟨bC,bF⟩⟩:=x0;obtain⟨⟨cE,cD⟩,⟨gE,gG⟩⟩:=x1;refine bA Tryz.func94 Y (af Y) (λec M vs hN hvs=>?_);unfold kp at h;refine sr<|bx Y<|bx Y<|al (cs:=[az false,nw N ax,az false,nw N ax]) (by exact⟨au,bk,au,bk,aq⟩) Y<|dn<|sr<|ld Y Y (.k4 Y Y Y Y) ?_;obtain⟨⟨Bc,yq,Bd⟩,jJ,h⟩:=bS h;refine cl (e9 jJ) ⟨Y,aq⟩<|mv Y<|ex Y Y<|ex Y Y<|ex Y Y<|ag Y<|ag Y<|ag Y<|dn<|sr<|ld Y Y (.k4 Y Y Y Y) ?_;obtain⟨⟨Be,yt,Bf⟩,oa,h⟩:=bS h;refine cl (e9 oa) ⟨Y,aq⟩<|mv Y<|ex Y Y<|ex Y Y<|ex Y Y<|ag Y<|ag Y<|ag Y<|dn<|qq<|qq ?_;refine bK h (λj3=>AS.cM 41 [(2,.ptr 2 0),(3,.ptr 3 0),(4,.ptr 4 0),(5,ai Bc),(6,ai yq),(8,ai Be),(9,ai yt),(26,aj j3)] [(4,⟨43,[aj false,.sv (nw N ax),aj false,.sv (nw N ax)]⟩),(3,⟨43,[aj cE,.sv (slc 1 (List.map aY cD)),aj gE,.sv (slc 1 (List.map aY gG))]⟩),(2,⟨43,[aj bp,.sv (slc 1 (List.map aY bt)),aj bC,.sv (slc 1 (List.map aY bF))]⟩)] []) (λh=>?_) (λsH h=>?_);refine aW<|mv Y<|mv Y<|bE h λzb rK h=>?_;cases Bd;obtain rfl:=O (F rK);exact ww<|pF Y<|dn<|⟨false,h,wR []⟩;refine gm Y ?_;obtain rfl:=O (V rK);exact pT Y<|dn<|⟨Bf,h,wR []⟩
 try dsimp only
 refine aV.n ?_;cases sH;refine fs<|sr<|ld Y Y (.k4 Y Y Y Y)<|ld Y Y (.k4 Y Y Y Y) ?_;obtain⟨⟨⟨y9,za⟩,⟨FR,FU⟩⟩,rS,h⟩:=bS (F h);refine RT.bM .none (zF N rS) hN Y ⟨Y,Y,Y,aq⟩ T<|so Y Y Y<|dn<|bf ?_;obtain rfl:=O h;exact RZ (.agg Y Y (.k4 Y Y Y Y) Y (.nil));refine cT<|sr<|mv Y<|mv Y<|lE (V h) λiK nI h=>RT.mul .none _ Y Y T nI<|mv Y<|mv Y<|lE h λjX pS h=>RT.mul .none _ Y Y T pS<|lE h λtZ Ab h=>sb _ Y Y Ab<|mv Y<|mv Y<|lE h λpR w6 h=>RT.mul .none _ Y Y T w6 ?_;obtain⟨⟨⟨FM,FN⟩,⟨FO,FP⟩⟩,D3,h⟩:=bS h;refine RT.bM .none (jO N D3) hN Y ⟨Y,Y,aq⟩ T<|so Y Y Y<|dn<|bf<|aV.r ?_;obtain rfl:=O h;exact RZ (.agg Y Y (.k4 Y Y Y Y) Y (.nil))
theorem FW{x0:Qr}{x1:Qr}{r:Qr}(h:kp x0 x1=some r):Pure ah 94 [.agg (eQ x0),.agg (eQ x1)] (.agg (eQ r)):=dD (λN=>zg N h) (λN=>(SV.dB (qI _ _)))
theorem sM{x0:Qr}{x1:Qr}(N:Nat){r:Qr}(h:jm x0 x1=some r):cK ah 89 N [.agg (eQ x0),.agg (eQ x1)] (.agg ((fQ N) r)):=by
 obtain⟨⟨bp,bt⟩,⟨bC,bF⟩⟩:=x0;obtain⟨⟨cE,cD⟩,⟨gE,gG⟩⟩:=x1;refine bA Tryz.func89 Y (af Y) (λec M vs hN hvs=>?_);unfold jm at h;refine sr<|bx Y<|bx Y<|al (cs:=[az false,nw N ax,az false,nw N ax]) (by exact⟨au,bk,au,bk,aq⟩) Y<|dn<|sr<|ld Y Y (.k4 Y Y Y Y) ?_;obtain⟨⟨Bc,yq,Bd⟩,jJ,h⟩:=bS h;refine cl (e9 jJ) ⟨Y,aq⟩<|mv Y<|ex Y Y<|ex Y Y<|ex Y Y<|ag Y<|ag Y<|ag Y<|dn<|sr<|ld Y Y (.k4 Y Y Y Y) ?_;obtain⟨⟨Be,yt,Bf⟩,oa,h⟩:=bS h;refine cl (e9 oa) ⟨Y,aq⟩<|mv Y<|ex Y Y<|ex Y Y<|ex Y Y<|ag Y<|ag Y<|ag Y<|dn<|qq<|qq ?_;refine bK h (λj3=>AS.cM 37 [(2,.ptr 2 0),(3,.ptr 3 0),(4,.ptr 4 0),(5,ai Bc),(6,ai yq),(8,ai Be),(9,ai yt),(26,aj j3)] [(4,⟨43,[aj false,.sv (nw N ax),aj false,.sv (nw N ax)]⟩),(3,⟨43,[aj cE,.sv (slc 1 (List.map aY cD)),aj gE,.sv (slc 1 (List.map aY gG))]⟩),(2,⟨43,[aj bp,.sv (slc 1 (List.map aY bt)),aj bC,.sv (slc 1 (List.map aY bF))]⟩)] []) (λh=>?_) (λsH h=>?_);refine aW<|mv Y<|mv Y<|bE h λzb rK h=>?_;cases Bd;obtain rfl:=O (F rK);exact ww<|pF Y<|dn<|⟨false,h,wR []⟩;refine gm Y ?_;obtain rfl:=O (V rK);exact pT Y<|dn<|⟨Bf,h,wR []⟩
 try dsimp only
 refine aV.n ?_;cases sH;refine fs<|sr<|ld Y Y (.k4 Y Y Y Y)<|ld Y Y (.k4 Y Y Y Y) ?_;obtain⟨⟨⟨y5,y7⟩,⟨Rb,Rc⟩⟩,w6,h⟩:=bS (F h);refine RT.bM .none (zG N w6) hN Y ⟨Y,Y,Y,aq⟩ T<|so Y Y Y<|dn<|bf ?_;obtain rfl:=O h;exact RZ (.agg Y Y (.k4 Y Y Y Y) Y (.nil));refine cT<|sr<|mv Y<|mv Y<|lE (V h) λiK nI h=>RT.mul .none _ Y Y T nI<|mv Y<|mv Y<|lE h λjX pS h=>RT.mul .none _ Y Y T pS ?_;obtain⟨⟨⟨Q7,Q8⟩,⟨Q9,Ra⟩⟩,Ab,h⟩:=bS h;refine RT.bM .none (jO N Ab) hN Y ⟨Y,Y,aq⟩ T<|so Y Y Y<|dn<|bf<|aV.r ?_;obtain rfl:=O h;exact RZ (.agg Y Y (.k4 Y Y Y Y) Y (.nil))
theorem FX{x0:Qr}{x1:Qr}{r:Qr}(h:jm x0 x1=some r):Pure ah 89 [.agg (eQ x0),.agg (eQ x1)] (.agg (eQ r)):=dD (λN=>sM N h) (λN=>(SV.dB (qI _ _)))
theorem FY{x0:Qr}{x1:Qr}{r:Qr×Int}(h:oh x0 x1=some r):Pure ah 105 [.agg (eQ x0),.agg (eQ x1)] (.yM [.agg (eQ r.1),ay r.2]):=by
 obtain⟨⟨bp,bt⟩,⟨bC,bF⟩⟩:=x0;obtain⟨⟨cE,cD⟩,⟨gE,gG⟩⟩:=x1;refine bz Tryz.func105 Y (af Y) (λec M vs hvs=>?_);unfold oh at h;refine sr<|bx Y<|bx Y<|al (cs:=[az false,ax,az false,ax]) (by exact⟨au,aB,au,aB,aq⟩) Y<|ag Y<|dn<|qq<|sr<|ld Y Y (.k4 Y Y Y Y)<|bE h λgh jJ h=>cl (gx jJ) ⟨Y,aq⟩<|lE h λfE lN h=>eq _ Y Y (xI (p:=gh) (q:=0) lN)<|RT.done ?_;refine aV.n ?_;cases fE;refine fs<|sr<|ld Y Y (.k4 Y Y Y Y) ?_;obtain⟨⟨Mv,Pn,T4⟩,jY,h⟩:=bS (F h);refine cl (e9 jY) ⟨Y,aq⟩<|mv Y<|ex Y Y<|ex Y Y<|ex Y Y<|ag Y<|ag Y<|ag Y<|dn<|sr<|ld Y Y (.k4 Y Y Y Y) ?_;obtain⟨⟨Ka,Kb,T5⟩,nJ,h⟩:=bS h;refine cl (e9 nJ) ⟨Y,aq⟩<|mv Y<|ex Y Y<|ex Y Y<|ex Y Y<|ag Y<|ag Y<|ag Y<|dn<|qq<|qq ?_;refine bK h (λj3=>AS.cM 48 [(2,.ptr 2 0),(3,.ptr 3 0),(4,.ptr 4 0),(6,ai Mv),(7,ai Pn),(9,ai Ka),(10,ai Kb),(31,aj j3)] [(4,⟨43,[aj false,.sv ax,aj false,.sv ax]⟩),(3,⟨43,[aj cE,.sv (slc 1 (List.map aY cD)),aj gE,.sv (slc 1 (List.map aY gG))]⟩),(2,⟨43,[aj bp,.sv (slc 1 (List.map aY bt)),aj bC,.sv (slc 1 (List.map aY bF))]⟩)] []) (λh=>?_) (λBg h=>?_);refine aW<|mv Y<|mv Y<|bE h λRh Ug h=>?_;cases T4;obtain rfl:=O (F Ug);exact ww<|pF Y<|dn<|⟨false,h,wR []⟩;refine gm Y ?_;obtain rfl:=O (V Ug);exact pT Y<|dn<|⟨T5,h,wR []⟩
 try dsimp only
 refine aV.n ?_;cases Bg;refine fs<|sr<|ld Y Y (.k4 Y Y Y Y)<|ld Y Y (.k4 Y Y Y Y) ?_;obtain⟨⟨⟨Fz,FA⟩,⟨Rf,Rg⟩⟩,A7,h⟩:=bS (F h);refine cl (zJ A7) ⟨Y,Y,Y,aq⟩<|so Y Y Y<|ag Y<|dn<|bf ?_;obtain rfl:=O h;exact RZ (.agg Y Y (.k4 Y Y Y Y) Y (.tmp Y (.nil)));refine cT<|qq<|sr<|mv Y<|lE (V h) λtZ Ab h=>ls _ Y Y Ab<|dn ?_;refine bK h (λj6=>AS.cM 48 [(4,.ptr 4 0),(6,ai j6.1),(7,ai Pn),(9,ai j6.2),(10,ai Kb)] [(4,⟨43,[aj false,.sv ax,aj false,.sv ax]⟩)] []) (λh=>?_) (λj6 h=>?_);cases tZ;exact fs<|⟨(Mv,Ka),(F h),wR []⟩;exact cT<|aW<|mv Y<|lE (V h) λrR A6 h=>RT.neg .none _ Y T A6<|mv Y<|lE h λuN D3 h=>RT.neg .none _ Y T D3<|ag Y<|ag Y<|dn<|⟨(rR,uN),h,wR []⟩;obtain⟨XU,XV⟩:=j6
 try dsimp only
 refine aV.n<|sr<|mv Y<|mv Y<|lE h λmO rS h=>RT.mul .none _ Y Y T rS<|mv Y<|mv Y<|lE h λvu EU h=>RT.mul .none _ Y Y T EU ?_;obtain⟨⟨⟨FE,FF⟩,⟨Rd,Re⟩⟩,D4,h⟩:=bS h;refine cl (CA D4) ⟨Y,Y,aq⟩<|so Y Y Y<|ag Y<|dn<|bf<|aV.r ?_;obtain rfl:=O h;exact RZ (.agg Y Y (.k4 Y Y Y Y) Y (.tmp Y (.nil)));refine cT<|sr<|bI (cs:=[_,_,_,_]) (cs':=[az false,ax,az false,ax]) (.nil) ⟨au,aB,au,aB,aq⟩<|so Y Y Y<|ag Y<|dn<|bf<|aV.r ?_;obtain rfl:=O (V h);exact RZ (.agg Y Y (.k4 Y Y Y Y) Y (.tmp Y (.nil)))
theorem FZ{x0:Qr}(N:Nat){r:Qr}(h:l9 x0=some r):cK ah 108 N [.agg (eQ x0)] (.agg ((fQ N) r)):=by
 obtain⟨⟨bp,bt⟩,⟨bC,bF⟩⟩:=x0;refine bA Tryz.func108 Y (af Y) (λec M vs hN hvs=>?_);unfold l9 at h;refine sr<|bx Y<|al (cs:=[az false,nw N ax,az false,nw N ax]) (by exact⟨au,bk,au,bk,aq⟩) Y<|dn<|sr<|ld Y Y (.k4 Y Y Y Y) ?_;obtain⟨⟨⟨Bh,Ec⟩,⟨Cz,Ed⟩⟩,h5,h⟩:=bS h;refine RT.bM .none (iX N h5) hN Y ⟨Y,aq⟩ T<|al (cs:=[az false,nw N ax,az false,nw N ax]) (by exact⟨au,bk,au,bk,aq⟩) Y<|so Y Y Y<|dn<|qq<|bh mixed<|fa Y Y<|ld Y Y (.k2 Y Y) ?_;obtain⟨⟨vH,vI⟩,h8,h⟩:=bS h;refine RT.bM .none ((nO N h8).w (args':=[_]) ⟨(SV.dB (show cJ [az Bh,nw N (slc 1 (List.map aY Ec))] _ from⟨au,dU,aq⟩)),aq⟩) hN Y ⟨Y,aq⟩ T<|fa Y Y<|ld Y Y (.k2 Y Y)<|bI (cs:=[_,_,_,_]) (cs':=[az vH,nw N (slc 1 (List.map aY vI)),az Cz,nw N (slc 1 (List.map aY Ed))]) (.agg Y (.agg Y (.nil))) ⟨au,au,au,au,aq⟩<|so Y Y Y ?_;refine RT.done ⟨by kernel_rfl,?_⟩;refine aV.n<|bf ?_;obtain rfl:=O h;exact RZ (.agg Y Y (.k4 Y Y Y Y) Y (.nil))
theorem F1{x0:Qr}{r:Qr}(h:l9 x0=some r):Pure ah 108 [.agg (eQ x0)] (.agg (eQ r)):=dD (λN=>FZ N h) (λN=>(SV.dB (qI _ _)))
theorem F2{x0:Qr}{x1:Qr}{r:Int}(h:om x0 x1=some r):Pure ah 86 [.agg (eQ x0),.agg (eQ x1)] (ay r):=by
 obtain⟨⟨bp,bt⟩,⟨bC,bF⟩⟩:=x0;obtain⟨⟨cE,cD⟩,⟨gE,gG⟩⟩:=x1;refine bz Tryz.func86 Y (af Y) (λec M vs hvs=>?_);unfold om at h;refine sr<|bx Y<|bx Y<|ag Y<|dn<|sr<|ld Y Y (.k4 Y Y Y Y) ?_;obtain⟨⟨⟨jK,jL⟩,⟨jZ,j0⟩⟩,jJ,h⟩:=bS h;refine cl (dO jJ) ⟨Y,aq⟩<|mv Y<|ex Y Y<|ex Y Y<|al (cs:=[az false,ax]) (by exact⟨au,aB,aq⟩) Y<|al (cs:=[az false,ax]) (by exact⟨au,aB,aq⟩) Y<|so Y Y Y<|so Y Y Y<|dn<|sr<|ld Y Y (.k4 Y Y Y Y) ?_;obtain⟨⟨⟨jM,jN⟩,⟨j1,ke⟩⟩,jY,h⟩:=bS h;refine cl (dO jY) ⟨Y,aq⟩<|mv Y<|ex Y Y<|ex Y Y<|al (cs:=[az false,ax]) (by exact⟨au,aB,aq⟩) Y<|al (cs:=[az false,ax]) (by exact⟨au,aB,aq⟩) Y<|so Y Y Y<|so Y Y Y<|dn<|qq<|qq<|bh mixed<|ld Y Y (.k2 Y Y)<|bE h λjH oR h=>?_;refine cl (eX oR) ⟨Y,aq⟩<|ld Y Y (.k2 Y Y)<|bE h λik nJ h=>cl (eX nJ) ⟨Y,aq⟩<|ag Y<|ag Y ?_;refine RT.done ⟨by kernel_rfl,?_⟩;refine aV.n<|qq ?_;refine bK h (λj3=>AS.cM 43 [(5,.ptr 5 0),(6,.ptr 6 0),(7,.ptr 7 0),(8,.ptr 8 0),(9,ai jH),(10,ai ik),(31,aj j3)] [(8,⟨41,[aj j1,.sv (slc 1 (List.map aY ke))]⟩),(7,⟨41,[aj jM,.sv (slc 1 (List.map aY jN))]⟩),(6,⟨41,[aj jZ,.sv (slc 1 (List.map aY j0))]⟩),(5,⟨41,[aj jK,.sv (slc 1 (List.map aY jL))]⟩)] []) (λh=>?_) (λBg h=>?_)
 refine aW<|mv Y<|mv Y<|lE h λlQ rJ h=>ne _ Y Y (HC (p:=jH) (q:=ik) rJ)<|mv Y<|bE h λRm rK h=>?_;cases lQ;refine gm Y<|lE (F rK) λz8 D0 rK=>ZK _ Y Y (xI (p:=jH) (q:=0) D0) ?_;obtain rfl:=O rK;exact pF Y<|dn<|⟨z8,h,wR []⟩;obtain rfl:=O (V rK);exact ww<|ww<|pT Y<|dn<|⟨true,h,wR []⟩
 try dsimp only
 refine aV.n ?_;cases Bg;refine fs<|qq<|bh mixed<|ld Y Y (.k2 Y Y)<|ld Y Y (.k2 Y Y) ?_;obtain⟨⟨Ri,Rj⟩,J1,h⟩:=bS (F h);refine cl (w7 J1) ⟨Y,Y,aq⟩<|ld Y Y (.k2 Y Y)<|ld Y Y (.k2 Y Y) ?_;obtain⟨⟨Rk,Rl⟩,FH,h⟩:=bS h;refine cl (w7 FH) ⟨Y,Y,aq⟩<|bE h λsy D1 h=>cl (D8 D1) ⟨Y,Y,aq⟩<|ag Y ?_;refine RT.done ⟨by kernel_rfl,?_⟩;refine aV.n<|bf ?_;obtain rfl:=O h;exact R1 Y;refine cT<|sr<|mv Y<|mv Y<|lE (V h) λqQ wX h=>sb _ Y Y wX<|bE h λrR A6 h=>cl (Ee A6) ⟨Y,aq⟩<|ag Y<|dn<|bf<|aV.r ?_;obtain rfl:=O h;exact R1 Y
end
section
open Go.Fw
noncomputable def mB(x0:List Qr)(x1:List Qr):Option (List Qr):=(some (x0.length:Int)).bind λiJ=>(some (x1.length:Int)).bind λgh=>(some (max (iJ:Int) gh)).bind λfE=>(LG (α:=Qr) 64 fE).bind λeH=>(kS (λ(k:Nat) (me:(List Qr))=>(show Option ((List Qr))from(some (x0.getD k (⟨⟨false,[]⟩,⟨false,[]⟩⟩:Qr))).bind λ⟨⟨F3,F4⟩,⟨F5,F6⟩⟩=>(some (x1.getD k (⟨⟨false,[]⟩,⟨false,[]⟩⟩:Qr))).bind λ⟨⟨F7,F8⟩,⟨F9,Ga⟩⟩=>(kp ⟨⟨F3,F4⟩,⟨F5,F6⟩⟩ ⟨⟨F7,F8⟩,⟨F9,Ga⟩⟩).bind λ⟨⟨lS,kT⟩,⟨sN,sO⟩⟩=>(wh 64 me [⟨⟨lS,kT⟩,⟨sN,sO⟩⟩]).bind λlQ=>some lQ)) (max x0.length x1.length) eH).bind λme=>some me
noncomputable def k8(x0:Qr)(x1:Qr)(Gb:Qr):Option (Qr):=match x0 with|⟨⟨bp,bt⟩,⟨bC,bF⟩⟩=>match x1 with|⟨⟨cE,cD⟩,⟨gE,gG⟩⟩=>match Gb with|⟨⟨Gc,Ge⟩,⟨Gf,Gg⟩⟩=>(jm ⟨⟨Gc,Ge⟩,⟨Gf,Gg⟩⟩ ⟨⟨bp,bt⟩,⟨bC,bF⟩⟩).bind λ⟨⟨vH,vI⟩,⟨Bi,Bj⟩⟩=>(ko ⟨⟨vH,vI⟩,⟨Bi,Bj⟩⟩ ⟨⟨cE,cD⟩,⟨gE,gG⟩⟩).bind λ⟨⟨FC,FD⟩,⟨Rn,Ro⟩⟩=>some ⟨⟨FC,FD⟩,⟨Rn,Ro⟩⟩
noncomputable def jx(x0:List Qr)(x1:List Qr)(My:Qr):Option (List Qr):=match My with|⟨⟨HX,HY⟩,⟨HZ,H6⟩⟩=>(some (x0.length:Int)).bind λiJ=>(some (x1.length:Int)).bind λgh=>(some (max (iJ:Int) gh)).bind λfE=>(LG (α:=Qr) 64 fE).bind λeH=>(kS (λ(k:Nat) (me:(List Qr))=>(show Option ((List Qr))from(some (x0.getD k (⟨⟨false,[]⟩,⟨false,[]⟩⟩:Qr))).bind λ⟨⟨F3,F4⟩,⟨F5,F6⟩⟩=>(some (x1.getD k (⟨⟨false,[]⟩,⟨false,[]⟩⟩:Qr))).bind λ⟨⟨F7,F8⟩,⟨F9,Ga⟩⟩=>(k8 ⟨⟨F3,F4⟩,⟨F5,F6⟩⟩ ⟨⟨F7,F8⟩,⟨F9,Ga⟩⟩ ⟨⟨HX,HY⟩,⟨HZ,H6⟩⟩).bind λ⟨⟨lS,kT⟩,⟨sN,sO⟩⟩=>(wh 64 me [⟨⟨lS,kT⟩,⟨sN,sO⟩⟩]).bind λlQ=>some lQ)) (max x0.length x1.length) eH).bind λme=>some me
noncomputable def mX(x0:Qr)(x1:Qr)(c0:Qr):Option (Qr):=match x0 with|⟨⟨bp,bt⟩,⟨bC,bF⟩⟩=>match x1 with|⟨⟨cE,cD⟩,⟨gE,gG⟩⟩=>match c0 with|⟨⟨Mz,MA⟩,⟨MB,MC⟩⟩=>cQ (λ(Bk:Bool)=>cQ (λ(j5:Bool×(List Nat)×Bool×(List Nat))=>match j5 with|⟨Dc,Dd,De,Df⟩=>some ⟨⟨Dc,Dd⟩,⟨De,Df⟩⟩) λK5=>(bif Bk then(jm ⟨⟨bp,bt⟩,⟨bC,bF⟩⟩ ⟨⟨cE,cD⟩,⟨gE,gG⟩⟩).bind λ⟨⟨kF,kG⟩,⟨zh,zj⟩⟩=>(ko ⟨⟨Mz,MA⟩,⟨MB,MC⟩⟩ ⟨⟨kF,kG⟩,⟨zh,zj⟩⟩).bind λ⟨⟨kY,kZ⟩,⟨oq,ot⟩⟩=>K5 (kY,kZ,oq,ot)else K5 (Mz,MA,MB,MC))) λK3=>(eC ⟨⟨bp,bt⟩,⟨bC,bF⟩⟩).bind λx6=>(some (decide ((x6:Int)≠0))).bind λx7=>(bif x7 then(eC ⟨⟨cE,cD⟩,⟨gE,gG⟩⟩).bind λdZ=>(some (decide ((dZ:Int)≠0))).bind λiJ=>some iJ else some false).bind λRp=>K3 Rp
noncomputable def mg(x0:List Qr)(x1:List Qr):Option (List Qr):=(mB x0 x1).bind λx7=>some x7
noncomputable def jo(x0:Qr)(x1:List Qr):Option (List Qr):=match x0 with|⟨⟨bp,bt⟩,⟨bC,bF⟩⟩=>(some (x1.length:Int)).bind λx9=>(z2 64 x9 (⟨⟨false,[]⟩,⟨false,[]⟩⟩:Qr)).bind λdZ=>(some (x1.length:Int)).bind λep=>(cu (λ(s8:Int×(List Qr))=>match s8 with|⟨mY,mZ⟩=>(show Option ((Int×(List Qr))⊕((List Qr)))from(some (decide ((mY:Int)<ep))).bind λfE=>(bif fE then(cW x1 mY).bind λ⟨⟨kF,kG⟩,⟨zh,zj⟩⟩=>(jm ⟨⟨bp,bt⟩,⟨bC,bF⟩⟩ ⟨⟨kF,kG⟩,⟨zh,zj⟩⟩).bind λ⟨⟨m7,m8⟩,⟨m9,nc⟩⟩=>(oP mZ mY).bind λlP=>(stM mZ lP ⟨⟨m7,m8⟩,⟨m9,nc⟩⟩).bind λrP=>(some (IntKind.i64.wrap (mY+1))).bind λik=>some (.inl (ik,rP))else some (.inr mZ)))) (0,dZ)).bind λjI=>some jI
noncomputable def eD(x0:Qr)(x1:List Qr)(x2:List Qr):Option (List Qr):=match x0 with|⟨⟨bp,bt⟩,⟨bC,bF⟩⟩=>(jx x1 x2 ⟨⟨bp,bt⟩,⟨bC,bF⟩⟩).bind λdZ=>some dZ
noncomputable def jy(x0:List Qr)(x1:List Qr):Option (Qr):=(some (x0.length:Int)).bind λep=>(some (x1.length:Int)).bind λfE=>(some (min (ep:Int) fE)).bind λeH=>(wH x0 0 eH).bind λfC=>(wH x1 0 eH).bind λiE=>(kS (λ(k:Nat) (s7:Bool×(List Nat)×Bool×(List Nat))=>match s7 with|⟨Bl,Bm,Bn,Bo⟩=>(show Option (Bool×(List Nat)×Bool×(List Nat))from(some (fC.getD k (⟨⟨false,[]⟩,⟨false,[]⟩⟩:Qr))).bind λ⟨⟨Rr,Rt⟩,⟨Ru,Rv⟩⟩=>(some (iE.getD k (⟨⟨false,[]⟩,⟨false,[]⟩⟩:Qr))).bind λ⟨⟨Rw,Rx⟩,⟨Ry,Rz⟩⟩=>(mX ⟨⟨Rr,Rt⟩,⟨Ru,Rv⟩⟩ ⟨⟨Rw,Rx⟩,⟨Ry,Rz⟩⟩ ⟨⟨Bl,Bm⟩,⟨Bn,Bo⟩⟩).bind λ⟨⟨XX,XY⟩,⟨XZ,X0⟩⟩=>some (XX,XY,XZ,X0))) (max fC.length iE.length) (false,[],false,[])).bind λe7=>match e7 with|⟨Bl,Bm,Bn,Bo⟩=>some ⟨⟨Bl,Bm⟩,⟨Bn,Bo⟩⟩
noncomputable def iL(x0:List Qr)(x1:List Qr):Option (Int):=(n8 (λ(k:Nat) (s3:Unit)=>(show Option ((Unit)⊕(Int))from(some (x0.getD k (⟨⟨false,[]⟩,⟨false,[]⟩⟩:Qr))).bind λ⟨⟨Gh,Gi⟩,⟨Gj,Gk⟩⟩=>(some (x1.getD k (⟨⟨false,[]⟩,⟨false,[]⟩⟩:Qr))).bind λ⟨⟨RA,RB⟩,⟨RC,RE⟩⟩=>(om ⟨⟨Gh,Gi⟩,⟨Gj,Gk⟩⟩ ⟨⟨RA,RB⟩,⟨RC,RE⟩⟩).bind λeH=>(some (decide ((eH:Int)≠0))).bind λfJ=>(bif fJ then some (.inr eH)else some (.inl ())))) (max x0.length x1.length) ()).bind λe3=>match e3 with|.inr v3=>some v3|.inl _=>some 0
noncomputable def ou(x0:List Qr):Option (Int):=(iL x0 []).bind λx4=>some x4
noncomputable def dH(x0:List Qr)(x1:List Qr):Option (Bool):=(iL x0 x1).bind λx7=>(some (decide ((x7:Int)=0))).bind λx8=>some x8
noncomputable def gy(x0:List Qr)(x1:Int):Option (List Qr):=(some (decide ((x1:Int)<1))).bind λx8=>(bif x8 then some []else(some (min (x1:Int) 65536)).bind λdZ=>(z2 64 dZ (⟨⟨false,[]⟩,⟨false,[]⟩⟩:Qr)).bind λiJ=>(some (x0.length:Int)).bind λgh=>(some (iJ.length:Int)).bind λeH=>(some (min (gh:Int) eH)).bind λgN=>(cu (λ(s8:Int×(List Qr))=>match s8 with|⟨sP,sQ⟩=>(show Option ((Int×(List Qr))⊕((List Qr)))from(some (decide ((sP:Int)<gN))).bind λfC=>(bif fC then(cW x0 sP).bind λ⟨⟨qc,qe⟩,⟨qf,qg⟩⟩=>(cH ⟨⟨qc,qe⟩,⟨qf,qg⟩⟩).bind λ⟨⟨uR,uS⟩,⟨uT,uU⟩⟩=>(oP sQ sP).bind λlQ=>(stM sQ lQ ⟨⟨uR,uS⟩,⟨uT,uU⟩⟩).bind λrP=>(some (IntKind.i64.wrap (sP+1))).bind λnq=>some (.inl (nq,rP))else some (.inr sQ)))) (0,iJ)).bind λpg=>some pg)
noncomputable def mD(x0:List Qr)(x1:Int):Option (List Qr):=(some (decide ((x1:Int)<1))).bind λx8=>(bif x8 then some []else(some (min (x1:Int) 65536)).bind λdZ=>(z2 64 dZ (⟨⟨false,[]⟩,⟨false,[]⟩⟩:Qr)).bind λiJ=>(some (x0.length:Int)).bind λgh=>(some (iJ.length:Int)).bind λeH=>(some (min (gh:Int) eH)).bind λgN=>(cu (λ(s8:Int×(List Qr))=>match s8 with|⟨sP,sQ⟩=>(show Option ((Int×(List Qr))⊕((List Qr)))from(some (decide ((sP:Int)<gN))).bind λfC=>(bif fC then(cW x0 sP).bind λ⟨⟨qc,qe⟩,⟨qf,qg⟩⟩=>(cH ⟨⟨qc,qe⟩,⟨qf,qg⟩⟩).bind λ⟨⟨uR,uS⟩,⟨uT,uU⟩⟩=>(oP sQ sP).bind λlQ=>(stM sQ lQ ⟨⟨uR,uS⟩,⟨uT,uU⟩⟩).bind λrP=>(some (IntKind.i64.wrap (sP+1))).bind λnq=>some (.inl (nq,rP))else some (.inr sQ)))) (0,iJ)).bind λpg=>some pg)
noncomputable def cX(x0:List Int):Option (List Qr):=(some (x0.length:Int)).bind λx7=>(z2 64 x7 (⟨⟨false,[]⟩,⟨false,[]⟩⟩:Qr)).bind λx8=>(some (x0.length:Int)).bind λdZ=>(cu (λ(s8:Int×(List Qr))=>match s8 with|⟨sS,Bp⟩=>(show Option ((Int×(List Qr))⊕((List Qr)))from(some (decide ((sS:Int)<dZ))).bind λep=>(bif ep then(cW x0 sS).bind λfE=>(cG fE).bind λ⟨⟨nK,nL⟩,⟨Bq,Br⟩⟩=>(oP Bp sS).bind λiU=>(stM Bp iU ⟨⟨nK,nL⟩,⟨Bq,Br⟩⟩).bind λrP=>(some (IntKind.i64.wrap (sS+1))).bind λiE=>some (.inl (iE,rP))else some (.inr Bp)))) (0,x8)).bind λvK=>some vK
end
section
open Go.Fw Go.Fw.Z Go.RowKit
theorem nP(a b:List Qr):Pure ah 133 [(slc 4 (List.map eQ a)),(slc 4 (List.map eQ b))] (iT 165 [ref [(slc 4 (List.map eQ a))],ref [(slc 4 (List.map eQ b))]]):=by
 refine bz Tryz.func133 Y (af Y) (λec M vs hvs=>?_);refine sr<|RT.wB .none (s:=.sv _) Y T Y Y<|RT.wB .none (s:=.sv _) Y T Y Y<|ag Y<|dn<|sr<|RT.makeFunc .none (.box Y (.box Y (.nil))) T<|an (s:=.fV _ _) Y<|dn<|cz (gY (i:=2) Y [(slc 4 (List.map eQ a))] (.cons Y .nil) .any 0 [(4,.fV 165 [.val (ref [(slc 4 (List.map eQ a))]),.box 3])] (λ_ _ _=>trivial) (qG.h (l:=[(slc 4 (List.map eQ a))])) ⟨@FT.fV _ _ _ _ _ 4 165 [.box 2,.box 3] Y,aq⟩) ?_;exact cz (gY (i:=3) Y [(slc 4 (List.map eQ b))] (.cons Y .nil) .any 0 [(4,.fV 165 [.val (ref [(slc 4 (List.map eQ a))]),.val (ref [(slc 4 (List.map eQ b))])])] (λ_ _ _=>trivial) (qG.h (l:=[(slc 4 (List.map eQ b))])) ⟨@FT.fV _ _ _ _ _ 4 165 [.val (ref [(slc 4 (List.map eQ a))]),.box 3] Y,aq⟩)<|cz (DI 4 (iT 165 [ref [(slc 4 (List.map eQ a))],ref [(slc 4 (List.map eQ b))]]) (λ_ _ h=>DJ h))<|bf<|⟨.inr Y,DG (.tmp Y (.nil)) Y⟩
theorem nQ(a b:List Qr):Iter ah 165 [ref [(slc 4 (List.map eQ a))],ref [(slc 4 (List.map eQ b))]] (max a.length b.length) (λk=>[.agg (eQ (a.getD k (⟨⟨false,[]⟩,⟨false,[]⟩⟩:Qr))),.agg (eQ (b.getD k (⟨⟨false,[]⟩,⟨false,[]⟩⟩:Qr)))]):=by
 refine qM Tryz.func165 Y Y (af Y) (λec M O l J hJ xX hr=>?_);obtain⟨n7,xX⟩:=xX;have hla:a.length<=9223372036854775807:=by cases n7 with|nil=>exact xX.elim|cons _ n7=>exact z3 xX.1
 have hlb:b.length<=9223372036854775807:=by cases n7 with|nil=>exact xX.elim|cons _ n7=>cases n7 with|nil=>exact xX.2.elim|cons _ _=>exact z3 xX.2.1
 refine bH ?_;refine aW ?_;refine RT.dr .none Y Y (tl Y) ?_;refine RT.len .none Y (tl Y) ?_;refine RT.dr .none Y Y (tl Y) ?_;refine RT.len .none Y (tl Y) ?_;refine RT.max .none (((max a.length b.length:Nat):Int)) Y Y (tl Y) (by simp only[List.length_map];split<;>omega) ?_;refine RT.mv .none Y (tl Y) ?_;refine RT.done ?_;refine aV.n ?_;refine bj ?_
 refine wA (I:=λx:{i:Nat//i<=max a.length b.length}=>AS.cM 37 [(0,.sv (.v (.func (.yield l) #[] #[]))),(1,.sv (ref [(slc 4 (List.map eQ a))])),(2,.sv (ref [(slc 4 (List.map eQ b))])),(11,ai ((max a.length b.length:Nat):Int)),(12,ai ((x.1:Nat):Int))] [] [] (x.1)) (μ:=λx=>max a.length b.length-x.1) ⟨0,by omega⟩ (by(try dsimp only);exact dM id Y Y Y Y Y ⟨.sv (by first|exact au|exact SV.aX (by omega)|exact SV.aX (by push_cast;omega)|exact SV.aX (by dsimp only;omega)|exact SV.imp_eq (by simp)),.sv (by first|exact au|exact SV.aX (by omega)|exact SV.aX (by push_cast;omega)|exact SV.aX (by dsimp only;omega)|exact SV.imp_eq (by simp)),.sv (by first|exact au|exact SV.aX (by omega)|exact SV.aX (by push_cast;omega)|exact SV.aX (by dsimp only;omega)|exact SV.imp_eq (by simp)),.sv (by first|exact au|exact SV.aX (by omega)|exact SV.aX (by push_cast;omega)|exact SV.aX (by dsimp only;omega)|exact SV.imp_eq (by simp)),.sv (by first|exact au|exact SV.aX (by omega)|exact SV.aX (by push_cast;omega)|exact SV.aX (by dsimp only;omega)|exact SV.imp_eq (by simp)),aq⟩ trivial trivial (λ_ _=>Y)) ?_;rintro⟨i,TD⟩
 try dsimp only
 rcases AR a b i TD with⟨hi,xO,Cb⟩|⟨hi,xO,Cb⟩|⟨hi,xO,Cb⟩|hi
 ·
  refine bH ?_;refine aW ?_;refine RT.lss .none (true) Y Y (tl Y) (by simp;omega) ?_;refine RT.done ?_;refine aV.n ?_;refine bH ?_;refine cP Y ?_;refine bB ?_;refine aV.n ?_;refine bH ?_;refine bj ?_;refine bH ?_;refine aW ?_;refine RT.mv .none Y (tl Y) ?_;refine RT.AF .none Y (tl Y) ?_;refine RT.done ?_;refine aV.n ?_;refine bH ?_;refine aW ?_;refine RT.qP .none (cs:=eQ ⟨⟨false,[]⟩,⟨false,[]⟩⟩) (by exact⟨au,aB,au,aB,aq⟩) Y (tl Y) Y Y ?_;refine RT.qP .none (cs:=eQ ⟨⟨false,[]⟩,⟨false,[]⟩⟩) (by exact⟨au,aB,au,aB,aq⟩) Y (tl Y) Y Y ?_;refine RT.done ?_;refine aV.n ?_;refine bH ?_;refine bH ?_;refine aW ?_;refine RT.mv .none Y (tl Y) ?_;refine RT.dr .none Y Y (tl Y) ?_;refine RT.len .none Y (tl Y) ?_;refine RT.lss .none (true) Y Y (tl Y) (by simp only[List.length_map];simp;omega) ?_;refine RT.done ?_;refine aV.n ?_;refine cP Y ?_;refine aW ?_;refine RT.dr .none Y Y (tl Y) ?_;refine RT.mv .none Y (tl Y) ?_
  refine RT.Lt .none [az ((a.getD i (⟨⟨false,[]⟩,⟨false,[]⟩⟩:Qr)).num.neg),slc 1 ((a.getD i (⟨⟨false,[]⟩,⟨false,[]⟩⟩:Qr)).num.w.map aY),az ((a.getD i (⟨⟨false,[]⟩,⟨false,[]⟩⟩:Qr)).den.neg),slc 1 ((a.getD i (⟨⟨false,[]⟩,⟨false,[]⟩⟩:Qr)).den.w.map aY)] (Int.natCast_nonneg i) (by rw[Int.toNat_natCast,List.getElem?_map,ey xO];rfl) Y Y (tl Y) ?_;refine RT.iC .none Y (tl Y) (cs:=[az ((a.getD i (⟨⟨false,[]⟩,⟨false,[]⟩⟩:Qr)).num.neg),slc 1 ((a.getD i (⟨⟨false,[]⟩,⟨false,[]⟩⟩:Qr)).num.w.map aY),az ((a.getD i (⟨⟨false,[]⟩,⟨false,[]⟩⟩:Qr)).den.neg),slc 1 ((a.getD i (⟨⟨false,[]⟩,⟨false,[]⟩⟩:Qr)).den.w.map aY)]) Y Y ?_;refine RT.store .none Y Y Y Y Y ?_;refine RT.done ?_;refine aV.n ?_;refine bH ?_;refine bH ?_;refine aW ?_;refine RT.mv .none Y (tl Y) ?_;refine RT.dr .none Y Y (tl Y) ?_;refine RT.len .none Y (tl Y) ?_;refine RT.lss .none (true) Y Y (tl Y) (by simp only[List.length_map];simp;omega) ?_;refine RT.done ?_;refine aV.n ?_;refine cP Y ?_;refine aW ?_;refine RT.dr .none Y Y (tl Y) ?_;refine RT.mv .none Y (tl Y) ?_
  refine RT.Lt .none [az ((b.getD i (⟨⟨false,[]⟩,⟨false,[]⟩⟩:Qr)).num.neg),slc 1 ((b.getD i (⟨⟨false,[]⟩,⟨false,[]⟩⟩:Qr)).num.w.map aY),az ((b.getD i (⟨⟨false,[]⟩,⟨false,[]⟩⟩:Qr)).den.neg),slc 1 ((b.getD i (⟨⟨false,[]⟩,⟨false,[]⟩⟩:Qr)).den.w.map aY)] (Int.natCast_nonneg i) (by rw[Int.toNat_natCast,List.getElem?_map,ey Cb];rfl) Y Y (tl Y) ?_;refine RT.iC .none Y (tl Y) (cs:=[az ((b.getD i (⟨⟨false,[]⟩,⟨false,[]⟩⟩:Qr)).num.neg),slc 1 ((b.getD i (⟨⟨false,[]⟩,⟨false,[]⟩⟩:Qr)).num.w.map aY),az ((b.getD i (⟨⟨false,[]⟩,⟨false,[]⟩⟩:Qr)).den.neg),slc 1 ((b.getD i (⟨⟨false,[]⟩,⟨false,[]⟩⟩:Qr)).den.w.map aY)]) Y Y ?_;refine RT.store .none Y Y Y Y Y ?_;refine RT.done ?_;refine aV.n ?_;refine bH ?_;refine aW ?_;refine RT.mv .none Y (tl Y) ?_;refine RT.load .none Y Y (.k4 Y Y Y Y) Y (tl Y) ?_;refine RT.load .none Y Y (.k4 Y Y Y Y) Y (tl Y) ?_;refine RT.yield .none hr Y (λ_ h=>h) Y (i) Y Y hi (by exact⟨Y,Y,aq⟩) (tl Y) (λyb=>?_);cases yb
  ·
   refine RT.not .none Y (tl Y) true Y ?_;refine RT.done ?_;refine aV.n ?_;refine cP Y ?_;refine bf ?_;refine bG.r ?_;refine aV.r ?_;refine aV.r ?_;refine bG.r ?_;exact⟨.inr rfl,(λh=>by cases h)⟩
  refine RT.not .none Y (tl Y) false Y ?_;refine RT.done ?_;refine aV.n ?_;refine dX Y ?_;refine bB ?_;refine bG.n ?_;refine aV.n ?_;refine aW ?_;refine RT.add .none (((i:Nat):Int)+1) Y Y (tl Y) (kR (by omega)) ?_;refine RT.mv .none Y (tl Y) ?_;refine RT.done ?_;refine aV.n ?_;refine⟨⟨i+1,by omega⟩,(by dsimp only;omega),?_⟩
  try dsimp only
  exact dM id Y Y Y Y Y ⟨.sv (by first|exact au|exact SV.aX (by omega)|exact SV.aX (by push_cast;omega)|exact SV.aX (by dsimp only;omega)|exact SV.imp_eq (by simp)),.sv (by first|exact au|exact SV.aX (by omega)|exact SV.aX (by push_cast;omega)|exact SV.aX (by dsimp only;omega)|exact SV.imp_eq (by simp)),.sv (by first|exact au|exact SV.aX (by omega)|exact SV.aX (by push_cast;omega)|exact SV.aX (by dsimp only;omega)|exact SV.imp_eq (by simp)),.sv (by first|exact au|exact SV.aX (by omega)|exact SV.aX (by push_cast;omega)|exact SV.aX (by dsimp only;omega)|exact SV.imp_eq (by simp)),.sv (by first|exact au|exact SV.aX (by omega)|exact SV.aX (by push_cast;omega)|exact SV.aX (by dsimp only;omega)|exact SV.imp_eq (by simp)),aq⟩ trivial trivial (λ_ _=>Y)
 ·
  refine bH ?_;refine aW ?_;refine RT.lss .none (true) Y Y (tl Y) (by simp;omega) ?_;refine RT.done ?_;refine aV.n ?_;refine bH ?_;refine cP Y ?_;refine bB ?_;refine aV.n ?_;refine bH ?_;refine bj ?_;refine bH ?_;refine aW ?_;refine RT.mv .none Y (tl Y) ?_;refine RT.AF .none Y (tl Y) ?_;refine RT.done ?_;refine aV.n ?_;refine bH ?_;refine aW ?_;refine RT.qP .none (cs:=eQ ⟨⟨false,[]⟩,⟨false,[]⟩⟩) (by exact⟨au,aB,au,aB,aq⟩) Y (tl Y) Y Y ?_;refine RT.qP .none (cs:=eQ ⟨⟨false,[]⟩,⟨false,[]⟩⟩) (by exact⟨au,aB,au,aB,aq⟩) Y (tl Y) Y Y ?_;refine RT.done ?_;refine aV.n ?_;refine bH ?_;refine bH ?_;refine aW ?_;refine RT.mv .none Y (tl Y) ?_;refine RT.dr .none Y Y (tl Y) ?_;refine RT.len .none Y (tl Y) ?_;refine RT.lss .none (true) Y Y (tl Y) (by simp only[List.length_map];simp;omega) ?_;refine RT.done ?_;refine aV.n ?_;refine cP Y ?_;refine aW ?_;refine RT.dr .none Y Y (tl Y) ?_;refine RT.mv .none Y (tl Y) ?_
  refine RT.Lt .none [az ((a.getD i (⟨⟨false,[]⟩,⟨false,[]⟩⟩:Qr)).num.neg),slc 1 ((a.getD i (⟨⟨false,[]⟩,⟨false,[]⟩⟩:Qr)).num.w.map aY),az ((a.getD i (⟨⟨false,[]⟩,⟨false,[]⟩⟩:Qr)).den.neg),slc 1 ((a.getD i (⟨⟨false,[]⟩,⟨false,[]⟩⟩:Qr)).den.w.map aY)] (Int.natCast_nonneg i) (by rw[Int.toNat_natCast,List.getElem?_map,ey xO];rfl) Y Y (tl Y) ?_;refine RT.iC .none Y (tl Y) (cs:=[az ((a.getD i (⟨⟨false,[]⟩,⟨false,[]⟩⟩:Qr)).num.neg),slc 1 ((a.getD i (⟨⟨false,[]⟩,⟨false,[]⟩⟩:Qr)).num.w.map aY),az ((a.getD i (⟨⟨false,[]⟩,⟨false,[]⟩⟩:Qr)).den.neg),slc 1 ((a.getD i (⟨⟨false,[]⟩,⟨false,[]⟩⟩:Qr)).den.w.map aY)]) Y Y ?_;refine RT.store .none Y Y Y Y Y ?_;refine RT.done ?_;refine aV.n ?_;refine bH ?_;refine bH ?_;refine aW ?_;refine RT.mv .none Y (tl Y) ?_;refine RT.dr .none Y Y (tl Y) ?_;refine RT.len .none Y (tl Y) ?_;refine RT.lss .none (false) Y Y (tl Y) (by simp only[List.length_map];simp;omega) ?_;refine RT.done ?_;refine aV.n ?_;refine dX Y ?_;refine bB ?_;refine aV.n ?_;refine bH ?_;refine aW ?_;refine RT.mv .none Y (tl Y) ?_;refine RT.load .none Y Y (.k4 Y Y Y Y) Y (tl Y) ?_;refine RT.load .none Y Y (.k4 Y Y Y Y) Y (tl Y) ?_
  refine RT.yield .none hr Y (λ_ h=>h) Y (i) Y Y hi (by exact⟨Y,(by show AV.sv _=AV.sv _;rw[iq Cb]),aq⟩) (tl Y) (λyb=>?_);cases yb
  ·
   refine RT.not .none Y (tl Y) true Y ?_;refine RT.done ?_;refine aV.n ?_;refine cP Y ?_;refine bf ?_;refine bG.r ?_;refine aV.r ?_;refine aV.r ?_;refine bG.r ?_;exact⟨.inr rfl,(λh=>by cases h)⟩
  refine RT.not .none Y (tl Y) false Y ?_;refine RT.done ?_;refine aV.n ?_;refine dX Y ?_;refine bB ?_;refine bG.n ?_;refine aV.n ?_;refine aW ?_;refine RT.add .none (((i:Nat):Int)+1) Y Y (tl Y) (kR (by omega)) ?_;refine RT.mv .none Y (tl Y) ?_;refine RT.done ?_;refine aV.n ?_;refine⟨⟨i+1,by omega⟩,(by dsimp only;omega),?_⟩
  try dsimp only
  exact dM id Y Y Y Y Y ⟨.sv (by first|exact au|exact SV.aX (by omega)|exact SV.aX (by push_cast;omega)|exact SV.aX (by dsimp only;omega)|exact SV.imp_eq (by simp)),.sv (by first|exact au|exact SV.aX (by omega)|exact SV.aX (by push_cast;omega)|exact SV.aX (by dsimp only;omega)|exact SV.imp_eq (by simp)),.sv (by first|exact au|exact SV.aX (by omega)|exact SV.aX (by push_cast;omega)|exact SV.aX (by dsimp only;omega)|exact SV.imp_eq (by simp)),.sv (by first|exact au|exact SV.aX (by omega)|exact SV.aX (by push_cast;omega)|exact SV.aX (by dsimp only;omega)|exact SV.imp_eq (by simp)),.sv (by first|exact au|exact SV.aX (by omega)|exact SV.aX (by push_cast;omega)|exact SV.aX (by dsimp only;omega)|exact SV.imp_eq (by simp)),aq⟩ trivial trivial (λ_ _=>Y)
 ·
  refine bH ?_;refine aW ?_;refine RT.lss .none (true) Y Y (tl Y) (by simp;omega) ?_;refine RT.done ?_;refine aV.n ?_;refine bH ?_;refine cP Y ?_;refine bB ?_;refine aV.n ?_;refine bH ?_;refine bj ?_;refine bH ?_;refine aW ?_;refine RT.mv .none Y (tl Y) ?_;refine RT.AF .none Y (tl Y) ?_;refine RT.done ?_;refine aV.n ?_;refine bH ?_;refine aW ?_;refine RT.qP .none (cs:=eQ ⟨⟨false,[]⟩,⟨false,[]⟩⟩) (by exact⟨au,aB,au,aB,aq⟩) Y (tl Y) Y Y ?_;refine RT.qP .none (cs:=eQ ⟨⟨false,[]⟩,⟨false,[]⟩⟩) (by exact⟨au,aB,au,aB,aq⟩) Y (tl Y) Y Y ?_;refine RT.done ?_;refine aV.n ?_;refine bH ?_;refine bH ?_;refine aW ?_;refine RT.mv .none Y (tl Y) ?_;refine RT.dr .none Y Y (tl Y) ?_;refine RT.len .none Y (tl Y) ?_;refine RT.lss .none (false) Y Y (tl Y) (by simp only[List.length_map];simp;omega) ?_;refine RT.done ?_;refine aV.n ?_;refine dX Y ?_;refine bB ?_;refine aV.n ?_;refine bH ?_;refine bH ?_;refine aW ?_;refine RT.mv .none Y (tl Y) ?_;refine RT.dr .none Y Y (tl Y) ?_;refine RT.len .none Y (tl Y) ?_;refine RT.lss .none (true) Y Y (tl Y) (by simp only[List.length_map];simp;omega) ?_;refine RT.done ?_;refine aV.n ?_;refine cP Y ?_;refine aW ?_;refine RT.dr .none Y Y (tl Y) ?_
  refine RT.mv .none Y (tl Y) ?_;refine RT.Lt .none [az ((b.getD i (⟨⟨false,[]⟩,⟨false,[]⟩⟩:Qr)).num.neg),slc 1 ((b.getD i (⟨⟨false,[]⟩,⟨false,[]⟩⟩:Qr)).num.w.map aY),az ((b.getD i (⟨⟨false,[]⟩,⟨false,[]⟩⟩:Qr)).den.neg),slc 1 ((b.getD i (⟨⟨false,[]⟩,⟨false,[]⟩⟩:Qr)).den.w.map aY)] (Int.natCast_nonneg i) (by rw[Int.toNat_natCast,List.getElem?_map,ey Cb];rfl) Y Y (tl Y) ?_;refine RT.iC .none Y (tl Y) (cs:=[az ((b.getD i (⟨⟨false,[]⟩,⟨false,[]⟩⟩:Qr)).num.neg),slc 1 ((b.getD i (⟨⟨false,[]⟩,⟨false,[]⟩⟩:Qr)).num.w.map aY),az ((b.getD i (⟨⟨false,[]⟩,⟨false,[]⟩⟩:Qr)).den.neg),slc 1 ((b.getD i (⟨⟨false,[]⟩,⟨false,[]⟩⟩:Qr)).den.w.map aY)]) Y Y ?_;refine RT.store .none Y Y Y Y Y ?_;refine RT.done ?_;refine aV.n ?_;refine bH ?_;refine aW ?_;refine RT.mv .none Y (tl Y) ?_;refine RT.load .none Y Y (.k4 Y Y Y Y) Y (tl Y) ?_;refine RT.load .none Y Y (.k4 Y Y Y Y) Y (tl Y) ?_;refine RT.yield .none hr Y (λ_ h=>h) Y (i) Y Y hi (by exact⟨(by show AV.sv _=AV.sv _;rw[iq xO]),Y,aq⟩) (tl Y) (λyb=>?_);cases yb
  ·
   refine RT.not .none Y (tl Y) true Y ?_;refine RT.done ?_;refine aV.n ?_;refine cP Y ?_;refine bf ?_;refine bG.r ?_;refine aV.r ?_;refine aV.r ?_;refine bG.r ?_;exact⟨.inr rfl,(λh=>by cases h)⟩
  refine RT.not .none Y (tl Y) false Y ?_;refine RT.done ?_;refine aV.n ?_;refine dX Y ?_;refine bB ?_;refine bG.n ?_;refine aV.n ?_;refine aW ?_;refine RT.add .none (((i:Nat):Int)+1) Y Y (tl Y) (kR (by omega)) ?_;refine RT.mv .none Y (tl Y) ?_;refine RT.done ?_;refine aV.n ?_;refine⟨⟨i+1,by omega⟩,(by dsimp only;omega),?_⟩
  try dsimp only
  exact dM id Y Y Y Y Y ⟨.sv (by first|exact au|exact SV.aX (by omega)|exact SV.aX (by push_cast;omega)|exact SV.aX (by dsimp only;omega)|exact SV.imp_eq (by simp)),.sv (by first|exact au|exact SV.aX (by omega)|exact SV.aX (by push_cast;omega)|exact SV.aX (by dsimp only;omega)|exact SV.imp_eq (by simp)),.sv (by first|exact au|exact SV.aX (by omega)|exact SV.aX (by push_cast;omega)|exact SV.aX (by dsimp only;omega)|exact SV.imp_eq (by simp)),.sv (by first|exact au|exact SV.aX (by omega)|exact SV.aX (by push_cast;omega)|exact SV.aX (by dsimp only;omega)|exact SV.imp_eq (by simp)),.sv (by first|exact au|exact SV.aX (by omega)|exact SV.aX (by push_cast;omega)|exact SV.aX (by dsimp only;omega)|exact SV.imp_eq (by simp)),aq⟩ trivial trivial (λ_ _=>Y)
 subst hi;refine bH ?_;refine aW ?_;refine RT.lss .none (false) Y Y (tl Y) (by simp) ?_;refine RT.done ?_;refine aV.n ?_;refine bH ?_;refine dX Y ?_;refine cc ?_;refine aV.x ?_;refine aV.x ?_;refine bG.x ?_;exact⟨.inl Y,(λ_=>Y)⟩
end
section
open Go.Fw Go.Fw.Z Go.RowKit
theorem Bs{x0:List Qr}{x1:List Qr}(N:Nat){r:List Qr}(h:mB x0 x1=some r):cK ah 95 N [slc 4 (List.map eQ x0),slc 4 (List.map eQ x1),.v (.func (.func 94) #[] #[])] (nw N (slc 4 (List.map (fQ N) r))):=by
 refine bA Tryz.func95 Y (af Y) (λec M vs hN hvs=>?_);unfold mB at h;refine sr<|RT.wB .none (s:=.sv _) Y T Y Y<|aI Y (bk (N:=N) (n:=4) (e:=(fQ N)))<|dn<|sr<|mv Y<|lE h λiJ pJ h=>ln Y pJ<|mv Y<|lE h λgh jJ h=>ln Y jJ<|lE h λfE lN h=>RT.max .none _ Y Y T (LL (p:=iJ) (q:=gh) lN)<|bE h λeH iZ h=>RT.C1 (e:=(fQ N)) .none Y Y T Y T iZ<|RT.alloc .none T Y Y<|RT.lY (cells:=[_]) .none Y Y Y Y T Y<|dn<|qq<|sr ?_;refine mv Y<|mv Y<|cl (nP x0 x1) ⟨Y,Y,aq⟩<|dn<|bj<|bE h λme Uh Ui=>?_;obtain⟨MD,Uj,Uk,Ul⟩:=kE Uh;refine iy (nQ x0 x1) (λ_ _ _ _ _=>trivial) Y (λk=>AS.cM 29 [(5,.ptr 5 0),(7,.ptr 7 0),(18,.sv (iT 165 [ref [slc 4 (List.map eQ x0)],ref [slc 4 (List.map eQ x1)]]))] [(7,⟨23,[.row 302]⟩),(5,⟨106,[.sv (.v (.func (.func 94) #[] #[]))]⟩)] [(302,TR 43 4 (fQ N) (MD k))]) [7,5] Y (λ_=>⟨Y,Y⟩) (qN Y) (λ_=>Y) (qO Y) (by(try dsimp only);rw[Uj];(try dsimp only);exact dM (λi=>bif Nat.beq i 302 then 15 else i) Y Y Y Y Y ⟨.ptr,.ptr,.sv au,aq⟩ ⟨⟨_,Y,⟨.row Y,aq⟩⟩,⟨_,Y,⟨.sv au,aq⟩⟩,aq⟩ ⟨⟨_,Y,cJ.refl _⟩,aq⟩ (λi hi=>by rw[cC (show i≠302 by omega)];rfl)) (λk hk D hD=>?_) ?_;have h:=Uk k hk;obtain⟨me,J3⟩:∃q,MD k=q:=⟨_,Y⟩;rw[J3]at h⊢;dsimp only[AS.LC,rH]
 try dsimp only at h
 obtain⟨⟨⟨F3,F4⟩,⟨F5,F6⟩⟩,Um,h⟩:=bS h;rw[Option.some.inj Um];obtain⟨⟨⟨F7,F8⟩,⟨F9,Ga⟩⟩,Mb,h⟩:=bS h;rw[Option.some.inj Mb];refine sr<|al (cs:=[az false,nw N ax,az false,nw N ax]) (by exact⟨au,bk,au,bk,aq⟩) Y<|so Y Y Y<|dn<|aW<|al (cs:=[az false,nw N ax,az false,nw N ax]) (by exact⟨au,bk,au,bk,aq⟩) Y<|so Y Y Y<|RT.done ?_;refine aV.n ⟨Y,?_⟩;dsimp only[AS.AN];refine bj<|bh mixed<|RT.fY .none (s:=.row _) Y Y Y T<|lV Y Y Y<|ld Y Y (.k4 Y Y Y Y)<|ld Y Y (.k4 Y Y Y Y) ?_;obtain⟨⟨⟨lS,kT⟩,⟨sN,sO⟩⟩,yh,h⟩:=bS h;refine RT.bM .none (zg N yh) (Nat.le_trans hN hD) Y ⟨Y,Y,aq⟩ T<|bl (l:=[⟨⟨lS,kT⟩,⟨sN,sO⟩⟩]) (e:=(fQ N)) (.agg Y (.nil)) Y Y Y Y Y Y<|bE h λlQ rJ h=>aR (k:=[⟨⟨lS,kT⟩,⟨sN,sO⟩⟩]) (e:=(fQ N)) Y Y Y rJ<|RT.lY (cells:=[_]) .none Y Y Y Y T Y ?_;refine RT.done ⟨by kernel_rfl,?_⟩;refine bG.n ?_;replace h:=Option.some.inj h;refine⟨aq,Y,Y,?_⟩
 try dsimp only
 rw[<-h]
 try dsimp only
 exact dM (λi=>bif Nat.beq i 302 then 27 else i) Y Y Y Y Y ⟨.ptr,.ptr,.sv au,aq⟩ ⟨⟨_,Y,⟨.row Y,aq⟩⟩,⟨_,Y,⟨.sv au,aq⟩⟩,aq⟩ ⟨⟨_,Y,cJ.refl _⟩,aq⟩ (λi hi=>by rw[cC (show i≠302 by omega)];rfl);rw[Ul]
 try dsimp only
 refine bG.n<|aV.n<|sr<|RT.fY .none (s:=.row _) Y Y Y T<|an (s:=.row _) Y<|dn<|gP (i:=302) (E1:=43) (n:=4) (e:=(fQ N)) (l:=me) hN (λ_ h=>h) Y<|bf ?_;obtain rfl:=O Ui;exact R1 Y
theorem vL{x0:Qr}{x1:Qr}{Gb:Qr}(N:Nat){r:Qr}(h:k8 x0 x1 Gb=some r):cK ah 141 N [.agg (eQ x0),.agg (eQ x1),ref (eQ Gb)] (.agg ((fQ N) r)):=by
 obtain⟨⟨bp,bt⟩,⟨bC,bF⟩⟩:=x0;obtain⟨⟨cE,cD⟩,⟨gE,gG⟩⟩:=x1;obtain⟨⟨Gc,Ge⟩,⟨Gf,Gg⟩⟩:=Gb;refine bA Tryz.func141 Y (af Y) (λec M vs hN hvs=>?_);unfold k8 at h;refine sr<|bx Y<|bx Y<|al (cs:=[az false,nw N ax,az false,nw N ax]) (by exact⟨au,bk,au,bk,aq⟩) Y<|dn<|qq<|bh mixed<|RT.iC (cs:=[_,_,_,_]) .none Y T Y Y<|ld Y Y (.k4 Y Y Y Y) ?_;obtain⟨⟨⟨vH,vI⟩,⟨Bi,Bj⟩⟩,h8,h⟩:=bS h;refine RT.bM .none (sM N h8) hN Y ⟨Y,Y,aq⟩ T<|ld Y Y (.k4 Y Y Y Y) ?_;obtain⟨⟨⟨FC,FD⟩,⟨Rn,Ro⟩⟩,gM,h⟩:=bS h;refine RT.bM .none ((ze N gM).w (args':=[_,_]) ⟨(SV.dB (show cJ [az vH,nw N (slc 1 (List.map aY vI)),az Bi,nw N (slc 1 (List.map aY Bj))] _ from⟨au,dU,au,dU,aq⟩)),au,aq⟩) hN Y ⟨Y,Y,aq⟩ T<|so Y Y Y ?_;refine RT.done ⟨by kernel_rfl,?_⟩;refine aV.n<|bf ?_;obtain rfl:=O h;exact RZ (.agg Y Y (.k4 Y Y Y Y) Y (.nil))
theorem xb{x0:List Qr}{x1:List Qr}{My:Qr}(N:Nat){r:List Qr}(h:jx x0 x1 My=some r):cK ah 95 N [slc 4 (List.map eQ x0),slc 4 (List.map eQ x1),iT 141 [ref (eQ My)]] (nw N (slc 4 (List.map (fQ N) r))):=by
 obtain⟨⟨HX,HY⟩,⟨HZ,H6⟩⟩:=My;refine bA Tryz.func95 Y (af Y) (λec M vs hN hvs=>?_);unfold jx at h;refine sr<|RT.wB .none (s:=.sv _) Y T Y Y<|aI Y (bk (N:=N) (n:=4) (e:=(fQ N)))<|dn<|sr<|mv Y<|lE h λiJ pJ h=>ln Y pJ<|mv Y<|lE h λgh jJ h=>ln Y jJ<|lE h λfE lN h=>RT.max .none _ Y Y T (LL (p:=iJ) (q:=gh) lN)<|bE h λeH iZ h=>RT.C1 (e:=(fQ N)) .none Y Y T Y T iZ<|RT.alloc .none T Y Y<|RT.lY (cells:=[_]) .none Y Y Y Y T Y<|dn<|qq<|sr ?_;refine mv Y<|mv Y<|cl (nP x0 x1) ⟨Y,Y,aq⟩<|dn<|bj<|bE h λme Uh Ui=>?_;obtain⟨MD,Uj,Uk,Ul⟩:=kE Uh;refine iy (nQ x0 x1) (λ_ _ _ _ _=>trivial) Y (λk=>AS.cM 29 [(5,.ptr 5 0),(7,.ptr 7 0),(18,.sv (iT 165 [ref [slc 4 (List.map eQ x0)],ref [slc 4 (List.map eQ x1)]]))] [(7,⟨23,[.row 302]⟩),(5,⟨106,[.sv (iT 141 [ref [az HX,slc 1 (List.map aY HY),az HZ,slc 1 (List.map aY H6)]])]⟩)] [(302,TR 43 4 (fQ N) (MD k))]) [7,5] Y (λ_=>⟨Y,Y⟩) (qN Y) (λ_=>Y) (qO Y) (by(try dsimp only);rw[Uj];(try dsimp only);exact dM (λi=>bif Nat.beq i 302 then 15 else i) Y Y Y Y Y ⟨.ptr,.ptr,.sv au,aq⟩ ⟨⟨_,Y,⟨.row Y,aq⟩⟩,⟨_,Y,⟨.sv au,aq⟩⟩,aq⟩ ⟨⟨_,Y,cJ.refl _⟩,aq⟩ (λi hi=>by rw[cC (show i≠302 by omega)];rfl)) (λk hk D hD=>?_) ?_;have h:=Uk k hk;obtain⟨me,J3⟩:∃q,MD k=q:=⟨_,Y⟩;rw[J3]at h⊢
 dsimp only[AS.LC,rH]
 try dsimp only at h
 obtain⟨⟨⟨F3,F4⟩,⟨F5,F6⟩⟩,Um,h⟩:=bS h;rw[Option.some.inj Um];obtain⟨⟨⟨F7,F8⟩,⟨F9,Ga⟩⟩,Mb,h⟩:=bS h;rw[Option.some.inj Mb];refine sr<|al (cs:=[az false,nw N ax,az false,nw N ax]) (by exact⟨au,bk,au,bk,aq⟩) Y<|so Y Y Y<|dn<|aW<|al (cs:=[az false,nw N ax,az false,nw N ax]) (by exact⟨au,bk,au,bk,aq⟩) Y<|so Y Y Y<|RT.done ?_;refine aV.n ⟨Y,?_⟩;dsimp only[AS.AN];refine bj<|bh mixed<|RT.fY .none (s:=.row _) Y Y Y T<|lV Y Y Y<|ld Y Y (.k4 Y Y Y Y)<|ld Y Y (.k4 Y Y Y Y) ?_;obtain⟨⟨⟨lS,kT⟩,⟨sN,sO⟩⟩,yh,h⟩:=bS h;refine RT.Tn (args:=[_,_]) (caps:=[_]) .none (vL N yh) (Nat.le_trans hN hD) Y ⟨Y,Y,aq⟩ T<|bl (l:=[⟨⟨lS,kT⟩,⟨sN,sO⟩⟩]) (e:=(fQ N)) (.agg Y (.nil)) Y Y Y Y Y Y<|bE h λlQ rJ h=>aR (k:=[⟨⟨lS,kT⟩,⟨sN,sO⟩⟩]) (e:=(fQ N)) Y Y Y rJ<|RT.lY (cells:=[_]) .none Y Y Y Y T Y ?_;refine RT.done ⟨by kernel_rfl,?_⟩;refine bG.n ?_;replace h:=Option.some.inj h;refine⟨aq,Y,Y,?_⟩
 try dsimp only
 rw[<-h]
 try dsimp only
 exact dM (λi=>bif Nat.beq i 302 then 27 else i) Y Y Y Y Y ⟨.ptr,.ptr,.sv au,aq⟩ ⟨⟨_,Y,⟨.row Y,aq⟩⟩,⟨_,Y,⟨.sv au,aq⟩⟩,aq⟩ ⟨⟨_,Y,cJ.refl _⟩,aq⟩ (λi hi=>by rw[cC (show i≠302 by omega)];rfl);rw[Ul]
 try dsimp only
 refine bG.n<|aV.n<|sr<|RT.fY .none (s:=.row _) Y Y Y T<|an (s:=.row _) Y<|dn<|gP (i:=302) (E1:=43) (n:=4) (e:=(fQ N)) (l:=me) hN (λ_ h=>h) Y<|bf ?_;obtain rfl:=O Ui;exact R1 Y
theorem Ef{x0:Qr}{x1:Qr}{c0:Qr}{r:Qr}(h:mX x0 x1 c0=some r):Lz ah 131 [.agg (eQ x0),.agg (eQ x1)] 43 (eQ c0) (.any) (eQ r):=by
 obtain⟨⟨bp,bt⟩,⟨bC,bF⟩⟩:=x0;obtain⟨⟨cE,cD⟩,⟨gE,gG⟩⟩:=x1;obtain⟨⟨Mz,MA⟩,⟨MB,MC⟩⟩:=c0;refine AJ Tryz.func131 Y (af Y) (λec M β=>?_);unfold mX at h;refine sr<|bx Y<|bx Y<|dn<|qq ?_;refine bK h (λj3=>AS.cM 18 [(2,.ptr 1000 0),(3,.ptr 3 0),(4,.ptr 4 0),(12,aj j3)] [(4,⟨43,[aj cE,.sv (slc 1 (List.map aY cD)),aj gE,.sv (slc 1 (List.map aY gG))]⟩),(3,⟨43,[aj bp,.sv (slc 1 (List.map aY bt)),aj bC,.sv (slc 1 (List.map aY bF))]⟩),(1000,⟨43,[aj Mz,.sv (slc 1 (List.map aY MA)),aj MB,.sv (slc 1 (List.map aY MC))]⟩)] []) (λh=>?_) (λBk h=>?_);refine aW<|ld Y Y (.k4 Y Y Y Y)<|bE h λx6 h6 h=>cl (gx h6) ⟨Y,aq⟩<|lE h λx7 h7 h=>ne _ Y Y (HC (p:=x6) (q:=0) h7)<|mv Y<|bE h λRp D6 h=>?_;cases x7;obtain rfl:=O (F D6);exact ww<|ww<|ww<|pF Y<|dn<|⟨false,h,wR []⟩;refine gl Y Y (.k4 Y Y Y Y)<|bE (V D6) λdZ gM D6=>gc (gx gM) ⟨Y,aq⟩<|lE D6 λiJ pJ D6=>gq _ Y Y (HC (p:=dZ) (q:=0) pJ) ?_;obtain rfl:=O D6;exact pT Y<|dn<|⟨iJ,h,wR []⟩
 try dsimp only
 refine aV.n ?_;refine bK h (λj5=>AS.cM 18 [(2,.ptr 1000 0)] [(1000,⟨43,[aj j5.1,.sv (slc 1 (List.map aY j5.2.1)),aj j5.2.2.1,.sv (slc 1 (List.map aY j5.2.2.2))]⟩)] []) (λh=>?_) (λj5 h=>?_);cases Bk;exact fs<|⟨(Mz,MA,MB,MC),(F h),wR []⟩;refine cT<|bh mixed<|ld Y Y (.k4 Y Y Y Y)<|ld Y Y (.k4 Y Y Y Y)<|ld Y Y (.k4 Y Y Y Y) ?_;obtain⟨⟨⟨kF,kG⟩,⟨zh,zj⟩⟩,kL,h⟩:=bS (V h);refine cl (FX kL) ⟨Y,Y,aq⟩ ?_;obtain⟨⟨⟨kY,kZ⟩,⟨oq,ot⟩⟩,kU,h⟩:=bS h;refine cl (FV kU) ⟨Y,Y,aq⟩<|so Y Y Y ?_;refine RT.done ⟨by kernel_rfl,?_⟩;exact aV.n<|⟨(kY,kZ,oq,ot),h,wR []⟩;obtain⟨Dc,Dd,De,Df⟩:=j5
 try dsimp only
 obtain rfl:=O h;exact⟨.inl Y,gj .nil (λ_ _ _=>trivial),Y⟩
theorem Bt{x0:List Qr}{x1:List Qr}(N:Nat){r:List Qr}(h:mg x0 x1=some r):cK ah 50 N [slc 4 (List.map eQ x0),slc 4 (List.map eQ x1)] (nw N (slc 4 (List.map (fQ N) r))):=by
 refine bA Tryz.func50 Y (af Y) (λec M vs hN hvs=>?_);unfold mg at h;refine sr<|aI Y (bk (N:=N) (n:=4) (e:=(fQ N)))<|dn<|sr<|mv Y<|mv Y<|bE h λx7 h7 h=>RT.bM .none (Bs N h7) hN Y ⟨Y,Y,Y,aq⟩ T<|ag Y<|dn<|bf ?_;obtain rfl:=O h;exact R1 Y
theorem H7{x0:List Qr}{x1:List Qr}{r:List Qr}(h:mg x0 x1=some r):Pure ah 50 [slc 4 (List.map eQ x0),slc 4 (List.map eQ x1)] (slc 4 (List.map eQ r)):=dD (λN=>Bt N h) (λN=>KP)
theorem Eg{x0:Qr}{x1:List Qr}(N:Nat){r:List Qr}(h:jo x0 x1=some r):cK ah 40 N [.agg (eQ x0),slc 4 (List.map eQ x1)] (nw N (slc 4 (List.map (fQ N) r))):=by
 obtain⟨⟨bp,bt⟩,⟨bC,bF⟩⟩:=x0;refine bA Tryz.func40 Y (af Y) (λec M vs hN hvs=>?_);unfold jo at h;refine sr<|bx Y<|aI Y (bk (N:=N) (n:=4) (e:=(fQ N)))<|dn<|sr<|mv Y<|lE h λx9 h9 h=>ln Y h9<|bE h λdZ gM h=>RT.mM (n:=4) (e:=(fQ N)) .none Y Y T Y T (by rfl) (by decide) (by exact⟨au,bk,au,bk,aq⟩) gM<|an (s:=.row _) Y<|dn<|qq<|sr<|mv Y<|lE h λep gO h=>ln Y gO<|mv Y<|dn<|bE h λe8 Cu vD=>?_;refine bT (λ(jI:(List Qr))=>AS.cM 26 [(5,.row 10)] [] [(10,TR 43 4 (fQ N) jI)]) (λjI=>jI=e8) ?_ (λjI Cv=>?_);refine bj ?_;refine bU Cu (λs8=>AS.cM 26 [(2,.ptr 2 0),(5,.row 10),(11,.sv (slc 4 (List.map eQ x1))),(12,ai ep),(13,ai s8.1)] [(2,⟨43,[aj bp,.sv (slc 1 (List.map aY bt)),aj bC,.sv (slc 1 (List.map aY bF))]⟩)] [(10,TR 43 4 (fQ N) s8.2)]) (wR []) (λs8 y8 G8 h Cw Cx=>?_);obtain⟨mY,mZ⟩:=s8
 try dsimp only
 refine sr<|lE h λfE lN h=>ls _ Y Y lN<|dn<|qq ?_;cases fE;refine cF<|cc<|aV.x<|aV.x<|bG.x<|aV.n ?_;obtain rfl:=O (F h);exact⟨mZ,Cx _ Y,wR []⟩;refine cT<|bB<|aV.n<|qq<|bj<|sr<|mv Y ?_;obtain⟨⟨⟨kF,kG⟩,⟨zh,zj⟩⟩,kL,h⟩:=bS (V h);refine ix Y Y kL<|RT.iC (cs:=[_,_,_,_]) .none Y T Y Y<|al (cs:=[az false,nw N ax,az false,nw N ax]) (by exact⟨au,bk,au,bk,aq⟩) Y<|ag Y<|so Y Y Y<|dn<|aW<|mo (s:=.row _) Y<|mv Y<|ld Y Y (.k4 Y Y Y Y)<|ld Y Y (.k4 Y Y Y Y) ?_;obtain⟨⟨⟨m7,m8⟩,⟨m9,nc⟩⟩,oR,h⟩:=bS h;refine RT.bM .none (sM N oR) hN Y ⟨Y,Y,aq⟩ T<|bE h λlP vB h=>iR Y Y Y vB<|bE h λrP mU h=>sA ⟨⟨m7,m8⟩,⟨m9,nc⟩⟩ Y Y Y mU<|RT.done<|bG.n<|aV.n<|aW<|lE h λik nJ h=>ad _ Y Y nJ<|mv Y<|RT.done ?_;obtain rfl:=O h;exact aV.n ⟨(ik,rP),Cw _ Y,wR []⟩;subst Cv
 try dsimp only
 refine aV.n<|sr<|mo (s:=.row _) Y<|an (s:=.row _) Y<|dn<|gP (i:=10) (E1:=43) (n:=4) (e:=(fQ N)) (l:=jI) hN (λ_ h=>h) Y<|bf ?_;obtain rfl:=O vD;exact R1 Y
theorem xd{x0:Qr}{x1:List Qr}{r:List Qr}(h:jo x0 x1=some r):Pure ah 40 [.agg (eQ x0),slc 4 (List.map eQ x1)] (slc 4 (List.map eQ r)):=dD (λN=>Eg N h) (λN=>KP)
theorem qh{x0:Qr}{x1:List Qr}{x2:List Qr}(N:Nat){r:List Qr}(h:eD x0 x1 x2=some r):cK ah 96 N [.agg (eQ x0),slc 4 (List.map eQ x1),slc 4 (List.map eQ x2)] (nw N (slc 4 (List.map (fQ N) r))):=by
 obtain⟨⟨bp,bt⟩,⟨bC,bF⟩⟩:=x0;refine bA Tryz.func96 Y (af Y) (λec M vs hN hvs=>?_);unfold eD at h;refine sr<|bx Y<|aI Y (bk (N:=N) (n:=4) (e:=(fQ N)))<|dn ?_;refine cz (gY (i:=3) Y [az bp,slc 1 (List.map aY bt),az bC,slc 1 (List.map aY bF)] (.k4 Y Y Y Y) .any 0 [(3,.sv (ref [az bp,slc 1 (List.map aY bt),az bC,slc 1 (List.map aY bF)]))] (λ_ _ _=>trivial) (qG.h (l:=[az bp,slc 1 (List.map aY bt),az bC,slc 1 (List.map aY bF)])) ⟨@FT.ptr _ _ _ _ _ 3 0 Y,aq⟩)<|sr<|mv Y<|mv Y<|RT.xW (caps:=[_]) .none ⟨Y,aq⟩ T<|bE h λdZ gM h=>?_;refine RT.bM .none (xb N gM) hN Y ⟨Y,Y,Y,aq⟩ T<|ag Y<|dn<|bf ?_;obtain rfl:=O h;exact R1 Y
theorem qi{x0:Qr}{x1:List Qr}{x2:List Qr}{r:List Qr}(h:eD x0 x1 x2=some r):Pure ah 96 [.agg (eQ x0),slc 4 (List.map eQ x1),slc 4 (List.map eQ x2)] (slc 4 (List.map eQ r)):=dD (λN=>qh N h) (λN=>KP)
theorem vM{x0:List Qr}{x1:List Qr}{r:Qr}(h:jy x0 x1=some r):Pure ah 87 [slc 4 (List.map eQ x0),slc 4 (List.map eQ x1)] (.agg (eQ r)):=by
 refine bz Tryz.func87 Y (af Y) (λec M vs hvs=>?_);unfold jy at h;refine sr<|al (cs:=[az false,ax,az false,ax]) (by exact⟨au,aB,au,aB,aq⟩) Y<|dn<|sr<|al (cs:=[az false,ax,az false,ax]) (by exact⟨au,aB,au,aB,aq⟩) Y<|dn<|sr<|RT.makeFunc .none (.box Y (.nil)) T<|RT.alloc .none T Y Y<|RT.qJ (cells:=[_]) .none (s:=.fV _ _) Y Y Y T Y ?_;refine dn<|sr<|mv Y<|lE h λep gO h=>ln Y gO<|mv Y<|lE h λfE lN h=>ln Y lN<|lE h λeH iZ h=>RT.min .none _ Y Y T (HD (p:=ep) (q:=fE) iZ)<|ag Y<|dn<|qq<|qq<|bh mixed<|mv Y<|mv Y<|bE h λfC jY h=>RT.xT .none 0 eH Y Y ⟨_,Y⟩ T jY<|mv Y<|mv Y<|bE h λiE qb h=>RT.xT .none 0 eH Y Y ⟨_,Y⟩ T qb<|cl (nP fC iE) ⟨Y,Y,aq⟩ ?_;refine RT.done ⟨by kernel_rfl,?_⟩;refine aV.n<|bj<|bE h λe7 XA Pm=>?_;obtain⟨J2,XB,XC,XD⟩:=kE XA
 refine iy (nQ fC iE) (λ_ _ _ _ _=>trivial) Y (λk=>AS.cM 30 [(4,.ptr 4 0),(5,.ptr 5 0),(6,.ptr 6 0),(22,.sv (iT 165 [ref [slc 4 (List.map eQ fC)],ref [slc 4 (List.map eQ iE)]]))] [(6,⟨144,[.fV 131 [.box 5]]⟩),(5,⟨43,[aj ((J2 k).1),.sv (slc 1 (List.map aY (J2 k).2.1)),aj ((J2 k).2.2.1),.sv (slc 1 (List.map aY (J2 k).2.2.2))]⟩),(4,⟨43,[aj false,.sv ax,aj false,.sv ax]⟩)] []) [6,5,4] Y (λ_=>⟨Y,Y⟩) (qN Y) (λ_=>Y) (qO Y) (by(try dsimp only);rw[XB];(try dsimp only);exact dM id Y Y Y Y Y ⟨.ptr,.ptr,.ptr,.sv au,aq⟩ ⟨⟨_,Y,⟨.fV,aq⟩⟩,⟨_,Y,⟨.sv au,.sv au,.sv au,.sv au,aq⟩⟩,⟨_,Y,⟨.sv au,.sv au,.sv au,.sv au,aq⟩⟩,aq⟩ trivial (λ_ _=>Y)) (λk hk D hD=>?_) ?_;have h:=XC k hk;obtain⟨sk,J3⟩:∃q,J2 k=q:=⟨_,Y⟩;rw[J3]at h⊢;obtain⟨Bl,Bm,Bn,Bo⟩:=sk;dsimp only[AS.LC,rH]
 try dsimp only at h
 obtain⟨⟨⟨Rr,Rt⟩,⟨Ru,Rv⟩⟩,acG,h⟩:=bS h;rw[Option.some.inj acG];obtain⟨⟨⟨Rw,Rx⟩,⟨Ry,Rz⟩⟩,acH,h⟩:=bS h;rw[Option.some.inj acH];refine sr<|al (cs:=[az false,ax,az false,ax]) (by exact⟨au,aB,au,aB,aq⟩) Y<|so Y Y Y<|dn<|aW<|al (cs:=[az false,ax,az false,ax]) (by exact⟨au,aB,au,aB,aq⟩) Y<|so Y Y Y<|RT.done ?_;refine aV.n ⟨Y,?_⟩;dsimp only[AS.AN];refine bj<|aW<|RT.fY .none (s:=.fV _ _) Y Y Y T<|ld Y Y (.k4 Y Y Y Y)<|ld Y Y (.k4 Y Y Y Y) ?_;obtain⟨⟨⟨XX,XY⟩,⟨XZ,X0⟩⟩,vC,h⟩:=bS h;refine cB (Ef vC) 5 Y ⟨Y,Y,aq⟩<|RT.done<|bG.n ?_;replace h:=Option.some.inj h;refine⟨aq,Y,Y,?_⟩
 try dsimp only
 rw[<-h]
 try dsimp only
 exact wR [];rw[XD];obtain⟨Bl,Bm,Bn,Bo⟩:=e7
 try dsimp only
 refine bG.n<|aV.n<|sr<|ld Y Y (.k4 Y Y Y Y)<|so Y Y Y<|dn<|bf ?_;obtain rfl:=O Pm;exact RZ (.agg Y Y (.k4 Y Y Y Y) Y (.nil))
theorem sV{x0:List Qr}{x1:List Qr}{r:Int}(h:iL x0 x1=some r):Pure ah 88 [slc 4 (List.map eQ x0),slc 4 (List.map eQ x1)] (ay r):=by
 refine bz Tryz.func88 Y (af Y) (λec M vs hvs=>?_);unfold iL at h;refine sr<|al (cs:=[ay 0]) (by exact⟨au,aq⟩) Y<|dn<|qq<|sr<|mv Y<|mv Y<|cl (nP x0 x1) ⟨Y,Y,aq⟩<|dn<|bj<|bE h λe3 Tc Uo=>?_;obtain⟨m3,st3,ZO,ht3,hn3⟩:=C3 Tc;refine pI (nQ x0 x1) (λ_ _ _ _ _=>trivial) Y (λk=>AS.cM 19 [(4,.ptr 4 0),(10,.sv (iT 165 [ref [slc 4 (List.map eQ x0)],ref [slc 4 (List.map eQ x1)]]))] [(4,⟨3,[ai 0]⟩)] []) [4] Y (λ_=>⟨Y,Y⟩) (qN Y) (λ_=>Y) (qO Y) (by(try dsimp only);(try dsimp only);exact dM id Y Y Y Y Y ⟨.ptr,.sv au,aq⟩ ⟨⟨_,Y,⟨.sv au,aq⟩⟩,aq⟩ trivial (λ_ _=>Y)) m3 (λk hk hkm D hD=>?_) (λhdn=>?_);obtain⟨y3,h,hG3,hE3⟩:=ht3 k hk hkm;dsimp only[AS.LC,rH]
 try dsimp only at h
 obtain⟨⟨⟨Gh,Gi⟩,⟨Gj,Gk⟩⟩,Up,h⟩:=bS h;rw[Option.some.inj Up];obtain⟨⟨⟨RA,RB⟩,⟨RC,RE⟩⟩,acN,h⟩:=bS h;rw[Option.some.inj acN];refine sr<|al (cs:=[az false,ax,az false,ax]) (by exact⟨au,aB,au,aB,aq⟩) Y<|so Y Y Y<|dn<|aW<|al (cs:=[az false,ax,az false,ax]) (by exact⟨au,aB,au,aB,aq⟩) Y<|so Y Y Y<|RT.done ?_;refine aV.n ⟨Y,?_⟩;dsimp only[AS.AN];refine bj<|sr<|ld Y Y (.k4 Y Y Y Y)<|ld Y Y (.k4 Y Y Y Y)<|bE h λeH iZ h=>cl (F2 iZ) ⟨Y,Y,aq⟩<|ag Y<|dn<|sr<|mv Y<|lE h λfJ kU h=>ne _ Y Y (HC (p:=eH) (q:=0) kU)<|dn ?_;cases fJ;refine cF<|bB<|bG.n ?_;obtain rfl:=O (F h);obtain⟨hm3,hq3⟩:=hG3 _ Y;exact⟨hm3,Y,Y,wR []⟩;refine cT<|sr<|mv Y<|RT.qJ (cells:=[_]) .none (s:=.sv _) Y Y Y T Y<|dn<|bf<|bG.r ?_;obtain rfl:=O (V h);have he3:=hE3 _ Y;subst he3;refine⟨Y,Y,?_⟩;refine bG.r<|aV.r ?_;obtain rfl:=O Uo;exact RZ (.one Y Y Y (.nil));have hd3:=hn3 hdn;subst hd3;obtain⟨ee3,Uq⟩:∃q,st3 (max x0.length x1.length)=q:=⟨_,Y⟩;rw[Uq]at Uo
 try dsimp only
 refine bG.n<|aV.n<|sr<|RT.qJ (cells:=[_]) .none (s:=.sv _) Y Y Y T Y<|dn<|bf ?_;obtain rfl:=O Uo;exact RZ (.one Y Y Y (.nil))
theorem Gl{x0:List Qr}{r:Int}(h:ou x0=some r):Pure ah 91 [slc 4 (List.map eQ x0)] (ay r):=by
 refine bz Tryz.func91 Y (af Y) (λec M vs hvs=>?_);unfold ou at h;refine sr<|ag Y<|dn<|sr<|mv Y<|bE h λx4 h4 h=>cl ((sV h4).w (args':=[_,_]) ⟨au,aB,aq⟩) ⟨Y,Y,aq⟩<|ag Y<|dn<|bf ?_;obtain rfl:=O h;exact R1 Y
theorem fF{x0:List Qr}{x1:List Qr}{r:Bool}(h:dH x0 x1=some r):Pure ah 37 [slc 4 (List.map eQ x0),slc 4 (List.map eQ x1)] (az r):=by
 refine bz Tryz.func37 Y (af Y) (λec M vs hvs=>?_);unfold dH at h;refine sr<|ag Y<|dn<|sr<|mv Y<|mv Y<|bE h λx7 h7 h=>cl (sV h7) ⟨Y,Y,aq⟩<|lE h λx8 h8 h=>eq _ Y Y (xI (p:=x7) (q:=0) h8)<|ag Y<|dn<|bf ?_;obtain rfl:=O h;exact R1 Y
theorem uV{x0:List Qr}{x1:Int}(N:Nat){r:List Qr}(h:gy x0 x1=some r):cK ah 47 N [slc 4 (List.map eQ x0),ay x1] (nw N (slc 4 (List.map (fQ N) r))):=by
 refine bA Tryz.func47 Y (af Y) (λec M vs hN hvs=>?_);unfold gy at h;refine sr<|aI Y (bk (N:=N) (n:=4) (e:=(fQ N)))<|dn<|qq<|sr<|mv Y<|lE h λx8 h8 h=>ls _ Y Y h8<|dn ?_;cases x8;refine fs<|sr<|mv Y<|lE (F h) λdZ gM h=>RT.min .none _ Y Y T (HD (p:=x1) (q:=65536) gM)<|bE h λiJ pJ h=>RT.mM (n:=4) (e:=(fQ N)) .none Y Y T Y T (by rfl) (by decide) (by exact⟨au,bk,au,bk,aq⟩) pJ<|an (s:=.row _) Y<|dn<|qq<|sr<|mv Y<|lE h λgh jJ h=>ln Y jJ<|mo (s:=.row _) Y<|lE h λeH iZ h=>lL Y Y iZ<|lE h λgN kL h=>?_;refine RT.min .none _ Y Y T (HD (p:=gh) (q:=eH) kL)<|mv Y<|dn<|bE h λe8 Cu vD=>?_;refine bT (λ(pg:(List Qr))=>AS.cM 30 [(5,.row 11)] [] [(11,TR 43 4 (fQ N) pg)]) (λpg=>pg=e8) ?_ (λpg Cv=>?_);refine bj ?_;refine bU Cu (λs8=>AS.cM 30 [(0,.sv (slc 4 (List.map eQ x0))),(5,.row 11),(16,ai gN),(17,ai s8.1)] [] [(11,TR 43 4 (fQ N) s8.2)]) (wR []) (λs8 y8 G8 h Cw Cx=>?_);obtain⟨sP,sQ⟩:=s8
 try dsimp only
 refine sr<|lE h λfC jY h=>ls _ Y Y jY<|dn<|qq ?_;cases fC;refine cF<|cc<|aV.x<|aV.x<|bG.x<|aV.n ?_;obtain rfl:=O (F h);exact⟨sQ,Cx _ Y,wR []⟩;refine cT<|bB<|aV.n<|qq<|bj<|sr<|mv Y<|ag Y<|dn<|aW<|mo (s:=.row _) Y<|mv Y<|mv Y<|mv Y ?_;obtain⟨⟨⟨qc,qe⟩,⟨qf,qg⟩⟩,nJ,h⟩:=bS (V h);refine ix Y Y nJ<|RT.iC (cs:=[_,_,_,_]) .none Y T Y Y ?_;obtain⟨⟨⟨uR,uS⟩,⟨uT,uU⟩⟩,uc,h⟩:=bS h;refine RT.bM .none (iX N uc) hN Y ⟨Y,aq⟩ T<|bE h λlQ rJ h=>iR Y Y Y rJ<|bE h λrP mU h=>sA ⟨⟨uR,uS⟩,⟨uT,uU⟩⟩ Y Y Y mU<|RT.done<|bG.n<|aV.n<|aW<|lE h λnq vC h=>ad _ Y Y vC<|mv Y<|RT.done ?_;obtain rfl:=O h;exact aV.n ⟨(nq,rP),Cw _ Y,wR []⟩;subst Cv
 try dsimp only
 refine aV.n<|sr<|mo (s:=.row _) Y<|an (s:=.row _) Y<|dn<|gP (i:=11) (E1:=43) (n:=4) (e:=(fQ N)) (l:=pg) hN (λ_ h=>h) Y<|bf ?_;obtain rfl:=O vD;exact R1 Y;refine cT<|sr<|aI Y (bk (N:=N) (n:=4) (e:=(fQ N)))<|dn<|bf<|aV.r ?_;obtain rfl:=O (V h);exact R1 Y
theorem uW{x0:List Qr}{x1:Int}{r:List Qr}(h:gy x0 x1=some r):Pure ah 47 [slc 4 (List.map eQ x0),ay x1] (slc 4 (List.map eQ r)):=dD (λN=>uV N h) (λN=>KP)
theorem Bu{x0:List Qr}{x1:Int}{r:List Qr}(h:mD x0 x1=some r):DH ah 47 [slc 4 (List.map eQ x0),ay x1] (TR 43 4 eQ r):=by
 refine nZ Tryz.func47 Y (af Y) (λec M vs hvs=>?_);unfold mD at h;refine sr<|ag Y<|dn<|cz (jd 4 304 43 4 Y Y T)<|qq<|sr<|mv Y<|lE h λx8 h8 h=>ls _ Y Y h8<|dn ?_;cases x8;refine fs<|sr<|mv Y<|lE (F h) λdZ gM h=>RT.min .none _ Y Y T (HD (p:=x1) (q:=65536) gM)<|bE h λiJ pJ h=>RT.mM (n:=4) (e:=eQ) .none Y Y T Y T (by rfl) (by decide) (by exact⟨au,aB,au,aB,aq⟩) pJ<|an (s:=.row _) Y<|dn<|qq<|sr<|mv Y<|lE h λgh jJ h=>ln Y jJ<|mo (s:=.row _) Y<|lE h λeH iZ h=>lL Y Y iZ<|lE h λgN kL h=>?_;refine RT.min .none _ Y Y T (HD (p:=gh) (q:=eH) kL)<|mv Y<|dn<|bE h λe8 Cu vD=>?_;refine bT (λ(pg:(List Qr))=>AS.cM 30 [(5,.row 11)] [] [(11,TR 43 4 eQ pg)]) (λpg=>pg=e8) ?_ (λpg Cv=>?_);refine bj ?_;refine bU Cu (λs8=>AS.cM 30 [(0,.sv (slc 4 (List.map eQ x0))),(5,.row 11),(16,ai gN),(17,ai s8.1)] [] [(11,TR 43 4 eQ s8.2)]) (wR []) (λs8 y8 G8 h Cw Cx=>?_);obtain⟨sP,sQ⟩:=s8
 try dsimp only
 refine sr<|lE h λfC jY h=>ls _ Y Y jY<|dn<|qq ?_;cases fC;refine cF<|cc<|aV.x<|aV.x<|bG.x<|aV.n ?_;obtain rfl:=O (F h);exact⟨sQ,Cx _ Y,wR []⟩;refine cT<|bB<|aV.n<|qq<|bj<|sr<|mv Y<|ag Y<|dn<|aW<|mo (s:=.row _) Y<|mv Y<|mv Y<|mv Y ?_;obtain⟨⟨⟨qc,qe⟩,⟨qf,qg⟩⟩,nJ,h⟩:=bS (V h);refine ix Y Y nJ<|RT.iC (cs:=[_,_,_,_]) .none Y T Y Y ?_;obtain⟨⟨⟨uR,uS⟩,⟨uT,uU⟩⟩,uc,h⟩:=bS h;refine cl (k7 uc) ⟨Y,aq⟩<|bE h λlQ rJ h=>iR Y Y Y rJ<|bE h λrP mU h=>sA ⟨⟨uR,uS⟩,⟨uT,uU⟩⟩ Y Y Y mU<|RT.done<|bG.n<|aV.n<|aW<|lE h λnq vC h=>ad _ Y Y vC<|mv Y<|RT.done ?_;obtain rfl:=O h;exact aV.n ⟨(nq,rP),Cw _ Y,wR []⟩;subst Cv
 try dsimp only
 refine aV.n<|sr<|mo (s:=.row _) Y<|an (s:=.row _) Y<|dn<|bf ?_;obtain rfl:=O vD;exact⟨.inr Y,_,.tmp Y,Y⟩;refine cT<|sr<|ag Y<|dn<|cz (jd 4 310 43 4 Y Y T)<|bf<|aV.r ?_;obtain rfl:=O (V h);exact⟨.inr Y,_,.tmp Y,Y⟩
theorem dR{x0:List Int}{r:List Qr}(h:cX x0=some r):Pure ah 54 [slc 1 (List.map cO x0)] (slc 4 (List.map eQ r)):=by
 refine bz Tryz.func54 Y (af Y) (λec M vs hvs=>?_);unfold cX at h;refine sr<|aI Y (aB (n:=4) (e:=eQ))<|dn<|sr<|mv Y<|lE h λx7 h7 h=>ln Y h7<|bE h λx8 h8 h=>RT.mM (n:=4) (e:=eQ) .none Y Y T Y T (by rfl) (by decide) (by exact⟨au,aB,au,aB,aq⟩) h8<|an (s:=.row _) Y<|dn<|qq<|sr<|mv Y<|lE h λdZ gM h=>ln Y gM<|mv Y<|dn<|bE h λe8 Cu vD=>?_;refine bT (λ(vK:(List Qr))=>AS.cM 23 [(3,.row 8)] [] [(8,TR 43 4 eQ vK)]) (λvK=>vK=e8) ?_ (λvK Cv=>?_);refine bj ?_;refine bU Cu (λs8=>AS.cM 23 [(3,.row 8),(9,.sv (slc 1 (List.map cO x0))),(10,ai dZ),(11,ai s8.1)] [] [(8,TR 43 4 eQ s8.2)]) (wR []) (λs8 y8 G8 h Cw Cx=>?_);obtain⟨sS,Bp⟩:=s8
 try dsimp only
 refine sr<|lE h λep gO h=>ls _ Y Y gO<|dn<|qq ?_;cases ep;refine cF<|cc<|aV.x<|aV.x<|bG.x<|aV.n ?_;obtain rfl:=O (F h);exact⟨Bp,Cx _ Y,wR []⟩;refine cT<|bB<|aV.n<|qq<|bj<|sr<|mv Y<|bE (V h) λfE lN h=>ix Y Y lN<|lr Y Y<|ag Y<|ag Y<|dn<|aW<|mo (s:=.row _) Y<|mv Y<|mv Y ?_;obtain⟨⟨⟨nK,nL⟩,⟨Bq,Br⟩⟩,oa,h⟩:=bS h;refine cl (gw oa) ⟨Y,aq⟩<|bE h λiU pK h=>iR Y Y Y pK<|bE h λrP mU h=>sA ⟨⟨nK,nL⟩,⟨Bq,Br⟩⟩ Y Y Y mU<|RT.done<|bG.n<|aV.n<|aW<|lE h λiE qb h=>ad _ Y Y qb<|mv Y<|RT.done ?_;obtain rfl:=O h;exact aV.n ⟨(iE,rP),Cw _ Y,wR []⟩;subst Cv
 try dsimp only
 refine aV.n<|sr<|mo (s:=.row _) Y<|an (s:=.row _) Y<|dn<|cz (l7 (i:=8) (E1:=43) (n:=4) (e:=eQ) (l:=vK) Y)<|bf ?_;obtain rfl:=O vD;exact R1 Y
end
section
open Go.Fw
noncomputable def qj(x0:List (List Qr))(x1:Int):Option (List Qr):=cQ (λ(Bk:Bool)=>(bif Bk then some []else(cW x0 x1).bind λeH=>some eH)) λK3=>(some (decide ((x1:Int)<0))).bind λx6=>(bif x6 then some true else(some (x0.length:Int)).bind λdZ=>(some (decide ((dZ:Int)<=x1))).bind λiJ=>some iJ).bind λRF=>K3 RF
noncomputable def kq(x0:List (List Qr)):Option (Int):=(some (x0.length:Int)).bind λx7=>(cu (λ(s6:Int×Int)=>match s6 with|⟨pM,Po⟩=>(show Option ((Int×Int)⊕(Int))from(some (decide ((Po:Int)<x7))).bind λx9=>(bif x9 then(cW x0 Po).bind λdZ=>(some (dZ.length:Int)).bind λfE=>(some (max (pM:Int) fE)).bind λeH=>(some (IntKind.i64.wrap (Po+1))).bind λgN=>some (.inl (eH,gN))else some (.inr pM)))) (0,0)).bind λyx=>some yx
noncomputable def sW(x0:List (List Qr))(x1:Int)(x2:Int):Option (Qr):=(qj x0 x1).bind λdZ=>cQ (λ(ME:Bool)=>(bif ME then some ⟨⟨false,[]⟩,⟨false,[]⟩⟩else(cW dZ x2).bind λ⟨⟨m7,m8⟩,⟨m9,nc⟩⟩=>(cH ⟨⟨m7,m8⟩,⟨m9,nc⟩⟩).bind λ⟨⟨qc,qe⟩,⟨qf,qg⟩⟩=>some ⟨⟨qc,qe⟩,⟨qf,qg⟩⟩)) λK3=>(some (decide ((x2:Int)<0))).bind λep=>(bif ep then some true else(some (dZ.length:Int)).bind λgN=>(some (decide ((gN:Int)<=x2))).bind λfJ=>some fJ).bind λRG=>K3 RG
noncomputable def jz(x0:List (List Qr))(x1:List Qr):Option (List Qr):=(some (x0.length:Int)).bind λx9=>(z2 64 x9 (⟨⟨false,[]⟩,⟨false,[]⟩⟩:Qr)).bind λdZ=>(some (x0.length:Int)).bind λep=>(cu (λ(s8:Int×(List Qr))=>match s8 with|⟨mY,mZ⟩=>(show Option ((Int×(List Qr))⊕((List Qr)))from(some (decide ((mY:Int)<ep))).bind λfE=>(bif fE then(cW x0 mY).bind λgN=>(jy gN x1).bind λ⟨⟨m7,m8⟩,⟨m9,nc⟩⟩=>(oP mZ mY).bind λlP=>(stM mZ lP ⟨⟨m7,m8⟩,⟨m9,nc⟩⟩).bind λrP=>(some (IntKind.i64.wrap (mY+1))).bind λik=>some (.inl (ik,rP))else some (.inr mZ)))) (0,dZ)).bind λjI=>some jI
noncomputable def ia(x0:List (List Int)):Option (List (List Qr)):=(some (x0.length:Int)).bind λx7=>(z2 24 x7 ([]:List Qr)).bind λx8=>(some (x0.length:Int)).bind λdZ=>(cu (λ(s8:Int×(List (List Qr)))=>match s8 with|⟨sS,Bp⟩=>(show Option ((Int×(List (List Qr)))⊕((List (List Qr))))from(some (decide ((sS:Int)<dZ))).bind λep=>(bif ep then(cW x0 sS).bind λfE=>(cX fE).bind λmN=>(oP Bp sS).bind λiU=>(stM Bp iU mN).bind λrP=>(some (IntKind.i64.wrap (sS+1))).bind λiE=>some (.inl (iE,rP))else some (.inr Bp)))) (0,x8)).bind λvK=>some vK
noncomputable def pN(x0:List (List Qr))(x1:List Qr):Option (List Qr):=(some (x0.length:Int)).bind λx9=>(z2 64 x9 (⟨⟨false,[]⟩,⟨false,[]⟩⟩:Qr)).bind λdZ=>(some (x0.length:Int)).bind λep=>(cu (λ(s8:Int×(List Qr))=>match s8 with|⟨mY,mZ⟩=>(show Option ((Int×(List Qr))⊕((List Qr)))from(some (decide ((mY:Int)<ep))).bind λfE=>(bif fE then(cW x0 mY).bind λgN=>(jy gN x1).bind λ⟨⟨m7,m8⟩,⟨m9,nc⟩⟩=>(oP mZ mY).bind λlP=>(stM mZ lP ⟨⟨m7,m8⟩,⟨m9,nc⟩⟩).bind λrP=>(some (IntKind.i64.wrap (mY+1))).bind λik=>some (.inl (ik,rP))else some (.inr mZ)))) (0,dZ)).bind λjI=>some jI
noncomputable def jA(x0:List Qr)(x1:List (List Qr)):Option (List Qr):=(kq x1).bind λx9=>(z2 64 x9 (⟨⟨false,[]⟩,⟨false,[]⟩⟩:Qr)).bind λdZ=>(some (x1.length:Int)).bind λgh=>(some (x0.length:Int)).bind λeH=>(some (min (gh:Int) eH)).bind λgN=>(wH x1 0 gN).bind λfJ=>(some (fJ.length:Int)).bind λfC=>(cu (λ(yZ:(List Qr)×Int)=>match yZ with|⟨ye,Bv⟩=>(show Option (((List Qr)×Int)⊕((List Qr)))from(some (decide ((Bv:Int)<fC))).bind λiU=>(bif iU then(cW fJ Bv).bind λjH=>(cW x0 Bv).bind λ⟨⟨uR,uS⟩,⟨uT,uU⟩⟩=>(eC ⟨⟨uR,uS⟩,⟨uT,uU⟩⟩).bind λnq=>(some (decide ((nq:Int)≠0))).bind λiK=>cQ (λ(MF:(List Qr))=>(some (IntKind.i64.wrap (Bv+1))).bind λuN=>some (.inl (MF,uN))) λK12=>(bif iK then(cW x0 Bv).bind λ⟨⟨nH,mP⟩,⟨o8,o9⟩⟩=>(eD ⟨⟨nH,mP⟩,⟨o8,o9⟩⟩ jH ye).bind λpR=>K12 pR else K12 ye)else some (.inr ye)))) (dZ,0)).bind λKe=>some Ke
end
section
open Go.Fw Go.Fw.Z Go.RowKit
theorem H8{x0:List (List Qr)}{x1:Int}{r:List Qr}(h:qj x0 x1=some r):Pure ah 139 [slc 1 (List.map (eS 4 eQ) x0),.v (.int .i64 x1)] (slc 4 (List.map eQ r)):=by
 refine bz Tryz.func139 Y (af Y) (λec M vs hvs=>?_);unfold qj at h;refine sr<|aI Y (aB (n:=4) (e:=eQ))<|dn<|qq<|qq ?_;refine bK h (λj3=>AS.cM 17 [(0,.sv (slc 1 (List.map (eS 4 eQ) x0))),(1,.sv (.v (.int .i64 x1))),(12,.sv (.v (.bool j3)))] [] []) (λh=>?_) (λBk h=>?_);refine aW<|mv Y<|lE h λx6 h6 h=>ls _ Y Y h6<|mv Y<|bE h λRF rK h=>?_;cases x6;refine gm Y<|gm Y<|lE (F rK) λdZ gM rK=>gn Y gM<|lE rK λiJ pJ rK=>RT.geq (.some Y Y) _ Y Y T pJ ?_;obtain rfl:=O rK;exact pF Y<|dn<|⟨iJ,h,wR []⟩;obtain rfl:=O (V rK);exact ww<|ww<|ww<|ww<|pT Y<|dn<|⟨true,h,wR []⟩
 try dsimp only
 refine aV.n ?_;cases Bk;refine fs<|sr<|mv Y<|mv Y<|bE (F h) λeH iZ h=>ix Y Y iZ<|lr Y Y<|ag Y<|dn<|bf ?_;obtain rfl:=O h;exact R1 Y;refine cT<|sr<|aI Y (aB (n:=4) (e:=eQ))<|dn<|bf<|aV.r ?_;obtain rfl:=O (V h);exact R1 Y
theorem sX{x0:List (List Qr)}{r:Int}(h:kq x0=some r):Pure ah 84 [slc 1 (List.map (eS 4 eQ) x0)] (.v (.int .i64 r)):=by
 refine bz Tryz.func84 Y (af Y) (λec M vs hvs=>?_);unfold kq at h;refine sr<|ag Y<|dn<|sr<|ag Y<|dn<|qq<|sr<|mv Y<|lE h λx7 h7 h=>ln Y h7<|mv Y<|dn<|bE h λe6 DW nu=>?_;refine bT (λ(yx:Int)=>AS.cM 18 [(3,.sv (.v (.int .i64 yx)))] [] []) (λyx=>yx=e6) ?_ (λyx DY=>?_);refine bj ?_;refine bU DW (λs6=>AS.cM 18 [(3,.sv (.v (.int .i64 s6.1))),(6,.sv (slc 1 (List.map (eS 4 eQ) x0))),(7,.sv (.v (.int .i64 x7))),(8,.sv (.v (.int .i64 s6.2)))] [] []) (wR []) (λs6 y6 G6 h DZ zD=>?_);obtain⟨pM,Po⟩:=s6
 try dsimp only
 refine sr<|lE h λx9 h9 h=>ls _ Y Y h9<|dn<|qq ?_;cases x9;refine cF<|cc<|aV.x<|aV.x<|bG.x<|aV.n ?_;obtain rfl:=O (F h);exact⟨pM,zD _ Y,wR []⟩;refine cT<|bB<|aV.n<|qq<|bj<|sr<|bE (V h) λdZ gM h=>ix Y Y gM<|lr Y Y<|ag Y<|dn<|aW<|mv Y<|mv Y<|lE h λfE lN h=>ln Y lN<|lE h λeH iZ h=>RT.max .none _ Y Y T (LL (p:=pM) (q:=fE) iZ)<|ag Y<|RT.done<|bG.n<|aV.n<|aW<|lE h λgN kL h=>ad _ Y Y kL<|mv Y<|RT.done ?_;obtain rfl:=O h;exact aV.n ⟨(eH,gN),DZ _ Y,wR []⟩;subst DY
 try dsimp only
 refine aV.n<|sr<|mv Y<|ag Y<|dn<|bf ?_;obtain rfl:=O nu;exact R1 Y
theorem Kf{x0:List (List Qr)}{x1:Int}{x2:Int}{r:Qr}(h:sW x0 x1 x2=some r):Pure ah 103 [slc 1 (List.map (eS 4 eQ) x0),.v (.int .i64 x1),.v (.int .i64 x2)] (.agg (eQ r)):=by
 refine bz Tryz.func103 Y (af Y) (λec M vs hvs=>?_);unfold sW at h;refine sr<|al (cs:=[.v (.bool false),slc 1 (List.map aY []),.v (.bool false),slc 1 (List.map aY [])]) (by exact⟨au,aB,au,aB,aq⟩) Y<|dn<|sr<|mv Y<|mv Y<|bE h λdZ gM h=>cl (H8 gM) ⟨Y,Y,aq⟩<|ag Y<|dn<|qq<|qq ?_;refine bK h (λj3=>AS.cM 25 [(2,.sv (.v (.int .i64 x2))),(6,.ptr 6 0),(7,.sv (slc 4 (List.map eQ dZ))),(18,.sv (.v (.bool j3)))] [(6,⟨43,[.sv (.v (.bool false)),.sv (slc 1 (List.map aY [])),.sv (.v (.bool false)),.sv (slc 1 (List.map aY []))]⟩)] []) (λh=>?_) (λME h=>?_);refine aW<|mv Y<|lE h λep gO h=>ls _ Y Y gO<|mv Y<|bE h λRG rK h=>?_;cases ep;refine gm Y<|gm Y<|lE (F rK) λgN kL rK=>gn Y kL<|lE rK λfJ kU rK=>RT.geq (.some Y Y) _ Y Y T kU ?_;obtain rfl:=O rK;exact pF Y<|dn<|⟨fJ,h,wR []⟩;obtain rfl:=O (V rK);exact ww<|ww<|ww<|ww<|pT Y<|dn<|⟨true,h,wR []⟩
 try dsimp only
 refine aV.n ?_;cases ME;refine fs<|sr<|mv Y<|mv Y ?_;obtain⟨⟨⟨m7,m8⟩,⟨m9,nc⟩⟩,oR,h⟩:=bS (F h);refine ix Y Y oR<|RT.iC (cs:=[_,_,_,_]) .none Y T Y Y ?_;obtain⟨⟨⟨qc,qe⟩,⟨qf,qg⟩⟩,nJ,h⟩:=bS h;refine cl (k7 nJ) ⟨Y,aq⟩<|so Y Y Y<|dn<|bf ?_;obtain rfl:=O h;exact RZ (.agg Y Y (.cons Y (.cons Y (.cons Y (.cons Y (.nil))))) Y (.nil));refine cT<|sr<|bI (cs:=[_,_,_,_]) (cs':=[.v (.bool false),slc 1 (List.map aY []),.v (.bool false),slc 1 (List.map aY [])]) (.nil) ⟨au,aB,au,aB,aq⟩<|so Y Y Y<|dn<|bf<|aV.r ?_;obtain rfl:=O (V h);exact RZ (.agg Y Y (.cons Y (.cons Y (.cons Y (.cons Y (.nil))))) Y (.nil))
theorem CB{x0:List (List Qr)}{x1:List Qr}{r:List Qr}(h:jz x0 x1=some r):Pure ah 49 [slc 1 (List.map (eS 4 eQ) x0),slc 4 (List.map eQ x1)] (slc 4 (List.map eQ r)):=by
 refine bz Tryz.func49 Y (af Y) (λec M vs hvs=>?_);unfold jz at h;refine sr<|aI Y (aB (n:=4) (e:=eQ))<|dn<|sr<|mv Y<|lE h λx9 h9 h=>ln Y h9<|bE h λdZ gM h=>RT.mM (n:=4) (e:=eQ) .none Y Y T Y T (by rfl) (by decide) (by exact⟨au,aB,au,aB,aq⟩) gM<|an (s:=.row _) Y<|dn<|qq<|sr<|mv Y<|lE h λep gO h=>ln Y gO<|mv Y<|dn<|bE h λe8 Cu vD=>?_;refine bT (λ(jI:(List Qr))=>AS.cM 26 [(5,.row 10)] [] [(10,TR 43 4 eQ jI)]) (λjI=>jI=e8) ?_ (λjI Cv=>?_);refine bj ?_;refine bU Cu (λs8=>AS.cM 26 [(1,.sv (slc 4 (List.map eQ x1))),(5,.row 10),(11,.sv (slc 1 (List.map (eS 4 eQ) x0))),(12,.sv (.v (.int .i64 ep))),(13,.sv (.v (.int .i64 s8.1)))] [] [(10,TR 43 4 eQ s8.2)]) (wR []) (λs8 y8 G8 h Cw Cx=>?_);obtain⟨mY,mZ⟩:=s8
 try dsimp only
 refine sr<|lE h λfE lN h=>ls _ Y Y lN<|dn<|qq ?_;cases fE;refine cF<|cc<|aV.x<|aV.x<|bG.x<|aV.n ?_;obtain rfl:=O (F h);exact⟨mZ,Cx _ Y,wR []⟩;refine cT<|bB<|aV.n<|qq<|bj<|sr<|mv Y<|bE (V h) λgN kL h=>ix Y Y kL<|lr Y Y<|ag Y<|ag Y<|dn<|aW<|mo (s:=.row _) Y<|mv Y<|mv Y<|mv Y ?_;obtain⟨⟨⟨m7,m8⟩,⟨m9,nc⟩⟩,oR,h⟩:=bS h;refine cl (vM oR) ⟨Y,Y,aq⟩<|bE h λlP vB h=>iR Y Y Y vB<|bE h λrP mU h=>sA ⟨⟨m7,m8⟩,⟨m9,nc⟩⟩ Y Y Y mU<|RT.done<|bG.n<|aV.n<|aW<|lE h λik nJ h=>ad _ Y Y nJ<|mv Y<|RT.done ?_;obtain rfl:=O h;exact aV.n ⟨(ik,rP),Cw _ Y,wR []⟩;subst Cv
 try dsimp only
 refine aV.n<|sr<|mo (s:=.row _) Y<|an (s:=.row _) Y<|dn<|cz (l7 (i:=10) (E1:=43) (n:=4) (e:=eQ) (l:=jI) Y)<|bf ?_;obtain rfl:=O vD;exact R1 Y
theorem rM{x0:List (List Int)}{r:List (List Qr)}(h:ia x0=some r):Pure ah 100 [slc 1 (List.map (eS 1 cO) x0)] (slc 1 (List.map (eS 4 eQ) r)):=by
 refine bz Tryz.func100 Y (af Y) (λec M vs hvs=>?_);unfold ia at h;refine sr<|aI Y (aB (n:=1) (e:=(eS 4 eQ)))<|dn<|sr<|mv Y<|lE h λx7 h7 h=>ln Y h7<|bE h λx8 h8 h=>RT.mM (n:=1) (e:=(eS 4 eQ)) .none Y Y T Y T (by rfl) (by decide) (by exact⟨aB,aq⟩) h8<|an (s:=.row _) Y<|dn<|qq<|sr<|mv Y<|lE h λdZ gM h=>ln Y gM<|mv Y<|dn<|bE h λe8 Cu vD=>?_;refine bT (λ(vK:(List (List Qr)))=>AS.cM 23 [(3,.row 8)] [] [(8,TR 23 1 (eS 4 eQ) vK)]) (λvK=>vK=e8) ?_ (λvK Cv=>?_);refine bj ?_;refine bU Cu (λs8=>AS.cM 23 [(3,.row 8),(9,.sv (slc 1 (List.map (eS 1 cO) x0))),(10,.sv (.v (.int .i64 dZ))),(11,.sv (.v (.int .i64 s8.1)))] [] [(8,TR 23 1 (eS 4 eQ) s8.2)]) (wR []) (λs8 y8 G8 h Cw Cx=>?_);obtain⟨sS,Bp⟩:=s8
 try dsimp only
 refine sr<|lE h λep gO h=>ls _ Y Y gO<|dn<|qq ?_;cases ep;refine cF<|cc<|aV.x<|aV.x<|bG.x<|aV.n ?_;obtain rfl:=O (F h);exact⟨Bp,Cx _ Y,wR []⟩;refine cT<|bB<|aV.n<|qq<|bj<|sr<|mv Y<|bE (V h) λfE lN h=>ix Y Y lN<|lr Y Y<|ag Y<|ag Y<|dn<|aW<|mo (s:=.row _) Y<|mv Y<|mv Y<|bE h λmN oa h=>cl (dR oa) ⟨Y,aq⟩<|bE h λiU pK h=>iR Y Y Y pK<|bE h λrP mU h=>sR mN Y Y Y Y mU<|RT.done<|bG.n<|aV.n<|aW<|lE h λiE qb h=>ad _ Y Y qb ?_;refine mv Y<|RT.done ?_;obtain rfl:=O h;exact aV.n ⟨(iE,rP),Cw _ Y,wR []⟩;subst Cv
 try dsimp only
 refine aV.n<|sr<|mo (s:=.row _) Y<|an (s:=.row _) Y<|dn<|cz (l7 (i:=8) (E1:=23) (n:=1) (e:=(eS 4 eQ)) (l:=vK) Y)<|bf ?_;obtain rfl:=O vD;exact R1 Y
theorem Bw{x0:List (List Qr)}{x1:List Qr}{r:List Qr}(h:pN x0 x1=some r):DH ah 49 [slc 1 (List.map (eS 4 eQ) x0),slc 4 (List.map eQ x1)] (TR 43 4 eQ r):=by
 refine nZ Tryz.func49 Y (af Y) (λec M vs hvs=>?_);unfold pN at h;refine sr<|ag Y<|dn<|cz (jd 4 304 43 4 Y Y T)<|sr<|mv Y<|lE h λx9 h9 h=>ln Y h9<|bE h λdZ gM h=>RT.mM (n:=4) (e:=eQ) .none Y Y T Y T (by rfl) (by decide) (by exact⟨au,aB,au,aB,aq⟩) gM<|an (s:=.row _) Y<|dn<|qq<|sr<|mv Y<|lE h λep gO h=>ln Y gO<|mv Y<|dn<|bE h λe8 Cu vD=>?_;refine bT (λ(jI:(List Qr))=>AS.cM 26 [(5,.row 10)] [] [(10,TR 43 4 eQ jI)]) (λjI=>jI=e8) ?_ (λjI Cv=>?_);refine bj ?_;refine bU Cu (λs8=>AS.cM 26 [(1,.sv (slc 4 (List.map eQ x1))),(5,.row 10),(11,.sv (slc 1 (List.map (eS 4 eQ) x0))),(12,.sv (.v (.int .i64 ep))),(13,.sv (.v (.int .i64 s8.1)))] [] [(10,TR 43 4 eQ s8.2)]) (wR []) (λs8 y8 G8 h Cw Cx=>?_);obtain⟨mY,mZ⟩:=s8
 try dsimp only
 refine sr<|lE h λfE lN h=>ls _ Y Y lN<|dn<|qq ?_;cases fE;refine cF<|cc<|aV.x<|aV.x<|bG.x<|aV.n ?_;obtain rfl:=O (F h);exact⟨mZ,Cx _ Y,wR []⟩;refine cT<|bB<|aV.n<|qq<|bj<|sr<|mv Y<|bE (V h) λgN kL h=>ix Y Y kL<|lr Y Y<|ag Y<|ag Y<|dn<|aW<|mo (s:=.row _) Y<|mv Y<|mv Y<|mv Y ?_;obtain⟨⟨⟨m7,m8⟩,⟨m9,nc⟩⟩,oR,h⟩:=bS h;refine cl (vM oR) ⟨Y,Y,aq⟩<|bE h λlP vB h=>iR Y Y Y vB<|bE h λrP mU h=>sA ⟨⟨m7,m8⟩,⟨m9,nc⟩⟩ Y Y Y mU<|RT.done<|bG.n<|aV.n<|aW<|lE h λik nJ h=>ad _ Y Y nJ<|mv Y<|RT.done ?_;obtain rfl:=O h;exact aV.n ⟨(ik,rP),Cw _ Y,wR []⟩;subst Cv
 try dsimp only
 refine aV.n<|sr<|mo (s:=.row _) Y<|an (s:=.row _) Y<|dn<|bf ?_;obtain rfl:=O vD;exact⟨.inr Y,_,.tmp Y,Y⟩
theorem CC{x0:List Qr}{x1:List (List Qr)}{r:List Qr}(h:jA x0 x1=some r):Pure ah 51 [slc 4 (List.map eQ x0),slc 1 (List.map (eS 4 eQ) x1)] (slc 4 (List.map eQ r)):=by
 refine bz Tryz.func51 Y (af Y) (λec M vs hvs=>?_);unfold jA at h;refine sr<|aI Y (aB (n:=4) (e:=eQ))<|dn<|sr<|mv Y<|bE h λx9 h9 h=>cl (sX h9) ⟨Y,aq⟩<|bE h λdZ gM h=>RT.mM (n:=4) (e:=eQ) .none Y Y T Y T (by rfl) (by decide) (by exact⟨au,aB,au,aB,aq⟩) gM<|an (s:=.row _) Y<|dn<|qq<|sr<|mv Y<|mv Y<|lE h λgh jJ h=>ln Y jJ<|mv Y<|lE h λeH iZ h=>ln Y iZ ?_;refine lE h λgN kL h=>RT.min .none _ Y Y T (HD (p:=gh) (q:=eH) kL)<|bE h λfJ kU h=>RT.xT .none 0 gN Y Y ⟨_,Y⟩ T kU<|lE h λfC jY h=>ln Y jY<|mv Y<|dn<|cz (l7 (i:=10) (E1:=43) (n:=4) (e:=eQ) (l:=dZ) Y)<|bE h λJZ A3 wW=>?_;refine bT (λ(Ke:(List Qr))=>AS.cM 39 [(5,.sv (slc 4 (List.map eQ Ke)))] [] []) (λKe=>Ke=JZ) ?_ (λKe A4=>?_);refine bj ?_;refine bU A3 (λyZ=>AS.cM 39 [(0,.sv (slc 4 (List.map eQ x0))),(5,.sv (slc 4 (List.map eQ yZ.1))),(17,.sv (slc 1 (List.map (eS 4 eQ) fJ))),(18,.sv (.v (.int .i64 fC))),(19,.sv (.v (.int .i64 yZ.2)))] [] []) (wR []) (λyZ Xy Xz h A5 yg=>?_);obtain⟨ye,Bv⟩:=yZ
 try dsimp only
 refine sr<|lE h λiU pK h=>ls _ Y Y pK<|dn<|qq ?_;cases iU;refine cF<|cc<|aV.x<|aV.x<|bG.x<|aV.n ?_;obtain rfl:=O (F h);exact⟨ye,yg _ Y,wR []⟩;refine cT<|bB<|aV.n<|qq<|bj<|sr<|mv Y<|bE (V h) λjH oR h=>ix Y Y oR<|lr Y Y<|ag Y<|ag Y<|dn<|sr<|mv Y<|mv Y ?_;obtain⟨⟨⟨uR,uS⟩,⟨uT,uU⟩⟩,uc,h⟩:=bS h;refine ix Y Y uc<|RT.iC (cs:=[_,_,_,_]) .none Y T Y Y<|bE h λnq vC h=>cl (gx vC) ⟨Y,aq⟩<|lE h λiK nI h=>ne _ Y Y (HC (p:=nq) (q:=0) nI)<|dn ?_;refine bK h (λj12=>AS.cM 39 [(0,.sv (slc 4 (List.map eQ x0))),(5,.sv (slc 4 (List.map eQ j12))),(17,.sv (slc 1 (List.map (eS 4 eQ) fJ))),(18,.sv (.v (.int .i64 fC))),(19,.sv (.v (.int .i64 Bv)))] [] []) (λh=>?_) (λMF h=>?_);cases iK;exact fs<|⟨ye,(F h),wR []⟩;refine cT<|aW<|mv Y<|mv Y ?_;obtain⟨⟨⟨nH,mP⟩,⟨o8,o9⟩⟩,pS,h⟩:=bS (V h);exact ix Y Y pS<|RT.iC (cs:=[_,_,_,_]) .none Y T Y Y<|mv Y<|mv Y<|bE h λpR w6 h=>cl (qi w6) ⟨Y,Y,Y,aq⟩<|ag Y<|dn<|⟨pR,h,wR []⟩
 try dsimp only
 refine bG.n<|aV.n<|aW<|lE h λuN D3 h=>ad _ Y Y D3<|mv Y<|RT.done ?_;obtain rfl:=O h;exact aV.n ⟨(MF,uN),A5 _ Y,wR []⟩;subst A4
 try dsimp only
 refine aV.n<|sr<|mv Y<|ag Y<|dn<|bf ?_;obtain rfl:=O wW;exact R1 Y
end
end Go.Proofs.YtningmnklfpfjaaGreat
namespace Go.Fw
section
open Go.RowKit
theorem MG{α:Type}{e:α->List SV}{l:List α}{n:Nat}{s t:SV}{r:List SV}{M:Mem}{v:Value}(h:(ref (s::t::slc n (l.map e)::r)).h M v):l.length<=9223372036854775807:=by
 obtain⟨b,o,_,h⟩:=h;obtain⟨y,_,_,h⟩:=h 2 _ Y;exact IQ h
theorem H9{α β:Type}(a:List α)(b:List β)(i:Nat)(h:i<=a.length):(i<a.length/\i<b.length)\/(i<a.length/\b.length<=i)\/i=a.length:=by omega
section steps
variable {P:Program}{C:Ctx}{ops:Array Oper}{S:AS}{nd:Bool}{K:List Ac->AS->Prop}{rest:List Oper}{acc:List Ac}
variable {gd:Option (Nat×Bool)}{rg:List Nat}{d:Nat}{ty:TypeId}{pos:String}{aft:Array Edge}{x y z:Operand}{T U E0:TypeId}
end steps
end
section
open Go.RowKit
def ku:List (Nat×Row×Value)->(Nat->Value)->Nat->Value
 |[],ν,j=>ν j
 |(k,_,v)::l,ν,j=>if j=k then v else ku l ν j
theorem nf{ν:Nat->Value}:∀{l:List (Nat×Row×Value)} {j:Nat},(∀R v,(j,R,v)∉l)->ku l ν j=ν j
 |[],_,_=>rfl
 |(k,R,v)::l,j,h=>by
  have:j≠k:=λe=>h R v (by rw[e];simp);rw[ku,if_neg this];exact nf (λR v hm=>h R v (List.mem_cons_of_mem _ hm))
theorem iG{ν:Nat->Value}:∀{l:List (Nat×Row×Value)} {j:Nat} {R:Row} {v:Value},(l.map (·.1)).Nodup->(j,R,v)∈l->ku l ν j=v
 |(k,R',v')::l,j,R,v,hn,h=>by
  rw[List.map_cons,List.nodup_cons]at hn;rcases List.mem_cons.1 h with e|e
  ·cases e;rw[ku,if_pos rfl]
  have:j≠k:=λq=>hn.1 (List.mem_map.2 ⟨(j,R,v),e,q⟩);rw[ku,if_neg this];exact iG hn.2 e
def xe(olds:List Nat)(news:List (Nat×Row×Value)):List (Nat×kK):=olds.map (λj=>(j,.dead))++news.map (λn=>(n.1,.live n.2.1))
theorem qV:∀(l k:List (Nat×kK)) (j:Nat),dL (l++k) j=match dL k j with|some R=>some R|none=>dL l j
 |[],k,j=>by cases h:dL k j<;>simp[h,dL]
 |(i,R)::l,k,j=>by
  rw[List.cons_append,dL,dL,qV l k j];cases h:dL k j<;>simp
theorem vN{l:List (Nat×kK)}{j:Nat}(h:∀R,(j,R)∉l):dL l j=none:=by
 induction l with
 |nil=>rfl
 |cons p l ih=>
  obtain⟨i,R⟩:=p;rw[dL,ih (λR hm=>h R (List.mem_cons_of_mem _ hm))];have:j≠i:=λe=>h R (by rw[e];simp);simp[this]
theorem vO{l:List (Nat×kK)}{j:Nat}{R:kK}(h:dL l j=some R):(j,R)∈l:=by
 induction l with
 |nil=>cases h
 |cons p l ih=>
  obtain⟨i,R'⟩:=p;rw[dL]at h;cases e:dL l j with
  |some R2=>rw[e]at h;cases h;exact List.mem_cons_of_mem _ (ih e)
  |none=>
   rw[e]at h;by_cases q:j=i
   ·subst q;simp at h;subst h;simp
   simp[q]at h
theorem Bx{l:List (Nat×kK)}{j:Nat}{R:kK}(h:(j,R)∈l):∃R',dL l j=some R':=by
 induction l with
 |nil=>cases h
 |cons p l ih=>
  obtain⟨i,R'⟩:=p;rw[dL];rcases List.mem_cons.1 h with e|e
  ·cases e;cases q:dL l j with
   |some R2=>exact⟨R2,Y⟩
   |none=>exact⟨R,by simp⟩
  obtain⟨R2,h2⟩:=ih e;exact⟨R2,by rw[h2]⟩
section swap
variable {C:Ctx}{S:AS}
theorem bn.X1{E:Env}{a:Act}{w w':World}(h:bn C S E a w){i:Nat}{T:TypeId}{cells cells':List AV}{us':List Value}{M':Mem}(hB:S.b i=some ⟨T,cells⟩)(olds:List Nat)(news:List (Nat×Row×Value))
  (hold:∀j∈olds,∃R,S.r j=.live R) (hnew:∀k R v,(k,R,v)∈news->S.r k=.un/\k<1000) (hnd:(news.map (·.1)).Nodup)
  (hM:E.M.le M') (hmn:∀b o x,M' b o=some x->E.M b o=some x\/w.heap.size<=b\/∃j∈olds,(E.ν j).ownBlock=some b) (hin:M'.dh w')
  (acS:w'.heap[E.β i]? =some (.cells ⟨us'⟩ T (0,0))) (hnb:∀o,M' (E.β i) o=none) (vh:di {E with M:=M',ν:=ku news E.ν} cells' us')
  (hcb:∀x∈cells',(∀j,¬x.mb j)/\∀j,x.mr j->∃R v,(j,R,v)∈news)
  (hrow:∀k R v,(k,R,v)∈news->(∃vs:List Value,w'.ownsRow 0 R.E R.sz v R.n vs/\SV.ef M' R.cells vs)/\∀g,v.ownBlock=some g->((∃j∈olds,(E.ν j).ownBlock=some g)\/w.heap.size<=g)/\(∀o,M' g o=none)/\g≠E.β i)
  (X2:∀k R v k' R' v' g,(k,R,v)∈news->(k',R',v')∈news->v.ownBlock=some g->v'.ownBlock=some g->k=k')
  (hos:w'.os=w.os) (qk:w'.tape=w.tape) (hout:w'.output=w.output) (hsize:w.heap.size<=w'.heap.size)
  (jW:∀k,k<w.heap.size->k≠E.β i->(∀j∈olds,(E.ν j).ownBlock≠some k)->w'.heap[k]? =w.heap[k]?):
  bn C (AS.b9 (xe olds news) (AS.fo [(i,⟨T,cells'⟩)] S)) {E with M:=M',ν:=ku news E.ν} a w':=by
 obtain⟨Kg,acT,Pp,Ox,Kh,_⟩:=h.bx i _ hB;have af8:E.β i<w.heap.size:=(Array.getElem?_eq_some_iff.1 Kh).1;obtain⟨n1,n2,n3,n4,n5⟩:=eU (xe olds news) (AS.fo [(i,⟨T,cells'⟩)] S);have tOf:(AS.b9 (xe olds news) (AS.fo [(i,⟨T,cells'⟩)] S)).t=S.t:=n2;have zx:∀j,(AS.b9 (xe olds news) (AS.fo [(i,⟨T,cells'⟩)] S)).b j=if j=i then some ⟨T,cells'⟩else S.b j:=λj=>by
  rw[n3];by_cases e:j=i
  ·subst e;rw[if_pos rfl];exact AS.cV _ _ _
  rw[if_neg e];exact AS.bR _ _ _ _ e
 have X3:∀k R v,(k,R,v)∈news->dL (news.map (λn=>(n.1,kK.live n.2.1))) k=some (.live R):=λk R v hm=>by
  obtain⟨R',nU⟩:=Bx (l:=news.map (λn=>(n.1,kK.live n.2.1))) (j:=k) (R:=.live R) (List.mem_map.2 ⟨(k,R,v),hm,Y⟩);obtain⟨⟨k2,R2,v2⟩,Lb,e⟩:=List.mem_map.1 (vO nU);have e1:k2=k:=congrArg Prod.fst e;have e2:kK.live R2=R':=congrArg Prod.snd e;rw[e1]at Lb;have:R2=R:=by
   have key:∀(l:List (Nat×Row×Value)),(l.map (·.1)).Nodup->(k,R2,v2)∈l->(k,R,v)∈l->R2=R:=by
    intro l
    induction l with
    |nil=>intro _ h;cases h
    |cons p l ih=>
     intro hn h1 h2;rw[List.map_cons,List.nodup_cons]at hn;rcases List.mem_cons.1 h1 with e1|e1<;>rcases List.mem_cons.1 h2 with e2|e2
     ·rw[<-e1]at e2;cases e2;rfl
     ·exact absurd (List.mem_map.2 ⟨_,e2,by rw[<-e1]⟩) hn.1
     ·exact absurd (List.mem_map.2 ⟨_,e1,by rw[<-e2]⟩) hn.1
     exact ih hn.2 e1 e2
   exact key news hnd Lb hm
  rw[nU,<-e2,this]
 have X4:∀k R v,(k,R,v)∈news->(AS.b9 (xe olds news) (AS.fo [(i,⟨T,cells'⟩)] S)).r k=.live R:=λk R v hm=>by
  rw[jR,xe,qV,X3 k R v hm];rfl
 have X5:∀j,(∀R v,(j,R,v)∉news)->(AS.b9 (xe olds news) (AS.fo [(i,⟨T,cells'⟩)] S)).r j=if j∈olds then .dead else S.r j:=λj hn=>by
  have e1:dL (news.map (λn=>(n.1,kK.live n.2.1))) j=none:=vN (λR hm=>by
   obtain⟨⟨k2,R2,v2⟩,Lb,e⟩:=List.mem_map.1 hm;cases e;exact hn R2 v2 Lb)
  rw[jR,xe,qV,e1];by_cases ho:j∈olds
  ·rw[if_pos ho];obtain⟨R',nU⟩:=Bx (l:=olds.map (λj=>(j,kK.dead))) (j:=j) (R:=.dead) (List.mem_map.2 ⟨j,ho,Y⟩);obtain⟨j2,_,e⟩:=List.mem_map.1 (vO nU);cases e;rw[nU];rfl
  rw[if_neg ho,vN (λR hm=>by obtain⟨j2,Lb,e⟩:=List.mem_map.1 hm;cases e;exact ho Lb)];rfl
 have MH:∀j,S.r j≠ .un->∀R v,(j,R,v)∉news:=λj hj R v hm=>hj (hnew j R v hm).1;have rne:∀j,S.r j≠ .un->(AS.b9 (xe olds news) (AS.fo [(i,⟨T,cells'⟩)] S)).r j≠ .un:=λj hj=>by
  rw[X5 j (MH j hj)];split
  ·simp
  exact hj
 have yy:∀j∈olds,∀g,(E.ν j).ownBlock=some g->(C.w0.heap.size<=g\/C.tO g)/\(∀o,E.M g o=none)/\¬E.O g/\(∀n B,S.b n=some B->E.β n≠g)/\g<w.heap.size/\∃c e,w.heap[g]? =some (Obj.cells c e (0,0)):=λj hj g hg=>by
  obtain⟨R,hR⟩:=hold j hj;obtain⟨⟨us,q1,_⟩,q2⟩:=h.rx j R hR;obtain⟨q3,q4,q5,q6⟩:=q2 g hg;refine⟨q3,q4,q5,q6,jb h hR hg,?_⟩;rcases q1.2 with⟨q7,_⟩|⟨g',cap,cur,q7,_,q8,_⟩
  ·rw[q7]at hg;cases hg
  rw[q7]at hg;cases hg;exact⟨_,_,q8⟩
 have keep:∀x:AV,(∀j,x.mr j->S.r j≠ .un)->∀v,x.holds E v->x.holds {E with M:=M',ν:=ku news E.ν} v:=λx hx v hv=>
  AV.cI (E:=E) (E':={E with M:=M',ν:=ku news E.ν}) hM (λ_ _=>rfl) (λj hj=>nf (MH j (hx j hj))) hv
 have Ur:∀b,b<w.heap.size->(∀o,E.M b o=none)->(∀j∈olds,(E.ν j).ownBlock≠some b)->∀o,M' b o=none:=λb h1 h2 h3 o=>by
  cases e:M' b o with
  |none=>rfl
  |some v=>
   rcases hmn b o v e with q|q|⟨j,q1,q2⟩
   ·rw[h2 o]at q;cases q
   ·omega
   exact absurd q2 (h3 j q1)
 have live:∀j R,(AS.b9 (xe olds news) (AS.fo [(i,⟨T,cells'⟩)] S)).r j=.live R->(∃v,(j,R,v)∈news)\/((∀R v,(j,R,v)∉news)/\j∉olds/\S.r j=.live R):=λj R hj=>by
  by_cases hn:∃R v,(j,R,v)∈news
  ·obtain⟨R',v,hm⟩:=hn;rw[X4 j R' v hm]at hj;cases hj;exact .inl ⟨v,hm⟩
  have hn:∀R v,(j,R,v)∉news:=λR v hm=>hn ⟨R,v,hm⟩;rw[X5 j hn]at hj;by_cases ho:j∈olds
  ·rw[if_pos ho]at hj;cases hj
  rw[if_neg ho]at hj;exact .inr ⟨hn,ho,hj⟩
 have X6:∀j R,S.r j=.live R->j∉olds->∀g,(E.ν j).ownBlock=some g->∀j'∈olds,(E.ν j').ownBlock≠some g:=λj R hR ho g hg j' hj' e=>by
  obtain⟨R',nU⟩:=hold j' hj';have:=h.fm j j' R R' hR nU g hg e;subst this;exact ho hj'
 exact{
  wf:=by
   refine⟨λs j hj=>?_,λs j hj=>?_,λj B fu x hx m hm=>?_,λj B fu x hx m hm=>?_⟩
   ·rw[tOf]at hj;obtain⟨B,fu⟩:=h.wf.tb s j hj;rw[zx];by_cases e:j=i
    ·exact⟨_,if_pos e⟩
    exact⟨B,by rw[if_neg e];exact fu⟩
   ·rw[tOf]at hj;exact rne j (h.wf.tr s j hj)
   ·rw[zx]at fu⊢;by_cases e:j=i
    ·rw[if_pos e]at fu;cases fu;exact absurd hm ((hcb x hx).1 m)
    rw[if_neg e]at fu;obtain⟨B2,hB2⟩:=h.wf.bb j B fu x hx m hm;by_cases e2:m=i
    ·exact⟨_,if_pos e2⟩
    exact⟨B2,by rw[if_neg e2];exact hB2⟩
   rw[zx]at fu;by_cases e:j=i
   ·rw[if_pos e]at fu;cases fu;obtain⟨R,v,Lb⟩:=(hcb x hx).2 m hm;rw[X4 m R v Lb];simp
   rw[if_neg e]at fu;exact rne m (h.wf.br j B fu x hx m hm)
  marks:=by
   obtain⟨ds,d1,d2,d3⟩:=h.marks;refine⟨ds,d1,d2,λr hr=>?_⟩;obtain⟨p1,p2,p3⟩:=d3 r hr;refine⟨p1,p2,?_⟩;rw[jW r (Array.getElem?_eq_some_iff.1 p3).1 (λe=>by rw[e,Kh]at p3;cases p3) (λj hj e=>by
    obtain⟨_,_,_,_,_,c,e2,q⟩:=yy j hj r e;rw[q]at p3;cases p3)]
   exact p3
  size:=by rw[n1];exact h.size
  os:=hos.trans h.os
  tape:=qk.trans h.tape
  output:=hout.trans h.output
  grown:=Nat.le_trans h.grown hsize
  frame:=λk hk hown=>by
   rw[jW k (Nat.lt_of_lt_of_le hk h.grown) (λe=>by
    rcases Kg with q|q
    ·omega
    ·exact hown (C.Cf _ (by rw[e];exact q))) (λj hj e=>by
    rcases(yy j hj k e).1 with q|q
    ·omega
    exact hown (C.Cf _ q))]
   exact h.frame k hk hown
  m0:=Mem.le_trans h.m0 hM
  eG:=λb o v e=>by
   rcases hmn b o v e with q|q|⟨j,q1,q2⟩
   ·exact h.eG b o v q
   ·exact .inr (.inl (Nat.le_trans h.grown q))
   rcases(yy j q1 b q2).1 with q|q
   ·exact .inr (.inl q)
   exact .inr (.inr (C.Cf _ q))
  dh:=hin
  tm:=λs=>by rw[tOf];exact keep _ (h.wf.tr s) _ (h.tm s)
  bx:=λj B fu=>by
   rw[zx]at fu;by_cases e:j=i
   ·rw[if_pos e]at fu;cases fu;subst e;exact⟨Kg,hnb,Pp,us',acS,vh⟩
   rw[if_neg e]at fu;obtain⟨p1,p2,p3,vs,p4,p5⟩:=h.bx j B fu;have hlt:=(Array.getElem?_eq_some_iff.1 p4).1;have hno:∀j'∈olds,(E.ν j').ownBlock≠some (E.β j):=λj' hj' q=>(yy j' hj' _ q).2.2.2.1 j B fu Y;refine⟨p1,Ur _ hlt p2 hno,p3,vs,?_,p5.imp (λx hx v hv=>keep x (h.wf.br j B fu x hx) v hv)⟩;show w'.heap[E.β j]? =_;rw[jW _ hlt (λq=>e (h.inj j i B _ fu hB q)) hno];exact p4
  inj:=λj j' B B' h1 h2 e=>by
   have key:∀n B,(AS.b9 (xe olds news) (AS.fo [(i,⟨T,cells'⟩)] S)).b n=some B->∃B',S.b n=some B':=λn B hn=>by
    rw[zx]at hn;by_cases e:n=i
    ·subst e;exact⟨_,hB⟩
    rw[if_neg e]at hn;exact⟨B,hn⟩
   obtain⟨B1,p1⟩:=key j B h1;obtain⟨B2,p2⟩:=key j' B' h2;exact h.inj j j' B1 B2 p1 p2 e
  rx:=λj R hj=>by
   have boxes:∀g,(∀n B,S.b n=some B->E.β n≠g)->∀n B,(AS.b9 (xe olds news) (AS.fo [(i,⟨T,cells'⟩)] S)).b n=some B->E.β n≠g:=λg hg n B hn=>by
    rw[zx]at hn;by_cases e:n=i
    ·subst e;exact hg _ _ hB
    rw[if_neg e]at hn;exact hg n B hn
   rcases live j R hj with⟨v,hm⟩|⟨hn,ho,hR⟩
   ·rw[show({E with M:=M',ν:=ku news E.ν}:Env).ν j=v from iG hnd hm];obtain⟨p1,p2⟩:=hrow j R v hm;refine⟨p1,λg hg=>?_⟩;obtain⟨p3,p4,p5⟩:=p2 g hg;rcases p3 with⟨j',q1,q2⟩|p3
    ·obtain⟨o1,o2,o3,o4,_⟩:=yy j' q1 g q2;exact⟨o1,p4,o3,boxes g o4⟩
    refine⟨.inl (Nat.le_trans h.grown p3),p4,λq=>?_,boxes g (λn B hn q=>?_)⟩
    ·have:=(h.kD g q).1;omega
    obtain⟨_,_,_,vs,q4,_⟩:=h.bx n B hn;have:=(Array.getElem?_eq_some_iff.1 q4).1;omega
   rw[show({E with M:=M',ν:=ku news E.ν}:Env).ν j=E.ν j from nf hn];obtain⟨⟨us,p1,p2⟩,p3⟩:=h.rx j R hR;refine⟨⟨us,dw p1 λg hg=>jW g (jb h hR hg) (λe=>(p3 g hg).2.2.2 i _ hB e.symm) (X6 j R hR ho g hg),p2.mono hM⟩,λg hg=>?_⟩;obtain⟨p4,p5,p6,p7⟩:=p3 g hg;exact⟨p4,Ur g (jb h hR hg) p5 (X6 j R hR ho g hg),p6,boxes g p7⟩
  fm:=λj j' R R' h1 h2 g e1 e2=>by
   have mixed:∀j R v j' R' g,(j,R,v)∈news->S.r j'=.live R'->j'∉olds->v.ownBlock=some g->(E.ν j').ownBlock=some g->False:=λj R v j' R' g hm nU ho e1 e2=>by
    rcases((hrow j R v hm).2 g e1).1 with⟨j2,q1,q2⟩|q
    ·exact X6 j' R' nU ho g e2 j2 q1 q2
    have:=jb h nU e2;omega
   rcases live j R h1 with⟨v,hm⟩|⟨hn,ho,hR⟩<;>rcases live j' R' h2 with⟨v',hm'⟩|⟨hn',ho',nU⟩
   ·rw[show({E with M:=M',ν:=ku news E.ν}:Env).ν j=v from iG hnd hm]at e1;rw[show({E with M:=M',ν:=ku news E.ν}:Env).ν j'=v' from iG hnd hm']at e2;exact X2 j R v j' R' v' g hm hm' e1 e2
   ·rw[show({E with M:=M',ν:=ku news E.ν}:Env).ν j=v from iG hnd hm]at e1;rw[show({E with M:=M',ν:=ku news E.ν}:Env).ν j'=E.ν j' from nf hn']at e2;exact(mixed j R v j' R' g hm nU ho' e1 e2).elim
   ·rw[show({E with M:=M',ν:=ku news E.ν}:Env).ν j=E.ν j from nf hn]at e1;rw[show({E with M:=M',ν:=ku news E.ν}:Env).ν j'=v' from iG hnd hm']at e2;exact(mixed j' R' v' j R g hm' hR ho e2 e1).elim
   rw[show({E with M:=M',ν:=ku news E.ν}:Env).ν j=E.ν j from nf hn]at e1;rw[show({E with M:=M',ν:=ku news E.ν}:Env).ν j'=E.ν j' from nf hn']at e2;exact h.fm j j' R R' hR nU g e1 e2
  gC:=h.gC
  ee:=λk v e=>by
   rw[show({E with M:=M',ν:=ku news E.ν}:Env).ν k=E.ν k from nf (λR v hm=>by have:=(hnew k R v hm).2;have:=C.JI k _ e;omega)];exact h.ee k v e
  kD:=λb hb=>by
   obtain⟨p1,p2,p3⟩:=h.kD b hb;exact⟨Nat.lt_of_lt_of_le p1 hsize,Ur b p1 p2 (λj hj e=>(yy j hj b e).2.2.1 hb),p3⟩
  jj:=by
   have hj:=C.jf S.g S.go E.O E.M M' w w' h.jj hM hin (λb o v e=>by
    rcases hmn b o v e with q|q|⟨j,q1,q2⟩
    ·exact .inl q
    ·exact .inr ⟨.inl (Nat.le_trans h.grown q),λq2=>by have:=(h.kD b q2).1;omega⟩
    ·obtain⟨o1,_,o3,_⟩:=yy j q1 b q2;exact .inr ⟨o1,o3⟩) (λb hb=>by
    have hlt:b<w.heap.size\/w.heap.size<=b:=Nat.lt_or_ge _ _;have hb':b<w.heap.size:=by
     rcases hb with⟨q,_⟩|q
     ·exact Nat.lt_of_lt_of_le q h.grown
     exact(h.kD b q).1
    refine jW b hb' (λe=>?_) (λj hj e=>?_)
    ·subst e;rcases hb with⟨q1,q2⟩|q
     ·rcases Kg with p|p
      ·omega
      exact q2 p
     exact Pp q
    obtain⟨o1,_,o3,_⟩:=yy j hj b e;rcases hb with⟨q1,q2⟩|q
    ·rcases o1 with p|p
     ·omega
     exact q2 p
    exact o3 q) hos qk hout hsize
   rw[n4,n5];exact hj}
end swap
end
section
open Go.RowKit
inductive Oc where
 |s (x:SV)
 |r (R:Row)
def pq(M:Mem)(w:World):List Oc->List Value->Prop
 |[],[]=>True
 |.s x::l,v::vs=>x.h M v/\pq M w l vs
 |.r R::l,v::vs=>(∃us:List Value,w.ownsRow 0 R.E R.sz v R.n us/\SV.ef M R.cells us)/\pq M w l vs
 |_,_=>False
def rowsOf:List Oc->List Row
 |[]=>[]
 |.s _::l=>rowsOf l
 |.r R::l=>R::rowsOf l
def cf:List Oc->List Value->List (Row×Value)
 |.s _::l,_::vs=>cf l vs
 |.r R::l,v::vs=>(R,v)::cf l vs
 |_,_=>[]
def ew(c:List Oc)(us:List Value)(g:Nat):Prop:=∃p∈cf c us,p.2.ownBlock=some g
def cm:List Nat->List Oc->List AV
 |ids,.s x::l=>.sv x::cm ids l
 |i::ids,.r _::l=>.row i::cm ids l
 |[],.r _::l=>.sv .any::cm [] l
 |_,[]=>[]
def I1(l:List (Row×Value)):Prop:=l.Pairwise λp q=>∀g,p.2.ownBlock=some g->q.2.ownBlock≠some g
structure pz (M:Mem) (w:World) (β:Nat) (T:TypeId) (c:List Oc) (us:List Value):Prop where
 hp:w.heap[β]? =some (.cells ⟨us⟩ T (0,0))
 al:pq M w c us
 nb:∀o,M β o=none
 nr:∀g,ew c us g->g≠β/\∀o,M g o=none
 ap:I1 (cf c us)
theorem iu{M:Mem}{w:World}:∀{c:List Oc} {us:List Value},pq M w c us->(cf c us).map (·.1)=rowsOf c
 |[],[],_=>rfl
 |.s _::l,_::vs,h=>iu (c:=l) (us:=vs) h.2
 |.r R::l,v::vs,h=>congrArg (R:: ·) (iu (c:=l) (us:=vs) h.2)
 |[],_::_,h=>h.elim
 |.s _::_,[],h=>h.elim
 |.r _::_,[],h=>h.elim
theorem kx{M:Mem}{w:World}:∀{c:List Oc} {us:List Value},pq M w c us->∀p∈cf c us,∃vs:List Value,w.ownsRow 0 p.1.E p.1.sz p.2 p.1.n vs/\SV.ef M p.1.cells vs
 |[],[],_,p,hp=>by cases hp
 |.s _::l,_::vs,h,p,hp=>kx (c:=l) (us:=vs) h.2 p hp
 |.r R::l,v::vs,h,p,hp=>by
  rcases List.mem_cons.1 hp with rfl|hp
  ·exact h.1
  exact kx (c:=l) (us:=vs) h.2 p hp
 |[],_::_,h,_,_=>h.elim
 |.s _::_,[],h,_,_=>h.elim
 |.r _::_,[],h,_,_=>h.elim
theorem iY{α β:Type}:∀{l:List α} {k:List β} {a:α} {b:β},(a,b)∈l.zip k->a∈l/\b∈k
 |_::_,_::_,_,_,h=>by
  rw[List.zip_cons_cons]at h;rcases List.mem_cons.1 h with e|e
  ·cases e;simp
  have:=iY e;exact⟨List.mem_cons_of_mem _ this.1,List.mem_cons_of_mem _ this.2⟩
 |[],_,_,_,h=>by simp at h
 |_::_,[],_,_,h=>by simp at h
theorem Ad{α β:Type}:∀{l:List α} {k:List β},l.length=k.length->(l.zip k).map (·.1)=l
 |[],[],_=>rfl
 |_::l,_::k,h=>by rw[List.zip_cons_cons,List.map_cons,Ad (by simpa using h)]
 |[],_::_,h=>by simp at h
 |_::_,[],h=>by simp at h
theorem yz:∀{ids:List Nat} {l:List (Row×Value)},ids.Nodup->I1 l->∀k R v k' R' v' g,(k,R,v)∈ids.zip l->(k',R',v')∈ids.zip l->v.ownBlock=some g->v'.ownBlock=some g->k=k'
 |i::ids,p::l,hn,ha,k,R,v,k',R',v',g,h1,h2,e1,e2=>by
  rw[List.zip_cons_cons]at h1 h2;rw[List.nodup_cons]at hn;obtain⟨ZP,ha2⟩:=List.pairwise_cons.1 ha;rcases List.mem_cons.1 h1 with q1|q1<;>rcases List.mem_cons.1 h2 with q2|q2
  ·cases q1;cases q2;rfl
  ·cases q1;exact absurd e2 (ZP (R',v') (iY q2).2 g e1)
  ·cases q2;exact absurd e1 (ZP (R,v) (iY q1).2 g e2)
  exact yz hn.2 ha2 k R v k' R' v' g q1 q2 e1 e2
 |[],_,_,_,_,_,_,_,_,_,_,h1,_,_,_=>by simp at h1
 |_::_,[],_,_,_,_,_,_,_,_,_,h1,_,_,_=>by simp at h1
theorem ow{E:Env}{w:World}:∀{ids:List Nat} {c:List Oc} {us:List Value},ids.length=(rowsOf c).length->pq E.M w c us->(∀i p,(i,p)∈ids.zip (cf c us)->E.ν i=p.2)->di E (cm ids c) us
 |ids,[],[],_,_,_=>by cases ids<;>exact trivial
 |ids,.s x::l,v::vs,hl,h,hv=>by
  have ih:=ow (E:=E) (w:=w) (ids:=ids) (c:=l) (us:=vs) hl h.2 hv;cases ids<;>exact⟨h.1,ih⟩
 |i::ids,.r R::l,v::vs,hl,h,hv=>by
  refine⟨(hv i (R,v) (by rw[cf,List.zip_cons_cons];simp)).symm,ow (w:=w) (ids:=ids) (c:=l) (us:=vs) (by simpa[rowsOf]using hl) h.2 (λj p hm=>hv j p ?_)⟩;rw[cf,List.zip_cons_cons];exact List.mem_cons_of_mem _ hm
 |[],.r R::l,_::_,hl,_,_=>by simp[rowsOf]at hl
 |_,[],_::_,_,h,_=>h.elim
 |_,.s _::_,[],_,h,_=>h.elim
 |_,.r _::_,[],_,h,_=>h.elim
theorem oz:∀{ids:List Nat} {c:List Oc} (x:AV),x∈cm ids c->(∀j,¬x.mb j)/\∀j,x.mr j->j∈ids
 |ids,[],x,h=>by cases ids<;>simp[cm]at h
 |ids,.s y::l,x,h=>by
  have h':x∈AV.sv y::cm ids l:=by cases ids<;>exact h
  rcases List.mem_cons.1 h' with rfl|h'
  ·exact⟨λj e=>e,λj e=>e.elim⟩
  exact oz x h'
 |i::ids,.r _::l,x,h=>by
  rcases List.mem_cons.1 (show x∈AV.row i::cm ids l from h)with rfl|h'
  ·exact⟨λj e=>e,λj e=>by cases e;simp⟩
  obtain⟨h1,h2⟩:=oz x h';exact⟨h1,λj e=>List.mem_cons_of_mem _ (h2 j e)⟩
 |[],.r _::l,x,h=>by
  rcases List.mem_cons.1 (show x∈AV.sv .any::cm [] l from h)with rfl|h'
  ·exact⟨λj e=>e,λj e=>e.elim⟩
  exact oz x h'
def Lv(S:AS):List Nat->List Row->Prop
 |[],[]=>True
 |j::js,R::Rs=>S.r j=.live R/\Lv S js Rs
 |_,_=>False
theorem Lv.len{S:AS}:∀{js:List Nat} {Rs:List Row},Lv S js Rs->js.length=Rs.length
 |[],[],_=>rfl
 |_::_,_::_,h=>congrArg (· +1) (Lv.len h.2)
 |[],_::_,h=>h.elim
 |_::_,[],h=>h.elim
theorem Lv.mem{S:AS}:∀{js:List Nat} {Rs:List Row},Lv S js Rs->∀j∈js,∃R,S.r j=.live R
 |j::js,R::Rs,h,k,hk=>by
  rcases List.mem_cons.1 hk with rfl|hk
  ·exact⟨R,h.1⟩
  exact Lv.mem h.2 k hk
 |[],_,_,k,hk=>by cases hk
 |_::_,[],h,_,_=>h.elim
theorem sY{C:Ctx}{S:AS}{E:Env}{a:Act}{w:World}(h:bn C S E a w):∀{js:List Nat} {c:List Oc} {us:List Value},Lv S js (rowsOf c)->di E (cm js c) us->pq E.M w c us/\cf c us=(rowsOf c).zip (js.map E.ν)
 |[],[],[],_,_=>⟨aq,Y⟩
 |js,.s x::l,v::vs,hL,hv=>by
  have uu:di E (AV.sv x::cm js l) (v::vs):=by cases js<;>exact hv
  obtain⟨h1,h2⟩:=sY h (js:=js) (c:=l) (us:=vs) hL uu.2;exact⟨⟨uu.1,h1⟩,h2⟩
 |j::js,.r R::l,v::vs,hL,hv=>by
  have hL:S.r j=.live R/\Lv S js (rowsOf l):=hL;have uu:di E (AV.row j::cm js l) (v::vs):=hv;obtain⟨h1,h2⟩:=sY h (js:=js) (c:=l) (us:=vs) hL.2 uu.2;have e:v=E.ν j:=uu.1;obtain⟨q1,_⟩:=h.rx j R hL.1;rw[<-e]at q1;refine⟨⟨q1,h1⟩,?_⟩;rw[cf,h2,e];rfl
 |[],.r _::_,_,hL,_=>hL.elim
 |_::_,[],_,hL,_=>hL.elim
 |[],[],_::_,_,hv=>by simp[cm]at hv;exact hv.elim
 |js,.s x::l,[],_,hv=>by
  have uu:di E (AV.sv x::cm js l) []:=by cases js<;>exact hv
  exact uu.elim
 |_::_,.r _::_,[],_,hv=>hv.elim
theorem sZ{α β:Type}:∀{l:List α} {k:List β} {b:β},l.length=k.length->b∈k->∃a,(a,b)∈l.zip k
 |a::l,c::k,b,h,hb=>by
  rcases List.mem_cons.1 hb with rfl|hb
  ·exact⟨a,by rw[List.zip_cons_cons];simp⟩
  obtain⟨a',h'⟩:=sZ (l:=l) (k:=k) (by simpa using h) hb;exact⟨a',by rw[List.zip_cons_cons];exact List.mem_cons_of_mem _ h'⟩
 |[],[],_,_,hb=>by cases hb
 |[],_::_,_,h,_=>by simp at h
theorem ql{C:Ctx}{S:AS}{E:Env}{a:Act}{w:World}(h:bn C S E a w){i:Nat}{T:TypeId}{js:List Nat}{c:List Oc}(hB:S.b i=some ⟨T,cm js c⟩)(hL:Lv S js (rowsOf c))(hn:js.Nodup):
  ∃us,pz E.M w (E.β i) T c us/\(∀g,ew c us g↔∃j∈js,(E.ν j).ownBlock=some g):=by
 obtain⟨_,q1,_,us,q2,q3⟩:=h.bx i _ hB;obtain⟨p1,p2⟩:=sY h hL q3;have hlen:=hL.len;have DF:∀g,ew c us g↔∃j∈js,(E.ν j).ownBlock=some g:=λg=>by
  unfold ew;rw[p2];constructor
  ·rintro⟨⟨R,v⟩,hm,hg⟩;obtain⟨j,hj,rfl⟩:=List.mem_map.1 (iY hm).2;exact⟨j,hj,hg⟩
  rintro⟨j,hj,hg⟩;obtain⟨R,hR⟩:=sZ (l:=rowsOf c) (k:=js.map E.ν) (by simp[hlen]) (List.mem_map.2 ⟨j,hj,Y⟩);exact⟨(R,E.ν j),hR,hg⟩
 refine⟨us,⟨q2,p1,q1,λg hg=>?_,?_⟩,DF⟩
 ·obtain⟨j,hj,yS⟩:=(DF g).1 hg;obtain⟨R,hR⟩:=hL.mem j hj;obtain⟨_,q4⟩:=h.rx j R hR;obtain⟨_,q5,_,q6⟩:=q4 g yS;exact⟨λe=>q6 i _ hB e.symm,q5⟩
 rw[p2];have key:∀(js:List Nat) (Rs:List Row),Lv S js Rs->js.Nodup->I1 (Rs.zip (js.map E.ν)):=by
  intro js
  induction js with
  |nil=>intro Rs hL _;cases Rs with|nil=>exact List.Pairwise.nil|cons _ _=>exact hL.elim
  |cons j js ih=>
   intro Rs hL hn;cases Rs with
   |nil=>exact hL.elim
   |cons R Rs=>
    rw[List.nodup_cons]at hn;rw[List.map_cons,List.zip_cons_cons];refine List.pairwise_cons.2 ⟨λp hp g e1 e2=>?_,ih Rs hL.2 hn.2⟩;obtain⟨R',v'⟩:=p;obtain⟨j',hj',rfl⟩:=List.mem_map.1 (iY hp).2;obtain⟨R2,hR2⟩:=hL.2.mem j' hj';have:=h.fm j j' R R2 hL.1 hR2 g e1 e2;subst this;exact hn.1 hj'
 exact key js _ hL hn
def oA(M:Mem)(β:Nat):Env:=⟨λ_=>β,λ_=>.nilIface,λ_=>False,M⟩
def Fc.oy:Fc->Bool
 |.val _=>true
 |.box i=>Nat.beq i 1000
 |.row _=>false
def AV.oy:AV->Bool
 |.sv _=>true
 |.ptr i _=>Nat.beq i 1000
 |.cmp _ js=>js.all Fc.oy
 |_=>false
def Fc.RH(i:Nat):Fc->Fc
 |.box _=>.box i
 |c=>c
def AV.RH(i:Nat):AV->AV
 |.ptr _ o=>.ptr i o
 |.cmp t js=>.cmp t (js.map (Fc.RH i))
 |x=>x
theorem Ki{E:Env}{i:Nat}{x:AV}{v:Value}(hx:x.oy=true)(h:(x.RH i).holds E v):x.holds (oA E.M (E.β i)) v:=by
 cases x with
 |sv s=>exact h
 |ptr k o=>exact h
 |cmp t js=>
  obtain⟨vs,rfl,h⟩:=h;refine⟨vs,Y,?_⟩;have key:∀(l:List Fc) (vs:List Value),(l.all Fc.oy)=true->Av E (l.map (Fc.RH i)) vs->Av (oA E.M (E.β i)) l vs:=by
   intro l
   induction l with
   |nil=>intro vs _ h;cases vs with|nil=>trivial|cons _ _=>exact h.elim
   |cons c l ih=>
    intro vs ho h;rw[List.all_cons,Bool.and_eq_true]at ho;cases vs with
    |nil=>exact h.elim
    |cons u vs=>
     refine⟨?_,ih vs ho.2 h.2⟩;cases c with
     |val s=>exact h.1
     |box k=>exact h.1
     |row k=>exact(Bool.false_ne_true ho.1).elim
  exact key js vs hx h
 |_=>exact(Bool.false_ne_true hx).elim
theorem Ae{E:Env}{i:Nat}:∀{l:List AV} {vs:List Value},(l.all AV.oy)=true->di E (l.map (AV.RH i)) vs->di (oA E.M (E.β i)) l vs
 |[],[],_,_=>trivial
 |x::l,v::vs,h,hv=>by
  rw[List.all_cons,Bool.and_eq_true]at h;exact⟨Ki h.1 hv.1,Ae h.2 hv.2⟩
 |[],_::_,_,h=>h.elim
 |_::_,[],_,h=>h.elim
def Pq(P:Program)(f:FuncId)(args:List AV)(T:TypeId)(c0:List Oc)(res:SV)(c1:List Oc):Prop:=
 ∀(M:Mem) (w:World) (β:Nat) (vs us:List Value),M.dh w->pz M w β T c0 us->di (oA M β) args vs->
  Calls P f ⟨vs⟩ w λe w'=>∃v M' us',e=.returned v/\M.le M'/\(∀b o x,M' b o=some x->M b o=some x\/w.heap.size<=b\/ew c0 us b)/\M'.dh w'/\res.h M' v/\
   pz M' w' β T c1 us'/\(∀g,ew c1 us' g->ew c0 us g\/w.heap.size<=g)/\w'.os=w.os/\w'.tape=w.tape/\w'.output=w.output/\w.heap.size<=w'.heap.size/\
   ∀k,k<w.heap.size->k≠β->¬ew c0 us k->w'.heap[k]? =w.heap[k]?
def Us(w:World)(M:Mem)(β:Nat)(c:List Oc)(us:List Value):Ctx:={w0:=w,M0:=M,own:=λk=>k=β\/ew c us k,tO:=λk=>k=β\/ew c us k,gC:=λi=>bif Nat.beq i 1000 then some β else none,ee:=λ_=>none,ro:=none,J:=λ_ _ _ _ _=>True,Cf:=λ_ h=>h,JI:=λ_ _ h=>(by cases h),jf:=λ_ _ _ _ _ _ _ _ _ _ _ _ _ _ _ _=>trivial}
theorem xg{M:Mem}{w:World}:∀{ids:List Nat} {c:List Oc} {us:List Value},pq M w c us->∀{i:Nat} {R:Row},(i,R)∈ids.zip (rowsOf c)->∃v,(i,R,v)∈ids.zip (cf c us)
 |ids,.s x::l,v::vs,h,i,R,hm=>by
  have hm':(i,R)∈ids.zip (rowsOf l):=hm;exact xg (c:=l) (us:=vs) h.2 hm'
 |k::ids,.r R'::l,v::vs,h,i,R,hm=>by
  have hm':(i,R)∈(k,R')::ids.zip (rowsOf l):=hm;rw[cf,List.zip_cons_cons];rcases List.mem_cons.1 hm' with e|e
  ·cases e;exact⟨v,by simp⟩
  obtain⟨v',h'⟩:=xg (ids:=ids) (c:=l) (us:=vs) h.2 e;exact⟨v',List.mem_cons_of_mem _ h'⟩
 |[],.r _::_,_::_,_,_,_,hm=>by simp at hm
 |_,[],[],_,_,_,hm=>by simp[rowsOf]at hm
 |_,[],_::_,h,_,_,_=>h.elim
 |_,.s _::_,[],h,_,_,_=>h.elim
 |_,.r _::_,[],h,_,_,_=>h.elim
theorem I2{n:Nat}{args:List AV}{T:TypeId}{c:List Oc}{M:Mem}{w:World}{β:Nat}{vs us:List Value}(ids:List Nat)(hM:M.dh w)(ho:pz M w β T c us)(hv:di (oA M β) args vs)(I3:args.all AV.oy=true)(hn:args.length<=n)(Ci:ids.Nodup)(RI:ids.length=(rowsOf c).length):
  bn (Us w M β c us) (AS.Cc n args [(1000,⟨T,cm ids c⟩)] (ids.zip (rowsOf c))) ⟨λ_=>β,ku (ids.zip (cf c us)) (λ_=>.nilIface),λ_=>False,M⟩ {tmps:=⟨vs⟩++Array.replicate (n-(⟨vs⟩:Array Value).size) undef,defers:=[]} w:=by
 have hl:=hv.length;have Wa:(cf c us).length=(rowsOf c).length:=by rw[<-iu ho.al,List.length_map]
 have hnd:((ids.zip (cf c us)).map (·.1)).Nodup:=by rw[Ad (by omega)];exact Ci
 have RJ:∀s,(qK args s).oy=true:=λs=>by
  rcases wE (l:=args) (k:=s)with e|e
  ·rw[e];rfl
  exact List.all_eq_true.1 I3 _ e
 have oyB:∀x:AV,x.oy=true->(∀j,x.mb j->j=1000)/\∀j,¬x.mr j:=λx hx=>by
  cases x with
  |sv s=>exact⟨λj e=>e.elim,λj e=>e⟩
  |ptr k o=>exact⟨λj e=>by cases e;exact Nat.eq_of_beq_eq_true hx,λj e=>e⟩
  |cmp t js=>
   refine⟨λj e=>?_,λj e=>?_⟩
   ·exact Nat.eq_of_beq_eq_true (List.all_eq_true.1 hx _ e)
   exact Bool.false_ne_true (List.all_eq_true.1 hx _ e)
  |_=>exact(Bool.false_ne_true hx).elim
 have hall:di ⟨λ_=>β,ku (ids.zip (cf c us)) (λ_=>.nilIface),λ_=>False,M⟩ args vs:=by
  refine hv.imp (λx hx v hh=>?_);exact AV.cI (E:=oA M β) (E':=⟨λ_=>β,ku (ids.zip (cf c us)) (λ_=>.nilIface),λ_=>False,M⟩) (Mem.le_refl _) (λ_ _=>rfl) (λj hj=>absurd hj ((oyB x (List.all_eq_true.1 I3 x hx)).2 j)) hh
 have live:∀j R,(AS.Cc n args [(1000,⟨T,cm ids c⟩)] (ids.zip (rowsOf c))).r j=.live R->(j,R)∈ids.zip (rowsOf c):=λj R hj=>by
  have hj:(match Ca (ids.zip (rowsOf c)) j with|some R=>kK.live R|none=>.un)=.live R:=hj;cases e:Ca (ids.zip (rowsOf c)) j with
  |none=>rw[e]at hj;cases hj
  |some R'=>rw[e]at hj;cases hj;exact zY e
 have isLive:∀j∈ids,(AS.Cc n args [(1000,⟨T,cm ids c⟩)] (ids.zip (rowsOf c))).r j≠ .un:=λj hj=>by
  have key:∀(ids:List Nat) (Rs:List Row),ids.length=Rs.length->j∈ids->∃R,Ca (ids.zip Rs) j=some R:=by
   intro ids
   induction ids with
   |nil=>intro _ _ h;cases h
   |cons k ids ih=>
    intro Rs hl hm;cases Rs with
    |nil=>simp at hl
    |cons R Rs=>
     rw[List.zip_cons_cons,Ca];by_cases e:j=k
     ·subst e;exact⟨R,by simp⟩
     rw[cC e];rcases List.mem_cons.1 hm with q|q
     ·exact absurd q e
     exact ih Rs (by simpa using hl) q
  obtain⟨R,hR⟩:=key ids _ RI hj;show(match Ca (ids.zip (rowsOf c)) j with|some R=>kK.live R|none=>.un)≠ .un;rw[hR];simp
 have box:∀j B,(AS.Cc n args [(1000,⟨T,cm ids c⟩)] (ids.zip (rowsOf c))).b j=some B->j=1000/\B=⟨T,cm ids c⟩:=λj B h=>by
  have:=oZ h;simpa using this
 have LA:(AS.Cc n args [(1000,⟨T,cm ids c⟩)] (ids.zip (rowsOf c))).b 1000=some ⟨T,cm ids c⟩:=rfl
 exact{
  wf:=by
   refine⟨λs j hj=>?_,λs j hj=>?_,λi B hB x hx j hj=>?_,λi B hB x hx j hj=>?_⟩
   ·have:=(oyB _ (RJ s)).1 j hj;subst this;exact⟨_,LA⟩
   ·exact absurd hj ((oyB _ (RJ s)).2 j)
   ·obtain⟨rfl,rfl⟩:=box i B hB;exact absurd hj ((oz x hx).1 j)
   obtain⟨rfl,rfl⟩:=box i B hB;exact isLive j ((oz x hx).2 j hj)
  marks:=⟨[],Y,List.nodup_nil,by simp⟩
  size:=by simp[AS.Cc];omega
  os:=rfl
  tape:=rfl
  output:=rfl
  grown:=Nat.le_refl _
  frame:=λ_ _ _=>rfl
  m0:=Mem.le_refl _
  eG:=λ_ _ _ e=>.inl e
  dh:=hM
  tm:=λs=>Hw hall s
  bx:=λi B h=>by
   obtain⟨rfl,rfl⟩:=box i B h;refine⟨.inr (.inl Y),ho.nb,λh=>h,us,ho.hp,?_⟩;exact ow (w:=w) RI ho.al (λj p hm=>iG (R:=p.1) (v:=p.2) hnd hm)
  inj:=λi j B1 B2 hi hj _=>by rw[(box i B1 hi).1,(box j B2 hj).1]
  rx:=λj R hj=>by
   obtain⟨v,hm⟩:=xg ho.al (live j R hj);have hν:ku (ids.zip (cf c us)) (λ_=>Value.nilIface) j=v:=iG hnd hm;show(∃vs:List Value,w.ownsRow 0 R.E R.sz (ku (ids.zip (cf c us)) (λ_=>.nilIface) j) R.n vs/\SV.ef M R.cells vs)/\_;rw[hν];refine⟨kx ho.al (R,v) (iY hm).2,λg hg=>?_⟩;have hg:v.ownBlock=some g:=by rw[<-hν];exact hg
   have hb:ew c us g:=⟨(R,v),(iY hm).2,hg⟩;obtain⟨q1,q2⟩:=ho.nr g hb;refine⟨.inr (.inr hb),q2,λh=>h,λk B _ e=>q1 e.symm⟩
  fm:=λj j' R R' h1 h2 g e1 e2=>by
   obtain⟨v,hm⟩:=xg ho.al (live j R h1);obtain⟨v',hm'⟩:=xg ho.al (live j' R' h2);have hν:ku (ids.zip (cf c us)) (λ_=>Value.nilIface) j=v:=iG hnd hm;have acX:ku (ids.zip (cf c us)) (λ_=>Value.nilIface) j'=v':=iG hnd hm';exact yz Ci ho.ap j R v j' R' v' g hm hm' (by rw[<-hν];exact e1) (by rw[<-acX];exact e2)
  gC:=λi b e=>by
   simp only[Us]at e;cases h:Nat.beq i 1000 with
   |false=>rw[h]at e;cases e
   |true=>rw[h]at e;cases e;rfl
  ee:=λi v e=>by cases e
  kD:=λb e=>e.elim
  jj:=trivial}
theorem By{P:Program}{f:FuncId}{fn:Func}{code:Code}{args:List AV}{T:TypeId}{c0 c1:List Oc}{res:SV}(ids:List Nat)(hf:P.funcs[f]? =some fn)(hb:fn.body=some code)(hn:args.length<=fn.ntmps)(I3:args.all AV.oy=true)(Ci:ids.Nodup)(RI:ids.length=(rowsOf c0).length)
  (h:∀(w:World) (M:Mem) (β:Nat) (us:List Value),Ok P (Us w M β c0 us) code (AS.Cc fn.ntmps args [(1000,⟨T,cm ids c0⟩)] (ids.zip (rowsOf c0))) (λe S=>(e=.normal\/e=.ret)/\Li P S fn.results.toList res/\∃ks:List Nat,S.b 1000=some ⟨T,cm ks c1⟩/\Lv S ks (rowsOf c1)/\ks.Nodup)):Pq P f args T c0 res c1:=by
 intro M w β vs us hM ho hv;refine gp Y hf hb (I2 ids hM ho hv I3 hn Ci RI) (h w M β us) ?_;rintro S' E a w' ⟨hr,ks,hB,hL,hk⟩ hh;obtain⟨v,hv,hx⟩:=(zy.sv hr).run hh;have hβ:E.β 1000=β:=hh.gC 1000 β Y;obtain⟨us',ho',jW⟩:=ql hh hB hL hk;rw[hβ]at ho';refine⟨v,hv,v,E.M,us',Y,hh.m0,λb o x e=>?_,hh.dh,hx,ho',λg hg=>?_,hh.os,hh.tape,hh.output,hh.grown,λk hk hne hno=>hh.frame k hk (λe=>e.elim hne hno)⟩
 ·rcases hh.eG b o x e with q|q|q|q
  ·exact .inl q
  ·exact .inr (.inl q)
  ·rw[show b=β from q,ho'.nb o]at e;cases e
  exact .inr (.inr q)
 obtain⟨j,hj,yS⟩:=(jW g).1 hg;obtain⟨R,hR⟩:=hL.mem j hj;obtain⟨_,q⟩:=hh.rx j R hR;rcases(q g yS).1 with q1|q1|q1
 ·exact .inr q1
 ·exact absurd q1 (ho'.nr g hg).1
 exact .inl q1
end
section
open Go.RowKit
def Un(S:AS):List Nat->Prop
 |[]=>True
 |k::ks=>(S.r k=.un/\k<1000)/\Un S ks
theorem Un.mem{S:AS}:∀{ks:List Nat},Un S ks->∀k∈ks,S.r k=.un/\k<1000
 |k::ks,h,j,hj=>by
  rcases List.mem_cons.1 hj with rfl|hj
  ·exact h.1
  exact Un.mem h.2 j hj
 |[],_,j,hj=>by cases hj
theorem Un.congr{S S':AS}:∀{ks:List Nat},(∀k∈ks,S'.r k=S.r k)->Un S ks->Un S' ks
 |[],_,_=>trivial
 |k::ks,h,hu=>⟨by rw[h k (by simp)];exact hu.1,Un.congr (λj hj=>h j (List.mem_cons_of_mem _ hj)) hu.2⟩
theorem Lv.congr{S S':AS}:∀{js:List Nat} {Rs:List Row},(∀k∈js,S'.r k=S.r k)->Lv S js Rs->Lv S' js Rs
 |[],[],_,_=>trivial
 |j::js,R::Rs,h,hl=>⟨by rw[h j (by simp)];exact hl.1,Lv.congr (λk hk=>h k (List.mem_cons_of_mem _ hk)) hl.2⟩
 |[],_::_,_,h=>h.elim
 |_::_,[],_,h=>h.elim
def xh(js ks:List Nat)(c:List Oc):List (Nat×kK):=js.map (λj=>(j,kK.dead))++(ks.zip (rowsOf c)).map (λp=>(p.1,.live p.2))
theorem Gm:∀(ks:List Nat) (l:List (Row×Value)),(ks.zip l).map (λn=>(n.1,kK.live n.2.1))=(ks.zip (l.map (·.1))).map (λp=>(p.1,.live p.2))
 |[],_=>rfl
 |_::_,[]=>rfl
 |k::ks,p::l=>by rw[List.map_cons,List.zip_cons_cons,List.zip_cons_cons,List.map_cons,List.map_cons,Gm ks l]
theorem Gn{M:Mem}{w:World}{c:List Oc}{us:List Value}(h:pq M w c us)(js ks:List Nat):xe js (ks.zip (cf c us))=xh js ks c:=by
 unfold xe xh;rw[Gm,iu h]
section steps
variable {P:Program}{C:Ctx}{ops:Array Oper}{S:AS}{nd:Bool}{K:List Ac->AS->Prop}{rest:List Oper}{acc:List Ac}
variable {gd:Option (Nat×Bool)}{rg:List Nat}{d:Nat}{ty:TypeId}{pos:String}{aft:Array Edge}{x y z:Operand}{T U E0:TypeId}
theorem bn.Pr{E:Env}{a:Act}{w w':World}(h:bn C S E a w){i:Nat}{js ks:List Nat}{c0 c1:List Oc}{us us':List Value}{M':Mem}(hB:S.b i=some ⟨T,cm js c0⟩)(hL:Lv S js (rowsOf c0))(hks:ks.Nodup)(Cm:ks.length=(rowsOf c1).length)(Ps:Un S ks)
  (Bz:∀g,ew c0 us g↔∃j∈js,(E.ν j).ownBlock=some g) (hM:E.M.le M') (hn:∀b o x,M' b o=some x->E.M b o=some x\/w.heap.size<=b\/ew c0 us b) (hin:M'.dh w') (ho:pz M' w' (E.β i) T c1 us') (hg:∀g,ew c1 us' g->ew c0 us g\/w.heap.size<=g)
  (hos:w'.os=w.os) (qk:w'.tape=w.tape) (hout:w'.output=w.output) (hsize:w.heap.size<=w'.heap.size) (jW:∀k,k<w.heap.size->k≠E.β i->¬ew c0 us k->w'.heap[k]? =w.heap[k]?):
  ∃E':Env,E'.M=M'/\E'.β=E.β/\bn C (AS.b9 (xh js ks c1) (AS.fo [(i,⟨T,cm ks c1⟩)] S)) E' a w':=by
 have Wa:(cf c1 us').length=(rowsOf c1).length:=by rw[<-iu ho.al,List.length_map]
 have hnd:((ks.zip (cf c1 us')).map (·.1)).Nodup:=by rw[Ad (by omega)];exact hks
 rw[<-Gn ho.al js ks];refine⟨{E with M:=M',ν:=ku (ks.zip (cf c1 us')) E.ν},Y,Y,h.X1 hB js (ks.zip (cf c1 us')) (λj hj=>hL.mem j hj) (λk R v hm=>Ps.mem k (iY hm).1) hnd hM (λb o x e=>?_) hin ho.hp ho.nb ?_ (λx hx=>?_) (λk R v hm=>?_) (yz hks ho.ap) hos qk hout hsize (λk hk hne hno=>jW k hk hne (λq=>?_))⟩
 ·rcases hn b o x e with q|q|q
  ·exact .inl q
  ·exact .inr (.inl q)
  exact .inr (.inr ((Bz b).1 q))
 ·exact ow (E:={E with M:=M',ν:=ku (ks.zip (cf c1 us')) E.ν}) (w:=w') Cm ho.al (λj p hm=>iG (R:=p.1) (v:=p.2) hnd hm)
 ·obtain⟨q1,q2⟩:=oz x hx;refine⟨q1,λj hj=>?_⟩;have hj:=q2 j hj;have key:∀(ks:List Nat) (l:List (Row×Value)),ks.length=l.length->j∈ks->∃R v,(j,R,v)∈ks.zip l:=by
   intro ks
   induction ks with
   |nil=>intro _ _ h;cases h
   |cons k ks ih=>
    intro l hl hm;cases l with
    |nil=>simp at hl
    |cons p l=>
     rw[List.zip_cons_cons];rcases List.mem_cons.1 hm with q|q
     ·subst q;exact⟨p.1,p.2,by simp⟩
     obtain⟨R,v,h⟩:=ih l (by simpa using hl) q;exact⟨R,v,List.mem_cons_of_mem _ h⟩
  exact key ks _ (by omega) hj
 ·refine⟨kx ho.al (R,v) (iY hm).2,λg ER=>?_⟩;have hb:ew c1 us' g:=⟨(R,v),(iY hm).2,ER⟩;obtain⟨q1,q2⟩:=ho.nr g hb;refine⟨?_,q2,q1⟩;rcases hg g hb with q|q
  ·exact .inl ((Bz g).1 q)
  exact .inr q
 obtain⟨j,hj,e⟩:=(Bz k).1 q;exact hno j hj e
theorem RT.I4(hg:Gd ops S gd rg){f:FuncId}[dz P f]{g:Operand}{xs:Array Operand}{at_:Array TypeId}{args:List AV}{T:TypeId}{c0 c1:List Oc}{res:SV}(hp:Pq P f args T c0 res c1)(i:Nat)(js ks:List Nat)(hB:S.b i=some ⟨T,cm js c0⟩)(hL:Lv S js (rowsOf c0))(RK:js.Nodup)(hks:ks.Nodup)(Cm:ks.length=(rowsOf c1).length)(Ps:Un S ks)
  (I3:args.all AV.oy=true) (hf:S.ev g=.sv (.v (.func (.func f) #[] #[]))) (hargs:vk S xs.toList (args.map (AV.RH i))) (hd:d<S.n)
  (next:RunT P C ops nd K rest (⟨rg++(aZ g++xs.toList.flatMap aZ),[i],js++ks,⟨some (d,.sv res),[(i,⟨T,cm ks c1⟩)],xh js ks c1⟩⟩::acc) ((AS.b9 (xh js ks c1) (AS.fo [(i,⟨T,cm ks c1⟩)] S)).set d (.sv res))):RunT P C ops nd K (⟨some d,.call ⟨.value g,xs,at_⟩,ty,pos,aft,gd⟩::rest) acc S:=by
 refine .inl ⟨_,[i],js++ks,_,?_,next⟩;rintro S' hn ht hb hr k a w L Q ho ⟨E,h⟩ X7;refine cA (C:=C) ho (hg.wanted h (λs hs=>ht s (List.mem_append_left _ hs)) Y) ?_;have rY:a.eval g=.func (.func f) #[] ⟨[]⟩:=by
  have h1:=h.ev g;rw[bw (λ_ h=>List.mem_append_right _ (List.mem_append_left _ h)) ht,hf]at h1;exact h1
 have hall:=Ae I3 (vk.vals h hargs (λs hs=>ht s (List.mem_append_right _ (List.mem_append_right _ hs))));have fu:S'.b i=some ⟨T,cm js c0⟩:=by rw[hb i (by simp)];exact hB
 have RL:Lv S' js (rowsOf c0):=hL.congr (λk hk=>hr k (List.mem_append_left _ hk));have acY:Un S' ks:=Ps.congr (λk hk=>hr k (List.mem_append_right _ hk));obtain⟨us,Pt,Bz⟩:=ql h fu RL RK;refine ct (C:=C) (by intro c h;cases h) (mK rY) ?_;rw[List.append_nil];refine⟨λh=>by simp at h,gi ((hp E.M w (E.β i) _ us h.dh Pt hall).mono ?_)⟩;rintro e w' ⟨v,M',us',rfl,hM,hnew,hin,hv,IX,OE,hos,qk,hout,hsize,jW⟩;obtain⟨E',e1,e2,h1⟩:=h.Pr fu RL hks Cm acY Bz hM hnew hin IX OE hos qk hout hsize jW;refine X7 _ _ ⟨_,h1.put (x:=.sv res) (v:=v) (by show res.h E'.M v;rw[e1];exact hv) ?_ ff⟩;rw[(eU _ _).1];show d<S'.n;omega
theorem RT.ez(hg:Gd ops S gd rg){i o:Nat}(hx:S.ev x=.ptr i o)(hd:d<S.n)
  (next:RunT P C ops nd K rest (⟨rg++aZ x,[],[],⟨some (d,.ptr i o),[],[]⟩⟩::acc) (S.set d (.ptr i o))):RunT P C ops nd K (⟨some d,.nilCheck x,ty,pos,aft,gd⟩::rest) acc S:=
 RT.value hg (aZ x) [] [] (.ptr i o) hd (by intro c h;cases h) (λS' ht _ _ E a w h=>by
  have hx':S'.ev x=.ptr i o:=by rw[bw (λ_ h=>h) ht,hx]
  have h1:=h.ev x;rw[hx']at h1;have h2:a.eval x=.pointer (some ⟨E.β i,o,none⟩):=h1;exact⟨a.eval x,by simp[execOp,h2],h1,kO h.wf hx'⟩) next
class MI (P:Program) (T:TypeId):Prop where
 u:P.underlying T=some (.pointer (P.pointee T))
theorem RT.MJ(hg:Gd ops S gd rg)[tT:MI P T]{i o:Nat}(hx:S.ev x=.ptr i o)(hy:S.ev y=.sv (.v (.pointer none)))(hd:d<S.n)
  (next:RunT P C ops nd K rest (⟨rg++(aZ x++aZ y),[],[],⟨some (d,.sv (.v (.bool false))),[],[]⟩⟩::acc) (S.set d (.sv (.v (.bool false))))):RunT P C ops nd K (⟨some d,.binOp .eql T x y U,ty,pos,aft,gd⟩::rest) acc S:=
 RT.value hg (aZ x++aZ y) [] [] (.sv (.v (.bool false))) hd (by intro c h;cases h) (λS' ht _ _ E a w h=>by
  have h1:=h.ev x;rw[bw (λ_ h=>List.mem_append_left _ h) ht,hx]at h1;have h2:=h.ev y;rw[bw (λ_ h=>List.mem_append_right _ h) ht,hy]at h2;have h1:a.eval x=.pointer (some ⟨E.β i,o,none⟩):=h1;have h2:a.eval y=.pointer none:=h2;have e:=run_eql_pointer_nil (P:=P) w T (some ⟨E.β i,o,none⟩) tT.u;refine⟨.bool false,?_,Y,ff⟩;simp[execOp,h1,h2,eqGuard,e]) next
def Fc.av:Fc->AV
 |.val s=>.sv s
 |.box i=>.ptr i 0
 |.row i=>.row i
theorem RT.xj(hg:Gd ops S gd rg){i:Nat}{js:List Fc}{s:Fc}(hx:S.ev x=.cmp .yM js)(hi:js[i]? =some s)(hd:d<S.n)
  (next:RunT P C ops nd K rest (⟨rg++aZ x,[],[],⟨some (d,s.av),[],[]⟩⟩::acc) (S.set d s.av)):RunT P C ops nd K (⟨some d,.extract x i,ty,pos,aft,gd⟩::rest) acc S:=
 RT.value hg (aZ x) [] [] s.av hd (by intro c h;cases h) (λS' ht _ _ E a w h=>by
  have hx':S'.ev x=.cmp .yM js:=by rw[bw (λ_ h=>h) ht,hx]
  have h1:=h.ev x;rw[hx']at h1;obtain⟨l1,l2⟩:=kO h.wf hx';obtain⟨vs,hv,hall⟩:=h1;have hv:a.eval x=.tuple ⟨vs⟩:=hv;obtain⟨u,hu,hs⟩:=hall.get hi;have hm:=List.mem_of_getElem? hi;refine⟨u,by simp[execOp,hv,Instr.extract,hu],?_,λj e=>?_,λj e=>?_⟩
  ·cases s<;>exact hs
  ·cases s with
   |val s=>exact e.elim
   |box k=>have e:j=k:=e;subst e;exact l1 j hm
   |row k=>exact e.elim
  cases s with
  |val s=>exact e.elim
  |box k=>exact e.elim
  |row k=>have e:j=k:=e;subst e;exact l2 j hm) next
def acZ(tp:Bool)(p:Value)(rs:List Value):Value:=bif tp then .tuple ⟨p::rs⟩else p
def Kj(P:Program)(f:FuncId)(args:List SV)(tp:Bool)(rest:List SV)(T:TypeId)(c:List Oc):Prop:=
 ∀(M:Mem) (w:World) (vs:List Value),M.dh w->SV.ef M args vs->
  Calls P f ⟨vs⟩ w λe w'=>∃β rs M' us,e=.returned (acZ tp (.pointer (some ⟨β,0,none⟩)) rs)/\M.le M'/\(∀b o x,M' b o=some x->M b o=some x\/w.heap.size<=b)/\M'.dh w'/\SV.ef M' rest rs/\
   pz M' w' β T c us/\w.heap.size<=β/\(∀g,ew c us g->w.heap.size<=g)/\Below w.heap.size w w'
theorem Gp{w:World}{M:Mem}{S':AS}{E:Env}{a:Act}{w':World}{k:Nat}{ks:List Nat}{c:List Oc}(hB:S'.b k=some ⟨T,cm ks c⟩)(hL:Lv S' ks (rowsOf c))(hk:ks.Nodup)(hh:bn (E7 w M) S' E a w'):
  ∃us,M.le E.M/\(∀b o x,E.M b o=some x->M b o=some x\/w.heap.size<=b)/\E.M.dh w'/\pz E.M w' (E.β k) T c us/\w.heap.size<=E.β k/\(∀g,ew c us g->w.heap.size<=g)/\Below w.heap.size w w':=by
 obtain⟨us,ho,jW⟩:=ql hh hB hL hk;refine⟨us,hh.m0,λb o x e=>?_,hh.dh,ho,(hh.bx k _ hB).1.elim id (λh=>h.elim),λg hg=>?_,hh.os,hh.tape,hh.output,hh.grown,λk hk=>hh.frame k hk (λh=>h)⟩
 ·rcases hh.eG b o x e with h|h|h
  ·exact .inl h
  ·exact .inr h
  exact h.elim
 obtain⟨j,hj,yS⟩:=(jW g).1 hg;obtain⟨R,hR⟩:=hL.mem j hj;exact((hh.rx j R hR).2 g yS).1.elim id (λh=>h.elim)
theorem Gq{f:FuncId}{fn:Func}{code:Code}{args:List SV}{c:List Oc}(hf:P.funcs[f]? =some fn)(hb:fn.body=some code)(hn:args.length<=fn.ntmps)
  (h:∀(w:World) (M:Mem) (vs:List Value),SV.ef M args vs->Ok P (E7 w M) code (AS.init fn.ntmps args) (λe S=>(e=.normal\/e=.ret)/\∃(k:Nat) (ks:List Nat),zy P S fn.results.toList (.ptr k 0)/\S.b k=some ⟨T,cm ks c⟩/\Lv S ks (rowsOf c)/\ks.Nodup)):Kj P f args false [] T c:=by
 intro M w vs hM hvs;refine gp Y hf hb (jV hM hvs hn) (h w M vs hvs) ?_;rintro S' E a w' ⟨k,ks,hr,hB,hL,hk⟩ hh;obtain⟨v,hv,hx⟩:=hr.run hh;obtain rfl:v=.pointer (some ⟨E.β k,0,none⟩):=hx;obtain⟨us,q1,q2,q3,q4,q5,q6,q7⟩:=Gp hB hL hk hh;exact⟨_,hv,E.β k,[],E.M,us,Y,q1,q2,q3,aq,q4,q5,q6,q7⟩
theorem Gr{f:FuncId}{fn:Func}{code:Code}{args:List SV}{s:SV}{c:List Oc}{t1 t2:Nat}(hf:P.funcs[f]? =some fn)(hb:fn.body=some code)(hn:args.length<=fn.ntmps)(hres:fn.results=#[.tmp t1,.tmp t2])
  (h:∀(w:World) (M:Mem) (vs:List Value),SV.ef M args vs->Ok P (E7 w M) code (AS.init fn.ntmps args) (λe S=>(e=.normal\/e=.ret)/\∃(k:Nat) (ks:List Nat),S.t t1=.ptr k 0/\S.t t2=.sv s/\S.b k=some ⟨T,cm ks c⟩/\Lv S ks (rowsOf c)/\ks.Nodup)):Kj P f args true [s] T c:=by
 intro M w vs hM hvs;refine gp Y hf hb (jV hM hvs hn) (h w M vs hvs) ?_;rintro S' E a w' ⟨k,ks,Ut,X8,hB,hL,hk⟩ hh;have h1:=hh.tm t1;rw[Ut]at h1;have h1:a.tmps.getD t1 undef=.pointer (some ⟨E.β k,0,none⟩):=h1;have h2:=hh.tm t2;rw[X8]at h2;obtain⟨us,q1,q2,q3,q4,q5,q6,q7⟩:=Gp hB hL hk hh;refine⟨.tuple #[.pointer (some ⟨E.β k,0,none⟩),a.tmps.getD t2 undef],?_,E.β k,[a.tmps.getD t2 undef],E.M,us,Y,q1,q2,q3,⟨h2,aq⟩,q4,q5,q6,q7⟩;rw[Array.getD_eq_getD_getElem?]at h1;simp[results,hres,h1]
theorem bn.I5{a:Act}{w:World}:∀(ks:List Nat) (l:List (Row×Value)) {S:AS} {E:Env},bn C S E a w->ks.length=l.length->ks.Nodup->Un S ks->(∀p∈l,∃vs:List Value,w.ownsRow 0 p.1.E p.1.sz p.2 p.1.n vs/\SV.ef E.M p.1.cells vs)->I1 l->(∀p∈l,∀g,p.2.ownBlock=some g->JM C S E g)->
  ∃E':Env,E'.M=E.M/\E'.β=E.β/\E'.O=E.O/\(∀i p,(i,p)∈ks.zip l->E'.ν i=p.2)/\(∀i,i∉ks->E'.ν i=E.ν i)/\bn C (AS.b9 ((ks.zip l).map (λn=>(n.1,.live n.2.1))) S) E' a w
 |[],[],S,E,h,_,_,_,_,_,_=>⟨E,Y,Y,Y,λi p hm=>(by simp at hm),λ_ _=>Y,h⟩
 |k::ks,p::l,S,E,h,hl,hn,hu,ho,ha,hf=>by
  obtain⟨R,v⟩:=p;rw[List.nodup_cons]at hn;obtain⟨ZP,ha2⟩:=List.pairwise_cons.1 ha;obtain⟨vs,Pt,IX⟩:=ho (R,v) (by simp);have h1:=h.DE hu.1.1 hu.1.2 [] none (.inl ⟨Y,Y⟩) (R':=R) Pt IX (λg hg=>.inr (hf (R,v) (by simp) g hg)) (qL w none);have hu':Un (AS.b9 ([]++[(k,.live R)]) S) ks:=hu.2.congr (λj hj=>by
   show(AS.pE S k _).r j=_;exact AS.jT _ _ _ _ (λe=>hn.1 (e▸hj)))
  obtain⟨E',q1,q2,q3,q4,q5,q6⟩:=bn.I5 ks l h1 (by simpa using hl) hn.2 hu' (λp hp=>ho p (List.mem_cons_of_mem _ hp)) ha2 (λp hp g hg=>by
   obtain⟨f1,f2,f3,f4,f5⟩:=hf p (List.mem_cons_of_mem _ hp) g hg;refine⟨f1,f2,f3,f4,λj R' nU e=>?_⟩;have nU:(AS.pE S k (.live R)).r j=.live R':=nU;by_cases ej:j=k
   ·subst ej;have e:(if j=j then v else E.ν j).ownBlock=some g:=e;rw[if_pos rfl]at e;exact ZP p hp g e hg
   rw[AS.jT _ _ _ _ ej]at nU;have e:(if j=k then v else E.ν j).ownBlock=some g:=e;rw[if_neg ej]at e;exact f5 j R' nU e)
  refine⟨E',q1,q2,q3,λi p hm=>?_,λi hi=>?_,q6⟩
  ·rw[List.zip_cons_cons]at hm;rcases List.mem_cons.1 hm with e|e
   ·cases e;rw[q5 k hn.1];show(if k=k then v else E.ν k)=v;rw[if_pos rfl]
   exact q4 i p e
  rw[q5 i (λhm=>hi (List.mem_cons_of_mem _ hm))];show(if i=k then v else E.ν i)=E.ν i;rw[if_neg (λe=>hi (by rw[e];simp))]
 |[],_::_,_,_,_,hl,_,_,_,_,_=>by simp at hl
 |_::_,[],_,_,_,hl,_,_,_,_,_=>by simp at hl
theorem BA(i:Nat)(B:nX):∀(l:List (Nat×kK)) (S:AS),AS.b9 l (S.jv i B)=(AS.b9 l S).jv i B
 |[],_=>rfl
 |(j,R)::l,S=>BA i B l (S.pE j R)
theorem s9{α β:Type}:∀{l:List α} {k:List β} {a:α},l.length=k.length->a∈l->∃b,(a,b)∈l.zip k
 |a::l,c::k,b,h,hb=>by
  rcases List.mem_cons.1 hb with rfl|hb
  ·exact⟨c,by rw[List.zip_cons_cons];simp⟩
  obtain⟨a',h'⟩:=s9 (l:=l) (k:=k) (by simpa using h) hb;exact⟨a',by rw[List.zip_cons_cons];exact List.mem_cons_of_mem _ h'⟩
 |[],_,_,_,hb=>by cases hb
 |_::_,[],_,h,_=>by simp at h
theorem bn.newObj{E:Env}{a:Act}{w w':World}(h:bn C S E a w){i:Nat}(hi:S.b i=none)(hp:C.gC i=none){ks:List Nat}{c:List Oc}{us:List Value}{M':Mem}{β:Nat}(hks:ks.Nodup)(Cm:ks.length=(rowsOf c).length)(Ps:Un S ks)
  (hM:E.M.le M') (hn:∀b o x,M' b o=some x->E.M b o=some x\/w.heap.size<=b) (hin:M'.dh w') (ho:pz M' w' β T c us) (hβ:w.heap.size<=β) (hg:∀g,ew c us g->w.heap.size<=g) (OW:Below w.heap.size w w'):
  ∃E':Env,E'.M=M'/\E'.β i=β/\bn C (AS.b9 (xh [] ks c) (AS.fo [(i,⟨T,cm ks c⟩)] S)) E' a w':=by
 have Wa:(cf c us).length=(rowsOf c).length:=by rw[<-iu ho.al,List.length_map]
 have h0:=h.grow hM hn hin OW;obtain⟨E1,q1,q2,q3,q4,q5,h1⟩:=bn.I5 ks (cf c us) h0 (by omega) hks Ps (kx ho.al) ho.ap (λp hp g ER=>h.z1 (hg g ⟨p,hp,ER⟩) (ho.nr g ⟨p,hp,ER⟩).2);have hS1:AS.b9 ((ks.zip (cf c us)).map (λn=>(n.1,.live n.2.1))) S=AS.b9 (xh [] ks c) S:=by rw[<-Gn ho.al [] ks];rfl
 rw[hS1]at h1;obtain⟨f1,f2,f3,f4,f5⟩:=h.z1 (M':=M') hβ ho.nb;have hi1:(AS.b9 (xh [] ks c) S).b i=none:=by rw[(eU _ _).2.2.1];exact hi
 have hfree:JM C (AS.b9 (xh [] ks c) S) E1 β:=by
  refine⟨f1,by rw[q1];exact f2,by rw[q3];exact f3,λj B hB=>?_,λj R hR e=>?_⟩
  ·rw[(eU _ _).2.2.1]at hB;rw[q2];exact f4 j B hB
  by_cases hj:j∈ks
  ·obtain⟨p,hm⟩:=s9 (l:=ks) (k:=cf c us) (by omega) hj;rw[q4 j p hm]at e;exact(ho.nr β ⟨p,(iY hm).2,e⟩).1 Y
  rw[jR,vN (λR hm=>by
   obtain⟨x,hx,e⟩:=List.mem_map.1 (show(j,R)∈(ks.zip (rowsOf c)).map (λp=>(p.1,kK.live p.2))from hm);obtain⟨k,R2⟩:=x;have e:k=j:=congrArg Prod.fst e;exact hj (e▸(iY hx).1))]at hR
  rw[q5 j hj]at e;exact f5 j R hR e
 have h2:=h1.IL hi1 hp hfree ho.hp (ow (w:=w') Cm (by rw[q1];exact ho.al) q4) (λx hx=>by
  obtain⟨p1,p2⟩:=oz x hx;refine⟨λj e=>absurd e (p1 j),λj e=>?_⟩;obtain⟨R,hm⟩:=s9 (l:=ks) (k:=rowsOf c) Cm (p2 j e);obtain⟨R',nU⟩:=Bx (l:=xh [] ks c) (j:=j) (R:=.live R) (List.mem_map.2 ⟨(j,R),hm,Y⟩);rw[jR,nU];obtain⟨x,hx,e⟩:=List.mem_map.1 (show(j,R')∈(ks.zip (rowsOf c)).map (λp=>(p.1,kK.live p.2))from vO nU);rw[<-show kK.live x.2=R' from congrArg Prod.snd e];simp)
 refine⟨{E1 with β:=λj=>if j=i then β else E1.β j},q1,?_,?_⟩
 rotate_left 1
 ·rw[show AS.fo [(i,(⟨T,cm ks c⟩:nX))] S=S.jv i ⟨T,cm ks c⟩from Y,BA];exact h2
 show(if i=i then β else E1.β i)=β;rw[if_pos rfl]
theorem RT.MK(hg:Gd ops S gd rg){f:FuncId}[dz P f]{g:Operand}{xs:Array Operand}{at_:Array TypeId}{args:List SV}{T:TypeId}{c:List Oc}(hp:Kj P f args false [] T c)(ks:List Nat)(hks:ks.Nodup)(Cm:ks.length=(rowsOf c).length)(Ps:Un S ks)(hf:S.ev g=.sv (.v (.func (.func f) #[] #[])))(hargs:ga S xs.toList args)(hd:d<S.n)(hdb:S.b d=none)(Hz:C.gC d=none)
  (next:RunT P C ops nd K rest (⟨rg++(aZ g++xs.toList.flatMap aZ),[d],ks,⟨some (d,.ptr d 0),[(d,⟨T,cm ks c⟩)],xh [] ks c⟩⟩::acc) ((AS.b9 (xh [] ks c) (AS.fo [(d,⟨T,cm ks c⟩)] S)).set d (.ptr d 0))):RunT P C ops nd K (⟨some d,.call ⟨.value g,xs,at_⟩,ty,pos,aft,gd⟩::rest) acc S:=by
 refine .inl ⟨_,[d],ks,_,?_,next⟩;rintro S' hn ht hb hr i a w L Q ho ⟨E,h⟩ hL;refine cA (C:=C) ho (hg.wanted h (λs hs=>ht s (List.mem_append_left _ hs)) Y) ?_;have rY:a.eval g=.func (.func f) #[] ⟨[]⟩:=by
  have h1:=h.ev g;rw[bw (λ_ h=>List.mem_append_right _ (List.mem_append_left _ h)) ht,hf]at h1;exact h1
 have hall:=ga.vals h hargs (λs hs=>ht s (List.mem_append_right _ (List.mem_append_right _ hs)));have hdn:S'.b d=none:=by rw[hb d (by simp)];exact hdb
 refine ct (C:=C) (by intro c h;cases h) (mK rY) ?_;rw[List.append_nil];refine⟨λh=>by simp at h,gi ((hp E.M w _ h.dh hall).mono ?_)⟩;rintro e w' ⟨β,rs,M',us,rfl,hM,hnew,hin,Wb,IX,hβ,OE,OW⟩;obtain⟨E',e1,e2,h1⟩:=h.newObj hdn Hz hks Cm (Ps.congr hr) hM hnew hin IX hβ OE OW;refine hL _ _ ⟨_,h1.put (x:=.ptr d 0) (v:=.pointer (some ⟨β,0,none⟩)) (by show _=Value.pointer (some ⟨E'.β d,0,none⟩);rw[e2]) ?_ ⟨λj e=>?_,λj e=>e.elim⟩⟩
 ·rw[(eU _ _).1];show d<S'.n;omega
 have e:j=d:=e;subst e;rw[(eU _ _).2.2.1];exact⟨_,AS.cV _ _ _⟩
theorem RT.I6(hg:Gd ops S gd rg){f:FuncId}[dz P f]{g:Operand}{xs:Array Operand}{at_:Array TypeId}{args:List SV}{T:TypeId}{c:List Oc}{s:SV}(hp:Kj P f args true [s] T c)(ks:List Nat)(hks:ks.Nodup)(Cm:ks.length=(rowsOf c).length)(Ps:Un S ks)(hf:S.ev g=.sv (.v (.func (.func f) #[] #[])))(hargs:ga S xs.toList args)(hd:d<S.n)(hdb:S.b d=none)(Hz:C.gC d=none)
  (next:RunT P C ops nd K rest (⟨rg++(aZ g++xs.toList.flatMap aZ),[d],ks,⟨some (d,.cmp .yM [.box d,.val s]),[(d,⟨T,cm ks c⟩)],xh [] ks c⟩⟩::acc) ((AS.b9 (xh [] ks c) (AS.fo [(d,⟨T,cm ks c⟩)] S)).set d (.cmp .yM [.box d,.val s]))):RunT P C ops nd K (⟨some d,.call ⟨.value g,xs,at_⟩,ty,pos,aft,gd⟩::rest) acc S:=by
 refine .inl ⟨_,[d],ks,_,?_,next⟩;rintro S' hn ht hb hr i a w L Q ho ⟨E,h⟩ hL;refine cA (C:=C) ho (hg.wanted h (λs hs=>ht s (List.mem_append_left _ hs)) Y) ?_;have rY:a.eval g=.func (.func f) #[] ⟨[]⟩:=by
  have h1:=h.ev g;rw[bw (λ_ h=>List.mem_append_right _ (List.mem_append_left _ h)) ht,hf]at h1;exact h1
 have hall:=ga.vals h hargs (λs hs=>ht s (List.mem_append_right _ (List.mem_append_right _ hs)));have hdn:S'.b d=none:=by rw[hb d (by simp)];exact hdb
 refine ct (C:=C) (by intro c h;cases h) (mK rY) ?_;rw[List.append_nil];refine⟨λh=>by simp at h,gi ((hp E.M w _ h.dh hall).mono ?_)⟩;rintro e w' ⟨β,rs,M',us,rfl,hM,hnew,hin,Wb,IX,hβ,OE,OW⟩;obtain⟨E',e1,e2,h1⟩:=h.newObj hdn Hz hks Cm (Ps.congr hr) hM hnew hin IX hβ OE OW
 match rs,Wb with
 |[r],Wb=>
  refine hL _ _ ⟨_,h1.put (x:=.cmp .yM [.box d,.val s]) (v:=.tuple #[.pointer (some ⟨β,0,none⟩),r]) ⟨[.pointer (some ⟨β,0,none⟩),r],Y,by show _=Value.pointer (some ⟨E'.β d,0,none⟩);rw[e2],by show s.h E'.M r;rw[e1];exact Wb.1,aq⟩ ?_ ⟨λj e=>?_,λj e=>?_⟩⟩
  ·rw[(eU _ _).1];show d<S'.n;omega
  ·have e:j=d:=by simpa[AV.mb]using e
   subst e;rw[(eU _ _).2.2.1];exact⟨_,AS.cV _ _ _⟩
  simp[AV.mr]at e
end steps
end
section
open Go.RowKit
def yA(P:Program)(f:FuncId)(args:List AV)(T:TypeId)(c:List Oc)(res:SV):Prop:=
 ∀(M:Mem) (w:World) (β:Nat) (vs us:List Value),M.dh w->pz M w β T c us->di (oA M β) args vs->
  Calls P f ⟨vs⟩ w λe w'=>∃v M',e=.returned v/\M.le M'/\(∀b o x,M' b o=some x->M b o=some x\/w.heap.size<=b)/\M'.dh w'/\res.h M' v/\
   pz M' w' β T c us/\w'.os=w.os/\w'.tape=w.tape/\w'.output=w.output/\w.heap.size<=w'.heap.size/\∀k,k<w.heap.size->k≠β->¬ew c us k->w'.heap[k]? =w.heap[k]?
def Wc:List (Nat×Row×Value)->Nat->Option Value
 |[],_=>none
 |(k,_,v)::l,j=>if j=k then some v else Wc l j
theorem Eh:∀{l:List (Nat×Row×Value)} {j:Nat} {v:Value},Wc l j=some v->∃R,(j,R,v)∈l
 |(k,R,u)::l,j,v,h=>by
  rw[Wc]at h;by_cases e:j=k
  ·rw[if_pos e]at h;cases h;subst e;exact⟨R,by simp⟩
  rw[if_neg e]at h;obtain⟨R',hm⟩:=Eh h;exact⟨R',List.mem_cons_of_mem _ hm⟩
 |[],_,_,h=>by cases h
theorem ML:∀{l:List (Nat×Row×Value)} {j:Nat} {R:Row} {v:Value},(l.map (·.1)).Nodup->(j,R,v)∈l->Wc l j=some v
 |(k,R',v')::l,j,R,v,hn,h=>by
  rw[List.map_cons,List.nodup_cons]at hn;rw[Wc];rcases List.mem_cons.1 h with e|e
  ·cases e;rw[if_pos rfl]
  have:j≠k:=λq=>hn.1 (List.mem_map.2 ⟨(j,R,v),e,q⟩);rw[if_neg this];exact ML hn.2 e
theorem Uu{ids:List Nat}(h:(ids.all λi=>Nat.ble 1000 i)=true):∀i∈ids,1000<=i:=λi hi=>af (List.all_eq_true.1 h i hi)
def Pu(w:World)(M:Mem)(β:Nat)(c:List Oc)(us:List Value)(ids:List Nat)(Ci:(ids.all λi=>Nat.ble 1000 i)=true):Ctx:={w0:=w,M0:=M,own:=λk=>k=β\/ew c us k,tO:=λk=>k=β\/ew c us k,gC:=λi=>bif Nat.beq i 1000 then some β else none,ee:=Wc (ids.zip (cf c us)),ro:=none,J:=λ_ _ _ _ _=>True,Cf:=λ_ h=>h,JI:=λ_ _ h=>(by obtain⟨R,hm⟩:=Eh h;exact Uu Ci _ (iY hm).1),jf:=λ_ _ _ _ _ _ _ _ _ _ _ _ _ _ _ _=>trivial}
def Oc.cst:Oc->Prop
 |.s x=>∃v,x=.v v
 |.r _=>True
def Ei:List Oc->Prop
 |[]=>True
 |c::l=>c.cst/\Ei l
theorem Ej{M M':Mem}{w w':World}:∀{c:List Oc} {us us':List Value},Ei c->pq M w c us->pq M' w' c us'->cf c us=cf c us'->us=us'
 |[],[],[],_,_,_,_=>rfl
 |.s x::l,v::vs,v'::vs',hc,h,h',e=>by
  obtain⟨y,rfl⟩:=hc.1;have e1:v=y:=h.1;have e2:v'=y:=h'.1;rw[e1,e2,Ej hc.2 h.2 h'.2 e]
 |.r R::l,v::vs,v'::vs',hc,h,h',e=>by
  rw[cf,cf]at e;have e1:=(List.cons.inj e).1;have e2:=(List.cons.inj e).2;rw[Ej hc.2 h.2 h'.2 e2];rw[(Prod.mk.inj e1).2]
 |[],[],_::_,_,_,h,_=>h.elim
 |[],_::_,_,_,h,_,_=>h.elim
 |.s _::_,[],_,_,h,_,_=>h.elim
 |.r _::_,[],_,_,h,_,_=>h.elim
 |.s _::_,_::_,[],_,_,h,_=>h.elim
 |.r _::_,_::_,[],_,_,h,_=>h.elim
section steps
variable {P:Program}{C:Ctx}{ops:Array Oper}{S:AS}{nd:Bool}{K:List Ac->AS->Prop}{rest:List Oper}{acc:List Ac}
variable {gd:Option (Nat×Bool)}{rg:List Nat}{d:Nat}{ty:TypeId}{pos:String}{aft:Array Edge}{x y z:Operand}{T U E0:TypeId}
theorem bn.I7{E:Env}{a:Act}{w w':World}(h:bn C S E a w){i:Nat}{js:List Nat}{c:List Oc}{us:List Value}{M':Mem}(hB:S.b i=some ⟨T,cm js c⟩)(hL:Lv S js (rowsOf c))(RK:js.Nodup)(zW:pz E.M w (E.β i) T c us)
  (hM:E.M.le M') (hn:∀b o x,M' b o=some x->E.M b o=some x\/w.heap.size<=b) (hin:M'.dh w') (ho:pz M' w' (E.β i) T c us)
  (hos:w'.os=w.os) (qk:w'.tape=w.tape) (hout:w'.output=w.output) (hsize:w.heap.size<=w'.heap.size) (jW:∀k,k<w.heap.size->k≠E.β i->¬ew c us k->w'.heap[k]? =w.heap[k]?):
  bn C S {E with M:=M'} a w':=by
 obtain⟨Kg,acT,Pp,Wd,Kh,X9⟩:=h.bx i _ hB;obtain rfl:Wd=us:=by
  rw[zW.hp]at Kh;have:=Option.some.inj Kh;injection this with e
  injection e with e
  exact e.symm
 obtain⟨_,Wa⟩:=sY h hL X9;have hlen:=hL.len;have DF:∀g,ew c Wd g↔∃j∈js,(E.ν j).ownBlock=some g:=λg=>by
  unfold ew;rw[Wa];constructor
  ·rintro⟨⟨R,v⟩,hm,hg⟩;obtain⟨j,hj,rfl⟩:=List.mem_map.1 (iY hm).2;exact⟨j,hj,hg⟩
  rintro⟨j,hj,hg⟩;obtain⟨R,hR⟩:=sZ (l:=rowsOf c) (k:=js.map E.ν) (by simp[hlen]) (List.mem_map.2 ⟨j,hj,Y⟩);exact⟨(R,E.ν j),hR,hg⟩
 have yy:∀g,ew c Wd g->(C.w0.heap.size<=g\/C.tO g)/\¬E.O g/\(∀n B,S.b n=some B->E.β n≠g)/\∃c e,w.heap[g]? =some (Obj.cells c e (0,0)):=λg hg=>by
  obtain⟨j,hj,yS⟩:=(DF g).1 hg;obtain⟨R,hR⟩:=hL.mem j hj;obtain⟨⟨us,q1,_⟩,q2⟩:=h.rx j R hR;obtain⟨q3,q4,q5,q6⟩:=q2 g yS;refine⟨q3,q5,q6,?_⟩;rcases q1.2 with⟨q7,_⟩|⟨g',cap,cur,q7,_,q8,_⟩
  ·rw[q7]at yS;cases yS
  rw[q7]at yS;cases yS;exact⟨_,_,q8⟩
 have keep:∀x:AV,∀v,x.holds E v->x.holds {E with M:=M'} v:=λx v hv=>AV.cI (E:=E) (E':={E with M:=M'}) hM (λ_ _=>rfl) (λ_ _=>rfl) hv;have Ur:∀b,b<w.heap.size->(∀o,E.M b o=none)->∀o,M' b o=none:=λb h1 h2 o=>by
  cases e:M' b o with
  |none=>rfl
  |some v=>
   rcases hn b o v e with q|q
   ·rw[h2 o]at q;cases q
   omega
 exact{
  wf:=h.wf
  marks:=by
   obtain⟨ds,d1,d2,d3⟩:=h.marks;refine⟨ds,d1,d2,λr hr=>?_⟩;obtain⟨p1,p2,p3⟩:=d3 r hr;refine⟨p1,p2,?_⟩;rw[jW r (Array.getElem?_eq_some_iff.1 p3).1 (λe=>by rw[e,Kh]at p3;cases p3) (λe=>by
    obtain⟨_,_,_,c,e2,q⟩:=yy r e;rw[q]at p3;cases p3)]
   exact p3
  size:=h.size
  os:=hos.trans h.os
  tape:=qk.trans h.tape
  output:=hout.trans h.output
  grown:=Nat.le_trans h.grown hsize
  frame:=λk hk hown=>by
   rw[jW k (Nat.lt_of_lt_of_le hk h.grown) (λe=>by
    rcases Kg with q|q
    ·omega
    ·exact hown (C.Cf _ (by rw[e];exact q))) (λe=>by
    rcases(yy k e).1 with q|q
    ·omega
    exact hown (C.Cf _ q))]
   exact h.frame k hk hown
  m0:=Mem.le_trans h.m0 hM
  eG:=λb o v e=>by
   rcases hn b o v e with q|q
   ·exact h.eG b o v q
   exact .inr (.inl (Nat.le_trans h.grown q))
  dh:=hin
  tm:=λs=>keep _ _ (h.tm s)
  bx:=λj B fu=>by
   obtain⟨p1,p2,p3,vs,p4,p5⟩:=h.bx j B fu;have hlt:=(Array.getElem?_eq_some_iff.1 p4).1;by_cases e:j=i
   ·subst e;rw[hB]at fu;cases fu;refine⟨p1,ho.nb,p3,Wd,ho.hp,?_⟩;exact X9.imp (λx _ v hv=>keep x v hv)
   refine⟨p1,Ur _ hlt p2,p3,vs,?_,p5.imp (λx _ v hv=>keep x v hv)⟩;show w'.heap[E.β j]? =_;rw[jW _ hlt (λq=>e (h.inj j i B _ fu hB q)) (λq=>(yy _ q).2.2.1 j B fu Y)];exact p4
  inj:=h.inj
  rx:=λj R hR=>by
   obtain⟨⟨vs,p1,p2⟩,p3⟩:=h.rx j R hR;by_cases hj:j∈js
   ·have hz:(R,E.ν j)∈cf c Wd:=by
     rw[Wa];have key:∀(js:List Nat) (Rs:List Row),Lv S js Rs->j∈js->(R,E.ν j)∈Rs.zip (js.map E.ν):=by
      intro js
      induction js with
      |nil=>intro _ _ h;cases h
      |cons k js ih=>
       intro Rs hl hm;cases Rs with
       |nil=>exact hl.elim
       |cons R' Rs=>
        rw[List.map_cons,List.zip_cons_cons];rcases List.mem_cons.1 hm with q|q
        ·subst q;have:=hl.1;rw[hR]at this;cases this;simp
        exact List.mem_cons_of_mem _ (ih Rs hl.2 q)
     exact key js _ hL hj
    refine⟨kx ho.al _ hz,λg hg=>?_⟩;obtain⟨p4,p5,p6,p7⟩:=p3 g hg;exact⟨p4,(ho.nr g ⟨_,hz,hg⟩).2,p6,p7⟩
   have X6:∀g,(E.ν j).ownBlock=some g->¬ew c Wd g:=λg hg q=>by
    obtain⟨j',hj',e⟩:=(DF g).1 q;obtain⟨R',nU⟩:=hL.mem j' hj';have:=h.fm j j' R R' hR nU g hg e;subst this;exact hj hj'
   refine⟨⟨vs,dw p1 λg hg=>jW g (jb h hR hg) (λe=>(p3 g hg).2.2.2 i _ hB e.symm) (X6 g hg),p2.mono hM⟩,λg hg=>?_⟩;obtain⟨p4,p5,p6,p7⟩:=p3 g hg;exact⟨p4,Ur g (jb h hR hg) p5,p6,p7⟩
  fm:=h.fm
  gC:=h.gC
  ee:=h.ee
  kD:=λb hb=>by
   obtain⟨p1,p2,p3⟩:=h.kD b hb;exact⟨Nat.lt_of_lt_of_le p1 hsize,Ur b p1 p2,p3⟩
  jj:=C.jf S.g S.go E.O E.M M' w w' h.jj hM hin (λb o v e=>by
    rcases hn b o v e with q|q
    ·exact .inl q
    ·exact .inr ⟨.inl (Nat.le_trans h.grown q),λq2=>by have:=(h.kD b q2).1;omega⟩) (λb hb=>by
    have hb':b<w.heap.size:=by
     rcases hb with⟨q,_⟩|q
     ·exact Nat.lt_of_lt_of_le q h.grown
     exact(h.kD b q).1
    refine jW b hb' (λe=>?_) (λe=>?_)
    ·subst e;rcases hb with⟨q1,q2⟩|q
     ·rcases Kg with p|p
      ·omega
      exact q2 p
     exact Pp q
    obtain⟨o1,o3,_⟩:=yy b e;rcases hb with⟨q1,q2⟩|q
    ·rcases o1 with p|p
     ·omega
     exact q2 p
    exact o3 q) hos qk hout hsize}
theorem RT.jq(hg:Gd ops S gd rg){f:FuncId}[dz P f]{g:Operand}{xs:Array Operand}{at_:Array TypeId}{args:List AV}{T:TypeId}{c:List Oc}{res:SV}(hp:yA P f args T c res)(i:Nat)(js:List Nat)(hB:S.b i=some ⟨T,cm js c⟩)(hL:Lv S js (rowsOf c))(RK:js.Nodup)
  (I3:args.all AV.oy=true) (hf:S.ev g=.sv (.v (.func (.func f) #[] #[]))) (hargs:vk S xs.toList (args.map (AV.RH i))) (hd:d<S.n)
  (next:RunT P C ops nd K rest (⟨rg++(aZ g++xs.toList.flatMap aZ),[i],js,⟨some (d,.sv res),[],[]⟩⟩::acc) (S.set d (.sv res))):RunT P C ops nd K (⟨some d,.call ⟨.value g,xs,at_⟩,ty,pos,aft,gd⟩::rest) acc S:=by
 refine .inl ⟨_,[i],js,_,?_,next⟩;rintro S' hn ht hb hr k a w L Q ho ⟨E,h⟩ X7;refine cA (C:=C) ho (hg.wanted h (λs hs=>ht s (List.mem_append_left _ hs)) Y) ?_;have rY:a.eval g=.func (.func f) #[] ⟨[]⟩:=by
  have h1:=h.ev g;rw[bw (λ_ h=>List.mem_append_right _ (List.mem_append_left _ h)) ht,hf]at h1;exact h1
 have hall:=Ae I3 (vk.vals h hargs (λs hs=>ht s (List.mem_append_right _ (List.mem_append_right _ hs))));have fu:S'.b i=some ⟨T,cm js c⟩:=by rw[hb i (by simp)];exact hB
 have RL:Lv S' js (rowsOf c):=hL.congr (λk hk=>hr k hk);obtain⟨us,Pt,Bz⟩:=ql h fu RL RK;refine ct (C:=C) (by intro c h;cases h) (mK rY) ?_;rw[List.append_nil];refine⟨λh=>by simp at h,gi ((hp E.M w (E.β i) _ us h.dh Pt hall).mono ?_)⟩;rintro e w' ⟨v,M',rfl,hM,hnew,hin,hv,IX,hos,qk,hout,hsize,jW⟩;have h1:=h.I7 fu RL RK Pt hM hnew hin IX hos qk hout hsize jW;exact X7 _ _ ⟨_,h1.put (x:=.sv res) (v:=v) hv (by show d<S'.n;omega) ff⟩
end steps
end
end Go.Fw
namespace Go.Proofs.YtningmnklfpfjaaGreat
section
open Go.Fw
noncomputable def lf(x0:Lr):Option (Sz):=match x0 with|⟨bp,bt,bC,bF⟩=>(some (bt.length:Int)).bind λx7=>(some (bC.length:Int)).bind λdZ=>(some (bF.length:Int)).bind λgh=>some ⟨bp,x7,dZ,gh⟩
noncomputable def fT(x0:Lr):Option (Bool):=match x0 with|⟨bp,bt,bC,bF⟩=>(lf ⟨bp,bt,bC,bF⟩).bind λ⟨Bh,Ec,Cz,Ed⟩=>cQ (λ(MM:Bool)=>(bif MM then some false else cQ (λ(Ia:Bool)=>(bif Ia then some false else cQ (λ(RM:Bool)=>some RM) λK16=>(kq bt).bind λpR=>(some (decide ((pR:Int)<=Bh))).bind λuO=>(bif uO then(kq bC).bind λvu=>(some (decide ((vu:Int)<=Bh))).bind λwj=>some wj else some false).bind λMN=>K16 MN)) λKQ=>(some (decide ((128:Int)<Cz))).bind λnn=>(bif nn then some true else(some (decide ((Ed:Int)≠Cz))).bind λjX=>some jX).bind λMO=>KQ MO)) λRN=>(some (decide ((Bh:Int)<0))).bind λx8=>(bif x8 then some true else(some (decide ((64:Int)<Bh))).bind λep=>some ep).bind λMP=>(bif MP then some true else(some (decide ((Ec:Int)<1))).bind λfJ=>some fJ).bind λUv=>(bif Uv then some true else(some (decide ((4:Int)<Ec))).bind λjH=>some jH).bind λUw=>RN Uw
noncomputable def uX(x0:Lr)(x1:List Qr):Option (List Qr):=match x0 with|⟨bp,bt,bC,bF⟩=>(jz bt x1).bind λx8=>some x8
noncomputable def oB(x0:Lr)(x1:List Qr):Option (List Qr):=match x0 with|⟨bp,bt,bC,bF⟩=>(kS (λ(k:Nat) (mh:(List Qr))=>(show Option ((List Qr))from(some ((Lr.rows ⟨bp,bt,bC,bF⟩).getD k [])).bind λZF=>(some ((Lr.bounds ⟨bp,bt,bC,bF⟩).getD k (⟨⟨false,[]⟩,⟨false,[]⟩⟩:Qr))).bind λ⟨⟨Gh,Gi⟩,⟨Gj,Gk⟩⟩=>(jy ZF x1).bind λ⟨⟨kF,kG⟩,⟨zh,zj⟩⟩=>(kp ⟨⟨Gh,Gi⟩,⟨Gj,Gk⟩⟩ ⟨⟨kF,kG⟩,⟨zh,zj⟩⟩).bind λ⟨⟨kY,kZ⟩,⟨oq,ot⟩⟩=>(wh 64 mh [⟨⟨kY,kZ⟩,⟨oq,ot⟩⟩]).bind λmN=>some mN)) ((Lr.rows ⟨bp,bt,bC,bF⟩).length) []).bind λmh=>some mh
noncomputable def lj(x0:Lr)(x1:List Qr):Option (List Qr):=match x0 with|⟨bp,bt,bC,bF⟩=>(pN bt x1).bind λx8=>some x8
end
section
open Go.Fw Go.Fw.Z Go.RowKit
theorem xk(p:Lr):Pure ah 85 [.agg (Fi p)] (iT 126 [ref [ay p.vars,(slc 1 (List.map (eS 4 eQ) p.uw)),(slc 1 (List.map (eS 4 eQ) p.rows)),(slc 4 (List.map eQ p.bounds))]]):=by
 refine bz Tryz.func85 Y (af Y) (λec M vs hvs=>?_);refine sr<|bx Y<|ag Y<|dn<|sr<|RT.makeFunc .none (.box Y (.nil)) T<|an (s:=.fV _ _) Y<|dn ?_;refine cz (gY (i:=1) Y [ay p.vars,(slc 1 (List.map (eS 4 eQ) p.uw)),(slc 1 (List.map (eS 4 eQ) p.rows)),(slc 4 (List.map eQ p.bounds))] (.cons Y (.cons Y (.cons Y (.cons Y .nil)))) .any 0 [(2,.fV 126 [.val (ref [ay p.vars,(slc 1 (List.map (eS 4 eQ) p.uw)),(slc 1 (List.map (eS 4 eQ) p.rows)),(slc 4 (List.map eQ p.bounds))])])] (λ_ _ _=>trivial) (qG.h (l:=[ay p.vars,(slc 1 (List.map (eS 4 eQ) p.uw)),(slc 1 (List.map (eS 4 eQ) p.rows)),(slc 4 (List.map eQ p.bounds))])) ⟨@FT.fV _ _ _ _ _ 2 126 [.box 1] Y,aq⟩)<|cz (DI 2 (iT 126 [ref [ay p.vars,(slc 1 (List.map (eS 4 eQ) p.uw)),(slc 1 (List.map (eS 4 eQ) p.rows)),(slc 4 (List.map eQ p.bounds))]]) (λ_ _ h=>DJ h)) ?_;exact bf<|⟨.inr Y,DG (.tmp Y (.nil)) Y⟩
theorem xl(p:Lr):Iter ah 126 [ref [ay p.vars,(slc 1 (List.map (eS 4 eQ) p.uw)),(slc 1 (List.map (eS 4 eQ) p.rows)),(slc 4 (List.map eQ p.bounds))]] p.rows.length (λk=>[(slc 4 (List.map eQ (p.rows.getD k []))),.agg (eQ (p.bounds.getD k (⟨⟨false,[]⟩,⟨false,[]⟩⟩:Qr)))]):=by
 refine qM Tryz.func126 Y Y (af Y) (λec M O l J hJ xX hr=>?_);obtain⟨n7,xX⟩:=xX;have hla:p.rows.length<=9223372036854775807:=by cases n7 with|nil=>exact xX.elim|cons _ n7=>exact MG xX.1
 refine bH ?_;refine aW ?_;refine RT.bO .none Y (tl Y) Y ?_;refine RT.dr .none Y Y (tl Y) ?_;refine RT.len .none Y (tl Y) ?_;refine RT.mv .none Y (tl Y) ?_;refine RT.done ?_;refine aV.n ?_;refine bj ?_
 refine wA (I:=λx:{i:Nat//i<=p.rows.length}=>AS.cM 30 [(0,.sv (.v (.func (.yield l) #[] #[]))),(1,.sv (ref [ay p.vars,(slc 1 (List.map (eS 4 eQ) p.uw)),(slc 1 (List.map (eS 4 eQ) p.rows)),(slc 4 (List.map eQ p.bounds))])),(7,.sv ((slc 1 (List.map (eS 4 eQ) p.rows)))),(8,ai ((p.rows.length:Nat):Int)),(9,ai ((x.1:Nat):Int))] [] [] (x.1)) (μ:=λx=>p.rows.length-x.1) ⟨0,by omega⟩ (by(try dsimp only);exact dM id Y Y Y Y Y ⟨.sv (by first|exact au|exact SV.aX (by omega)|exact SV.aX (by push_cast;omega)|exact SV.aX (by dsimp only;omega)|exact SV.imp_eq (by simp)),.sv (by first|exact au|exact SV.aX (by omega)|exact SV.aX (by push_cast;omega)|exact SV.aX (by dsimp only;omega)|exact SV.imp_eq (by simp)),.sv (by first|exact au|exact SV.aX (by omega)|exact SV.aX (by push_cast;omega)|exact SV.aX (by dsimp only;omega)|exact SV.imp_eq (by simp)),.sv (SV.aX (by simp)),.sv (by first|exact au|exact SV.aX (by omega)|exact SV.aX (by push_cast;omega)|exact SV.aX (by dsimp only;omega)|exact SV.imp_eq (by simp)),aq⟩ trivial trivial (λ_ _=>Y)) ?_;rintro⟨i,TD⟩
 try dsimp only
 rcases H9 p.rows p.bounds i TD with⟨hi,hb⟩|⟨hi,hb⟩|hi
 ·
  refine bH ?_;refine aW ?_;refine RT.lss .none (true) Y Y (tl Y) (by simp;omega) ?_;refine RT.done ?_;refine aV.n ?_;refine bH ?_;refine cP Y ?_;refine bB ?_;refine aV.n ?_;refine bH ?_;refine bj ?_;refine bH ?_;refine aW ?_;refine RT.mv .none Y (tl Y) ?_;refine RT.Lt .none [(slc 4 (List.map eQ (p.rows.getD i [])))] (Int.natCast_nonneg i) (by rw[Int.toNat_natCast,List.getElem?_map,ey hi];rfl) Y Y (tl Y) ?_;refine RT.dr .none Y Y (tl Y) ?_;refine RT.AF .none Y (tl Y) ?_;refine RT.AF .none Y (tl Y) ?_;refine RT.done ?_;refine aV.n ?_;refine bH ?_;refine aW ?_;refine RT.qP .none (cs:=eQ ⟨⟨false,[]⟩,⟨false,[]⟩⟩) (by exact⟨au,aB,au,aB,aq⟩) Y (tl Y) Y Y ?_;refine RT.done ?_;refine aV.n ?_;refine bH ?_;refine bH ?_;refine aW ?_;refine RT.mv .none Y (tl Y) ?_;refine RT.bO .none Y (tl Y) Y ?_;refine RT.dr .none Y Y (tl Y) ?_;refine RT.len .none Y (tl Y) ?_;refine RT.lss .none (true) Y Y (tl Y) (by simp only[List.length_map];simp;omega) ?_;refine RT.done ?_;refine aV.n ?_;refine cP Y ?_;refine aW ?_;refine RT.bO .none Y (tl Y) Y ?_;refine RT.dr .none Y Y (tl Y) ?_;refine RT.mv .none Y (tl Y) ?_
  refine RT.Lt .none [az ((p.bounds.getD i (⟨⟨false,[]⟩,⟨false,[]⟩⟩:Qr)).num.neg),slc 1 ((p.bounds.getD i (⟨⟨false,[]⟩,⟨false,[]⟩⟩:Qr)).num.w.map aY),az ((p.bounds.getD i (⟨⟨false,[]⟩,⟨false,[]⟩⟩:Qr)).den.neg),slc 1 ((p.bounds.getD i (⟨⟨false,[]⟩,⟨false,[]⟩⟩:Qr)).den.w.map aY)] (Int.natCast_nonneg i) (by rw[Int.toNat_natCast,List.getElem?_map,ey hb];rfl) Y Y (tl Y) ?_;refine RT.iC .none Y (tl Y) (cs:=[az ((p.bounds.getD i (⟨⟨false,[]⟩,⟨false,[]⟩⟩:Qr)).num.neg),slc 1 ((p.bounds.getD i (⟨⟨false,[]⟩,⟨false,[]⟩⟩:Qr)).num.w.map aY),az ((p.bounds.getD i (⟨⟨false,[]⟩,⟨false,[]⟩⟩:Qr)).den.neg),slc 1 ((p.bounds.getD i (⟨⟨false,[]⟩,⟨false,[]⟩⟩:Qr)).den.w.map aY)]) Y Y ?_;refine RT.store .none Y Y Y Y Y ?_;refine RT.done ?_;refine aV.n ?_;refine bH ?_;refine aW ?_;refine RT.mv .none Y (tl Y) ?_;refine RT.mv .none Y (tl Y) ?_;refine RT.load .none Y Y (.k4 Y Y Y Y) Y (tl Y) ?_;refine RT.yield .none hr Y (λ_ h=>h) Y (i) Y Y hi (by exact⟨Y,Y,aq⟩) (tl Y) (λyb=>?_);cases yb
  ·
   refine RT.not .none Y (tl Y) true Y ?_;refine RT.done ?_;refine aV.n ?_;refine cP Y ?_;refine bf ?_;refine bG.r ?_;refine aV.r ?_;refine aV.r ?_;refine bG.r ?_;exact⟨.inr rfl,(λh=>by cases h)⟩
  refine RT.not .none Y (tl Y) false Y ?_;refine RT.done ?_;refine aV.n ?_;refine dX Y ?_;refine bB ?_;refine bG.n ?_;refine aV.n ?_;refine aW ?_;refine RT.add .none (((i:Nat):Int)+1) Y Y (tl Y) (kR (by omega)) ?_;refine RT.mv .none Y (tl Y) ?_;refine RT.done ?_;refine aV.n ?_;refine⟨⟨i+1,by omega⟩,(by dsimp only;omega),?_⟩
  try dsimp only
  exact dM id Y Y Y Y Y ⟨.sv (by first|exact au|exact SV.aX (by omega)|exact SV.aX (by push_cast;omega)|exact SV.aX (by dsimp only;omega)|exact SV.imp_eq (by simp)),.sv (by first|exact au|exact SV.aX (by omega)|exact SV.aX (by push_cast;omega)|exact SV.aX (by dsimp only;omega)|exact SV.imp_eq (by simp)),.sv (by first|exact au|exact SV.aX (by omega)|exact SV.aX (by push_cast;omega)|exact SV.aX (by dsimp only;omega)|exact SV.imp_eq (by simp)),.sv (by first|exact au|exact SV.aX (by omega)|exact SV.aX (by push_cast;omega)|exact SV.aX (by dsimp only;omega)|exact SV.imp_eq (by simp)),.sv (by first|exact au|exact SV.aX (by omega)|exact SV.aX (by push_cast;omega)|exact SV.aX (by dsimp only;omega)|exact SV.imp_eq (by simp)),aq⟩ trivial trivial (λ_ _=>Y)
 ·
  refine bH ?_;refine aW ?_;refine RT.lss .none (true) Y Y (tl Y) (by simp;omega) ?_;refine RT.done ?_;refine aV.n ?_;refine bH ?_;refine cP Y ?_;refine bB ?_;refine aV.n ?_;refine bH ?_;refine bj ?_;refine bH ?_;refine aW ?_;refine RT.mv .none Y (tl Y) ?_;refine RT.Lt .none [(slc 4 (List.map eQ (p.rows.getD i [])))] (Int.natCast_nonneg i) (by rw[Int.toNat_natCast,List.getElem?_map,ey hi];rfl) Y Y (tl Y) ?_;refine RT.dr .none Y Y (tl Y) ?_;refine RT.AF .none Y (tl Y) ?_;refine RT.AF .none Y (tl Y) ?_;refine RT.done ?_;refine aV.n ?_;refine bH ?_;refine aW ?_;refine RT.qP .none (cs:=eQ ⟨⟨false,[]⟩,⟨false,[]⟩⟩) (by exact⟨au,aB,au,aB,aq⟩) Y (tl Y) Y Y ?_;refine RT.done ?_;refine aV.n ?_;refine bH ?_;refine bH ?_;refine aW ?_;refine RT.mv .none Y (tl Y) ?_;refine RT.bO .none Y (tl Y) Y ?_;refine RT.dr .none Y Y (tl Y) ?_;refine RT.len .none Y (tl Y) ?_;refine RT.lss .none (false) Y Y (tl Y) (by simp only[List.length_map];simp;omega) ?_;refine RT.done ?_;refine aV.n ?_;refine dX Y ?_;refine bB ?_;refine aV.n ?_;refine bH ?_;refine aW ?_;refine RT.mv .none Y (tl Y) ?_;refine RT.mv .none Y (tl Y) ?_;refine RT.load .none Y Y (.k4 Y Y Y Y) Y (tl Y) ?_
  refine RT.yield .none hr Y (λ_ h=>h) Y (i) Y Y hi (by exact⟨Y,(by show AV.sv _=AV.sv _;rw[iq hb]),aq⟩) (tl Y) (λyb=>?_);cases yb
  ·
   refine RT.not .none Y (tl Y) true Y ?_;refine RT.done ?_;refine aV.n ?_;refine cP Y ?_;refine bf ?_;refine bG.r ?_;refine aV.r ?_;refine aV.r ?_;refine bG.r ?_;exact⟨.inr rfl,(λh=>by cases h)⟩
  refine RT.not .none Y (tl Y) false Y ?_;refine RT.done ?_;refine aV.n ?_;refine dX Y ?_;refine bB ?_;refine bG.n ?_;refine aV.n ?_;refine aW ?_;refine RT.add .none (((i:Nat):Int)+1) Y Y (tl Y) (kR (by omega)) ?_;refine RT.mv .none Y (tl Y) ?_;refine RT.done ?_;refine aV.n ?_;refine⟨⟨i+1,by omega⟩,(by dsimp only;omega),?_⟩
  try dsimp only
  exact dM id Y Y Y Y Y ⟨.sv (by first|exact au|exact SV.aX (by omega)|exact SV.aX (by push_cast;omega)|exact SV.aX (by dsimp only;omega)|exact SV.imp_eq (by simp)),.sv (by first|exact au|exact SV.aX (by omega)|exact SV.aX (by push_cast;omega)|exact SV.aX (by dsimp only;omega)|exact SV.imp_eq (by simp)),.sv (by first|exact au|exact SV.aX (by omega)|exact SV.aX (by push_cast;omega)|exact SV.aX (by dsimp only;omega)|exact SV.imp_eq (by simp)),.sv (by first|exact au|exact SV.aX (by omega)|exact SV.aX (by push_cast;omega)|exact SV.aX (by dsimp only;omega)|exact SV.imp_eq (by simp)),.sv (by first|exact au|exact SV.aX (by omega)|exact SV.aX (by push_cast;omega)|exact SV.aX (by dsimp only;omega)|exact SV.imp_eq (by simp)),aq⟩ trivial trivial (λ_ _=>Y)
 subst hi;refine bH ?_;refine aW ?_;refine RT.lss .none (false) Y Y (tl Y) (by simp) ?_;refine RT.done ?_;refine aV.n ?_;refine bH ?_;refine dX Y ?_;refine cc ?_;refine aV.x ?_;refine aV.x ?_;refine bG.x ?_;exact⟨.inl Y,(λ_=>Y)⟩
theorem CD{x0:Lr}{r:Sz}(h:lf x0=some r):Pure ah 83 [.agg (Fi x0)] (.agg (eSz r)):=by
 obtain⟨bp,bt,bC,bF⟩:=x0;refine bz Tryz.func83 Y (af Y) (λec M vs hvs=>?_);unfold lf at h;refine sr<|bx Y<|al (cs:=[ay 0,ay 0,ay 0,ay 0]) (by exact⟨au,au,au,au,aq⟩) Y<|dn<|sr<|fa Y Y<|lV Y Y Y<|fa Y Y<|lV Y Y Y<|lE h λx7 h7 h=>ln Y h7<|fa Y Y<|lV Y Y Y<|lE h λdZ gM h=>ln Y gM<|fa Y Y ?_;refine lV Y Y Y<|lE h λgh jJ h=>ln Y jJ<|bI (cs:=[_,_,_,_]) (cs':=[ay bp,ay x7,ay dZ,ay gh]) (.one Y (.one Y (.one Y (.one Y (.nil))))) ⟨au,au,au,au,aq⟩<|so Y Y Y<|dn<|bf ?_;obtain rfl:=O h;exact RZ (.agg Y Y (.k4 Y Y Y Y) Y (.nil))
theorem tc{x0:Lr}{r:Bool}(h:fT x0=some r):Pure ah 34 [.agg (Fi x0)] (az r):=by
 obtain⟨bp,bt,bC,bF⟩:=x0;refine bz Tryz.func34 Y (af Y) (λec M vs hvs=>?_);unfold fT at h;refine sr<|bx Y<|ag Y<|dn<|sr<|ld Y Y (.k4 Y Y Y Y) ?_;obtain⟨⟨Bh,Ec,Cz,Ed⟩,h5,h⟩:=bS h;refine cl (CD h5) ⟨Y,aq⟩<|al (cs:=[ay 0,ay 0,ay 0,ay 0]) (by exact⟨au,au,au,au,aq⟩) Y<|so Y Y Y<|dn<|qq<|qq ?_;refine bK h (λUx=>AS.cM 48 [(1,.ptr 1 0),(3,.ptr 3 0),(23,aj Ux)] [(3,⟨97,[ai Bh,ai Ec,ai Cz,ai Ed]⟩),(1,⟨25,[ai bp,.sv (slc 1 (List.map (eS 4 eQ) bt)),.sv (slc 1 (List.map (eS 4 eQ) bC)),.sv (slc 4 (List.map eQ bF))]⟩)] []) (λh=>?_) (λMM h=>?_);refine aW<|fa Y Y<|lV Y Y Y<|lE h λx8 h8 h=>ls _ Y Y h8<|mv Y<|bE h λMP uz h=>?_;cases x8;refine RT.fieldAddr (.some Y Y) Y T Y<|RT.sj (.some Y Y) Y Y Y T<|lE (F uz) λep gO uz=>gg _ Y Y gO ?_;obtain rfl:=O uz;refine pF Y<|mv Y<|bE h λac2 Kk h=>?_;cases ep;refine RT.fieldAddr (.some Y Y) Y T Y<|RT.sj (.some Y Y) Y Y Y T<|lE (F Kk) λfJ kU Kk=>RT.lss (.some Y Y) _ Y Y T kU ?_;obtain rfl:=O Kk;refine pF Y<|mv Y<|bE h λMQ Pw h=>?_;cases fJ;refine RT.fieldAddr (.some Y Y) Y T Y<|RT.sj (.some Y Y) Y Y Y T<|lE (F Pw) λjH oR Pw=>gg _ Y Y oR ?_;obtain rfl:=O Pw;exact pF Y<|dn<|⟨jH,h,wR []⟩;obtain rfl:=O (V Pw);exact ww<|ww<|ww<|pT Y<|dn<|⟨true,h,wR []⟩
 obtain rfl:=O (V Kk);refine ww<|ww<|ww<|pT Y<|mv Y<|bE h λUy CE h=>?_;obtain rfl:=O (V CE);exact ww<|ww<|ww<|pT Y<|dn<|⟨true,h,wR []⟩;obtain rfl:=O (V uz);refine ww<|ww<|ww<|pT Y<|mv Y<|bE h λac3 qW h=>?_;obtain rfl:=O (V qW);refine ww<|ww<|ww<|pT Y<|mv Y<|bE h λac4 td h=>?_;obtain rfl:=O (V td);exact ww<|ww<|ww<|pT Y<|dn<|⟨true,h,wR []⟩
 try dsimp only
 refine aV.n ?_;cases MM;refine fs<|qq<|qq ?_;refine bK (F h) (λJ0=>AS.cM 48 [(1,.ptr 1 0),(3,.ptr 3 0),(33,aj J0)] [(3,⟨97,[ai Bh,ai Ec,ai Cz,ai Ed]⟩),(1,⟨25,[ai bp,.sv (slc 1 (List.map (eS 4 eQ) bt)),.sv (slc 1 (List.map (eS 4 eQ) bC)),.sv (slc 4 (List.map eQ bF))]⟩)] []) (λh=>?_) (λIa h=>?_);refine aW<|fa Y Y<|lV Y Y Y<|lE h λnn uc h=>gt _ Y Y uc<|mv Y<|bE h λMO nx h=>?_;cases nn;refine RT.fieldAddr (.some Y Y) Y T Y<|RT.sj (.some Y Y) Y Y Y T<|RT.fieldAddr (.some Y Y) Y T Y<|RT.sj (.some Y Y) Y Y Y T<|lE (F nx) λjX pS nx=>gq _ Y Y (HC (p:=Ed) (q:=Cz) pS) ?_;obtain rfl:=O nx;exact pF Y<|dn<|⟨jX,h,wR []⟩;obtain rfl:=O (V nx);exact ww<|ww<|ww<|ww<|ww<|pT Y<|dn<|⟨true,h,wR []⟩
 try dsimp only
 refine aV.n ?_;cases Ia;refine fs<|qq ?_;refine bK (F h) (λj16=>AS.cM 48 [(2,aj j16)] [] []) (λh=>?_) (λRM h=>?_);refine bh mixed<|fa Y Y<|lV Y Y Y<|bE h λpR w6 h=>cl (sX w6) ⟨Y,aq⟩<|fa Y Y<|lV Y Y Y<|lE h λuO FI h=>RT.leq .none _ Y Y T FI<|mv Y<|bE h λMN mW h=>?_;cases uO;obtain rfl:=O (F mW);refine ww<|ww<|ww<|ww<|ww<|ww<|pF Y<|ag Y ?_;refine RT.done ⟨by kernel_rfl,?_⟩;exact aV.n<|⟨false,h,wR []⟩;refine RT.fieldAddr (.some Y Y) Y T Y<|RT.sj (.some Y Y) Y Y Y T<|bE (V mW) λvu EU mW=>gc (sX EU) ⟨Y,aq⟩<|RT.fieldAddr (.some Y Y) Y T Y<|RT.sj (.some Y Y) Y Y Y T<|lE mW λwj h46 mW=>RT.leq (.some Y Y) _ Y Y T h46 ?_;obtain rfl:=O mW;refine pT Y<|ag Y ?_;refine RT.done ⟨by kernel_rfl,?_⟩;exact aV.n<|⟨wj,h,wR []⟩
 try dsimp only
 refine aV.n<|bf ?_;obtain rfl:=O h;exact R1 Y;refine cT<|sr<|ag Y<|dn<|bf<|aV.r ?_;obtain rfl:=O (V h);exact R1 Y;refine cT<|sr<|ag Y<|dn<|bf<|aV.r ?_;obtain rfl:=O (V h);exact R1 Y
theorem Gs{x0:Lr}{x1:List Qr}{r:List Qr}(h:oB x0 x1=some r):Pure ah 48 [.agg (Fi x0),slc 4 (List.map eQ x1)] (slc 4 (List.map eQ r)):=by
 obtain⟨bp,bt,bC,bF⟩:=x0;refine bz Tryz.func48 Y (af Y) (λec M vs hvs=>?_);unfold oB at h;refine sr<|bx Y<|RT.wB .none (s:=.sv _) Y T Y Y<|aI Y (aB (n:=4) (e:=eQ))<|dn<|sr<|RT.alloc .none T Y Y<|dn<|cz (pZ 5 0 302 43 4 Y Y Y T)<|qq<|sr<|ld Y Y (.k4 Y Y Y Y)<|cl (xk ⟨bp,bt,bC,bF⟩) ⟨Y,aq⟩<|dn<|bj<|bE h λmh Uh Ui=>?_;obtain⟨MD,Uj,Uk,Ul⟩:=kE Uh;refine iy (xl ⟨bp,bt,bC,bF⟩) (λ_ _ _ _ _=>trivial) Y (λk=>AS.cM 21 [(3,.ptr 3 0),(5,.ptr 5 0),(9,.sv (iT 126 [ref [ay bp,slc 1 (List.map (eS 4 eQ) bt),slc 1 (List.map (eS 4 eQ) bC),slc 4 (List.map eQ bF)]]))] [(5,⟨23,[.row 304]⟩),(3,⟨23,[.sv (slc 4 (List.map eQ x1))]⟩)] [(304,TR 43 4 eQ (MD k))]) [5,3] Y (λ_=>⟨Y,Y⟩) (qN Y) (λ_=>Y) (qO Y) (by(try dsimp only);rw[Uj];(try dsimp only);exact dM (λi=>bif Nat.beq i 304 then 302 else i) Y Y Y Y Y ⟨.ptr,.ptr,.sv au,aq⟩ ⟨⟨_,Y,⟨.row Y,aq⟩⟩,⟨_,Y,⟨.sv au,aq⟩⟩,aq⟩ ⟨⟨_,Y,cJ.refl _⟩,aq⟩ (λi hi=>by rw[cC (show i≠304 by omega)];rfl)) (λk hk D hD=>?_) ?_;have h:=Uk k hk;obtain⟨mh,J3⟩:∃q,MD k=q:=⟨_,Y⟩;rw[J3]at h⊢;dsimp only[AS.LC,rH]
 try dsimp only at h
 refine lE h λZF ac5 h=>?_;rw[ac5];obtain⟨⟨⟨Gh,Gi⟩,⟨Gj,Gk⟩⟩,Up,h⟩:=bS h;rw[Option.some.inj Up];refine sr<|ag Y<|dn<|aW<|al (cs:=[az false,ax,az false,ax]) (by exact⟨au,aB,au,aB,aq⟩) Y<|so Y Y Y<|RT.done ?_;refine aV.n ⟨Y,?_⟩;dsimp only[AS.AN];refine bj<|bh mixed<|RT.fY .none (s:=.row _) Y Y Y T<|ld Y Y (.k4 Y Y Y Y)<|mv Y<|lV Y Y Y ?_;obtain⟨⟨⟨kF,kG⟩,⟨zh,zj⟩⟩,kL,h⟩:=bS h;refine cl (vM kL) ⟨Y,Y,aq⟩ ?_;obtain⟨⟨⟨kY,kZ⟩,⟨oq,ot⟩⟩,kU,h⟩:=bS h;refine cl (FW kU) ⟨Y,Y,aq⟩<|bl (l:=[⟨⟨kY,kZ⟩,⟨oq,ot⟩⟩]) (e:=eQ) (.agg Y (.nil)) Y Y Y Y Y Y<|bE h λmN oa h=>aR (k:=[⟨⟨kY,kZ⟩,⟨oq,ot⟩⟩]) (e:=eQ) Y Y Y oa<|RT.lY (cells:=[_]) .none Y Y Y Y T Y ?_;refine RT.done ⟨by kernel_rfl,?_⟩;refine bG.n ?_;replace h:=Option.some.inj h;refine⟨aq,Y,Y,?_⟩
 try dsimp only
 rw[<-h]
 try dsimp only
 exact dM (λi=>bif Nat.beq i 304 then 19 else i) Y Y Y Y Y ⟨.ptr,.ptr,.sv au,aq⟩ ⟨⟨_,Y,⟨.row Y,aq⟩⟩,⟨_,Y,⟨.sv au,aq⟩⟩,aq⟩ ⟨⟨_,Y,cJ.refl _⟩,aq⟩ (λi hi=>by rw[cC (show i≠304 by omega)];rfl);rw[Ul]
 try dsimp only
 refine bG.n<|aV.n<|sr<|RT.fY .none (s:=.row _) Y Y Y T<|an (s:=.row _) Y<|dn<|cz (l7 (i:=304) (E1:=43) (n:=4) (e:=eQ) (l:=mh) Y)<|bf ?_;obtain rfl:=O Ui;exact R1 Y
theorem zK{x0:Lr}{x1:List Qr}{r:List Qr}(h:lj x0 x1=some r):DH ah 39 [.agg (Fi x0),slc 4 (List.map eQ x1)] (TR 43 4 eQ r):=by
 obtain⟨bp,bt,bC,bF⟩:=x0;refine nZ Tryz.func39 Y (af Y) (λec M vs hvs=>?_);unfold lj at h;refine sr<|bx Y<|ag Y<|dn<|cz (jd 4 304 43 4 Y Y T)<|sr<|fa Y Y<|lV Y Y Y<|mv Y<|bE h λx8 h8 h=>cN (Bw h8) ⟨Y,Y,aq⟩<|an (s:=.row _) Y<|dn<|bf ?_;obtain rfl:=O h;exact⟨.inr Y,_,.tmp Y,Y⟩
end
end Go.Proofs.YtningmnklfpfjaaGreat
namespace Go.Fw
section
open Go.RowKit
def I8(P:Program)(f:FuncId)(args:Nat->List AV)(T:TypeId)(c:List Oc)(Post:Nat->Mem->World->Value->Prop):Prop:=
 ∀(M:Mem) (w:World) (β:Nat) (vs us:List Value),M.dh w->pz M w β T c us->di (oA M β) (args β) vs->
  Calls P f ⟨vs⟩ w λe w'=>∃v M',e=.returned v/\M.le M'/\(∀b o x,M' b o=some x->M b o=some x\/w.heap.size<=b)/\M'.dh w'/\Post w.heap.size M' w' v/\
   pz M' w' β T c us/\w'.os=w.os/\w'.tape=w.tape/\w'.output=w.output/\w.heap.size<=w'.heap.size/\∀k,k<w.heap.size->k≠β->¬ew c us k->w'.heap[k]? =w.heap[k]?
theorem Gt{P:Program}{f:FuncId}{fn:Func}{code:Code}{args:Nat->List AV}{T:TypeId}{c:List Oc}{Post:Nat->Mem->World->Value->Prop}(ids:List Nat)(hf:P.funcs[f]? =some fn)(hb:fn.body=some code)(hn:∀β,(args β).length<=fn.ntmps)(I3:∀β,(args β).all AV.oy=true)(Ci:ids.Nodup)(RI:ids.length=(rowsOf c).length)(hge:(ids.all λi=>Nat.ble 1000 i)=true)(Uz:Ei c)(Rq:AS->Prop)
  (h:∀(w:World) (M:Mem) (β:Nat) (us:List Value),Ok P (Pu w M β c us ids hge) code (AS.Cc fn.ntmps (args β) [(1000,⟨T,cm ids c⟩)] (ids.zip (rowsOf c))) (λe S=>(e=.normal\/e=.ret)/\Rq S/\S.b 1000=some ⟨T,cm ids c⟩/\Lv S ids (rowsOf c)))
  (hr:∀(w:World) (M:Mem) (β:Nat) (us:List Value) (S':AS) (E:Env) (a:Act) (w':World),Rq S'->bn (Pu w M β c us ids hge) S' E a w'->S'.b 1000=some ⟨T,cm ids c⟩->(∀g,ew c us g->∃j∈ids,(E.ν j).ownBlock=some g)->(∀j∈ids,∃R,S'.r j=.live R)->∃v,(results fn a.tmps).run P w'=.ok v w'/\Post w.heap.size E.M w' v):I8 P f args T c Post:=by
 intro M w β vs us hM ho hv;have Wa:(cf c us).length=(rowsOf c).length:=by rw[<-iu ho.al,List.length_map]
 have hnd:((ids.zip (cf c us)).map (·.1)).Nodup:=by rw[Ad (by omega)];exact Ci
 have S5:bn (Pu w M β c us ids hge) (AS.Cc fn.ntmps (args β) [(1000,⟨T,cm ids c⟩)] (ids.zip (rowsOf c))) ⟨λ_=>β,ku (ids.zip (cf c us)) (λ_=>.nilIface),λ_=>False,M⟩ {tmps:=⟨vs⟩++Array.replicate (fn.ntmps-(⟨vs⟩:Array Value).size) undef,defers:=[]} w:=by
  have h0:=I2 (n:=fn.ntmps) ids hM ho hv (I3 β) (hn β) Ci RI
  exact{wf:=h0.wf,marks:=h0.marks,size:=h0.size,os:=h0.os,tape:=h0.tape,output:=h0.output,grown:=h0.grown,frame:=h0.frame,m0:=h0.m0,eG:=h0.eG,dh:=h0.dh,tm:=h0.tm,bx:=h0.bx,inj:=h0.inj,rx:=h0.rx,fm:=h0.fm,gC:=h0.gC,ee:=λi v e=>(by
   obtain⟨R,hm⟩:=Eh e
   exact iG hnd hm),kD:=h0.kD,jj:=trivial}
 refine gp Y hf hb S5 (h w M β us) ?_;rintro S' E a w' ⟨hq,hB,hL⟩ hh;have hβ:E.β 1000=β:=hh.gC 1000 β Y;obtain⟨us',ho',jW⟩:=ql hh hB hL Ci;rw[hβ]at ho';obtain⟨_,_,_,Wz,q2,q3⟩:=hh.bx 1000 _ hB;rw[hβ,ho'.hp]at q2;obtain rfl:us'=Wz:=by
  have:=Option.some.inj q2;injection this with e
  injection e
 obtain⟨_,ac6⟩:=sY hh hL q3;have jc:cf c us=cf c us':=by
  rw[ac6];have key:∀(ids:List Nat) (l:List (Row×Value)) (Rs:List Row),ids.length=l.length->l.map (·.1)=Rs->(∀i R v,(i,R,v)∈ids.zip l->E.ν i=v)->l=Rs.zip (ids.map E.ν):=by
   intro ids
   induction ids with
   |nil=>intro l Rs hl hm _;cases l with|nil=>cases hm;rfl|cons _ _=>simp at hl
   |cons i ids ih=>
    intro l Rs hl hm hν;cases l with
    |nil=>simp at hl
    |cons p l=>
     cases hm;obtain⟨R,v⟩:=p;rw[List.map_cons,List.map_cons,List.zip_cons_cons,hν i R v (by rw[List.zip_cons_cons];simp),<-ih l _ (by simpa using hl) Y (λi R v hm=>hν i R v (by rw[List.zip_cons_cons];exact List.mem_cons_of_mem _ hm))]
  exact key ids _ _ (by omega) (iu ho.al) (λi R v hm=>hh.ee i v (ML hnd hm))
 obtain rfl:us=us':=Ej Uz ho.al ho'.al jc;obtain⟨v,hv,hx⟩:=hr w M β us S' E a w' hq hh hB (λg hg=>(jW g).1 hg) (λj hj=>hL.mem j hj);refine⟨v,hv,v,E.M,Y,hh.m0,λb o x e=>?_,hh.dh,hx,ho',hh.os,hh.tape,hh.output,hh.grown,λk hk hne hno=>hh.frame k hk (λe=>e.elim hne hno)⟩;rcases hh.eG b o x e with q|q|q|q
 ·exact .inl q
 ·exact .inr q
 ·rw[show b=β from q,ho'.nb o]at e;cases e
 rw[(ho'.nr b q).2 o]at e;cases e
section steps
variable {P:Program}{C:Ctx}{ops:Array Oper}{S:AS}{nd:Bool}{K:List Ac->AS->Prop}{rest:List Oper}{acc:List Ac}
variable {gd:Option (Nat×Bool)}{rg:List Nat}{d:Nat}{ty:TypeId}{pos:String}{aft:Array Edge}{x y z:Operand}{T U E0:TypeId}
end steps
end
section
open Go.RowKit
instance{cs:List SV}:One (ref cs):=⟨λ_ _ h=>by obtain⟨b,o,rfl,_⟩:=h;rfl⟩
section steps
variable {P:Program}{C:Ctx}{ops:Array Oper}{S:AS}{nd:Bool}{K:List Ac->AS->Prop}{rest:List Oper}{acc:List Ac}
variable {gd:Option (Nat×Bool)}{rg:List Nat}{d:Nat}{ty:TypeId}{pos:String}{aft:Array Edge}{x y z:Operand}{T U E0:TypeId}
theorem RT.c8(hg:Gd ops S gd rg){cs:List SV}(hx:S.ev x=.sv (ref cs))(hd:d<S.n)
  (next:RunT P C ops nd K rest (⟨rg++aZ x,[],[],⟨some (d,.sv (ref cs)),[],[]⟩⟩::acc) (S.set d (.sv (ref cs)))):RunT P C ops nd K (⟨some d,.nilCheck x,ty,pos,aft,gd⟩::rest) acc S:=
 RT.value hg (aZ x) [] [] (.sv (ref cs)) hd (by intro c h;cases h) (λS' ht _ _ E a w h=>by
  have h1:=h.ev x;rw[bw (λ_ h=>h) ht,hx]at h1;have h1:(ref cs).h E.M (a.eval x):=h1;obtain⟨b,o,e,h2⟩:=h1;exact⟨a.eval x,by simp[execOp,e],⟨b,o,e,h2⟩,ff⟩) next
theorem RT.UA(hg:Gd ops S gd rg)[tT:MI P T]{cs:List SV}(hx:S.ev x=.sv (ref cs))(hy:S.ev y=.sv (.v (.pointer none)))(hd:d<S.n)
  (next:RunT P C ops nd K rest (⟨rg++(aZ x++aZ y),[],[],⟨some (d,.sv (.v (.bool false))),[],[]⟩⟩::acc) (S.set d (.sv (.v (.bool false))))):RunT P C ops nd K (⟨some d,.binOp .eql T x y U,ty,pos,aft,gd⟩::rest) acc S:=
 RT.value hg (aZ x++aZ y) [] [] (.sv (.v (.bool false))) hd (by intro c h;cases h) (λS' ht _ _ E a w h=>by
  have h1:=h.ev x;rw[bw (λ_ h=>List.mem_append_left _ h) ht,hx]at h1;have h2:=h.ev y;rw[bw (λ_ h=>List.mem_append_right _ h) ht,hy]at h2;have h1:(ref cs).h E.M (a.eval x):=h1;obtain⟨b,o,h1,_⟩:=h1;have h2:a.eval y=.pointer none:=h2;have e:=run_eql_pointer_nil (P:=P) w T (some ⟨b,o,none⟩) tT.u;refine⟨.bool false,?_,Y,ff⟩;simp[execOp,h1,h2,eqGuard,e]) next
end steps
end
section
open Go.RowKit
noncomputable def uY(M:Mem)(w:World)(p:Nat->Prop):Mem:=λb o=>@ite _ (p b) (Classical.propDecidable _) (match w.cell? ⟨b,o,none⟩with|some v=>if v.oneCell'=true then some v else none|none=>none) (M b o)
noncomputable def xm(M:Mem)(p:Nat->Prop):Mem:=λb o=>@ite _ (p b) (Classical.propDecidable _) none (M b o)
theorem Gu{M:Mem}{w:World}{p:Nat->Prop}{b o:Nat}{v:Value}(hb:p b)(hc:w.cell? ⟨b,o,none⟩=some v)(h1:v.oneCell'=true):uY M w p b o=some v:=by
 unfold uY;rw[if_pos hb,hc];simp[h1]
theorem Kl{M:Mem}{w:World}{p:Nat->Prop}(h:M.dh w):(uY M w p).dh w:=λb o v e=>by
 unfold uY at e;split at e
 ·split at e
  ·rename_i q;split at e
   ·rename_i h1;cases e;exact Fact.of q h1
   cases e
  cases e
 exact h b o v e
theorem xn{M:Mem}{w:World}{p:Nat->Prop}(h:∀b,p b->∀o,M b o=none):M.le (uY M w p):=λb o v e=>by
 unfold uY;rw[if_neg];exact e;intro hb;rw[h b hb o]at e;cases e
theorem Gv{M:Mem}{p:Nat->Prop}:(xm M p).le M:=λb o v e=>by
 unfold xm at e;split at e
 ·cases e
 exact e
theorem Gw{M:Mem}{p:Nat->Prop}{b o:Nat}{v:Value}(hb:¬p b)(e:M b o=some v):xm M p b o=some v:=by unfold xm;rw[if_neg hb];exact e
theorem BB{M:Mem}{p:Nat->Prop}{b:Nat}(hb:p b)(o:Nat):xm M p b o=none:=by unfold xm;rw[if_pos hb]
def ZQ:List Oc->List SV->Prop
 |[],[]=>True
 |.s x::l,y::k=>(SV.imp x y/\∀M v,x.h M v->v.oneCell'=true)/\ZQ l k
 |.r R::l,y::k=>(∃rows,Rows R.sz rows R.cells/\rows.length=R.n/\(∀M vs,SV.ef M R.cells vs->∀v∈vs,v.oneCell'=true)/\SV.imp (slc R.sz rows) y)/\ZQ l k
 |_,_=>False
theorem cU{E:TypeId}{n:Nat}{α:Type}{e:α->List SV}{l:List α}[el:EL e n]:∃rows,Rows (TR E n e l).sz rows (TR E n e l).cells/\rows.length=(TR E n e l).n/\(∀M vs,SV.ef M (TR E n e l).cells vs->∀v∈vs,v.oneCell'=true)/\SV.imp (slc (TR E n e l).sz rows) (slc n (l.map e)):=
 ⟨l.map e,pY l,by simp,lZ l,au⟩
theorem MR{M:Mem}{w:World}{p:Nat->Prop}{R:Row}{v:Value}{rows:List (List SV)}(hno:∀b,p b->∀o,M b o=none)(hb:∀g,v.ownBlock=some g->p g)(ho:∃vs:List Value,w.ownsRow 0 R.E R.sz v R.n vs/\SV.ef M R.cells vs)
  (jc:Rows R.sz rows R.cells) (hn:rows.length=R.n) (hone:∀M vs,SV.ef M R.cells vs->∀v∈vs,v.oneCell'=true):(slc R.sz rows).h (uY M w p) v/\v.oneCell'=true:=by
 obtain⟨vs,hown,hvs⟩:=ho;have uG:=r5 jc;rcases hown.2 with⟨h1,h2⟩|⟨g,cap,cur,h1,_,h2,h3,h4,h5,h6⟩
 ·rw[h2]at hn;exact⟨.inl ⟨none,h1,List.length_eq_zero_iff.1 hn⟩,by rw[h1];rfl⟩
 have hg:p g:=hb g (by rw[h1];rfl);have hm:maxLen=9223372036854775807:=by decide
 refine⟨.inr ⟨g,0,cap,by rw[h1,hn],by rw[hn];exact h3,by omega,λk row hk=>?_⟩,by rw[h1];rfl⟩;obtain⟨q1,q2⟩:=pW jc k row hk;refine⟨q1,λj s hs=>?_⟩;have Ck:=q2 j s hs;obtain⟨y,hy,hys⟩:=hvs.get Ck;have hlt:k*R.sz+j<R.n*R.sz:=by
  have:=(List.getElem?_eq_some_iff.1 Ck).1;rw[uG,hn]at this;exact this
 have h1':=hone _ _ hvs y (List.mem_of_getElem? hy);refine⟨y,Gu hg ?_ h1',h1',s.mono (xn hno) hys⟩;rw[<-h6,List.getElem?_take,if_pos hlt]at hy;simp only[World.cell?,h2];simpa using hy
theorem Ek{M:Mem}{w:World}{p:Nat->Prop}(hno:∀b,p b->∀o,M b o=none):∀{c:List Oc} {cs:List SV} {us:List Value} {k:Nat} {s:SV},ZQ c cs->pq M w c us->(∀q∈cf c us,∀g,q.2.ownBlock=some g->p g)->cs[k]? =some s->∃y,us[k]? =some y/\y.oneCell'=true/\s.h (uY M w p) y
 |.s x::l,y::cs,u::us,k,s,hi,ho,hb,hk=>by
  cases k with
  |zero=>cases hk;exact⟨u,rfl,hi.1.2 _ _ ho.1,y.mono (xn hno) (hi.1.1 _ _ ho.1)⟩
  |succ k=>exact Ek hno (c:=l) (cs:=cs) (us:=us) (k:=k) hi.2 ho.2 hb hk
 |.r R::l,y::cs,u::us,k,s,hi,ho,hb,hk=>by
  cases k with
  |zero=>
   cases hk;obtain⟨rows,q1,q2,q3,q4⟩:=hi.1;obtain⟨r1,r2⟩:=MR hno (λg hg=>hb (R,u) (by rw[cf];simp) g hg) ho.1 q1 q2 q3;exact⟨u,Y,r2,q4 _ _ r1⟩
  |succ k=>exact Ek hno (c:=l) (cs:=cs) (us:=us) (k:=k) hi.2 ho.2 (λq hq=>hb q (by rw[cf];exact List.mem_cons_of_mem _ hq)) hk
 |[],[],_,_,_,_,_,_,hk=>by simp at hk
 |[],_::_,_,_,_,hi,_,_,_=>hi.elim
 |.s _::_,[],_,_,_,hi,_,_,_=>hi.elim
 |.r _::_,[],_,_,_,hi,_,_,_=>hi.elim
 |.s _::_,_::_,[],_,_,_,ho,_,_=>ho.elim
 |.r _::_,_::_,[],_,_,_,ho,_,_=>ho.elim
theorem vP{M M':Mem}{w w':World}(hM:M.le M'):∀{c:List Oc} {us:List Value},pq M w c us->(∀q∈cf c us,∀g,q.2.ownBlock=some g->w'.heap[g]? =w.heap[g]?)->pq M' w' c us
 |[],[],_,_=>trivial
 |.s x::l,u::us,h,hs=>⟨x.mono hM h.1,vP hM (c:=l) (us:=us) h.2 hs⟩
 |.r R::l,u::us,h,hs=>by
  obtain⟨vs,h1,h2⟩:=h.1;exact⟨⟨vs,dw h1 (λg hg=>hs (R,u) (by rw[cf];simp) g hg),h2.mono hM⟩,vP hM (c:=l) (us:=us) h.2 (λq hq=>hs q (by rw[cf];exact List.mem_cons_of_mem _ hq))⟩
 |[],_::_,h,_=>h.elim
 |.s _::_,[],h,_=>h.elim
 |.r _::_,[],h,_=>h.elim
def AV.Ya(cells:List SV):AV->SV
 |.sv s=>s
 |_=>ref cells
def AV.RO:AV->Bool
 |.sv _=>true
 |.ptr i o=>Nat.beq i 1000&&Nat.beq o 0
 |_=>false
theorem Gx{M M':Mem}{β:Nat}{cells:List SV}(hM:M.le M')(hc:(ref cells).h M' (.pointer (some ⟨β,0,none⟩))):∀{args:List AV} {vs:List Value},(args.all AV.RO)=true->di (oA M β) args vs->SV.ef M' (args.map (AV.Ya cells)) vs
 |[],[],_,_=>trivial
 |x::l,v::vs,hy,h=>by
  rw[List.all_cons,Bool.and_eq_true]at hy;refine⟨?_,Gx hM hc hy.2 h.2⟩;cases x with
  |sv s=>exact s.mono hM h.1
  |ptr i o=>
   have h1:=Bool.and_eq_true_iff.1 hy.1;have e:v=.pointer (some ⟨β,o,none⟩):=h.1;rw[e,Nat.eq_of_beq_eq_true h1.2];exact hc
  |_=>exact(Bool.false_ne_true hy.1).elim
 |[],_::_,_,h=>h.elim
 |_::_,[],_,h=>h.elim
theorem dP{P:Program}{f:FuncId}{args:List AV}{T:TypeId}{c:List Oc}{cells:List SV}{r:Nat->SV}{res:SV}(hp:∀N,cK P f N (args.map (AV.Ya cells)) (r N))(hy:args.all AV.RO=true)(hi:ZQ c cells)(hr:∀N M v,(r N).h M v->res.h (M.fr N) v):yA P f args T c res:=by
 intro M w β vs us hM ho hv;have hno:∀b,(b=β\/ew c us b)->∀o,M b o=none:=λb hb o=>by
  rcases hb with rfl|hb
  ·exact ho.nb o
  exact(ho.nr b hb).2 o
 have hlt:∀b,(b=β\/ew c us b)->b<w.heap.size:=λb hb=>by
  rcases hb with rfl|⟨q,hq,hg⟩
  ·exact(Array.getElem?_eq_some_iff.1 ho.hp).1
  obtain⟨ws,h1,_⟩:=kx ho.al q hq;rcases h1.2 with⟨h2,_⟩|⟨g,cap,cur,h2,_,h3,_⟩
  ·rw[h2]at hg;cases hg
  rw[h2]at hg;cases hg;exact(Array.getElem?_eq_some_iff.1 h3).1
 have uG:(ref cells).h (uY M w (λb=>b=β\/ew c us b)) (.pointer (some ⟨β,0,none⟩)):=⟨β,0,Y,λk s hk=>by
  obtain⟨y,h1,h2,h3⟩:=Ek hno hi ho.al (λq hq g hg=>.inr ⟨q,hq,hg⟩) hk;refine⟨y,Gu (.inl Y) ?_ h2,h2,h3⟩;simp only[World.cell?,ho.hp];simpa using h1⟩
 refine(hp w.heap.size _ w vs (Nat.le_refl _) (Kl hM) (Gx (xn hno) uG hy hv)).mono ?_;rintro e w' ⟨v,M',rfl,hM',hnew,ac7,hres,hb⟩;have hMM:M.le (xm M' (λb=>b=β\/ew c us b)):=λb o x e=>Gw (λhb=>by rw[hno b hb o]at e;cases e) (hM' b o x (xn hno b o x e));refine⟨v,xm M' (λb=>b=β\/ew c us b),Y,hMM,λb o x e=>?_,λb o x e=>ac7 b o x (Gv b o x e),res.mono (λb o x e=>?_) (hr _ _ _ hres),?_,hb.os,hb.tape,hb.output,hb.size,λk hk _ _=>hb.block k hk⟩
 ·rcases hnew b o x (Gv b o x e)with q|q
  ·refine .inl ?_;unfold uY at q;split at q
   ·rename_i Cb;have e2:xm M' (λb=>b=β\/ew c us b) b o=none:=BB (p:=λb=>b=β\/ew c us b) Cb o;rw[e2]at e;cases e
   exact q
  exact .inr q
 ·unfold Mem.fr at e;split at e
  ·rename_i hN;exact Gw (λCb=>by have:=hlt b Cb;omega) e
  cases e
 exact⟨by rw[hb.block β (hlt β (.inl Y))];exact ho.hp,vP hMM ho.al (λq hq g hg=>hb.block g (hlt g (.inr ⟨q,hq,hg⟩))),λo=>BB (p:=λb=>b=β\/ew c us b) (.inl Y) o,λg hg=>⟨(ho.nr g hg).1,λo=>BB (p:=λb=>b=β\/ew c us b) (.inr hg) o⟩,ho.ap⟩
theorem mE{P:Program}{f:FuncId}{args:List SV}{r:SV}(h:Pure P f args r)(N:Nat):cK P f N args r:=λM w vs _ hM hv=>h M w vs hM hv
theorem UB{s:SV}:∀(N:Nat) (M:Mem) (v:Value),(nw N s).h M v->s.h (M.fr N) v:=λ_ _ _ h=>h.1
theorem Af{l:List Qr}:∀(N:Nat) (M:Mem) (v:Value),(nw N (slc 4 (l.map (fQ N)))).h M v->(slc 4 (l.map eQ)).h (M.fr N) v:=λN M v h=>KP (M.fr N) v (by
 obtain⟨h1,h2⟩:=h;rw[<-Mem.Fs]at h1;exact⟨h1,λg e=>by rw[Mem.Fs];exact h2 g e⟩)
theorem I9{x:Value}:∀(N:Nat) (M:Mem) (v:Value),(SV.v x).h M v->(SV.v x).h (M.fr N) v:=λ_ _ _ h=>h
theorem El{P:Program}{f:FuncId}{fn:Func}{code:Code}{args:Nat->List AV}{T:TypeId}{c:List Oc}{res:SV}(ids:List Nat)(hf:P.funcs[f]? =some fn)(hb:fn.body=some code)(hn:∀β,(args β).length<=fn.ntmps)(I3:∀β,(args β).all AV.oy=true)(Ci:ids.Nodup)(RI:ids.length=(rowsOf c).length)(hge:(ids.all λi=>Nat.ble 1000 i)=true)(Uz:Ei c)
  (h:∀(w:World) (M:Mem) (β:Nat) (us:List Value),Ok P (Pu w M β c us ids hge) code (AS.Cc fn.ntmps (args β) [(1000,⟨T,cm ids c⟩)] (ids.zip (rowsOf c))) (λe S=>(e=.normal\/e=.ret)/\Li P S fn.results.toList res/\S.b 1000=some ⟨T,cm ids c⟩/\Lv S ids (rowsOf c))):I8 P f args T c (λ_ M' _ v=>res.h M' v):=
 Gt ids hf hb hn I3 Ci RI hge Uz _ h (λw M β us S' E a w' hr hh _ _ _=>by
  obtain⟨v,hv,hx⟩:=(zy.sv hr).run hh;exact⟨v,hv,hx⟩)
section steps
variable {P:Program}{C:Ctx}{ops:Array Oper}{S:AS}{nd:Bool}{K:List Ac->AS->Prop}{rest:List Oper}{acc:List Ac}{Q:Exit->AS->Prop}
variable {gd:Option (Nat×Bool)}{rg:List Nat}{d:Nat}{ty:TypeId}{pos:String}{aft:Array Edge}{x y z:Operand}{T U E0:TypeId}
theorem Px{c:Code}{i k β:Nat}(hp:C.gC k=some β)(hB:S.b i=some ⟨T,[.ptr k 0]⟩)(h:Ok P C c (S.jv i ⟨T,[.sv (.v (.pointer (some ⟨β,0,none⟩)))]⟩) Q):Ok P C c S Q:=λa w ⟨E,hh⟩=>by
 refine h a w ⟨E,?_⟩;have hβ:E.β k=β:=hh.gC k β hp;have zx:∀j B,(S.jv i ⟨T,[.sv (.v (.pointer (some ⟨β,0,none⟩)))]⟩).b j=some B->(j=i/\B=⟨T,[.sv (.v (.pointer (some ⟨β,0,none⟩)))]⟩)\/(j≠i/\S.b j=some B):=λj B e=>by
  by_cases hj:j=i
  ·subst hj;rw[AS.cV]at e;cases e;exact .inl ⟨rfl,rfl⟩
  rw[AS.bR _ _ _ _ hj]at e;exact .inr ⟨hj,e⟩
 have bTo:∀j,(∃B,S.b j=some B)->∃B,(S.jv i ⟨T,[.sv (.v (.pointer (some ⟨β,0,none⟩)))]⟩).b j=some B:=λj ⟨B,e⟩=>by
  by_cases hj:j=i
  ·subst hj;exact⟨_,AS.cV _ _ _⟩
  exact⟨B,by rw[AS.bR _ _ _ _ hj];exact e⟩
 have UC:∀j B,(S.jv i ⟨T,[.sv (.v (.pointer (some ⟨β,0,none⟩)))]⟩).b j=some B->∃B',S.b j=some B':=λj B e=>by
  rcases zx j B e with⟨rfl,_⟩|⟨_,q⟩
  ·exact⟨_,hB⟩
  exact⟨_,q⟩
 exact{hh with
  wf:=⟨λs j hj=>bTo j (hh.wf.tb s j hj),hh.wf.tr,λj B e y hy m hm=>by
    rcases zx j B e with⟨rfl,rfl⟩|⟨_,q⟩
    ·obtain rfl:y=_:=by simpa using hy
     exact(hm:False).elim
    ·exact bTo m (hh.wf.bb j B q y hy m hm),λj B e y hy m hm=>by
    rcases zx j B e with⟨rfl,rfl⟩|⟨_,q⟩
    ·obtain rfl:y=_:=by simpa using hy
     exact(hm:False).elim
    exact hh.wf.br j B q y hy m hm⟩
  bx:=λj B e=>by
   rcases zx j B e with⟨rfl,rfl⟩|⟨_,q⟩
   ·obtain⟨h1,h2,h3,vs,h4,h5⟩:=hh.bx j _ hB;refine⟨h1,h2,h3,vs,h4,?_⟩
    match vs,h5 with
    |[v],h5=>exact⟨(show v=.pointer (some ⟨β,0,none⟩)from hβ▸h5.1),aq⟩
   exact hh.bx j B q
  inj:=λj j' B B' e e' q=>by
   obtain⟨_,h1⟩:=UC j B e;obtain⟨_,h2⟩:=UC j' B' e';exact hh.inj j j' _ _ h1 h2 q
  rx:=λj R hR=>by
   obtain⟨p1,p2⟩:=hh.rx j R hR;refine⟨p1,λg hg=>?_⟩;obtain⟨q1,q2,q3,q4⟩:=p2 g hg;refine⟨q1,q2,q3,λm B e=>?_⟩;obtain⟨_,h1⟩:=UC m B e
   exact q4 m _ h1}
theorem RT.yB(hg:Gd ops S gd rg)[tV:pV P T]{k β:Nat}{B:nX}(hx:S.ev x=.sv (ref [.v (.pointer (some ⟨β,0,none⟩))]))(hp:C.gC k=some β)(hB:S.b k=some B)(hd:d<S.n)
  (next:RunT P C ops nd K rest (⟨rg++aZ x,[k],[],⟨some (d,.ptr k 0),[],[]⟩⟩::acc) (S.set d (.ptr k 0))):RunT P C ops nd K (⟨some d,.load T x,ty,pos,aft,gd⟩::rest) acc S:=
 RT.value hg (aZ x) [k] [] (.ptr k 0) hd (by intro c h;cases h) (λS' ht hb _ E a w h=>by
  have h1:=h.ev x;rw[bw (λ_ h=>h) ht,hx]at h1;obtain⟨b,o,e,hc⟩:=h1;obtain⟨u,hu,VT,hs⟩:=hc 0 _ Y;have hβ:E.β k=β:=h.gC k β hp;have hs:u=.pointer (some ⟨β,0,none⟩):=hs;refine⟨u,?_,by show u=.pointer (some ⟨E.β k,0,none⟩);rw[hβ];exact hs,λj e=>?_,λj e=>e.elim⟩
  ·have SQ:w.cell? ⟨b,o,none⟩=some u:=(h.dh _ _ _ hu).cell VT;simp[execOp,e,Instr.loadAt,Instr.sureAddr,loadVar,tV.isAgg,SQ]
  have e:j=k:=e;subst e;exact⟨B,by rw[hb j (by simp)];exact hB⟩) next
theorem RT.Py(hg:Gd ops S gd rg){f:FuncId}[dz P f]{g:Operand}{xs:Array Operand}{at_:Array TypeId}{args:List AV}{caps:Nat->List SV}{β:Nat}{T:TypeId}{c:List Oc}{res:SV}(hp:I8 P f (λβ=>args++(caps β).map AV.sv) T c (λ_ M' _ v=>res.h M' v))(i:Nat)(js:List Nat)(Hz:C.gC i=some β)(hB:S.b i=some ⟨T,cm js c⟩)(hL:Lv S js (rowsOf c))(RK:js.Nodup)
  (I3:args.all AV.oy=true) (hf:S.ev g=.sv (iT f (caps β))) (hargs:vk S xs.toList (args.map (AV.RH i))) (hd:d<S.n)
  (next:RunT P C ops nd K rest (⟨rg++(aZ g++xs.toList.flatMap aZ),[i],js,⟨some (d,.sv res),[],[]⟩⟩::acc) (S.set d (.sv res))):RunT P C ops nd K (⟨some d,.call ⟨.value g,xs,at_⟩,ty,pos,aft,gd⟩::rest) acc S:=by
 refine .inl ⟨_,[i],js,_,?_,next⟩;rintro S' hn ht hb hr k a w L Q ho ⟨E,h⟩ X7;refine cA (C:=C) ho (hg.wanted h (λs hs=>ht s (List.mem_append_left _ hs)) Y) ?_;have rY:(iT f (caps β)).h E.M (a.eval g):=by
  have h1:=h.ev g;rw[bw (λ_ h=>List.mem_append_right _ (List.mem_append_left _ h)) ht,hf]at h1;exact h1
 obtain⟨n7,rY,xX⟩:=rY;have hβ:E.β i=β:=h.gC i β Hz;have hall:=Ae I3 (vk.vals h hargs (λs hs=>ht s (List.mem_append_right _ (List.mem_append_right _ hs))));have fu:S'.b i=some ⟨T,cm js c⟩:=by rw[hb i (by simp)];exact hB
 have RL:Lv S' js (rowsOf c):=hL.congr (λk hk=>hr k hk);obtain⟨us,Pt,Bz⟩:=ql h fu RL RK;have Yb:di (oA E.M (E.β i)) (args++(caps (E.β i)).map AV.sv) (xs.toList.map a.eval++n7):=hall.append (di.wm (E:=oA E.M (E.β i)) (by rw[hβ];exact xX));have hrun:(execOp a.eval ⟨some d,.call ⟨.value g,xs,at_⟩,ty,pos,aft,gd⟩).run P w=.ok (.enter f ⟨xs.toList.map a.eval++n7⟩) w:=by
  have e2:xs.map a.eval++⟨n7⟩=⟨xs.toList.map a.eval++n7⟩:=by apply Array.ext';simp
  have e1:=dz.run (P:=P) (f:=f) (xs.map a.eval++⟨n7⟩) w;rw[<-e2];simp[execOp,resolve,rY,Deferred.ofValue,invoke,e1]
 refine ct (C:=C) (by intro c h;cases h) hrun ?_;refine⟨λh=>by simp at h,gi ((hp E.M w (E.β i) _ us h.dh Pt Yb).mono ?_)⟩;rintro e w' ⟨v,M',rfl,hM,hnew,hin,hv,IX,hos,qk,hout,hsize,jW⟩;have h1:=h.I7 fu RL RK Pt hM hnew hin IX hos qk hout hsize jW;exact X7 _ _ ⟨_,h1.put (x:=.sv res) (v:=v) hv (by show d<S'.n;omega) ff⟩
theorem Pz{α:Type}(l k:List α):(ES l k).length=l.length:=by unfold ES;simp;omega
theorem Dg{M:Mem}{b:Nat}{α:Type}{e:α->List SV}[el:EL e 1]:∀(k:List α) (o:Nat),(∀(i:Nat) (row:List SV),(k.map e)[i]? =some row->∀(q:Nat) (s:SV),row[q]? =some s->∃y,M b (o+i*1+q)=some y/\y.oneCell'=true/\s.h M y)->∃cs:List Value,cs.length=k.length/\SV.ef M (k.flatMap e) cs/\∀j v,cs[j]? =some v->M b (o+j)=some v/\v.oneCell'=true
 |[],_,_=>⟨[],Y,aq,λj v h=>by simp at h⟩
 |x::k,o,h=>by
  obtain⟨cs,h1,h2,h3⟩:=Dg k (o+1) (λi row hr q s hs=>by
   have:=h (i+1) row (by simpa using hr) q s hs;rwa[show o+(i+1)*1+q=o+1+i*1+q by omega]at this)
  have hl:=el.len x
  match he:e x,hl with
  |[s],_=>
   obtain⟨y,q1,q2,q3⟩:=h 0 [s] (by simp[he]) 0 s Y;refine⟨y::cs,by simp[h1],?_,λj v hj=>?_⟩
   ·rw[List.flatMap_cons,he];exact⟨q3,h2⟩
   cases j with
   |zero=>cases hj;exact⟨by simpa using q1,q2⟩
   |succ j=>rw[show o+(j+1)=o+1+j by omega];exact h3 j v (by simpa using hj)
theorem Gy{M:Mem}{α:Type}{e:α->List SV}[el:EL e 1]:∀(l:List α) (vs:List Value) (m:Nat),SV.ef M (l.flatMap e) vs->SV.ef M ((l.drop m).flatMap e) (vs.drop m)
 |l,vs,0,h=>by simpa using h
 |[],vs,m+1,h=>by
  cases vs with
  |nil=>trivial
  |cons _ _=>exact h.elim
 |x::l,vs,m+1,h=>by
  have hl:=el.len x
  match he:e x,hl with
  |[s],_=>
   rw[List.flatMap_cons,he]at h
   match vs,h with
   |v::vs,h=>exact Gy l vs m h.2
theorem RT.Yc(hg:Gd ops S gd rg)[tS:eM P T E0 1]{α:Type}{e:α->List SV}[el:EL e 1]{i:Nat}{E1:TypeId}{l k:List α}{m:Int}(hx:S.ev x=.row i)(hR:S.r i=.live (TR E1 1 e l))(hy:S.ev y=.sv (slc 1 (k.map e)))(hd:d<S.n)(hm:((Min.min k.length l.length:Nat):Int)=m)
  (next:RunT P C ops nd K rest (⟨rg++(aZ x++aZ y),[],[i],⟨some (d,.sv (.v (.int .i64 m))),[],[(i,.live (TR E1 1 e (ES l k)))]⟩⟩::acc) ((AS.b9 [(i,.live (TR E1 1 e (ES l k)))] S).set d (.sv (.v (.int .i64 m))))):RunT P C ops nd K (⟨some d,.call ⟨.builtin .copy,#[x,y],#[T,U]⟩,ty,pos,aft,gd⟩::rest) acc S:=by
 subst hm;refine .inl ⟨_,[],[i],_,?_,next⟩;rintro S' hn' ht _ Lf ix a w L Q ho ⟨E,h⟩ hL;refine cA (C:=C) ho (hg.wanted h (λs hs=>ht s (List.mem_append_left _ hs)) Y) ?_;have nU:S'.r i=.live (TR E1 1 e l):=by rw[Lf i (by simp)];exact hR
 have h1:a.eval x=E.ν i:=by
  have h1:=h.ev x;rw[bw (λ_ h=>List.mem_append_right _ (List.mem_append_left _ h)) ht,hx]at h1;exact h1
 have h2:(slc 1 (k.map e)).h E.M (a.eval y):=by
  have h2:=h.ev y;rw[bw (λ_ h=>List.mem_append_right _ (List.mem_append_right _ h)) ht,hy]at h2;exact h2
 have hsrc:∃sa sc,a.eval y=.slice sa k.length sc:=by
  rcases h2 with⟨sa,q1,q2⟩|⟨b,o,c,q1,_⟩
  ·have:k=[]:=List.map_eq_nil_iff.1 q2;subst this;exact⟨sa,0,q1⟩
  rw[List.length_map]at q1;exact⟨_,c,q1⟩
 obtain⟨⟨us,hown,zW⟩,_⟩:=h.rx i _ nU;have ac8:∃da dc,E.ν i=.slice da l.length dc:=by
  rcases hown.2 with⟨q1,q2⟩|⟨g,cap,cur,q1,_⟩
  ·have q2:l.length=0:=q2;exact⟨none,0,by rw[q2];exact q1⟩
  exact⟨_,cap,q1⟩
 obtain⟨sa,sc,hs⟩:=hsrc;by_cases h0:Nat.min k.length l.length=0
 ·obtain⟨da,dc,hdv⟩:=ac8;have hc:ES l k=l:=by
   rcases Nat.eq_zero_or_pos l.length with q|q
   ·have:=List.length_eq_zero_iff.1 q;subst this;simp[ES]
   have:k.length=0:=by
    have h0:Min.min k.length l.length=0:=h0;omega
   have:=List.length_eq_zero_iff.1 this;subst this;simp[ES]
  have hr:(execOp a.eval ⟨some d,.call ⟨.builtin .copy,#[x,y],#[T,U]⟩,ty,pos,aft,gd⟩).run P w=.ok (.value (goInt 0)) w:=by
   have:=run_copy_none (P:=P) w T U ty E0 da sa l.length dc k.length sc tS.u tS.s h0;simp[execOp,resolve,invoke,builtin,h1,hs,hdv,this]
  refine ct (C:=C) (by intro c h;cases h) hr (hL _ _ ⟨E,?_⟩);rw[hc];have e0:((Min.min k.length l.length:Nat):Int)=0:=by
   have h0:Min.min k.length l.length=0:=h0;rw[h0];rfl
  rw[e0];have:AS.app S' ⟨some (d,.sv (.v (.int .i64 0))),[],[(i,.live (TR E1 1 e l))]⟩=S'.set d (.sv (.v (.int .i64 0))):=by
   show(AS.pE S' i _).set d _=_;rw[AS.CX nU]
  rw[this];exact h.put (x:=.sv (.v (.int .i64 0))) (v:=.int .i64 0) Y (by show d<S'.n;omega) ff
 have hpos:0<Min.min k.length l.length:=Nat.pos_of_ne_zero h0;obtain⟨g,yS⟩:∃g,(E.ν i).ownBlock=some g:=by
  rcases hown.2 with⟨_,q2⟩|⟨g,cap,cur,q1,_⟩
  ·have q2:l.length=0:=q2;omega
  exact⟨g,by rw[q1];rfl⟩
 obtain⟨cur,vs,q1,q2,q3,q4,cap,q5,q6,q7,q8⟩:=AG h nU yS;replace q2:cur.take (l.length*1)=vs:=q2;replace q3:vs.length=l.length*1:=q3;replace q6:l.length<=cap:=q6;replace q8:cur.length=cap*1:=q8;rcases h2 with⟨sa',r1,r2⟩|⟨b,o,c,r1,_,_,r4⟩
 ·have:k=[]:=List.map_eq_nil_iff.1 r2;subst this;simp at hpos
 rw[List.length_map]at r1;rw[hs]at r1;cases r1;obtain⟨cs,c1,c2,c3⟩:=Dg (M:=E.M) (b:=b) (e:=e) (k.take (Min.min k.length l.length)) o (λj row hr q s hq=>by
  refine(r4 j row ?_).2 q s hq;rw[List.map_take,List.getElem?_take]at hr;split at hr
  ·exact hr
  cases hr)
 have uG:cs.length=Nat.min k.length l.length:=by rw[c1,List.length_take];show Min.min (Min.min k.length l.length) k.length=Min.min k.length l.length;omega
 have UD:cs.length=Min.min k.length l.length:=uG;have hrun:=run_copy_row (P:=P) w T U ty E0 g 0 l.length cap ⟨b,o,none⟩ k.length sc ⟨cur⟩ E1 cs tS.u tS.s q1 uG (λj v hj=>by
  rw[fP];exact(h.dh _ _ _ (c3 j v hj).1).cell (c3 j v hj).2) (by simp;omega) (λv hv=>by
  obtain⟨j,hj,rfl⟩:=List.getElem_of_mem hv;exact(c3 j _ (List.getElem?_eq_getElem hj)).2)
 have hr:(execOp a.eval ⟨some d,.call ⟨.builtin .copy,#[x,y],#[T,U]⟩,ty,pos,aft,gd⟩).run P w=.ok (.value (goInt cs.length)) (w.setRow g (cs++cur.drop cs.length).toArray):=by
  have hrun:(Builtin.copy_ #[T,U] ty #[.slice (some ⟨g,0,none⟩) l.length cap,.slice (some ⟨b,o,none⟩) k.length sc]).run P w=.ok (goInt cs.length) (w.setRow g (cs++cur.drop cs.length).toArray):=by simpa using hrun
  have q5:E.ν i=.slice (some ⟨g,0,none⟩) l.length cap:=q5;simp[execOp,resolve,invoke,builtin,h1,hs,q5,hrun]
 have ac9:ES l k=k.take (Min.min k.length l.length)++l.drop (Min.min k.length l.length):=by
  unfold ES;have e1:k.take l.length=k.take (Min.min k.length l.length):=by rw[List.take_eq_take_iff];omega
  have e2:l.drop k.length=l.drop (Min.min k.length l.length):=by rw[List.drop_eq_drop_iff];omega
  rw[e1,e2]
 have hall:SV.ef E.M ((ES l k).flatMap e) (cs++vs.drop cs.length):=by
  rw[ac9,List.flatMap_append,<-UD];rw[<-UD]at c2;exact SV.ef.append c2 (Gy l vs cs.length q4)
 have hh:=setRow_heap w g ⟨cur⟩ (cs++cur.drop cs.length).toArray E1 (0,0) q1;have Yd:(w.setRow g (cs++cur.drop cs.length).toArray).ownsRow 0 E1 1 (E.ν i) l.length (cs++vs.drop cs.length):=by
  refine⟨by simp;omega,.inr ⟨g,cap,_,q5,Nat.zero_le _,hh,q6,q7,by simp;omega,?_⟩⟩;rw[<-q2];simp only[List.take_append,List.length_take,List.drop_take];congr 1;rw[List.take_of_length_le (by omega)]
 have hp:=h.Hv nU yS (w':=w.setRow g (cs++cur.drop cs.length).toArray) ⟨_,_,q1⟩ Y Y Y (by simp[World.setRow]) (λk' hk'=>setRow_other w g k' _ hk') Yd hall;refine ct (C:=C) (by intro c h;cases h) hr (hL _ _ ⟨E,?_⟩);have hrow:(⟨(TR E1 1 e l).E,(TR E1 1 e l).sz,(TR E1 1 e l).n,(ES l k).flatMap e⟩:Row)=TR E1 1 e (ES l k):=by
  show Row.mk _ _ l.length _=Row.mk _ _ (ES l k).length _;rw[Pz]
 rw[hrow]at hp;rw[<-UD];exact hp.put (x:=.sv (.v (.int .i64 cs.length))) (v:=.int .i64 cs.length) Y (by show d<S'.n;omega) ff
end steps
end
end Go.Fw
namespace Go.Proofs.YtningmnklfpfjaaGreat
section
open Go.Fw
noncomputable def cy(x0:Tb):Option (Bool):=match x0 with|⟨bp,bt,bC,bF,cZ⟩=>cQ (λ(Ye:Bool)=>some Ye) λK3=>(bif false then none else(some (!bp)).bind λdZ=>some dZ).bind λRQ=>K3 RQ
noncomputable def eE(x0:Tb):Option (Int):=match x0 with|⟨bp,bt,bC,bF,cZ⟩=>(some (cZ.length:Int)).bind λiJ=>(some (IntKind.i64.wrap (bt+iJ))).bind λep=>some ep
noncomputable def jB(x0:Tb)(x1:Int):Option (List Qr):=match x0 with|⟨bp,bt,bC,bF,cZ⟩=>(some (cZ.length:Int)).bind λep=>(z2 64 ep (⟨⟨false,[]⟩,⟨false,[]⟩⟩:Qr)).bind λgh=>(some (cZ.length:Int)).bind λfC=>(cu (λ(s8:Int×(List Qr))=>match s8 with|⟨Gz,GA⟩=>(show Option ((Int×(List Qr))⊕((List Qr)))from(some (decide ((Gz:Int)<fC))).bind λiU=>(bif iU then(cW cZ Gz).bind λjH=>(cW jH x1).bind λ⟨⟨RR,RU⟩,⟨RV,RW⟩⟩=>(cH ⟨⟨RR,RU⟩,⟨RV,RW⟩⟩).bind λ⟨⟨uP,uQ⟩,⟨MS,MT⟩⟩=>(oP GA Gz).bind λtX=>(stM GA tX ⟨⟨uP,uQ⟩,⟨MS,MT⟩⟩).bind λrP=>(some (IntKind.i64.wrap (Gz+1))).bind λjX=>some (.inl (jX,rP))else some (.inr GA)))) (0,gh)).bind λBC=>some BC
noncomputable def iM(x0:Tb)(x1:Int):Option (List Qr):=match x0 with|⟨bp,bt,bC,bF,cZ⟩=>(some (bC.length:Int)).bind λep=>(some (IntKind.i64.wrap (ep+bt))).bind λfJ=>(z2 64 fJ (⟨⟨false,[]⟩,⟨false,[]⟩⟩:Qr)).bind λfC=>(some (decide ((x1:Int)<bt))).bind λik=>cQ (λ(MU:(List Qr))=>some MU) λRN=>(bif ik then(some (bC.length:Int)).bind λiK=>(cu (λ(We:Int×(List Qr))=>match We with|⟨BD,BE⟩=>(show Option ((Int×(List Qr))⊕((List Qr)))from(some (decide ((BD:Int)<iK))).bind λtX=>(bif tX then(cW bC BD).bind λtZ=>(cW tZ x1).bind λ⟨⟨MV,MW⟩,⟨MX,MY⟩⟩=>(oP BE BD).bind λuM=>(stM BE uM ⟨⟨MV,MW⟩,⟨MX,MY⟩⟩).bind λWf=>(some (IntKind.i64.wrap (BD+1))).bind λsy=>some (.inl (sy,Wf))else some (.inr BE)))) (0,fC)).bind λvQ=>(some (bC.length:Int)).bind λux=>(some (IntKind.i64.wrap (ux+x1))).bind λwN=>(cG (-1)).bind λ⟨⟨C7,C8⟩,⟨MZ,M1⟩⟩=>(oP vQ wN).bind λya=>(stM vQ ya ⟨⟨C7,C8⟩,⟨MZ,M1⟩⟩).bind λWg=>RN Wg else RN fC)
noncomputable def ic(x0:Tb)(x1:List Qr):Option (List Qr):=match x0 with|⟨bp,bt,bC,bF,cZ⟩=>(some (bC.length:Int)).bind λep=>(some (IntKind.i64.wrap (ep+bt))).bind λfJ=>(z2 64 fJ (⟨⟨false,[]⟩,⟨false,[]⟩⟩:Qr)).bind λfC=>(some (x1.length:Int)).bind λiU=>(cu (λ(KW:(List Qr)×Int)=>match KW with|⟨BF,qX⟩=>(show Option (((List Qr)×Int)⊕((List Qr)))from(some (decide ((qX:Int)<iU))).bind λjH=>(bif jH then(cW x1 qX).bind λ⟨⟨qc,qe⟩,⟨qf,qg⟩⟩=>cQ (λ(Ib:Bool)=>cQ (λ(M3:(List Qr))=>(some (IntKind.i64.wrap (qX+1))).bind λzC=>some (.inl (M3,zC))) λV9=>(bif Ib then(cW bF qX).bind λwN=>(iM ⟨bp,bt,bC,bF,cZ⟩ wN).bind λya=>(eD ⟨⟨qc,qe⟩,⟨qf,qg⟩⟩ ya BF).bind λFG=>V9 FG else V9 BF)) λK19=>(cW bF qX).bind λtX=>(some (decide ((tX:Int)<bt))).bind λuN=>(bif uN then(eC ⟨⟨qc,qe⟩,⟨qf,qg⟩⟩).bind λmO=>(some (decide ((mO:Int)≠0))).bind λuM=>some uM else some false).bind λM4=>K19 M4 else some (.inr BF)))) (fC,0)).bind λDh=>some Dh
noncomputable def jr(x0:Tb):Option (List Int):=match x0 with|⟨bp,bt,bC,bF,cZ⟩=>(cy ⟨bp,bt,bC,bF,cZ⟩).bind λx5=>(bif x5 then some []else(some (bF.length:Int)).bind λdZ=>(z2 8 dZ (0:Int)).bind λiJ=>some (ES iJ bF))
noncomputable def fO(x0:Tb):Option (List Qr):=match x0 with|⟨bp,bt,bC,bF,cZ⟩=>(cy ⟨bp,bt,bC,bF,cZ⟩).bind λx4=>(bif x4 then some []else(eE ⟨bp,bt,bC,bF,cZ⟩).bind λx7=>(jB ⟨bp,bt,bC,bF,cZ⟩ x7).bind λx8=>some x8)
noncomputable def dy(x0:Tb)(x1:Int):Option (List Qr):=match x0 with|⟨bp,bt,bC,bF,cZ⟩=>cQ (λ(M5:Bool)=>(bif M5 then some []else(jB ⟨bp,bt,bC,bF,cZ⟩ x1).bind λiU=>(ic ⟨bp,bt,bC,bF,cZ⟩ iU).bind λiE=>(iM ⟨bp,bt,bC,bF,cZ⟩ x1).bind λik=>(mg iE ik).bind λyY=>some yY)) λK6=>(cy ⟨bp,bt,bC,bF,cZ⟩).bind λx6=>(bif x6 then some true else(some (decide ((x1:Int)<0))).bind λx9=>some x9).bind λRX=>(bif RX then some true else(eE ⟨bp,bt,bC,bF,cZ⟩).bind λfE=>(some (decide ((fE:Int)<=x1))).bind λeH=>some eH).bind λUE=>K6 UE
noncomputable def iv(x0:Tb):Option (List Qr):=match x0 with|⟨bp,bt,bC,bF,cZ⟩=>(cy ⟨bp,bt,bC,bF,cZ⟩).bind λx4=>(bif x4 then some []else(fO ⟨bp,bt,bC,bF,cZ⟩).bind λx7=>(ic ⟨bp,bt,bC,bF,cZ⟩ x7).bind λx8=>some x8)
noncomputable def ig(x0:Tb):Option (List Qr):=match x0 with|⟨bp,bt,bC,bF,cZ⟩=>(cy ⟨bp,bt,bC,bF,cZ⟩).bind λx7=>(bif x7 then some []else(z2 64 bt (⟨⟨false,[]⟩,⟨false,[]⟩⟩:Qr)).bind λep=>(fO ⟨bp,bt,bC,bF,cZ⟩).bind λfE=>(some (fE.length:Int)).bind λeH=>(cu (λ(yZ:Int×(List Qr))=>match yZ with|⟨BG,BH⟩=>(show Option ((Int×(List Qr))⊕((List Qr)))from(some (decide ((BG:Int)<eH))).bind λfJ=>(bif fJ then(cW fE BG).bind λ⟨⟨nK,nL⟩,⟨Bq,Br⟩⟩=>(cW bF BG).bind λnn=>(some (decide ((nn:Int)<bt))).bind λjX=>cQ (λ(Ic:(List Qr))=>(some (IntKind.i64.wrap (BG+1))).bind λvu=>some (.inl (vu,Ic))) λKQ=>(bif jX then(cW bF BG).bind λuO=>(oP BH uO).bind λsy=>(stM BH sy ⟨⟨nK,nL⟩,⟨Bq,Br⟩⟩).bind λOF=>KQ OF else KQ BH)else some (.inr BH)))) (0,ep)).bind λBI=>some BI)
noncomputable def mm(x0:Tb):Option (List (List Qr)):=match x0 with|⟨bp,bt,bC,bF,cZ⟩=>(cy ⟨bp,bt,bC,bF,cZ⟩).bind λx7=>(bif x7 then some []else(some (cZ.length:Int)).bind λep=>(cu (λ(s6:Int×(List (List Qr)))=>match s6 with|⟨Ja,Em⟩=>(show Option ((Int×(List (List Qr)))⊕((List (List Qr))))from(some (decide ((Ja:Int)<ep))).bind λfE=>(bif fE then(cW cZ Ja).bind λeH=>(eE ⟨bp,bt,bC,bF,cZ⟩).bind λiU=>(gy eH iU).bind λiE=>(wh 24 Em [iE]).bind λlP=>(some (IntKind.i64.wrap (Ja+1))).bind λik=>some (.inl (ik,lP))else some (.inr Em)))) (0,[])).bind λvR=>some vR)
noncomputable def ij(x0:Tb):Option (Bool):=match x0 with|⟨bp,bt,bC,bF,cZ⟩=>(cy ⟨bp,bt,bC,bF,cZ⟩).bind λx6=>(bif x6 then some false else(fO ⟨bp,bt,bC,bF,cZ⟩).bind λx8=>(some (x8.length:Int)).bind λx9=>(cu (λ(Jb:Int)=>(show Option ((Int)⊕((Unit)⊕(Bool)))from(some (decide ((Jb:Int)<x9))).bind λiJ=>(bif iJ then(cW x8 Jb).bind λ⟨⟨ir,hG⟩,⟨Jc,Jd⟩⟩=>(eC ⟨⟨ir,hG⟩,⟨Jc,Jd⟩⟩).bind λeH=>(some (decide ((eH:Int)<0))).bind λgN=>(bif gN then some (.inr (.inr false))else(some (IntKind.i64.wrap (Jb+1))).bind λfJ=>some (.inl fJ))else some (.inr (.inl ()))))) 0).bind λe6=>match e6 with|.inr v6=>some v6|.inl _=>some true)
noncomputable def gH(x0:Tb):Option (Bool):=match x0 with|⟨bp,bt,bC,bF,cZ⟩=>(cy ⟨bp,bt,bC,bF,cZ⟩).bind λx5=>(bif x5 then some false else(n8 (λ(k:Nat) (s3:Unit)=>(show Option ((Unit)⊕(Bool))from(some ((k:Nat):Int)).bind λp8=>(dy ⟨bp,bt,bC,bF,cZ⟩ p8).bind λiJ=>(ou iJ).bind λep=>(some (decide ((ep:Int)<0))).bind λgh=>(bif gh then some (.inr false)else some (.inl ())))) ((IntKind.i64.wrap (Tb.vars ⟨bp,bt,bC,bF,cZ⟩+((Tb.rows ⟨bp,bt,bC,bF,cZ⟩).length:Int))).toNat) ()).bind λe3=>match e3 with|.inr v3=>some v3|.inl _=>some true)
noncomputable def eR(x0:Tb):Option (List (List Qr)):=match x0 with|⟨bp,bt,bC,bF,cZ⟩=>(cy ⟨bp,bt,bC,bF,cZ⟩).bind λx6=>(bif x6 then some []else(kS (λ(k:Nat) (mh:(List (List Qr)))=>(show Option ((List (List Qr)))from(some ((k:Nat):Int)).bind λp9=>(dy ⟨bp,bt,bC,bF,cZ⟩ p9).bind λgh=>(wh 24 mh [gh]).bind λeH=>some eH)) ((IntKind.i64.wrap (Tb.vars ⟨bp,bt,bC,bF,cZ⟩+((Tb.rows ⟨bp,bt,bC,bF,cZ⟩).length:Int))).toNat) []).bind λmh=>some mh)
noncomputable def dY(x0:Lr):Option (Bool×Int×(List (List Qr))×(List Int)×(List (List Qr))):=match x0 with|⟨bp,bt,bC,bF⟩=>(some (bt.length:Int)).bind λeH=>(cu (λ(s6:Int×(List (List Qr)))=>match s6 with|⟨Je,En⟩=>(show Option ((Int×(List (List Qr)))⊕((List (List Qr))))from(some (decide ((Je:Int)<eH))).bind λfJ=>(bif fJ then(cW bt Je).bind λfC=>(gy fC bp).bind λnq=>(wh 24 En [nq]).bind λz8=>(some (IntKind.i64.wrap (Je+1))).bind λtZ=>some (.inl (tZ,z8))else some (.inr En)))) (0,[])).bind λpO=>(some (bC.length:Int)).bind λpR=>(cu (λ(UF:Int×(List Int)×(List (List Qr)))=>match UF with|⟨oC,ud,ue⟩=>(show Option ((Int×(List Int)×(List (List Qr)))⊕((List Int)×(List (List Qr))))from(some (decide ((oC:Int)<pR))).bind λCe=>(bif Ce then(some (bC.length:Int)).bind λwQ=>(some (IntKind.i64.wrap (bp+wQ))).bind λDR=>(some (IntKind.i64.wrap (DR+1))).bind λwj=>(z2 64 wj (⟨⟨false,[]⟩,⟨false,[]⟩⟩:Qr)).bind λvv=>(cu (λ(IY:Int×(List Qr))=>match IY with|⟨BJ,BK⟩=>(show Option ((Int×(List Qr))⊕((List Qr)))from(some (decide ((BJ:Int)<bp))).bind λCr=>(bif Cr then(sW bC oC BJ).bind λ⟨⟨Jf,GB⟩,⟨M6,M7⟩⟩=>(oP BK BJ).bind λKR=>(stM BK KR ⟨⟨Jf,GB⟩,⟨M6,M7⟩⟩).bind λOC=>(some (IntKind.i64.wrap (BJ+1))).bind λHF=>some (.inl (HF,OC))else some (.inr BK)))) (0,vv)).bind λvS=>(some (IntKind.i64.wrap (bp+oC))).bind λKS=>(cG 1).bind λ⟨⟨M8,M9⟩,⟨Na,Nb⟩⟩=>(oP vS KS).bind λKT=>(stM vS KT ⟨⟨M8,M9⟩,⟨Na,Nb⟩⟩).bind λQH=>(some (QH.length:Int)).bind λRY=>(some (IntKind.i64.wrap (RY-1))).bind λOD=>(cW bF oC).bind λ⟨⟨R3,R4⟩,⟨R5,R6⟩⟩=>(cH ⟨⟨R3,R4⟩,⟨R5,R6⟩⟩).bind λ⟨⟨Nc,Nd⟩,⟨Nf,Ng⟩⟩=>(oP QH OD).bind λKU=>(stM QH KU ⟨⟨Nc,Nd⟩,⟨Nf,Ng⟩⟩).bind λYf=>(wh 24 ue [Yf]).bind λTt=>(some (IntKind.i64.wrap (bp+oC))).bind λUG=>(wh 8 ud [UG]).bind λUH=>(some (IntKind.i64.wrap (oC+1))).bind λJY=>some (.inl (JY,UH,Tt))else some (.inr (ud,ue))))) (0,[],[])).bind λe30=>match e30 with|⟨Jg,Jh⟩=>some (true,bp,pO,Jg,Jh)
noncomputable def gI(x0:Lr):Option (Bool×Int×(List (List Qr))×(List Int)×(List (List Qr))):=match x0 with|⟨bp,bt,bC,bF⟩=>(fT ⟨bp,bt,bC,bF⟩).bind λx5=>(some (!x5)).bind λx6=>(bif x6 then none else(dY ⟨bp,bt,bC,bF⟩).bind λ⟨vH,vI,Bi,Bj,PA⟩=>some (vH,vI,Bi,Bj,PA))
noncomputable def nh(x0:List Qr)(Gb:Qr):Option (List Qr):=match Gb with|⟨⟨Gc,Ge⟩,⟨Gf,Gg⟩⟩=>(jo ⟨⟨Gc,Ge⟩,⟨Gf,Gg⟩⟩ x0).bind λx6=>some x6
noncomputable def jC(o0:Bool)(o1:Int)(o2:List (List Qr))(o3:List Int)(o4:List (List Qr))(x0:List Qr)(Gb:Int)(ZR:Int):Option (List Qr):=(cW x0 Gb).bind λ⟨⟨vH,vI⟩,⟨Bi,Bj⟩⟩=>(eC ⟨⟨vH,vI⟩,⟨Bi,Bj⟩⟩).bind λdZ=>(some (decide ((dZ:Int)=0))).bind λiJ=>(bif iJ then some x0 else(cW x0 Gb).bind λ⟨⟨kW,kX⟩,⟨FK,FL⟩⟩=>(l9 ⟨⟨kW,kX⟩,⟨FK,FL⟩⟩).bind λ⟨⟨kY,kZ⟩,⟨oq,ot⟩⟩=>(oP o4 ZR).bind λlP=>(o4[lP]?).bind λik=>(eD ⟨⟨kY,kZ⟩,⟨oq,ot⟩⟩ ik x0).bind λnn=>some nn)
noncomputable def dI(o0:Bool)(o1:Int)(o2:List (List Qr))(o3:List Int)(o4:List (List Qr))(x1:Int)(x2:Int):Option ((List (List Qr))×(List Int)×(List (List Qr))):=(cG 1).bind λ⟨⟨Fx,Fy⟩,⟨R7,R8⟩⟩=>(oP o4 x1).bind λmN=>(o4[mN]?).bind λiU=>(cW iU x2).bind λ⟨⟨m7,m8⟩,⟨m9,nc⟩⟩=>(oh ⟨⟨Fx,Fy⟩,⟨R7,R8⟩⟩ ⟨⟨m7,m8⟩,⟨m9,nc⟩⟩).bind λ⟨⟨⟨yC,yD⟩,⟨yE,yF⟩⟩,Kb⟩=>(oP o4 x1).bind λuM=>(o4[uM]?).bind λsy=>(nh sy ⟨⟨yC,yD⟩,⟨yE,yF⟩⟩).bind λvu=>(oP o4 x1).bind λwQ=>(stM o4 wQ vu).bind λl2=>(some (l2.length:Int)).bind λCr=>(cu (λ(Aa:Int×(List (List Qr)))=>match Aa with|⟨pA,fX⟩=>(show Option ((Int×(List (List Qr)))⊕((List (List Qr))))from(some (decide ((pA:Int)<Cr))).bind λR9=>(bif R9 then(oP fX pA).bind λzC=>(fX[zC]?).bind λET=>(some (decide ((pA:Int)≠x1))).bind λJU=>cQ (λ(tf:(List (List Qr)))=>(some (IntKind.i64.wrap (pA+1))).bind λPh=>some (.inl (Ph,tf))) λUI=>(bif JU then(jC o0 o1 o2 o3 fX ET x2 x1).bind λKT=>(oP fX pA).bind λLY=>(stM fX LY KT).bind λYg=>UI Yg else UI fX)else some (.inr fX)))) (0,l2)).bind λqm=>some (o2,o3,qm)
noncomputable def bD(o0:Bool)(o1:Int)(o2:List (List Qr))(o3:List Int)(o4:List (List Qr))(x1:Int)(x2:Int):Option (Int×(List (List Qr))×(List Int)×(List (List Qr))):=(cy (⟨o0,o1,o2,o3,o4⟩:Tb)).bind λdZ=>(bif dZ then some (2,o2,o3,o4)else cQ (λ(Nh:Bool)=>(bif Nh then some (1,o2,o3,o4)else(some (o3.length:Int)).bind λpR=>(cu (λ(Eo:Int)=>(show Option ((Int)⊕((Unit)⊕(Int×(List (List Qr))×(List Int)×(List (List Qr)))))from(some (decide ((Eo:Int)<pR))).bind λCe=>(bif Ce then(oP o3 Eo).bind λuO=>(o3[uO]?).bind λmO=>(some (decide ((mO:Int)=x2))).bind λvu=>(bif vu then some (.inr (.inr (1,o2,o3,o4)))else(some (IntKind.i64.wrap (Eo+1))).bind λwQ=>some (.inl wQ))else some (.inr (.inl ()))))) 0).bind λKm=>match Km with|.inr Wh=>some Wh|.inl _=>(oP o4 x1).bind λwN=>(o4[wN]?).bind λCr=>(cW Cr x2).bind λ⟨⟨Sa,Sb⟩,⟨Sc,Sd⟩⟩=>(eC ⟨⟨Sa,Sb⟩,⟨Sc,Sd⟩⟩).bind λzC=>(some (decide ((zC:Int)=0))).bind λET=>(bif ET then some (7,o2,o3,o4)else(dI o0 o1 o2 o3 o4 x1 x2).bind λ⟨Wf,l21,Wg⟩=>(oP l21 x1).bind λIZ=>(stM l21 IZ x2).bind λl24=>some (0,Wf,l24,Wg)))) λRN=>(some (decide ((x1:Int)<0))).bind λep=>(bif ep then some true else(some (o4.length:Int)).bind λmN=>(some (decide ((mN:Int)<=x1))).bind λiU=>some iU).bind λNi=>(bif Ni then some true else(some (decide ((x2:Int)<0))).bind λik=>some ik).bind λUJ=>(bif UJ then some true else(eE (⟨o0,o1,o2,o3,o4⟩:Tb)).bind λiK=>(some (decide ((iK:Int)<=x2))).bind λz8=>some z8).bind λUL=>RN UL)
end
section
open Go.Fw Go.Fw.Z Go.RowKit
instance:MI ah 30:=⟨by kernel_rfl⟩
theorem dQ{x0:Tb}{r:Bool}(h:cy x0=some r):Pure ah 57 [ref (sn x0)] (az r):=by
 obtain⟨bp,bt,bC,bF,cZ⟩:=x0;refine bz Tryz.func57 Y (af Y) (λec M vs hvs=>?_);unfold cy at h;refine sr<|ag Y<|dn<|qq ?_;refine bK h (λj3=>AS.cM 12 [(2,aj j3)] [] []) (λh=>?_) (λYe h=>?_);refine aW<|mv Y<|RT.UA .none Y Y T<|mv Y<|bE h λRQ rK h=>gm Y<|RT.c8 (.some Y Y) Y T<|RT.bO (.some Y Y) Y T Y<|gr Y Y<|lE (F rK) λdZ gM rK=>O9 Y _ gM ?_;obtain rfl:=O rK;exact pF Y<|ag Y<|dn<|⟨dZ,h,wR []⟩
 try dsimp only
 refine aV.n<|bf ?_;obtain rfl:=O h;exact R1 Y
theorem lp{x0:Tb}{r:Int}(h:eE x0=some r):Pure ah 58 [ref (sn x0)] (ay r):=by
 obtain⟨bp,bt,bC,bF,cZ⟩:=x0;refine bz Tryz.func58 Y (af Y) (λec M vs hvs=>?_);unfold eE at h;refine sr<|ag Y<|dn<|qq<|bh mixed<|mv Y<|RT.c8 .none Y T<|RT.bO .none Y T Y<|lr Y Y<|mv Y<|RT.c8 .none Y T<|RT.bO .none Y T Y<|lr Y Y<|lE h λiJ pJ h=>ln Y pJ<|lE h λep gO h=>ad _ Y Y gO<|ag Y ?_;refine RT.done ⟨by kernel_rfl,?_⟩;refine aV.n<|bf ?_;obtain rfl:=O h;exact R1 Y
theorem uZ{x0:Tb}{x1:Int}(N:Nat){r:List Qr}(h:jB x0 x1=some r):cK ah 64 N [ref (sn x0),ay x1] (nw N (slc 4 (List.map (fQ N) r))):=by
 obtain⟨bp,bt,bC,bF,cZ⟩:=x0;refine bA Tryz.func64 Y (af Y) (λec M vs hN hvs=>?_);unfold jB at h;refine sr<|aI Y (bk (N:=N) (n:=4) (e:=(fQ N)))<|dn<|sr<|mv Y<|RT.c8 .none Y T<|RT.bO .none Y T Y<|lr Y Y<|lE h λep gO h=>ln Y gO<|bE h λgh jJ h=>RT.mM (n:=4) (e:=(fQ N)) .none Y Y T Y T (by rfl) (by decide) (by exact⟨au,bk,au,bk,aq⟩) jJ<|an (s:=.row _) Y<|dn<|qq<|sr<|mv Y<|RT.c8 .none Y T ?_;refine RT.bO .none Y T Y<|lr Y Y<|lE h λfC jY h=>ln Y jY<|mv Y<|dn<|bE h λe8 Cu vD=>?_;refine bT (λ(BC:(List Qr))=>AS.cM 34 [(5,.row 13)] [] [(13,TR 43 4 (fQ N) BC)]) (λBC=>BC=e8) ?_ (λBC Cv=>?_);refine bj ?_;refine bU Cu (λs8=>AS.cM 34 [(1,ai x1),(5,.row 13),(17,.sv (slc 1 (List.map (eS 4 eQ) cZ))),(18,ai fC),(19,ai s8.1)] [] [(13,TR 43 4 (fQ N) s8.2)]) (wR []) (λs8 y8 G8 h Cw Cx=>?_);obtain⟨Gz,GA⟩:=s8
 try dsimp only
 refine sr<|lE h λiU pK h=>ls _ Y Y pK<|dn<|qq ?_;cases iU;refine cF<|cc<|aV.x<|aV.x<|bG.x<|aV.n ?_;obtain rfl:=O (F h);exact⟨GA,Cx _ Y,wR []⟩;refine cT<|bB<|aV.n<|qq<|bj<|sr<|mv Y<|bE (V h) λjH oR h=>ix Y Y oR<|lr Y Y<|ag Y<|ag Y<|dn<|aW<|mo (s:=.row _) Y<|mv Y<|mv Y<|mv Y ?_;obtain⟨⟨⟨RR,RU⟩,⟨RV,RW⟩⟩,vC,h⟩:=bS h;refine ix Y Y vC<|RT.iC (cs:=[_,_,_,_]) .none Y T Y Y ?_;obtain⟨⟨⟨uP,uQ⟩,⟨MS,MT⟩⟩,D0,h⟩:=bS h;refine RT.bM .none (iX N D0) hN Y ⟨Y,aq⟩ T<|bE h λtX Da h=>iR Y Y Y Da<|bE h λrP mU h=>sA ⟨⟨uP,uQ⟩,⟨MS,MT⟩⟩ Y Y Y mU<|RT.done<|bG.n<|aV.n<|aW<|lE h λjX pS h=>ad _ Y Y pS<|mv Y<|RT.done ?_;obtain rfl:=O h;exact aV.n ⟨(jX,rP),Cw _ Y,wR []⟩;subst Cv
 try dsimp only
 refine aV.n<|sr<|mo (s:=.row _) Y<|an (s:=.row _) Y<|dn<|gP (i:=13) (E1:=43) (n:=4) (e:=(fQ N)) (l:=BC) hN (λ_ h=>h) Y<|bf ?_;obtain rfl:=O vD;exact R1 Y
theorem tg{x0:Tb}{x1:Int}{r:List Qr}(h:iM x0 x1=some r):Pure ah 78 [ref (sn x0),ay x1] (slc 4 (List.map eQ r)):=by
 obtain⟨bp,bt,bC,bF,cZ⟩:=x0;refine bz Tryz.func78 Y (af Y) (λec M vs hvs=>?_);unfold iM at h;refine sr<|aI Y (aB (n:=4) (e:=eQ))<|dn<|qq<|bh mixed<|mv Y<|RT.c8 .none Y T<|RT.bO .none Y T Y<|lr Y Y<|lE h λep gO h=>ln Y gO<|mv Y<|RT.c8 .none Y T<|RT.bO .none Y T Y<|lr Y Y<|lE h λfJ kU h=>ad _ Y Y kU<|bE h λfC jY h=>RT.mM (n:=4) (e:=eQ) .none Y Y T Y T (by rfl) (by decide) (by exact⟨au,aB,au,aB,aq⟩) jY ?_;refine an (s:=.row _) Y ?_;refine RT.done ⟨by kernel_rfl,?_⟩;refine aV.n<|qq<|sr<|mv Y<|mv Y<|RT.c8 .none Y T<|RT.bO .none Y T Y<|lr Y Y<|lE h λik nJ h=>ls _ Y Y nJ<|dn ?_;refine bK h (λUx=>AS.cM 54 [(5,.row 18)] [] [(18,TR 43 4 eQ Ux)]) (λh=>?_) (λMU h=>?_);cases ik;exact fs<|⟨fC,(F h),wR []⟩;refine cT<|qq<|sr<|mv Y<|RT.c8 .none Y T<|RT.bO .none Y T Y<|lr Y Y<|lE (V h) λiK nI h=>ln Y nI<|mv Y<|dn<|bE h λe18 ade BL=>?_;refine bT (λ(vQ:(List Qr))=>AS.cM 54 [(0,.sv (ref [az bp,ay bt,slc 1 (List.map (eS 4 eQ) bC),slc 1 (List.map cO bF),slc 1 (List.map (eS 4 eQ) cZ)])),(1,ai x1),(5,.row 18)] [] [(18,TR 43 4 eQ vQ)]) (λvQ=>vQ=e18) ?_ (λvQ adf=>?_);refine bj ?_
 refine bU ade (λWe=>AS.cM 54 [(0,.sv (ref [az bp,ay bt,slc 1 (List.map (eS 4 eQ) bC),slc 1 (List.map cO bF),slc 1 (List.map (eS 4 eQ) cZ)])),(1,ai x1),(5,.row 18),(28,.sv (slc 1 (List.map (eS 4 eQ) bC))),(29,ai iK),(30,ai We.1)] [] [(18,TR 43 4 eQ We.2)]) (wR []) (λWe y18 G18 h adg adh=>?_);obtain⟨BD,BE⟩:=We
 try dsimp only
 refine sr<|lE h λtX Da h=>ls _ Y Y Da<|dn<|qq ?_;cases tX;refine cF<|cc<|aV.x<|aV.x<|bG.x<|aV.n ?_;obtain rfl:=O (F h);exact⟨BE,adh _ Y,wR []⟩;refine cT<|bB<|aV.n<|qq<|bj<|sr<|mv Y<|bE (V h) λtZ Ab h=>ix Y Y Ab<|lr Y Y<|ag Y<|ag Y<|dn<|aW<|mo (s:=.row _) Y<|mv Y<|mv Y<|mv Y ?_;obtain⟨⟨⟨MV,MW⟩,⟨MX,MY⟩⟩,FI,h⟩:=bS h;refine ix Y Y FI<|RT.iC (cs:=[_,_,_,_]) .none Y T Y Y<|bE h λuM FH h=>iR Y Y Y FH<|bE h λWf Yh h=>sA ⟨⟨MV,MW⟩,⟨MX,MY⟩⟩ Y Y Y Yh<|RT.done<|bG.n<|aV.n<|aW<|lE h λsy D1 h=>ad _ Y Y D1<|mv Y<|RT.done ?_;obtain rfl:=O h;exact aV.n ⟨(sy,Wf),adg _ Y,wR []⟩;subst adf
 try dsimp only
 refine aV.n<|bh mixed<|mo (s:=.row _) Y<|mv Y<|RT.c8 .none Y T<|RT.bO .none Y T Y<|lr Y Y<|lE BL λux h48 BL=>ln Y h48<|mv Y<|lE BL λwN HN BL=>ad _ Y Y HN ?_;obtain⟨⟨⟨C7,C8⟩,⟨MZ,M1⟩⟩,HO,BL⟩:=bS BL;refine cl (gw HO) ⟨Y,aq⟩<|bE BL λya D2 BL=>iR Y Y Y D2<|bE BL λWg Yi BL=>sA ⟨⟨C7,C8⟩,⟨MZ,M1⟩⟩ Y Y Y Yi ?_;refine RT.done ⟨by kernel_rfl,?_⟩;exact aV.n<|⟨Wg,BL,wR []⟩
 try dsimp only
 refine aV.n<|sr<|mo (s:=.row _) Y<|an (s:=.row _) Y<|dn<|cz (l7 (i:=18) (E1:=43) (n:=4) (e:=eQ) (l:=MU) Y)<|bf ?_;obtain rfl:=O h;exact R1 Y
theorem rN{x0:Tb}{x1:List Qr}(N:Nat){r:List Qr}(h:ic x0 x1=some r):cK ah 77 N [ref (sn x0),slc 4 (List.map eQ x1)] (nw N (slc 4 (List.map (fQ N) r))):=by
 obtain⟨bp,bt,bC,bF,cZ⟩:=x0;refine bA Tryz.func77 Y (af Y) (λec M vs hN hvs=>?_);unfold ic at h;refine sr<|aI Y (bk (N:=N) (n:=4) (e:=(fQ N)))<|dn<|qq<|bh mixed<|mv Y<|RT.c8 .none Y T<|RT.bO .none Y T Y<|lr Y Y<|lE h λep gO h=>ln Y gO<|mv Y<|RT.c8 .none Y T<|RT.bO .none Y T Y<|lr Y Y<|lE h λfJ kU h=>ad _ Y Y kU<|bE h λfC jY h=>RT.mM (n:=4) (e:=(fQ N)) .none Y Y T Y T (by rfl) (by decide) (by exact⟨au,bk,au,bk,aq⟩) jY ?_;refine an (s:=.row _) Y ?_;refine RT.done ⟨by kernel_rfl,?_⟩;refine aV.n<|qq<|sr<|mv Y<|lE h λiU pK h=>ln Y pK<|mv Y<|dn<|gP (i:=18) (E1:=43) (n:=4) (e:=(fQ N)) (l:=fC) hN (λ_ h=>h) Y<|bE h λKm Ie mu=>?_;refine bT (λ(Dh:(List Qr))=>AS.cM 57 [(5,.sv (nw N (slc 4 (List.map (fQ N) Dh))))] [] []) (λDh=>Dh=Km) ?_ (λDh Ig=>?_);refine bj ?_;refine bU Ie (λKW=>AS.cM 57 [(0,.sv (ref [az bp,ay bt,slc 1 (List.map (eS 4 eQ) bC),slc 1 (List.map cO bF),slc 1 (List.map (eS 4 eQ) cZ)])),(5,.sv (nw N (slc 4 (List.map (fQ N) KW.1)))),(19,.sv (slc 4 (List.map eQ x1))),(20,ai iU),(21,ai KW.2)] [] []) (wR []) (λKW y16 G16 h Ih CF=>?_);obtain⟨BF,qX⟩:=KW
 try dsimp only
 refine sr<|lE h λjH oR h=>ls _ Y Y oR<|dn<|qq ?_;cases jH;refine cF<|cc<|aV.x<|aV.x<|bG.x<|aV.n ?_;obtain rfl:=O (F h);exact⟨BF,CF _ Y,wR []⟩;refine cT<|bB<|aV.n<|qq<|bj<|sr<|mv Y ?_;obtain⟨⟨⟨qc,qe⟩,⟨qf,qg⟩⟩,nJ,h⟩:=bS (V h);refine ix Y Y nJ<|RT.iC (cs:=[_,_,_,_]) .none Y T Y Y<|al (cs:=[az false,nw N ax,az false,nw N ax]) (by exact⟨au,bk,au,bk,aq⟩) Y<|ag Y<|so Y Y Y<|dn<|qq ?_;refine bK h (λj19=>AS.cM 57 [(0,.sv (ref [az bp,ay bt,slc 1 (List.map (eS 4 eQ) bC),slc 1 (List.map cO bF),slc 1 (List.map (eS 4 eQ) cZ)])),(5,.sv (nw N (slc 4 (List.map (fQ N) BF)))),(6,ai qX),(7,.ptr 7 0),(19,.sv (slc 4 (List.map eQ x1))),(20,ai iU),(21,ai qX),(42,aj j19)] [(7,⟨43,[aj qc,.sv (slc 1 (List.map aY qe)),aj qf,.sv (slc 1 (List.map aY qg))]⟩)] []) (λh=>?_) (λIb h=>?_);refine bh mixed<|mv Y<|RT.c8 .none Y T<|RT.bO .none Y T Y<|lr Y Y<|mv Y<|bE h λtX Da h=>ix Y Y Da<|lr Y Y<|mv Y<|RT.c8 .none Y T<|RT.bO .none Y T Y<|lr Y Y<|lE h λuN D3 h=>ls _ Y Y D3<|mv Y<|bE h λM4 CE h=>?_;cases uN;obtain rfl:=O (F CE);refine ww<|ww<|ww<|pF Y ?_;refine RT.done ⟨by kernel_rfl,?_⟩;exact aV.n<|⟨false,h,wR []⟩
 refine gl Y Y (.k4 Y Y Y Y)<|bE (V CE) λmO rS CE=>gc (gx rS) ⟨Y,aq⟩<|lE CE λuM FH CE=>gq _ Y Y (HC (p:=mO) (q:=0) FH) ?_;obtain rfl:=O CE;refine pT Y ?_;refine RT.done ⟨by kernel_rfl,?_⟩;exact aV.n<|⟨uM,h,wR []⟩
 try dsimp only
 refine aV.n ?_;refine bK h (λXW=>AS.cM 57 [(0,.sv (ref [az bp,ay bt,slc 1 (List.map (eS 4 eQ) bC),slc 1 (List.map cO bF),slc 1 (List.map (eS 4 eQ) cZ)])),(5,.sv (nw N (slc 4 (List.map (fQ N) XW)))),(19,.sv (slc 4 (List.map eQ x1))),(20,ai iU),(21,ai qX)] [] []) (λh=>?_) (λM3 h=>?_);cases Ib;exact fs<|⟨BF,(F h),wR []⟩;refine cT<|bh mixed<|ld Y Y (.k4 Y Y Y Y)<|mv Y<|mv Y<|RT.c8 .none Y T<|RT.bO .none Y T Y<|lr Y Y<|mv Y<|bE (V h) λwN HN h=>ix Y Y HN<|lr Y Y<|bE h λya D2 h=>cl (tg D2) ⟨Y,Y,aq⟩<|mv Y<|bE h λFG KV h=>RT.bM .none ((qh N KV).w (args':=[_,_,_]) ⟨au,au,KP,aq⟩) hN Y ⟨Y,Y,Y,aq⟩ T ?_;refine ag Y ?_;refine RT.done ⟨by kernel_rfl,?_⟩;exact aV.n<|⟨FG,h,wR []⟩
 try dsimp only
 refine bG.n<|aV.n<|aW<|lE h λzC J5 h=>ad _ Y Y J5<|mv Y<|RT.done ?_;obtain rfl:=O h;exact aV.n ⟨(M3,zC),Ih _ Y,wR []⟩;subst Ig
 try dsimp only
 refine aV.n<|sr<|mv Y<|ag Y<|dn<|bf ?_;obtain rfl:=O mu;exact R1 Y
theorem Ep{x0:Tb}(N:Nat){r:List Int}(h:jr x0=some r):cK ah 17 N [ref (sn x0)] (nw N (slc 1 (List.map cO r))):=by
 obtain⟨bp,bt,bC,bF,cZ⟩:=x0;refine bA Tryz.func17 Y (af Y) (λec M vs hN hvs=>?_);unfold jr at h;refine sr<|aI Y (bk (N:=N) (n:=1) (e:=cO))<|dn<|qq<|sr<|mv Y<|bE h λx5 h5 h=>cl (dQ h5) ⟨Y,aq⟩<|dn ?_;cases x5;refine fs<|sr<|mv Y<|RT.c8 .none Y T<|RT.bO .none Y T Y<|lr Y Y<|lE (F h) λdZ gM h=>ln Y gM<|bE h λiJ pJ h=>RT.mM (n:=1) (e:=cO) .none Y Y T Y T (by rfl) (by decide) (by exact⟨au,aq⟩) pJ<|an (s:=.row _) Y<|dn<|sr<|mo (s:=.row _) Y<|mv Y<|RT.c8 .none Y T<|RT.bO .none Y T Y<|lr Y Y ?_;refine RT.Yc (l:=iJ) (k:=bF) (e:=cO) .none Y Y Y T Y<|dn<|sr<|mo (s:=.row _) Y<|an (s:=.row _) Y<|dn<|gP (i:=11) (E1:=3) (n:=1) (e:=cO) (l:=(ES iJ bF)) hN (λ_ h=>h) Y<|bf ?_;obtain rfl:=O h;exact R1 Y;refine cT<|sr<|aI Y (bk (N:=N) (n:=1) (e:=cO))<|dn<|bf<|aV.r ?_;obtain rfl:=O (V h);exact R1 Y
theorem qY{x0:Tb}(N:Nat){r:List Qr}(h:fO x0=some r):cK ah 19 N [ref (sn x0)] (nw N (slc 4 (List.map (fQ N) r))):=by
 obtain⟨bp,bt,bC,bF,cZ⟩:=x0;refine bA Tryz.func19 Y (af Y) (λec M vs hN hvs=>?_);unfold fO at h;refine sr<|aI Y (bk (N:=N) (n:=4) (e:=(fQ N)))<|dn<|qq<|sr<|mv Y<|bE h λx4 h4 h=>cl (dQ h4) ⟨Y,aq⟩<|dn ?_;cases x4;refine fs<|sr<|mv Y<|mv Y<|bE (F h) λx7 h7 h=>cl (lp h7) ⟨Y,aq⟩<|bE h λx8 h8 h=>RT.bM .none (uZ N h8) hN Y ⟨Y,Y,aq⟩ T<|ag Y<|dn<|bf ?_;obtain rfl:=O h;exact R1 Y;refine cT<|sr<|aI Y (bk (N:=N) (n:=4) (e:=(fQ N)))<|dn<|bf<|aV.r ?_;obtain rfl:=O (V h);exact R1 Y
theorem Ii{x0:Tb}{r:List Qr}(h:fO x0=some r):Pure ah 19 [ref (sn x0)] (slc 4 (List.map eQ r)):=dD (λN=>qY N h) (λN=>KP)
theorem kz{x0:Tb}{x1:Int}(N:Nat){r:List Qr}(h:dy x0 x1=some r):cK ah 28 N [ref (sn x0),ay x1] (nw N (slc 4 (List.map (fQ N) r))):=by
 obtain⟨bp,bt,bC,bF,cZ⟩:=x0;refine bA Tryz.func28 Y (af Y) (λec M vs hN hvs=>?_);unfold dy at h;refine sr<|aI Y (bk (N:=N) (n:=4) (e:=(fQ N)))<|dn<|qq<|qq ?_;refine bK h (λj6=>AS.cM 26 [(0,.sv (ref [az bp,ay bt,slc 1 (List.map (eS 4 eQ) bC),slc 1 (List.map cO bF),slc 1 (List.map (eS 4 eQ) cZ)])),(1,ai x1),(16,aj j6)] [] []) (λh=>?_) (λM5 h=>?_);refine aW<|mv Y<|bE h λx6 h6 h=>cl (dQ h6) ⟨Y,aq⟩<|mv Y<|bE h λRX Ug h=>?_;cases x6;refine gm Y<|lE (F Ug) λx9 h9 Ug=>RT.lss (.some Y Y) _ Y Y T h9 ?_;obtain rfl:=O Ug;refine pF Y<|mv Y<|bE h λagd Mx h=>?_;cases x9;refine gm Y<|gm Y<|bE (F Mx) λfE lN Mx=>gc (lp lN) ⟨Y,aq⟩<|lE Mx λeH iZ Mx=>RT.geq (.some Y Y) _ Y Y T iZ ?_;obtain rfl:=O Mx;exact pF Y<|dn<|⟨eH,h,wR []⟩;obtain rfl:=O (V Mx);exact ww<|ww<|ww<|ww<|pT Y<|dn<|⟨true,h,wR []⟩;obtain rfl:=O (V Ug);refine ww<|ww<|pT Y<|mv Y<|bE h λage hg9 h=>?_;obtain rfl:=O (V hg9);exact ww<|ww<|ww<|ww<|pT Y<|dn<|⟨true,h,wR []⟩
 try dsimp only
 refine aV.n ?_;cases M5;refine fs<|sr<|mv Y<|mv Y<|mv Y<|bE (F h) λiU pK h=>RT.bM .none (uZ N pK) hN Y ⟨Y,Y,aq⟩ T<|bE h λiE qb h=>RT.bM .none ((rN N qb).w (args':=[_,_]) ⟨au,KP,aq⟩) hN Y ⟨Y,Y,aq⟩ T<|mv Y<|mv Y<|bE h λik nJ h=>cl (tg nJ) ⟨Y,Y,aq⟩<|bE h λyY yh h=>RT.bM .none ((Bt N yh).w (args':=[_,_]) ⟨KP,au,aq⟩) hN Y ⟨Y,Y,aq⟩ T ?_;refine ag Y<|dn<|bf ?_;obtain rfl:=O h;exact R1 Y;refine cT<|sr<|aI Y (bk (N:=N) (n:=4) (e:=(fQ N)))<|dn<|bf<|aV.r ?_;obtain rfl:=O (V h);exact R1 Y
theorem vT{x0:Tb}{x1:Int}{r:List Qr}(h:dy x0 x1=some r):Pure ah 28 [ref (sn x0),ay x1] (slc 4 (List.map eQ r)):=dD (λN=>kz N h) (λN=>KP)
theorem Er{x0:Tb}(N:Nat){r:List Qr}(h:iv x0=some r):cK ah 38 N [ref (sn x0)] (nw N (slc 4 (List.map (fQ N) r))):=by
 obtain⟨bp,bt,bC,bF,cZ⟩:=x0;refine bA Tryz.func38 Y (af Y) (λec M vs hN hvs=>?_);unfold iv at h;refine sr<|aI Y (bk (N:=N) (n:=4) (e:=(fQ N)))<|dn<|qq<|sr<|mv Y<|bE h λx4 h4 h=>cl (dQ h4) ⟨Y,aq⟩<|dn ?_;cases x4;refine fs<|sr<|mv Y<|mv Y<|bE (F h) λx7 h7 h=>RT.bM .none (qY N h7) hN Y ⟨Y,aq⟩ T<|bE h λx8 h8 h=>RT.bM .none ((rN N h8).w (args':=[_,_]) ⟨au,KP,aq⟩) hN Y ⟨Y,Y,aq⟩ T<|ag Y<|dn<|bf ?_;obtain rfl:=O h;exact R1 Y;refine cT<|sr<|aI Y (bk (N:=N) (n:=4) (e:=(fQ N)))<|dn<|bf<|aV.r ?_;obtain rfl:=O (V h);exact R1 Y
theorem zL{x0:Tb}(N:Nat){r:List Qr}(h:ig x0=some r):cK ah 21 N [ref (sn x0)] (nw N (slc 4 (List.map (fQ N) r))):=by
 obtain⟨bp,bt,bC,bF,cZ⟩:=x0;refine bA Tryz.func21 Y (af Y) (λec M vs hN hvs=>?_);unfold ig at h;refine sr<|aI Y (bk (N:=N) (n:=4) (e:=(fQ N)))<|dn<|qq<|sr<|mv Y<|bE h λx7 h7 h=>cl (dQ h7) ⟨Y,aq⟩<|dn ?_;cases x7;refine fs<|sr<|mv Y<|RT.c8 .none Y T<|RT.bO .none Y T Y<|lr Y Y<|bE (F h) λep gO h=>RT.mM (n:=4) (e:=(fQ N)) .none Y Y T Y T (by rfl) (by decide) (by exact⟨au,bk,au,bk,aq⟩) gO<|an (s:=.row _) Y<|dn<|qq<|sr<|mv Y<|bE h λfE lN h=>RT.bM .none (qY N lN) hN Y ⟨Y,aq⟩ T<|lE h λeH iZ h=>RT.C5 .none Y T iZ<|mv Y ?_;refine dn<|bE h λJZ A3 wW=>?_;refine bT (λ(BI:(List Qr))=>AS.cM 45 [(3,.row 12)] [] [(12,TR 43 4 (fQ N) BI)]) (λBI=>BI=JZ) ?_ (λBI A4=>?_);refine bj ?_;refine bU A3 (λyZ=>AS.cM 45 [(0,.sv (ref [az bp,ay bt,slc 1 (List.map (eS 4 eQ) bC),slc 1 (List.map cO bF),slc 1 (List.map (eS 4 eQ) cZ)])),(3,.row 12),(14,.sv (nw N (slc 4 (List.map (fQ N) fE)))),(15,ai eH),(16,ai yZ.1)] [] [(12,TR 43 4 (fQ N) yZ.2)]) (wR []) (λyZ Xy Xz h A5 yg=>?_);obtain⟨BG,BH⟩:=yZ
 try dsimp only
 refine sr<|lE h λfJ kU h=>ls _ Y Y kU<|dn<|qq ?_;cases fJ;refine cF<|cc<|aV.x<|aV.x<|bG.x<|aV.n ?_;obtain rfl:=O (F h);exact⟨BH,yg _ Y,wR []⟩;refine cT<|bB<|aV.n<|qq<|bj<|sr<|mv Y ?_;obtain⟨⟨⟨nK,nL⟩,⟨Bq,Br⟩⟩,oa,h⟩:=bS (V h);refine RT.W7 .none Y Y T oa<|RT.iC (cs:=[_,_,_,_]) .none Y T Y Y<|al (cs:=[az false,nw N ax,az false,nw N ax]) (by exact⟨au,bk,au,bk,aq⟩) Y<|ag Y<|so Y Y Y<|dn<|qq<|bh mixed<|mv Y<|RT.c8 .none Y T<|RT.bO .none Y T Y<|lr Y Y<|mv Y<|bE h λnn uc h=>ix Y Y uc ?_;refine lr Y Y<|mv Y<|RT.c8 .none Y T<|RT.bO .none Y T Y<|lr Y Y<|lE h λjX pS h=>ls _ Y Y pS ?_;refine RT.done ⟨by kernel_rfl,?_⟩;refine aV.n ?_;refine bK h (λJ0=>AS.cM 45 [(0,.sv (ref [az bp,ay bt,slc 1 (List.map (eS 4 eQ) bC),slc 1 (List.map cO bF),slc 1 (List.map (eS 4 eQ) cZ)])),(3,.row 12),(14,.sv (nw N (slc 4 (List.map (fQ N) fE)))),(15,ai eH),(16,ai BG)] [] [(12,TR 43 4 (fQ N) J0)]) (λh=>?_) (λIc h=>?_);cases jX;exact fs<|⟨BH,(F h),wR []⟩;refine cT<|bh mixed<|mo (s:=.row _) Y<|mv Y<|RT.c8 .none Y T<|RT.bO .none Y T Y<|lr Y Y<|mv Y<|bE (V h) λuO FI h=>ix Y Y FI<|lr Y Y<|ld Y Y (.k4 Y Y Y Y)<|bE h λsy D1 h=>iR Y Y Y D1<|bE h λOF Yj h=>sA ⟨⟨nK,nL⟩,⟨Bq,Br⟩⟩ Y Y Y Yj ?_;refine RT.done ⟨by kernel_rfl,?_⟩
 exact aV.n<|⟨OF,h,wR []⟩
 try dsimp only
 refine bG.n<|aV.n<|aW<|lE h λvu EU h=>ad _ Y Y EU<|mv Y<|RT.done ?_;obtain rfl:=O h;exact aV.n ⟨(vu,Ic),A5 _ Y,wR []⟩;subst A4
 try dsimp only
 refine aV.n<|sr<|mo (s:=.row _) Y<|an (s:=.row _) Y<|dn<|gP (i:=12) (E1:=43) (n:=4) (e:=(fQ N)) (l:=BI) hN (λ_ h=>h) Y<|bf ?_;obtain rfl:=O wW;exact R1 Y;refine cT<|sr<|aI Y (bk (N:=N) (n:=4) (e:=(fQ N)))<|dn<|bf<|aV.r ?_;obtain rfl:=O (V h);exact R1 Y
theorem GC{x0:Tb}(N:Nat){r:List (List Qr)}(h:mm x0=some r):cK ah 18 N [ref (sn x0)] (nw N (slc 1 (List.map (fS N 4 (fQ N)) r))):=by
 obtain⟨bp,bt,bC,bF,cZ⟩:=x0;refine bA Tryz.func18 Y (af Y) (λec M vs hN hvs=>?_);unfold mm at h;refine sr<|aI Y (bk (N:=N) (n:=1) (e:=(fS N 4 (fQ N))))<|dn<|qq<|sr<|mv Y<|bE h λx7 h7 h=>cl (dQ h7) ⟨Y,aq⟩<|dn ?_;cases x7;refine fs<|sr<|ag Y<|dn<|cz (jd 3 304 23 1 Y Y T)<|qq<|sr<|mv Y<|RT.c8 .none Y T<|RT.bO .none Y T Y<|lr Y Y<|lE (F h) λep gO h=>ln Y gO<|mv Y<|dn<|bE h λe6 DW nu=>?_;refine bT (λ(vR:(List (List Qr)))=>AS.cM 26 [(3,.row 306)] [] [(306,TR 23 1 (fS N 4 (fQ N)) vR)]) (λvR=>vR=e6) ?_ (λvR DY=>?_);refine bj ?_;refine bU DW (λs6=>AS.cM 26 [(0,.sv (ref [az bp,ay bt,slc 1 (List.map (eS 4 eQ) bC),slc 1 (List.map cO bF),slc 1 (List.map (eS 4 eQ) cZ)])),(3,.row 306),(11,.sv (slc 1 (List.map (eS 4 eQ) cZ))),(12,ai ep),(13,ai s6.1)] [] [(306,TR 23 1 (fS N 4 (fQ N)) s6.2)]) (dM (λi=>bif Nat.beq i 306 then 304 else i) Y Y Y Y Y ⟨.sv au,.row Y,.sv au,.sv au,.sv au,aq⟩ trivial ⟨⟨_,Y,cJ.refl _⟩,aq⟩ (λi hi=>by rw[cC (show i≠306 by omega)];rfl)) (λs6 y6 G6 h DZ zD=>?_);obtain⟨Ja,Em⟩:=s6
 try dsimp only
 refine sr<|lE h λfE lN h=>ls _ Y Y lN<|dn<|qq ?_;cases fE;refine cF<|cc<|aV.x<|aV.x<|bG.x<|aV.n ?_;obtain rfl:=O (F h);exact⟨Em,zD _ Y,wR []⟩;refine cT<|bB<|aV.n<|qq<|bj<|sr<|bE (V h) λeH iZ h=>ix Y Y iZ<|lr Y Y<|ag Y<|dn<|aW<|mo (s:=.row _) Y<|mv Y<|mv Y<|bE h λiU pK h=>cl (lp pK) ⟨Y,aq⟩<|bE h λiE qb h=>RT.bM .none (uV N qb) hN Y ⟨Y,Y,aq⟩ T<|bl (l:=[iE]) (e:=(fS N 4 (fQ N))) (.one Y (.nil)) Y Y Y Y Y Y<|bE h λlP vB h=>aR (k:=[iE]) (e:=(fS N 4 (fQ N))) Y Y Y vB ?_;refine an (s:=.row _) Y<|RT.done<|bG.n<|aV.n<|aW<|lE h λik nJ h=>ad _ Y Y nJ<|mv Y<|RT.done ?_;obtain rfl:=O h;exact aV.n ⟨(ik,lP),DZ _ Y,dM (λi=>bif Nat.beq i 306 then 23 else i) Y Y Y Y Y ⟨.sv au,.row Y,.sv au,.sv au,.sv au,aq⟩ trivial ⟨⟨_,Y,cJ.refl _⟩,aq⟩ (λi hi=>by rw[cC (show i≠306 by omega)];rfl)⟩;subst DY
 try dsimp only
 refine aV.n<|sr<|mo (s:=.row _) Y<|an (s:=.row _) Y<|dn<|gP (i:=306) (E1:=23) (n:=1) (e:=(fS N 4 (fQ N))) (l:=vR) hN (λ_ h=>h) Y<|bf ?_;obtain rfl:=O nu;exact R1 Y;refine cT<|sr<|aI Y (bk (N:=N) (n:=1) (e:=(fS N 4 (fQ N))))<|dn<|bf<|aV.r ?_;obtain rfl:=O (V h);exact R1 Y
theorem zM{x0:Tb}{r:Bool}(h:ij x0=some r):Pure ah 35 [ref (sn x0)] (az r):=by
 obtain⟨bp,bt,bC,bF,cZ⟩:=x0;refine bz Tryz.func35 Y (af Y) (λec M vs hvs=>?_);unfold ij at h;refine sr<|ag Y<|dn<|qq<|sr<|mv Y<|bE h λx6 h6 h=>cl (dQ h6) ⟨Y,aq⟩<|dn ?_;cases x6;refine fs<|qq<|sr<|mv Y<|bE (F h) λx8 h8 h=>cl (Ii h8) ⟨Y,aq⟩<|lE h λx9 h9 h=>ln Y h9<|mv Y<|dn<|bE h λe6 DW nu=>?_;refine bT (λ(DX:Unit)=>AS.cM 18 [] [] []) (λDX=>.inl DX=e6) ?_ (λDX DY=>?_);refine bj ?_;refine bU DW (λs6=>AS.cM 18 [(8,.sv (slc 4 (List.map eQ x8))),(9,ai x9),(10,ai s6)] [] []) (wR []) (λJb y6 G6 h DZ zD=>?_)
 try dsimp only
 refine sr<|lE h λiJ pJ h=>ls _ Y Y pJ<|dn<|qq ?_;cases iJ;refine cF<|cc<|aV.x<|aV.x<|bG.x<|aV.n ?_;obtain rfl:=O (F h);exact⟨(),zD _ Y,wR []⟩;refine cT<|bB<|aV.n<|qq<|bj<|sr ?_;obtain⟨⟨⟨ir,hG⟩,⟨Jc,Jd⟩⟩,gO,h⟩:=bS (V h);refine ix Y Y gO<|RT.iC (cs:=[_,_,_,_]) .none Y T Y Y<|al (cs:=[az false,ax,az false,ax]) (by exact⟨au,aB,au,aB,aq⟩) Y<|so Y Y Y<|dn<|sr<|ld Y Y (.k4 Y Y Y Y)<|bE h λeH iZ h=>cl (gx iZ) ⟨Y,aq⟩<|lE h λgN kL h=>ls _ Y Y kL<|dn ?_;cases gN;refine cF<|bB<|bG.n<|aV.n<|aW<|lE (F h) λfJ kU h=>ad _ Y Y kU<|mv Y<|RT.done ?_;obtain rfl:=O h;exact aV.n ⟨fJ,DZ _ Y,wR []⟩;refine cT<|sr<|ag Y<|dn<|bf<|bG.r<|aV.r ?_;obtain rfl:=O (V h);have Ma:=zD _ Y;subst Ma;refine aV.r<|bG.r<|aV.r<|aV.r ?_;obtain rfl:=O nu;exact R1 Y;subst DY
 try dsimp only
 refine aV.n<|sr<|ag Y<|dn<|bf ?_;obtain rfl:=O nu;exact R1 Y;refine cT<|sr<|ag Y<|dn<|bf<|aV.r ?_;obtain rfl:=O (V h);exact R1 Y
theorem th(t:Tb):Pure ah 65 [ref (sn t)] (iT 114 [ref [ref (sn t)]]):=by
 refine bz Tryz.func65 Y (af Y) (λec M vs hvs=>?_);exact sr<|RT.wB .none (s:=.sv _) Y T Y Y<|ag Y<|dn<|sr<|RT.makeFunc .none (.box Y (.nil)) T<|an (s:=.fV _ _) Y<|dn<|cz (gY (i:=1) Y [ref (sn t)] (.cons Y .nil) .any 0 [(2,.fV 114 [.val (ref [ref (sn t)])])] (λ_ _ _=>trivial) (qG.h (l:=[ref (sn t)])) ⟨@FT.fV _ _ _ _ _ 2 114 [.box 1] Y,aq⟩)<|cz (DI 2 (iT 114 [ref [ref (sn t)]]) (λ_ _ h=>DJ h))<|bf<|⟨.inr Y,DG (.tmp Y (.nil)) Y⟩
theorem PB(n:Int):IntKind.i64.wrap n<=9223372036854775807:=by
 show(if(true&&decide (n%18446744073709551616≥9223372036854775808))=true then n%18446744073709551616-18446744073709551616 else n%18446744073709551616)<=9223372036854775807;by_cases h:n%18446744073709551616≥9223372036854775808
 ·simp only[h,decide_true,Bool.and_self,if_true];omega
 simp only[h,decide_false,Bool.and_false,Bool.false_eq_true,if_false];omega
theorem width_eq(t:Tb):eE t=some (IntKind.i64.wrap (t.vars+(t.rows.length:Int))):=by
 cases t;rfl
theorem tj(t:Tb):Iter ah 114 [ref [ref (sn t)]] (IntKind.i64.wrap (t.vars+(t.rows.length:Int))).toNat (λk=>[ay (k:Int)]):=by
 refine qM Tryz.func114 Y Y (af Y) (λec M O l J hJ xX hr=>?_);have hw:=PB (t.vars+(t.rows.length:Int));have hwd:=width_eq t;generalize (IntKind.i64.wrap (t.vars+(t.rows.length:Int)))=W at hw hwd hr⊢;refine bH ?_;refine aW ?_;refine RT.dr .none Y Y (tl Y) ?_;refine RT.call .none (lp hwd) Y ⟨Y,aq⟩ (tl Y) ?_;refine RT.mv .none Y (tl Y) ?_;refine RT.done ?_;refine aV.n ?_;refine bj ?_
 refine wA (I:=λx:{i:Nat//i<=W.toNat}=>AS.cM 14 [(0,.sv (.v (.func (.yield l) #[] #[]))),(1,.sv (ref [ref (sn t)])),(5,ai W),(6,ai ((x.1:Nat):Int))] [] [] (x.1)) (μ:=λx=>W.toNat-x.1) ⟨0,by omega⟩ (by(try dsimp only);exact dM id Y Y Y Y Y ⟨.sv (by first|exact au|exact SV.aX (by omega)|exact SV.aX (by push_cast;omega)|exact SV.aX (by dsimp only;omega)|exact SV.imp_eq (by simp)),.sv (by first|exact au|exact SV.aX (by omega)|exact SV.aX (by push_cast;omega)|exact SV.aX (by dsimp only;omega)|exact SV.imp_eq (by simp)),.sv (by first|exact au|exact SV.aX (by omega)|exact SV.aX (by push_cast;omega)|exact SV.aX (by dsimp only;omega)|exact SV.imp_eq (by simp)),.sv (by first|exact au|exact SV.aX (by omega)|exact SV.aX (by push_cast;omega)|exact SV.aX (by dsimp only;omega)|exact SV.imp_eq (by simp)),aq⟩ trivial trivial (λ_ _=>Y)) ?_;rintro⟨i,TD⟩
 try dsimp only
 rcases Nat.lt_or_eq_of_le TD with hi|hi
 ·
  refine bH ?_;refine aW ?_;refine RT.lss .none (true) Y Y (tl Y) (by simp;omega) ?_;refine RT.done ?_;refine aV.n ?_;refine bH ?_;refine cP Y ?_;refine bB ?_;refine aV.n ?_;refine bH ?_;refine bj ?_;refine bH ?_;refine aW ?_;refine RT.mv .none Y (tl Y) ?_;refine RT.AF .none Y (tl Y) ?_;refine RT.done ?_;refine aV.n ?_;refine bH ?_;refine aW ?_;refine RT.mv .none Y (tl Y) ?_;refine RT.mv .none Y (tl Y) ?_;refine RT.yield .none hr Y (λ_ h=>h) Y (i) Y Y (by omega) (by exact⟨Y,aq⟩) (tl Y) (λyb=>?_);cases yb
  ·
   refine RT.not .none Y (tl Y) true Y ?_;refine RT.done ?_;refine aV.n ?_;refine cP Y ?_;refine bf ?_;refine bG.r ?_;refine aV.r ?_;refine aV.r ?_;refine bG.r ?_;exact⟨.inr rfl,(λh=>by cases h)⟩
  refine RT.not .none Y (tl Y) false Y ?_;refine RT.done ?_;refine aV.n ?_;refine dX Y ?_;refine bB ?_;refine bG.n ?_;refine aV.n ?_;refine aW ?_;refine RT.add .none (((i:Nat):Int)+1) Y Y (tl Y) (kR (by omega)) ?_;refine RT.mv .none Y (tl Y) ?_;refine RT.done ?_;refine aV.n ?_;refine⟨⟨i+1,by omega⟩,(by dsimp only;omega),?_⟩
  try dsimp only
  exact dM id Y Y Y Y Y ⟨.sv (by first|exact au|exact SV.aX (by omega)|exact SV.aX (by push_cast;omega)|exact SV.aX (by dsimp only;omega)|exact SV.imp_eq (by simp)),.sv (by first|exact au|exact SV.aX (by omega)|exact SV.aX (by push_cast;omega)|exact SV.aX (by dsimp only;omega)|exact SV.imp_eq (by simp)),.sv (by first|exact au|exact SV.aX (by omega)|exact SV.aX (by push_cast;omega)|exact SV.aX (by dsimp only;omega)|exact SV.imp_eq (by simp)),.sv (by first|exact au|exact SV.aX (by omega)|exact SV.aX (by push_cast;omega)|exact SV.aX (by dsimp only;omega)|exact SV.imp_eq (by simp)),aq⟩ trivial trivial (λ_ _=>Y)
 subst hi;refine bH ?_;refine aW ?_;refine RT.lss .none (false) Y Y (tl Y) (by simp;omega) ?_;refine RT.done ?_;refine aV.n ?_;refine bH ?_;refine dX Y ?_;refine cc ?_;refine aV.x ?_;refine aV.x ?_;refine bG.x ?_;exact⟨.inl Y,(λ_=>Y)⟩
theorem BM{x0:Tb}{r:Bool}(h:gH x0=some r):Pure ah 42 [ref (sn x0)] (az r):=by
 obtain⟨bp,bt,bC,bF,cZ⟩:=x0;refine bz Tryz.func42 Y (af Y) (λec M vs hvs=>?_);unfold gH at h;refine sr<|RT.wB .none (s:=.sv _) Y T Y Y<|al (cs:=[az false]) (by exact⟨au,aq⟩) Y<|dn<|qq<|sr<|lV Y Y Y<|bE h λx5 h5 h=>cl (dQ h5) ⟨Y,aq⟩<|dn ?_;cases x5;refine fs<|qq<|sr<|lV Y Y Y<|cl (th ⟨bp,bt,bC,bF,cZ⟩) ⟨Y,aq⟩<|dn<|bj<|bE (F h) λe3 Tc Uo=>?_;obtain⟨m3,st3,ZO,ht3,hn3⟩:=C3 Tc;refine pI (tj ⟨bp,bt,bC,bF,cZ⟩) (λ_ _ _ _ _=>trivial) Y (λk=>AS.cM 14 [(1,.ptr 1 0),(2,.ptr 2 0),(7,.sv (iT 114 [ref [ref [az bp,ay bt,slc 1 (List.map (eS 4 eQ) bC),slc 1 (List.map cO bF),slc 1 (List.map (eS 4 eQ) cZ)]]]))] [(2,⟨4,[aj false]⟩),(1,⟨30,[.sv (ref [az bp,ay bt,slc 1 (List.map (eS 4 eQ) bC),slc 1 (List.map cO bF),slc 1 (List.map (eS 4 eQ) cZ)])]⟩)] []) [2,1] Y (λ_=>⟨Y,Y⟩) (qN Y) (λ_=>Y) (qO Y) (by(try dsimp only);(try dsimp only);exact dM id Y Y Y Y Y ⟨.ptr,.ptr,.sv au,aq⟩ ⟨⟨_,Y,⟨.sv au,aq⟩⟩,⟨_,Y,⟨.sv au,aq⟩⟩,aq⟩ trivial (λ_ _=>Y)) m3 (λk hk hkm D hD=>?_) (λhdn=>?_);obtain⟨y3,h,hG3,hE3⟩:=ht3 k hk hkm;dsimp only[AS.LC,rH]
 try dsimp only at h
 refine lE h λp8 hp8 h=>?_;rw[hp8];refine aW<|ag Y<|RT.done ?_;refine aV.n ⟨Y,?_⟩;dsimp only[AS.AN];refine bj<|sr<|lV Y Y Y<|mv Y<|bE h λiJ pJ h=>cl (vT pJ) ⟨Y,Y,aq⟩<|bE h λep gO h=>cl (Gl gO) ⟨Y,aq⟩<|lE h λgh jJ h=>ls _ Y Y jJ<|dn ?_;cases gh;refine cF<|bB<|bG.n ?_;obtain rfl:=O (F h);obtain⟨hm3,hq3⟩:=hG3 _ Y;exact⟨hm3,Y,Y,wR []⟩;refine cT<|sr<|RT.qJ (cells:=[_]) .none (s:=.sv _) Y Y Y T Y<|dn<|bf<|bG.r ?_;obtain rfl:=O (V h);have he3:=hE3 _ Y;subst he3;refine⟨Y,Y,?_⟩;refine bG.r<|aV.r ?_;obtain rfl:=O Uo;exact RZ (.one Y Y Y (.nil));have hd3:=hn3 hdn;subst hd3;obtain⟨ee3,Uq⟩:∃q,st3 ((IntKind.i64.wrap (Tb.vars ⟨bp,bt,bC,bF,cZ⟩+((Tb.rows ⟨bp,bt,bC,bF,cZ⟩).length:Int))).toNat)=q:=⟨_,Y⟩;rw[Uq]at Uo
 try dsimp only
 refine bG.n<|aV.n<|sr<|RT.qJ (cells:=[_]) .none (s:=.sv _) Y Y Y T Y<|dn<|bf ?_;obtain rfl:=O Uo;exact RZ (.one Y Y Y (.nil));refine cT<|sr<|RT.qJ (cells:=[_]) .none (s:=.sv _) Y Y Y T Y<|dn<|bf<|aV.r ?_;obtain rfl:=O (V h);exact RZ (.one Y Y Y (.nil))
theorem uA{x0:Tb}(N:Nat){r:List (List Qr)}(h:eR x0=some r):cK ah 20 N [ref (sn x0)] (nw N (slc 1 (List.map (fS N 4 (fQ N)) r))):=by
 obtain⟨bp,bt,bC,bF,cZ⟩:=x0;refine bA Tryz.func20 Y (af Y) (λec M vs hN hvs=>?_);unfold eR at h;refine sr<|RT.wB .none (s:=.sv _) Y T Y Y<|aI Y (bk (N:=N) (n:=1) (e:=(fS N 4 (fQ N))))<|dn<|qq<|sr<|lV Y Y Y<|bE h λx6 h6 h=>cl (dQ h6) ⟨Y,aq⟩<|dn ?_;cases x6;refine fs<|sr<|RT.alloc .none T Y Y<|dn<|cz (pZ 3 0 302 23 1 Y Y Y T)<|qq<|sr<|lV Y Y Y<|cl (th ⟨bp,bt,bC,bF,cZ⟩) ⟨Y,aq⟩<|dn<|bj<|bE (F h) λmh Uh Ui=>?_;obtain⟨MD,Uj,Uk,Ul⟩:=kE Uh;refine iy (tj ⟨bp,bt,bC,bF,cZ⟩) (λ_ _ _ _ _=>trivial) Y (λk=>AS.cM 17 [(1,.ptr 1 0),(3,.ptr 3 0),(8,.sv (iT 114 [ref [ref [az bp,ay bt,slc 1 (List.map (eS 4 eQ) bC),slc 1 (List.map cO bF),slc 1 (List.map (eS 4 eQ) cZ)]]]))] [(3,⟨22,[.row 304]⟩),(1,⟨30,[.sv (ref [az bp,ay bt,slc 1 (List.map (eS 4 eQ) bC),slc 1 (List.map cO bF),slc 1 (List.map (eS 4 eQ) cZ)])]⟩)] [(304,TR 23 1 (fS N 4 (fQ N)) (MD k))]) [3,1] Y (λ_=>⟨Y,Y⟩) (qN Y) (λ_=>Y) (qO Y) (by(try dsimp only);rw[Uj];(try dsimp only);exact dM (λi=>bif Nat.beq i 304 then 302 else i) Y Y Y Y Y ⟨.ptr,.ptr,.sv au,aq⟩ ⟨⟨_,Y,⟨.row Y,aq⟩⟩,⟨_,Y,⟨.sv au,aq⟩⟩,aq⟩ ⟨⟨_,Y,cJ.refl _⟩,aq⟩ (λi hi=>by rw[cC (show i≠304 by omega)];rfl)) (λk hk D hD=>?_) ?_;have h:=Uk k hk;obtain⟨mh,J3⟩:∃q,MD k=q:=⟨_,Y⟩;rw[J3]at h⊢
 dsimp only[AS.LC,rH]
 try dsimp only at h
 refine lE h λp9 hp9 h=>?_;rw[hp9];refine aW<|ag Y<|RT.done ?_;refine aV.n ⟨Y,?_⟩;dsimp only[AS.AN];refine bj<|bh mixed<|RT.fY .none (s:=.row _) Y Y Y T<|lV Y Y Y<|mv Y<|bE h λgh jJ h=>RT.bM .none (kz N jJ) (Nat.le_trans hN hD) Y ⟨Y,Y,aq⟩ T<|bl (l:=[gh]) (e:=(fS N 4 (fQ N))) (.one Y (.nil)) Y Y Y Y Y Y<|bE h λeH iZ h=>aR (k:=[gh]) (e:=(fS N 4 (fQ N))) Y Y Y iZ<|RT.lY (cells:=[_]) .none Y Y Y Y T Y ?_;refine RT.done ⟨by kernel_rfl,?_⟩;refine bG.n ?_;replace h:=Option.some.inj h;refine⟨aq,Y,Y,?_⟩
 try dsimp only
 rw[<-h]
 try dsimp only
 exact dM (λi=>bif Nat.beq i 304 then 15 else i) Y Y Y Y Y ⟨.ptr,.ptr,.sv au,aq⟩ ⟨⟨_,Y,⟨.row Y,aq⟩⟩,⟨_,Y,⟨.sv au,aq⟩⟩,aq⟩ ⟨⟨_,Y,cJ.refl _⟩,aq⟩ (λi hi=>by rw[cC (show i≠304 by omega)];rfl);rw[Ul]
 try dsimp only
 refine bG.n<|aV.n<|sr<|RT.fY .none (s:=.row _) Y Y Y T<|an (s:=.row _) Y<|dn<|gP (i:=304) (E1:=23) (n:=1) (e:=(fS N 4 (fQ N))) (l:=mh) hN (λ_ h=>h) Y<|bf ?_;obtain rfl:=O Ui;exact R1 Y;refine cT<|sr<|aI Y (bk (N:=N) (n:=1) (e:=(fS N 4 (fQ N))))<|dn<|bf<|aV.r ?_;obtain rfl:=O (V h);exact R1 Y
theorem BN{o0:Bool}{o1:Int}{o2:List (List Qr)}{o3:List Int}{o4:List (List Qr)}{r:Bool}(h:cy (⟨o0,o1,o2,o3,o4⟩:Tb)=some r):yA ah 57 [.ptr 1000 0] 79 [.s (az o0),.s (ay o1),.r (TR 23 1 (eS 4 eQ) o2),.r (TR 3 1 cO o3),.r (TR 23 1 (eS 4 eQ) o4)] (az r):=dP (cells:=sn (⟨o0,o1,o2,o3,o4⟩:Tb)) (r:=λN=>(az r)) (λN=>by exact mE (dQ h) N) Y ⟨⟨au,λ_ _ q=>One.h _ _ q⟩,⟨au,λ_ _ q=>One.h _ _ q⟩,cU,cU,cU,aq⟩ I9
theorem Es{o0:Bool}{o1:Int}{o2:List (List Qr)}{o3:List Int}{o4:List (List Qr)}{r:Int}(h:eE (⟨o0,o1,o2,o3,o4⟩:Tb)=some r):yA ah 58 [.ptr 1000 0] 79 [.s (az o0),.s (ay o1),.r (TR 23 1 (eS 4 eQ) o2),.r (TR 3 1 cO o3),.r (TR 23 1 (eS 4 eQ) o4)] (ay r):=dP (cells:=sn (⟨o0,o1,o2,o3,o4⟩:Tb)) (r:=λN=>(ay r)) (λN=>by exact mE (lp h) N) Y ⟨⟨au,λ_ _ q=>One.h _ _ q⟩,⟨au,λ_ _ q=>One.h _ _ q⟩,cU,cU,cU,aq⟩ I9
theorem Et{o0:Bool}{o1:Int}{o2:List (List Qr)}{o3:List Int}{o4:List (List Qr)}{r:List Int}(h:jr (⟨o0,o1,o2,o3,o4⟩:Tb)=some r):yA ah 17 [.ptr 1000 0] 79 [.s (az o0),.s (ay o1),.r (TR 23 1 (eS 4 eQ) o2),.r (TR 3 1 cO o3),.r (TR 23 1 (eS 4 eQ) o4)] (slc 1 (List.map cO r)):=dP (cells:=sn (⟨o0,o1,o2,o3,o4⟩:Tb)) (r:=λN=>nw N (slc 1 (List.map cO r))) (λN=>by exact Ep N h) Y ⟨⟨au,λ_ _ q=>One.h _ _ q⟩,⟨au,λ_ _ q=>One.h _ _ q⟩,cU,cU,cU,aq⟩ UB
theorem qZ{o0:Bool}{o1:Int}{o2:List (List Qr)}{o3:List Int}{o4:List (List Qr)}{r:List Qr}(h:fO (⟨o0,o1,o2,o3,o4⟩:Tb)=some r):yA ah 19 [.ptr 1000 0] 79 [.s (az o0),.s (ay o1),.r (TR 23 1 (eS 4 eQ) o2),.r (TR 3 1 cO o3),.r (TR 23 1 (eS 4 eQ) o4)] (slc 4 (List.map eQ r)):=dP (cells:=sn (⟨o0,o1,o2,o3,o4⟩:Tb)) (r:=λN=>nw N (slc 4 (List.map (fQ N) r))) (λN=>by exact qY N h) Y ⟨⟨au,λ_ _ q=>One.h _ _ q⟩,⟨au,λ_ _ q=>One.h _ _ q⟩,cU,cU,cU,aq⟩ Af
theorem vU{o0:Bool}{o1:Int}{o2:List (List Qr)}{o3:List Int}{o4:List (List Qr)}{x1:Int}{r:List Qr}(h:dy (⟨o0,o1,o2,o3,o4⟩:Tb) x1=some r):yA ah 28 [.ptr 1000 0,ai x1] 79 [.s (az o0),.s (ay o1),.r (TR 23 1 (eS 4 eQ) o2),.r (TR 3 1 cO o3),.r (TR 23 1 (eS 4 eQ) o4)] (slc 4 (List.map eQ r)):=dP (cells:=sn (⟨o0,o1,o2,o3,o4⟩:Tb)) (r:=λN=>nw N (slc 4 (List.map (fQ N) r))) (λN=>by exact kz N h) Y ⟨⟨au,λ_ _ q=>One.h _ _ q⟩,⟨au,λ_ _ q=>One.h _ _ q⟩,cU,cU,cU,aq⟩ Af
theorem q9{o0:Bool}{o1:Int}{o2:List (List Qr)}{o3:List Int}{o4:List (List Qr)}{r:List Qr}(h:iv (⟨o0,o1,o2,o3,o4⟩:Tb)=some r):yA ah 38 [.ptr 1000 0] 79 [.s (az o0),.s (ay o1),.r (TR 23 1 (eS 4 eQ) o2),.r (TR 3 1 cO o3),.r (TR 23 1 (eS 4 eQ) o4)] (slc 4 (List.map eQ r)):=dP (cells:=sn (⟨o0,o1,o2,o3,o4⟩:Tb)) (r:=λN=>nw N (slc 4 (List.map (fQ N) r))) (λN=>by exact Er N h) Y ⟨⟨au,λ_ _ q=>One.h _ _ q⟩,⟨au,λ_ _ q=>One.h _ _ q⟩,cU,cU,cU,aq⟩ Af
theorem zN{o0:Bool}{o1:Int}{o2:List (List Qr)}{o3:List Int}{o4:List (List Qr)}{r:List Qr}(h:ig (⟨o0,o1,o2,o3,o4⟩:Tb)=some r):yA ah 21 [.ptr 1000 0] 79 [.s (az o0),.s (ay o1),.r (TR 23 1 (eS 4 eQ) o2),.r (TR 3 1 cO o3),.r (TR 23 1 (eS 4 eQ) o4)] (slc 4 (List.map eQ r)):=dP (cells:=sn (⟨o0,o1,o2,o3,o4⟩:Tb)) (r:=λN=>nw N (slc 4 (List.map (fQ N) r))) (λN=>by exact zL N h) Y ⟨⟨au,λ_ _ q=>One.h _ _ q⟩,⟨au,λ_ _ q=>One.h _ _ q⟩,cU,cU,cU,aq⟩ Af
theorem zO{o0:Bool}{o1:Int}{o2:List (List Qr)}{o3:List Int}{o4:List (List Qr)}{r:Bool}(h:ij (⟨o0,o1,o2,o3,o4⟩:Tb)=some r):yA ah 35 [.ptr 1000 0] 79 [.s (az o0),.s (ay o1),.r (TR 23 1 (eS 4 eQ) o2),.r (TR 3 1 cO o3),.r (TR 23 1 (eS 4 eQ) o4)] (az r):=dP (cells:=sn (⟨o0,o1,o2,o3,o4⟩:Tb)) (r:=λN=>(az r)) (λN=>by exact mE (zM h) N) Y ⟨⟨au,λ_ _ q=>One.h _ _ q⟩,⟨au,λ_ _ q=>One.h _ _ q⟩,cU,cU,cU,aq⟩ I9
theorem tq{o0:Bool}{o1:Int}{o2:List (List Qr)}{o3:List Int}{o4:List (List Qr)}{r:Bool}(h:gH (⟨o0,o1,o2,o3,o4⟩:Tb)=some r):yA ah 42 [.ptr 1000 0] 79 [.s (az o0),.s (ay o1),.r (TR 23 1 (eS 4 eQ) o2),.r (TR 3 1 cO o3),.r (TR 23 1 (eS 4 eQ) o4)] (az r):=dP (cells:=sn (⟨o0,o1,o2,o3,o4⟩:Tb)) (r:=λN=>(az r)) (λN=>by exact mE (BM h) N) Y ⟨⟨au,λ_ _ q=>One.h _ _ q⟩,⟨au,λ_ _ q=>One.h _ _ q⟩,cU,cU,cU,aq⟩ I9
theorem GD{o0:Bool}{o1:Int}{o2:List (List Qr)}{o3:List Int}{o4:List (List Qr)}{r:List (List Qr)}(h:mm (⟨o0,o1,o2,o3,o4⟩:Tb)=some r):yA ah 18 [.ptr 1000 0] 79 [.s (az o0),.s (ay o1),.r (TR 23 1 (eS 4 eQ) o2),.r (TR 3 1 cO o3),.r (TR 23 1 (eS 4 eQ) o4)] (slc 1 (List.map (eS 4 eQ) r)):=dP (cells:=sn (⟨o0,o1,o2,o3,o4⟩:Tb)) (r:=λN=>nw N (slc 1 (List.map (fS N 4 (fQ N)) r))) (λN=>by exact GC N h) Y ⟨⟨au,λ_ _ q=>One.h _ _ q⟩,⟨au,λ_ _ q=>One.h _ _ q⟩,cU,cU,cU,aq⟩ Ft
theorem uB{o0:Bool}{o1:Int}{o2:List (List Qr)}{o3:List Int}{o4:List (List Qr)}{r:List (List Qr)}(h:eR (⟨o0,o1,o2,o3,o4⟩:Tb)=some r):yA ah 20 [.ptr 1000 0] 79 [.s (az o0),.s (ay o1),.r (TR 23 1 (eS 4 eQ) o2),.r (TR 3 1 cO o3),.r (TR 23 1 (eS 4 eQ) o4)] (slc 1 (List.map (eS 4 eQ) r)):=dP (cells:=sn (⟨o0,o1,o2,o3,o4⟩:Tb)) (r:=λN=>nw N (slc 1 (List.map (fS N 4 (fQ N)) r))) (λN=>by exact uA N h) Y ⟨⟨au,λ_ _ q=>One.h _ _ q⟩,⟨au,λ_ _ q=>One.h _ _ q⟩,cU,cU,cU,aq⟩ Ft
end
section
open Go.Fw Go.Fw.Z Go.RowKit
set_option maxHeartbeats 4000000 in
theorem lT{x0:Lr}{r:Bool×Int×(List (List Qr))×(List Int)×(List (List Qr))}(h:dY x0=some r):Kj ah 56 [.agg (Fi x0)] false [] 79 [.s (az r.1),.s (ay r.2.1),.r (TR 23 1 (eS 4 eQ) r.2.2.1),.r (TR 3 1 cO r.2.2.2.1),.r (TR 23 1 (eS 4 eQ) r.2.2.2.2)]:=by
 obtain⟨bp,bt,bC,bF⟩:=x0;refine Gq Tryz.func56 Y (af Y) (λec M vs hvs=>?_);unfold dY at h;refine sr<|bx Y<|ag Y<|dn<|sr<|fa Y Y<|lV Y Y Y<|bI (cs:=[_,_,_,_,_]) (cs':=[az true,ay bp,.v (.slice none 0 0),.v (.slice none 0 0),.v (.slice none 0 0)]) (.one Y (.one Y (.nil))) ⟨au,au,au,au,au,aq⟩<|bx Y<|an (s:=.ptr _ _) Y<|dn<|cz (pZ 12 2 304 23 1 Y Y Y T)<|cz (pZ 12 3 305 3 1 Y Y Y T) ?_;refine cz (pZ 12 4 306 23 1 Y Y Y T)<|qq<|sr<|fa Y Y<|lV Y Y Y<|lE h λeH iZ h=>ln Y iZ<|mv Y<|dn<|bE h λe6 DW nu=>?_;refine bT (λ(pO:(List (List Qr)))=>AS.cM 105 [(1,.ptr 1 0),(3,.ptr 12 0)] [(12,⟨79,[aj true,ai bp,.row 308,.row 305,.row 306]⟩),(1,⟨25,[ai bp,.sv (slc 1 (List.map (eS 4 eQ) bt)),.sv (slc 1 (List.map (eS 4 eQ) bC)),.sv (slc 4 (List.map eQ bF))]⟩)] [(308,TR 23 1 (eS 4 eQ) pO),(305,TR 3 1 cO []),(306,TR 23 1 (eS 4 eQ) [])]) (λpO=>pO=e6) ?_ (λpO DY=>?_);refine bj ?_
 refine bU DW (λs6=>AS.cM 105 [(1,.ptr 1 0),(3,.ptr 12 0),(14,.sv (slc 1 (List.map (eS 4 eQ) bt))),(15,ai eH),(16,ai s6.1)] [(12,⟨79,[aj true,ai bp,.row 308,.row 305,.row 306]⟩),(1,⟨25,[ai bp,.sv (slc 1 (List.map (eS 4 eQ) bt)),.sv (slc 1 (List.map (eS 4 eQ) bC)),.sv (slc 4 (List.map eQ bF))]⟩)] [(308,TR 23 1 (eS 4 eQ) s6.2),(305,TR 3 1 cO []),(306,TR 23 1 (eS 4 eQ) [])]) (dM (λi=>bif Nat.beq i 308 then 304 else i) Y Y Y Y Y ⟨.ptr,.ptr,.sv au,.sv au,.sv au,aq⟩ ⟨⟨_,Y,⟨.sv au,.sv au,.row Y,.row Y,.row Y,aq⟩⟩,⟨_,Y,⟨.sv au,.sv au,.sv au,.sv au,aq⟩⟩,aq⟩ ⟨⟨_,Y,cJ.refl _⟩,⟨_,Y,cJ.refl _⟩,⟨_,Y,cJ.refl _⟩,aq⟩ (λi hi=>by rw[cC (show i≠308 by omega)];rfl)) (λs6 y6 G6 h DZ zD=>?_);obtain⟨Je,En⟩:=s6
 try dsimp only
 refine sr<|lE h λfJ kU h=>ls _ Y Y kU<|dn<|qq ?_;cases fJ;refine cF<|cc<|aV.x<|aV.x<|bG.x<|aV.n ?_;obtain rfl:=O (F h);exact⟨En,zD _ Y,wR []⟩;refine cT<|bB<|aV.n<|qq<|bj<|sr<|bE (V h) λfC jY h=>ix Y Y jY<|lr Y Y<|ag Y<|dn<|bh mixed<|mo (s:=.ptr _ _) Y<|mo (s:=.ptr _ _) Y<|RT.ez .none Y T<|fa Y Y<|RT.fY .none (s:=.row _) Y Y Y T<|mv Y<|fa Y Y<|lV Y Y Y<|bE h λnq vC h=>cl (uW vC) ⟨Y,Y,aq⟩<|bl (l:=[nq]) (e:=(eS 4 eQ)) (.one Y (.nil)) Y Y Y Y Y Y ?_;refine bE h λz8 D0 h=>aR (k:=[nq]) (e:=(eS 4 eQ)) Y Y Y D0<|RT.ez .none Y T<|fa Y Y<|RT.lY (cells:=[_,_,_,_,_]) .none Y Y Y Y T Y ?_;refine RT.done ⟨by kernel_rfl,?_⟩;refine bG.n<|aV.n<|aW<|lE h λtZ Ab h=>ad _ Y Y Ab<|mv Y<|RT.done ?_;obtain rfl:=O h;exact aV.n ⟨(tZ,z8),DZ _ Y,dM (λi=>bif Nat.beq i 308 then 30 else i) Y Y Y Y Y ⟨.ptr,.ptr,.sv au,.sv au,.sv au,aq⟩ ⟨⟨_,Y,⟨.sv au,.sv au,.row Y,.row Y,.row Y,aq⟩⟩,⟨_,Y,⟨.sv au,.sv au,.sv au,.sv au,aq⟩⟩,aq⟩ ⟨⟨_,Y,cJ.refl _⟩,⟨_,Y,cJ.refl _⟩,⟨_,Y,cJ.refl _⟩,aq⟩ (λi hi=>by rw[cC (show i≠308 by omega)];rfl)⟩;subst DY
 try dsimp only
 refine aV.n<|qq<|sr<|fa Y Y<|lV Y Y Y<|lE nu λpR w6 nu=>ln Y w6<|mv Y<|dn<|bE nu λe30 adk adl=>?_;refine bT (λ(Kn:(List Int)×(List (List Qr)))=>AS.cM 105 [(3,.ptr 12 0)] [(12,⟨79,[aj true,ai bp,.row 308,.row 312,.row 313]⟩)] [(308,TR 23 1 (eS 4 eQ) pO),(312,TR 3 1 cO Kn.1),(313,TR 23 1 (eS 4 eQ) Kn.2)]) (λKn=>Kn=e30) ?_ (λKn adm=>?_);refine bj ?_;refine bU adk (λUF=>AS.cM 105 [(1,.ptr 1 0),(3,.ptr 12 0),(36,ai pR),(37,ai UF.1)] [(12,⟨79,[aj true,ai bp,.row 308,.row 312,.row 313]⟩),(1,⟨25,[ai bp,.sv (slc 1 (List.map (eS 4 eQ) bt)),.sv (slc 1 (List.map (eS 4 eQ) bC)),.sv (slc 4 (List.map eQ bF))]⟩)] [(308,TR 23 1 (eS 4 eQ) pO),(312,TR 3 1 cO UF.2.1),(313,TR 23 1 (eS 4 eQ) UF.2.2)]) (dM (λi=>bif Nat.beq i 312 then 305 else bif Nat.beq i 313 then 306 else i) Y Y Y Y Y ⟨.ptr,.ptr,.sv au,.sv au,aq⟩ ⟨⟨_,Y,⟨.sv au,.sv au,.row Y,.row Y,.row Y,aq⟩⟩,⟨_,Y,⟨.sv au,.sv au,.sv au,.sv au,aq⟩⟩,aq⟩ ⟨⟨_,Y,cJ.refl _⟩,⟨_,Y,cJ.refl _⟩,⟨_,Y,cJ.refl _⟩,aq⟩ (λi hi=>by rw[cC (show i≠312 by omega)];rw[cC (show i≠313 by omega)];rfl)) (λUF y30 G30 h adn ado=>?_);obtain⟨oC,ud,ue⟩:=UF
 try dsimp only
 refine sr<|lE h λCe J1 h=>ls _ Y Y J1<|dn<|qq ?_;cases Ce;refine cF<|cc<|aV.x<|aV.x<|bG.x<|aV.n ?_;obtain rfl:=O (F h);exact⟨(ud,ue),ado _ Y,wR []⟩;refine cT<|bB<|aV.n<|qq<|bj<|sr<|mv Y<|ag Y<|dn<|sr<|fa Y Y<|lV Y Y Y<|fa Y Y<|lV Y Y Y<|lE (V h) λwQ D4 h=>ln Y D4<|lE h λDR Mc h=>ad _ Y Y Mc<|lE h λwj h46 h=>ad _ Y Y h46<|bE h λvv A7 h=>RT.mM (n:=4) (e:=eQ) .none Y Y T Y T (by rfl) (by decide) (by exact⟨au,aB,au,aB,aq⟩) A7 ?_;refine an (s:=.row _) Y<|dn<|qq<|sr<|fa Y Y<|lV Y Y Y<|mv Y<|dn<|bE h λW9 TE gD=>?_;refine bT (λ(vS:(List Qr))=>AS.cM 105 [(1,.ptr 1 0),(3,.ptr 12 0),(6,ai oC),(7,.row 47),(36,ai pR),(37,ai oC)] [(12,⟨79,[aj true,ai bp,.row 308,.row 312,.row 313]⟩),(1,⟨25,[ai bp,.sv (slc 1 (List.map (eS 4 eQ) bt)),.sv (slc 1 (List.map (eS 4 eQ) bC)),.sv (slc 4 (List.map eQ bF))]⟩)] [(47,TR 43 4 eQ vS),(308,TR 23 1 (eS 4 eQ) pO),(312,TR 3 1 cO ud),(313,TR 23 1 (eS 4 eQ) ue)]) (λvS=>vS=W9) ?_ (λvS TF=>?_);refine bj ?_
 refine bU TE (λIY=>AS.cM 105 [(1,.ptr 1 0),(3,.ptr 12 0),(6,ai oC),(7,.row 47),(36,ai pR),(37,ai oC),(49,ai bp),(50,ai IY.1)] [(12,⟨79,[aj true,ai bp,.row 308,.row 312,.row 313]⟩),(1,⟨25,[ai bp,.sv (slc 1 (List.map (eS 4 eQ) bt)),.sv (slc 1 (List.map (eS 4 eQ) bC)),.sv (slc 4 (List.map eQ bF))]⟩)] [(47,TR 43 4 eQ IY.2),(308,TR 23 1 (eS 4 eQ) pO),(312,TR 3 1 cO ud),(313,TR 23 1 (eS 4 eQ) ue)]) (wR []) (λIY y38 G38 h TG TH=>?_);obtain⟨BJ,BK⟩:=IY
 try dsimp only
 refine sr<|lE h λCr HO h=>ls _ Y Y HO<|dn<|qq ?_;cases Cr;refine cF<|cc<|aV.x<|aV.x<|bG.x<|aV.n ?_;obtain rfl:=O (F h);exact⟨BK,TH _ Y,wR []⟩;refine cT<|bB<|aV.n<|qq<|bj<|sr<|mv Y<|ag Y<|dn<|aW<|mo (s:=.row _) Y<|mv Y<|fa Y Y<|lV Y Y Y<|mv Y<|mv Y ?_;obtain⟨⟨⟨Jf,GB⟩,⟨M6,M7⟩⟩,TJ,h⟩:=bS (V h);refine cl (Kf TJ) ⟨Y,Y,Y,aq⟩<|bE h λKR Mf h=>iR Y Y Y Mf<|bE h λOC Yk h=>sA ⟨⟨Jf,GB⟩,⟨M6,M7⟩⟩ Y Y Y Yk<|RT.done<|bG.n<|aV.n<|aW<|lE h λHF TK h=>ad _ Y Y TK<|mv Y<|RT.done ?_;obtain rfl:=O h;exact aV.n ⟨(HF,OC),TG _ Y,wR []⟩;subst TF
 try dsimp only
 refine aV.n<|qq<|bh mixed<|mo (s:=.row _) Y<|fa Y Y<|lV Y Y Y<|mv Y<|lE gD λKS XG gD=>ad _ Y Y XG ?_;obtain⟨⟨⟨M8,M9⟩,⟨Na,Nb⟩⟩,TN,gD⟩:=bS gD;refine cl (gw TN) ⟨Y,aq⟩<|bE gD λKT XH gD=>iR Y Y Y XH<|bE gD λQH Md gD=>sA ⟨⟨M8,M9⟩,⟨Na,Nb⟩⟩ Y Y Y Md ?_;refine RT.done ⟨by kernel_rfl,?_⟩;refine aV.n<|sr<|mo (s:=.row _) Y<|mo (s:=.row _) Y<|lE gD λRY Yl gD=>lL Y Y Yl<|lE gD λOD XK gD=>sb _ Y Y XK<|fa Y Y<|lV Y Y Y<|mv Y ?_;obtain⟨⟨⟨R3,R4⟩,⟨R5,R6⟩⟩,h76,gD⟩:=bS gD;refine ix Y Y h76<|RT.iC (cs:=[_,_,_,_]) .none Y T Y Y ?_;obtain⟨⟨⟨Nc,Nd⟩,⟨Nf,Ng⟩⟩,h78,gD⟩:=bS gD;refine cl (k7 h78) ⟨Y,aq⟩<|bE gD λKU TO gD=>iR Y Y Y TO<|bE gD λYf Ym gD=>sA ⟨⟨Nc,Nd⟩,⟨Nf,Ng⟩⟩ Y Y Y Ym<|dn<|qq<|cz (l7 (i:=47) (E1:=43) (n:=4) (e:=eQ) (l:=Yf) Y)<|aW<|mo (s:=.ptr _ _) Y<|mo (s:=.ptr _ _) Y<|RT.ez .none Y T<|fa Y Y<|RT.fY .none (s:=.row _) Y Y Y T<|mv Y<|bl (l:=[Yf]) (e:=(eS 4 eQ)) (.one Y (.nil)) Y Y Y Y Y Y ?_;refine bE gD λTt XM gD=>aR (k:=[Yf]) (e:=(eS 4 eQ)) Y Y Y XM<|RT.ez .none Y T<|fa Y Y<|RT.lY (cells:=[_,_,_,_,_]) .none Y Y Y Y T Y<|dn<|bh mixed<|mo (s:=.ptr _ _) Y<|mo (s:=.ptr _ _) Y<|RT.ez .none Y T<|fa Y Y<|RT.fY .none (s:=.row _) Y Y Y T<|fa Y Y<|lV Y Y Y<|mv Y<|lE gD λUG h98 gD=>ad _ Y Y h98 ?_
 refine bl (l:=[UG]) (e:=cO) (.one Y (.nil)) Y Y Y Y Y Y<|bE gD λUH ads gD=>aR (k:=[UG]) (e:=cO) Y Y Y ads<|RT.ez .none Y T<|fa Y Y<|RT.lY (cells:=[_,_,_,_,_]) .none Y Y Y Y T Y ?_;refine RT.done ⟨by kernel_rfl,?_⟩;refine bG.n<|aV.n<|aW<|lE gD λJY TP gD=>ad _ Y Y TP<|mv Y<|RT.done ?_;obtain rfl:=O gD;exact aV.n ⟨(JY,UH,Tt),adn _ Y,dM (λi=>bif Nat.beq i 312 then 100 else bif Nat.beq i 313 then 87 else i) Y Y Y Y Y ⟨.ptr,.ptr,.sv au,.sv au,aq⟩ ⟨⟨_,Y,⟨.sv au,.sv au,.row Y,.row Y,.row Y,aq⟩⟩,⟨_,Y,⟨.sv au,.sv au,.sv au,.sv au,aq⟩⟩,aq⟩ ⟨⟨_,Y,cJ.refl _⟩,⟨_,Y,cJ.refl _⟩,⟨_,Y,cJ.refl _⟩,aq⟩ (λi hi=>by rw[cC (show i≠312 by omega)];rw[cC (show i≠313 by omega)];rfl)⟩;subst adm;obtain⟨Jg,Jh⟩:=Kn
 try dsimp only
 refine aV.n<|sr<|mo (s:=.ptr _ _) Y<|an (s:=.ptr _ _) Y<|dn<|bf ?_;obtain rfl:=O adl;exact⟨.inr Y,12,[308,312,313],.tmp Y,Y,⟨Y,Y,Y,aq⟩,by decide⟩
theorem tu{x0:Lr}{r:Bool×Int×(List (List Qr))×(List Int)×(List (List Qr))}(h:gI x0=some r):Kj ah 12 [.agg (Fi x0)] true [ay 0] 79 [.s (az r.1),.s (ay r.2.1),.r (TR 23 1 (eS 4 eQ) r.2.2.1),.r (TR 3 1 cO r.2.2.2.1),.r (TR 23 1 (eS 4 eQ) r.2.2.2.2)]:=by
 obtain⟨bp,bt,bC,bF⟩:=x0;refine Gr (t1:=2) (t2:=3) Tryz.func12 Y (af Y) Y (λec M vs hvs=>?_);unfold gI at h;refine sr<|bx Y<|ag Y<|ag Y<|dn<|qq<|sr<|ld Y Y (.k4 Y Y Y Y)<|bE h λx5 h5 h=>cl (tc h5) ⟨Y,aq⟩<|lE h λx6 h6 h=>nt Y _ h6<|dn ?_;cases x6;refine fs<|sr<|ld Y Y (.k4 Y Y Y Y) ?_;obtain⟨⟨vH,vI,Bi,Bj,PA⟩,h8,h⟩:=bS (F h);refine RT.MK .none (lT h8) [304,305,306] (by decide) Y ⟨⟨Y,T⟩,⟨Y,T⟩,⟨Y,T⟩,aq⟩ Y ⟨Y,aq⟩ T Y Y<|an (s:=.ptr _ _) Y<|ag Y<|dn<|bf ?_;obtain rfl:=O h;exact⟨.inr Y,8,[304,305,306],Y,Y,Y,⟨Y,Y,Y,aq⟩,by decide⟩;refine cT<|sr<|ag Y<|ag Y<|dn<|bf<|aV.r ?_;replace h:=V h;cases h
theorem Eu{x0:List Qr}{Gb:Qr}{r:List Qr}(h:nh x0 Gb=some r):Pure ah 106 [slc 4 (List.map eQ x0),ref (eQ Gb)] (slc 4 (List.map eQ r)):=by
 obtain⟨⟨Gc,Ge⟩,⟨Gf,Gg⟩⟩:=Gb;refine bz Tryz.func106 Y (af Y) (λec M vs hvs=>?_);unfold nh at h;refine sr<|aI Y (aB (n:=4) (e:=eQ))<|dn<|sr<|RT.iC (cs:=[_,_,_,_]) .none Y T Y Y<|mv Y<|bE h λx6 h6 h=>cl (xd h6) ⟨Y,Y,aq⟩<|ag Y<|dn<|bf ?_;obtain rfl:=O h;exact R1 Y
theorem CG{o0:Bool}{o1:Int}{o2:List (List Qr)}{o3:List Int}{o4:List (List Qr)}{x0:List Qr}{Gb:Int}{ZR:Int}{r:List Qr}(h:jC o0 o1 o2 o3 o4 x0 Gb ZR=some r):I8 ah 107 (λβ=>[.sv (slc 4 (List.map eQ x0)),.sv (ref [ay Gb]),.sv (ref [.v (.pointer (some ⟨β,0,none⟩))]),.sv (ref [ay ZR])]) 79 [.s (az o0),.s (ay o1),.r (TR 23 1 (eS 4 eQ) o2),.r (TR 3 1 cO o3),.r (TR 23 1 (eS 4 eQ) o4)] (λ_ M' _ v=>SV.h (slc 4 (List.map eQ r)) M' v):=by
 refine El [1001,1002,1003] Tryz.func107 Y (λ_=>(af Y)) (λ_=>Y) (by decide) Y Y ⟨⟨_,Y⟩,⟨_,Y⟩,aq,aq,aq,aq⟩ (λec M β us=>?_);unfold jC at h;refine sr<|aI Y (aB (n:=4) (e:=eQ))<|dn<|qq<|sr<|mv Y<|lr Y Y ?_;obtain⟨⟨⟨vH,vI⟩,⟨Bi,Bj⟩⟩,h8,h⟩:=bS h;refine ix Y Y h8<|RT.iC (cs:=[_,_,_,_]) .none Y T Y Y<|bE h λdZ gM h=>cl (gx gM) ⟨Y,aq⟩<|lE h λiJ pJ h=>eq _ Y Y (xI (p:=dZ) (q:=0) pJ)<|dn ?_;cases iJ;refine fs<|qq<|bh mixed<|mv Y<|lr Y Y ?_;obtain⟨⟨⟨kW,kX⟩,⟨FK,FL⟩⟩,iZ,h⟩:=bS (F h);refine ix Y Y iZ<|RT.iC (cs:=[_,_,_,_]) .none Y T Y Y ?_;obtain⟨⟨⟨kY,kZ⟩,⟨oq,ot⟩⟩,kU,h⟩:=bS h;refine cl (F1 kU) ⟨Y,aq⟩<|RT.yB (k:=1000) .none Y Y Y T<|RT.ez .none Y T<|fa Y Y<|RT.fY .none (s:=.row _) Y Y Y T<|lr Y Y<|bE h λlP vB h=>iR Y Y Y vB<|bE h λik nJ h=>lR (e:=(eS 4 eQ)) Y Y nJ Y<|mv Y<|bE h λnn uc h=>cl (qi uc) ⟨Y,Y,Y,aq⟩<|ag Y ?_;refine RT.done ⟨by kernel_rfl,?_⟩;refine aV.n<|bf ?_;obtain rfl:=O h;exact⟨.inr Y,gj (.tmp Y (.nil)) au,Y,⟨Y,Y,Y,aq⟩⟩;refine cT<|sr<|mv Y<|ag Y<|dn<|bf<|aV.r ?_;obtain rfl:=O (V h);exact⟨.inr Y,gj (.tmp Y (.nil)) au,Y,⟨Y,Y,Y,aq⟩⟩
set_option maxHeartbeats 4000000 in
theorem nR{o0:Bool}{o1:Int}{o2:List (List Qr)}{o3:List Int}{o4:List (List Qr)}{x1:Int}{x2:Int}{r:(List (List Qr))×(List Int)×(List (List Qr))}(h:dI o0 o1 o2 o3 o4 x1 x2=some r):Pq ah 60 [.ptr 1000 0,ai x1,ai x2] 79 [.s (az o0),.s (ay o1),.r (TR 23 1 (eS 4 eQ) o2),.r (TR 3 1 cO o3),.r (TR 23 1 (eS 4 eQ) o4)] (.any) [.s (az o0),.s (ay o1),.r (TR 23 1 (eS 4 eQ) r.1),.r (TR 3 1 cO r.2.1),.r (TR 23 1 (eS 4 eQ) r.2.2)]:=by
 refine By [1001,1002,1003] Tryz.func60 Y (af Y) Y (by decide) Y (λec M β us=>?_);unfold dI at h;refine sr<|RT.wB .none (s:=.ptr _ _) Y T Y Y<|RT.wB .none (s:=.sv _) Y T Y Y<|RT.wB .none (s:=.sv _) Y T Y Y<|dn<|Px (i:=3) Y Y<|cz (gY (i:=3) Y [.v (.pointer (some ⟨β,0,none⟩))] (.cons Y (.nil)) .any 0 [(3,.sv (ref [.v (.pointer (some ⟨β,0,none⟩))]))] (λ_ _ _=>trivial) (qG.h (l:=[.v (.pointer (some ⟨β,0,none⟩))])) ⟨@FT.ptr _ _ _ _ _ 3 0 Y,aq⟩)<|cz (gY (i:=4) Y [ay x1] (.cons Y (.nil)) .any 0 [(4,.sv (ref [ay x1]))] (λ_ _ _=>trivial) (qG.h (l:=[ay x1])) ⟨@FT.ptr _ _ _ _ _ 4 0 Y,aq⟩) ?_;refine cz (gY (i:=5) Y [ay x2] (.cons Y (.nil)) .any 0 [(5,.sv (ref [ay x2]))] (λ_ _ _=>trivial) (qG.h (l:=[ay x2])) ⟨@FT.ptr _ _ _ _ _ 5 0 Y,aq⟩)<|qq<|bh mixed ?_;obtain⟨⟨⟨Fx,Fy⟩,⟨R7,R8⟩⟩,jJ,h⟩:=bS h;refine cl (gw jJ) ⟨Y,aq⟩<|RT.yB (k:=1000) .none Y Y Y T<|RT.ez .none Y T<|fa Y Y<|RT.fY .none (s:=.row _) Y Y Y T<|lr Y Y<|bE h λmN oa h=>iR Y Y Y oa<|bE h λiU pK h=>lR (e:=(eS 4 eQ)) Y Y pK Y<|lr Y Y ?_;obtain⟨⟨⟨m7,m8⟩,⟨m9,nc⟩⟩,oR,h⟩:=bS h;refine ix Y Y oR<|RT.iC (cs:=[_,_,_,_]) .none Y T Y Y ?_;obtain⟨⟨⟨⟨yC,yD⟩,⟨yE,yF⟩⟩,Kb⟩,nJ,h⟩:=bS h
 refine cl (FY nJ) ⟨Y,Y,aq⟩<|mv Y<|ex Y Y<|ex Y Y<|al (cs:=[az false,ax,az false,ax]) (by exact⟨au,aB,au,aB,aq⟩) Y<|so Y Y Y<|ag Y ?_;refine RT.done ⟨by kernel_rfl,?_⟩;refine aV.n ?_;refine cz (gY (i:=6) Y [az yC,slc 1 (List.map aY yD),az yE,slc 1 (List.map aY yF)] (.k4 Y Y Y Y) .any 0 [(6,.sv (ref [az yC,slc 1 (List.map aY yD),az yE,slc 1 (List.map aY yF)]))] (λ_ _ _=>trivial) (qG.h (l:=[az yC,slc 1 (List.map aY yD),az yE,slc 1 (List.map aY yF)])) ⟨@FT.ptr _ _ _ _ _ 6 0 Y,aq⟩)<|sr<|RT.xW (caps:=[_]) .none ⟨Y,aq⟩ T<|bI (cs:=[_]) (cs':=[iT 106 [ref [az yC,slc 1 (List.map aY yD),az yE,slc 1 (List.map aY yF)]]]) (.one Y (.nil)) ⟨au,aq⟩ ?_;refine RT.alloc .none T Y Y<|so Y Y Y<|dn<|qq<|bh mixed<|RT.yB (k:=1000) .none Y Y Y T<|RT.ez .none Y T<|fa Y Y<|RT.fY .none (s:=.row _) Y Y Y T<|lr Y Y<|fa Y Y<|lV Y Y Y<|RT.yB (k:=1000) .none Y Y Y T<|RT.ez .none Y T<|fa Y Y<|RT.fY .none (s:=.row _) Y Y Y T<|lr Y Y<|bE h λuM FH h=>iR Y Y Y FH ?_;refine bE h λsy D1 h=>lR (e:=(eS 4 eQ)) Y Y D1 Y<|bE h λvu EU h=>RT.W2 (args:=[_]) (caps:=[_]) .none (Eu EU) Y ⟨Y,aq⟩ T<|bE h λwQ D4 h=>iR Y Y Y D4<|bE h λl2 adt h=>sR vu Y Y Y Y adt ?_;refine RT.done ⟨by kernel_rfl,?_⟩
 refine aV.n<|sr<|RT.xW (caps:=[_,_,_]) .none ⟨Y,Y,Y,aq⟩ T<|bI (cs:=[_]) (cs':=[iT 107 [ref [ay x2],ref [.v (.pointer (some ⟨β,0,none⟩))],ref [ay x1]]]) (.one Y (.nil)) ⟨au,aq⟩<|RT.alloc .none T Y Y<|so Y Y Y<|dn<|sr<|RT.yB (k:=1000) .none Y Y Y T<|RT.ez .none Y T<|fa Y Y<|RT.fY .none (s:=.row _) Y Y Y T<|lE h λCr HO h=>lL Y Y HO ?_;refine mv Y<|dn<|bE h λPg HP oT=>?_;refine bT (λ(qm:(List (List Qr)))=>AS.cM 71 [] [(1000,⟨79,[aj o0,ai o1,.row 1001,.row 1002,.row 1003]⟩)] [(1001,TR 23 1 (eS 4 eQ) o2),(1002,TR 3 1 cO o3),(1003,TR 23 1 (eS 4 eQ) qm)]) (λqm=>qm=Pg) ?_ (λqm Mg=>?_);refine bj ?_;refine bU HP (λAa=>AS.cM 71 [(3,.sv (ref [.v (.pointer (some ⟨β,0,none⟩))])),(4,.sv (ref [ay x1])),(9,.ptr 9 0),(50,.row 1003),(51,ai Cr),(52,ai Aa.1)] [(1000,⟨79,[aj o0,ai o1,.row 1001,.row 1002,.row 1003]⟩),(9,⟨124,[.sv (iT 107 [ref [ay x2],ref [.v (.pointer (some ⟨β,0,none⟩))],ref [ay x1]])]⟩)] [(1003,TR 23 1 (eS 4 eQ) Aa.2),(1001,TR 23 1 (eS 4 eQ) o2),(1002,TR 3 1 cO o3)]) (wR []) (λAa y12 G12 h Mh Mi=>?_);obtain⟨pA,fX⟩:=Aa
 try dsimp only
 refine sr<|lE h λR9 TM h=>ls _ Y Y TM<|dn<|qq ?_;cases R9;refine cF<|cc<|aV.x<|aV.x<|bG.x<|aV.n ?_;obtain rfl:=O (F h);exact⟨fX,Mi _ Y,wR []⟩;refine cT<|bB<|aV.n<|qq<|bj<|sr<|mv Y<|bE (V h) λzC J5 h=>iR Y Y Y J5<|bE h λET Me h=>lR (e:=(eS 4 eQ)) Y Y Me Y<|ag Y<|ag Y<|dn<|sr<|mv Y<|lr Y Y<|lE h λJU TJ h=>ne _ Y Y (HC (p:=pA) (q:=x1) TJ)<|dn ?_;refine bK h (λj15=>AS.cM 71 [(3,.sv (ref [.v (.pointer (some ⟨β,0,none⟩))])),(4,.sv (ref [ay x1])),(9,.ptr 9 0),(50,.row 1003),(51,ai Cr),(52,ai pA)] [(1000,⟨79,[aj o0,ai o1,.row 1001,.row 1002,.row 1003]⟩),(9,⟨124,[.sv (iT 107 [ref [ay x2],ref [.v (.pointer (some ⟨β,0,none⟩))],ref [ay x1]])]⟩)] [(1003,TR 23 1 (eS 4 eQ) j15),(1001,TR 23 1 (eS 4 eQ) o2),(1002,TR 3 1 cO o3)]) (λh=>?_) (λtf h=>?_);cases JU;exact fs<|⟨fX,(F h),wR []⟩;refine cT<|bh mixed<|RT.yB (k:=1000) .none Y Y Y T<|RT.ez .none Y T<|fa Y Y<|RT.fY .none (s:=.row _) Y Y Y T<|mv Y<|fa Y Y<|lV Y Y Y<|mv Y<|bE (V h) λKT XH h=>RT.Py (args:=[.sv (slc 4 (List.map eQ ET))]) (caps:=λβ=>[ref [ay x2],ref [.v (.pointer (some ⟨β,0,none⟩))],ref [ay x1]]) .none (CG XH) 1000 [1001,1002,1003] Y Y ⟨Y,Y,Y,aq⟩ (by decide) Y Y (.cons Y (.nil)) T ?_
 refine bE h λLY XI h=>iR Y Y Y XI<|bE h λYg Yn h=>sR KT Y Y Y Y Yn ?_;refine RT.done ⟨by kernel_rfl,?_⟩;exact aV.n<|⟨Yg,h,wR []⟩
 try dsimp only
 refine bG.n<|aV.n<|aW<|lE h λPh h70 h=>ad _ Y Y h70<|mv Y<|RT.done ?_;obtain rfl:=O h;exact aV.n ⟨(Ph,tf),Mh _ Y,wR []⟩;subst Mg
 try dsimp only
 obtain rfl:=O oT;exact⟨.inl Y,gj .nil (λ_ _ _=>trivial),[1001,1002,1003],Y,⟨Y,Y,Y,aq⟩,by decide⟩
set_option maxHeartbeats 4000000 in
theorem gJ{o0:Bool}{o1:Int}{o2:List (List Qr)}{o3:List Int}{o4:List (List Qr)}{x1:Int}{x2:Int}{r:Int×(List (List Qr))×(List Int)×(List (List Qr))}(h:bD o0 o1 o2 o3 o4 x1 x2=some r):Pq ah 14 [.ptr 1000 0,ai x1,ai x2] 79 [.s (az o0),.s (ay o1),.r (TR 23 1 (eS 4 eQ) o2),.r (TR 3 1 cO o3),.r (TR 23 1 (eS 4 eQ) o4)] (ay r.1) [.s (az o0),.s (ay o1),.r (TR 23 1 (eS 4 eQ) r.2.1),.r (TR 3 1 cO r.2.2.1),.r (TR 23 1 (eS 4 eQ) r.2.2.2)]:=by
 refine By [1001,1002,1003] Tryz.func14 Y (af Y) Y (by decide) Y (λec M β us=>?_);unfold bD at h;refine sr<|ag Y<|dn<|qq<|sr<|mo (s:=.ptr _ _) Y<|bE h λdZ gM h=>RT.jq .none (BN gM) 1000 [1001,1002,1003] Y ⟨Y,Y,Y,aq⟩ (by decide) Y Y (.cons Y (.nil)) T<|dn ?_;cases dZ;refine fs<|qq<|qq ?_;refine bK (F h) (λUx=>AS.cM 68 [(0,.ptr 1000 0),(1,ai x1),(2,ai x2),(31,aj Ux)] [(1000,⟨79,[aj o0,ai o1,.row 1001,.row 1002,.row 1003]⟩)] [(1001,TR 23 1 (eS 4 eQ) o2),(1002,TR 3 1 cO o3),(1003,TR 23 1 (eS 4 eQ) o4)]) (λh=>?_) (λNh h=>?_);refine aW<|mv Y<|lE h λep gO h=>ls _ Y Y gO<|mv Y<|bE h λNi vV h=>?_;cases ep;refine gm Y<|RT.move (.some Y Y) (s:=.ptr _ _) Y T<|RT.ez (.some Y Y) Y T<|RT.fieldAddr (.some Y Y) Y T Y<|RT.fY (.some Y Y) (s:=.row _) Y Y Y T<|lE (F vV) λmN oa vV=>RT.QG (.some Y Y) Y Y T oa<|lE vV λiU pK vV=>RT.geq (.some Y Y) _ Y Y T pK ?_;obtain rfl:=O vV;refine pF Y<|mv Y<|bE h λadv Ev h=>?_;cases iU;refine gm Y<|lE (F Ev) λik nJ Ev=>RT.lss (.some Y Y) _ Y Y T nJ ?_;obtain rfl:=O Ev;refine pF Y<|mv Y<|bE h λadw rQ h=>?_;cases ik
 refine gm Y<|RT.move (.some Y Y) (s:=.ptr _ _) Y T<|bE (F rQ) λiK nI rQ=>RT.jq (.some Y Y) (Es nI) 1000 [1001,1002,1003] Y ⟨Y,Y,Y,aq⟩ (by decide) Y Y (.cons Y (.nil)) T<|lE rQ λz8 D0 rQ=>RT.geq (.some Y Y) _ Y Y T D0 ?_;obtain rfl:=O rQ;exact pF Y<|dn<|⟨z8,h,wR []⟩;obtain rfl:=O (V rQ);exact ww<|ww<|ww<|ww<|pT Y<|dn<|⟨true,h,wR []⟩;obtain rfl:=O (V Ev);refine ww<|ww<|pT Y<|mv Y<|bE h λadx yu h=>?_;obtain rfl:=O (V yu);exact ww<|ww<|ww<|ww<|pT Y<|dn<|⟨true,h,wR []⟩;obtain rfl:=O (V vV);refine ww<|ww<|ww<|ww<|ww<|ww<|ww<|pT Y<|mv Y<|bE h λady yw h=>?_;obtain rfl:=O (V yw);refine ww<|ww<|pT Y<|mv Y<|bE h λadz vJ h=>?_;obtain rfl:=O (V vJ);exact ww<|ww<|ww<|ww<|pT Y<|dn<|⟨true,h,wR []⟩
 try dsimp only
 refine aV.n ?_;cases Nh;refine fs<|qq<|sr<|mo (s:=.ptr _ _) Y<|RT.ez .none Y T<|fa Y Y<|RT.fY .none (s:=.row _) Y Y Y T<|lE (F h) λpR w6 h=>lL Y Y w6<|mv Y<|dn<|bE h λKm Ie mu=>?_;refine bT (λ(BO:Unit)=>AS.cM 68 [(0,.ptr 1000 0),(1,ai x1),(2,ai x2)] [(1000,⟨79,[aj o0,ai o1,.row 1001,.row 1002,.row 1003]⟩)] [(1001,TR 23 1 (eS 4 eQ) o2),(1002,TR 3 1 cO o3),(1003,TR 23 1 (eS 4 eQ) o4)]) (λBO=>.inl BO=Km) ?_ (λBO Ig=>?_);refine bj ?_;refine bU Ie (λKW=>AS.cM 68 [(0,.ptr 1000 0),(1,ai x1),(2,ai x2),(35,.row 1002),(36,ai pR),(37,ai KW)] [(1000,⟨79,[aj o0,ai o1,.row 1001,.row 1002,.row 1003]⟩)] [(1002,TR 3 1 cO o3),(1001,TR 23 1 (eS 4 eQ) o2),(1003,TR 23 1 (eS 4 eQ) o4)]) (wR []) (λEo y16 G16 h Ih CF=>?_)
 try dsimp only
 refine sr<|lE h λCe J1 h=>ls _ Y Y J1<|dn<|qq ?_;cases Ce;refine cF<|cc<|aV.x<|aV.x<|bG.x<|aV.n ?_;obtain rfl:=O (F h);exact⟨(),CF _ Y,wR []⟩;refine cT<|bB<|aV.n<|qq<|bj<|sr<|bE (V h) λuO FI h=>iR Y Y Y FI<|bE h λmO rS h=>lR Y Y rS Y<|ag Y<|dn<|sr<|mv Y<|mv Y<|lE h λvu EU h=>eq _ Y Y (xI (p:=mO) (q:=x2) EU)<|dn ?_;cases vu;refine cF<|bB<|bG.n<|aV.n<|aW<|lE (F h) λwQ D4 h=>ad _ Y Y D4<|mv Y<|RT.done ?_;obtain rfl:=O h;exact aV.n ⟨wQ,Ih _ Y,wR []⟩;refine cT<|sr<|ag Y<|dn<|bf<|bG.r<|aV.r ?_;obtain rfl:=O (V h);have Nj:=CF _ Y;subst Nj;refine aV.r<|bG.r<|aV.r<|aV.r ?_;obtain rfl:=O mu;exact⟨.inr Y,gj (.tmp Y (.nil)) au,[1001,1002,1003],Y,⟨Y,Y,Y,aq⟩,by decide⟩;subst Ig
 try dsimp only
 refine aV.n<|qq<|sr<|mo (s:=.ptr _ _) Y<|RT.ez .none Y T<|fa Y Y<|RT.fY .none (s:=.row _) Y Y Y T<|mv Y<|bE mu λwN HN mu=>iR Y Y Y HN<|bE mu λCr HO mu=>lR (e:=(eS 4 eQ)) Y Y HO Y<|mv Y ?_;obtain⟨⟨⟨Sa,Sb⟩,⟨Sc,Sd⟩⟩,TM,mu⟩:=bS mu;refine ix Y Y TM<|RT.iC (cs:=[_,_,_,_]) .none Y T Y Y<|bE mu λzC J5 mu=>cl (gx J5) ⟨Y,aq⟩<|lE mu λET Me mu=>eq _ Y Y (xI (p:=zC) (q:=0) Me)<|dn ?_;cases ET;refine fs<|sr<|mo (s:=.ptr _ _) Y<|mv Y<|mv Y ?_;obtain⟨⟨Wf,l21,Wg⟩,Mf,mu⟩:=bS (F mu);refine RT.I4 .none (nR Mf) 1000 [1001,1002,1003] [304,305,306] Y ⟨Y,Y,Y,aq⟩ (by decide) (by decide) Y ⟨⟨Y,T⟩,⟨Y,T⟩,⟨Y,T⟩,aq⟩ Y Y (.k3 Y Y Y) T<|dn<|sr<|mo (s:=.ptr _ _) Y<|RT.ez .none Y T<|fa Y Y<|RT.fY .none (s:=.row _) Y Y Y T<|mv Y<|mv Y<|bE mu λIZ TN mu=>iR Y Y Y TN<|bE mu λl24 Yo mu=>sR x2 Y Y Y Y Yo ?_;refine dn<|sr<|ag Y<|dn<|bf ?_;obtain rfl:=O mu;exact⟨.inr Y,gj (.tmp Y (.nil)) au,[304,305,306],Y,⟨Y,Y,Y,aq⟩,by decide⟩;refine cT<|sr<|ag Y<|dn<|bf<|aV.r ?_;obtain rfl:=O (V mu);exact⟨.inr Y,gj (.tmp Y (.nil)) au,[1001,1002,1003],Y,⟨Y,Y,Y,aq⟩,by decide⟩;refine cT<|sr<|ag Y<|dn<|bf<|aV.r ?_;obtain rfl:=O (V h);exact⟨.inr Y,gj (.tmp Y (.nil)) au,[1001,1002,1003],Y,⟨Y,Y,Y,aq⟩,by decide⟩
 refine cT<|sr<|ag Y<|dn<|bf<|aV.r ?_;obtain rfl:=O (V h);exact⟨.inr Y,gj (.tmp Y (.nil)) au,[1001,1002,1003],Y,⟨Y,Y,Y,aq⟩,by decide⟩
end
section
open Go.Fw
noncomputable def jD(x0:List (List Qr)):Option (Int):=(cu (λ(s6:Int×Int)=>match s6 with|⟨pM,PC⟩=>(show Option ((Int×Int)⊕(Int))from(some (x0.length:Int)).bind λx7=>(some (decide ((PC:Int)<x7))).bind λx8=>(bif x8 then(cW x0 PC).bind λfE=>(some (fE.length:Int)).bind λgN=>(some (max (pM:Int) gN)).bind λfJ=>(some (IntKind.i64.wrap (PC+1))).bind λdZ=>some (.inl (fJ,dZ))else some (.inr pM)))) (0,0)).bind λyx=>some yx
noncomputable def iN(x0:List (List Qr))(x1:Int):Option (Bool):=(jD x0).bind λx6=>(some (decide ((x6:Int)<=x1))).bind λx8=>some x8
noncomputable def kI(x0:Lr):Option (Bool):=match x0 with|⟨bp,bt,bC,bF⟩=>cQ (λ(Ij:Bool)=>(bif Ij then some false else cQ (λ(FJ:Bool)=>some FJ) λZM=>(iN bt bp).bind λsy=>(bif sy then(iN bC bp).bind λux=>some ux else some false).bind λNk=>ZM Nk)) λV9=>(some (decide ((bp:Int)<0))).bind λx5=>(bif x5 then some true else(some (decide ((64:Int)<bp))).bind λx9=>some x9).bind λNl=>(bif Nl then some true else(some (bt.length:Int)).bind λfE=>(some (decide ((fE:Int)<1))).bind λeH=>some eH).bind λUM=>(bif UM then some true else(some (bt.length:Int)).bind λiU=>(some (decide ((4:Int)<iU))).bind λiE=>some iE).bind λUN=>(bif UN then some true else(some (bC.length:Int)).bind λnn=>(some (decide ((128:Int)<nn))).bind λlQ=>some lQ).bind λUO=>(bif UO then some true else(some (bF.length:Int)).bind λjX=>(some (bC.length:Int)).bind λrR=>(some (decide ((jX:Int)≠rR))).bind λpR=>some pR).bind λUP=>V9 UP
end
section
open Go.Fw Go.Fw.Z Go.RowKit
theorem u0{x0:List (List Qr)}{r:Int}(h:jD x0=some r):Pure ah 118 [slc 1 (List.map (eS 4 eQ) x0)] (ay r):=by
 refine bz Tryz.func118 Y (af Y) (λec M vs hvs=>?_);unfold jD at h;refine sr<|ag Y<|dn<|sr<|ag Y<|dn<|qq<|sr<|ag Y<|dn<|bE h λe6 DW nu=>?_;refine bT (λ(yx:Int)=>AS.cM 19 [(3,ai yx)] [] []) (λyx=>yx=e6) ?_ (λyx DY=>?_);refine bj ?_;refine bU DW (λs6=>AS.cM 19 [(0,.sv (slc 1 (List.map (eS 4 eQ) x0))),(3,ai s6.1),(4,ai s6.2)] [] []) (wR []) (λs6 y6 G6 h DZ zD=>?_);obtain⟨pM,PC⟩:=s6
 try dsimp only
 refine qq<|sr<|mv Y<|mv Y<|lE h λx7 h7 h=>ln Y h7<|lE h λx8 h8 h=>ls _ Y Y h8<|dn ?_;cases x8;refine cF<|cc<|aV.x<|aV.x<|bG.x<|aV.n ?_;obtain rfl:=O (F h);exact⟨pM,zD _ Y,wR []⟩;refine cT<|bB<|aV.n<|qq<|bj<|aW<|mv Y<|mv Y<|mv Y<|bE (V h) λfE lN h=>ix Y Y lN<|lr Y Y<|lE h λgN kL h=>ln Y kL<|lE h λfJ kU h=>RT.max .none _ Y Y T (LL (p:=pM) (q:=gN) kU)<|ag Y<|RT.done<|bG.n<|aV.n<|aW<|mv Y<|lE h λdZ gM h=>ad _ Y Y gM<|ag Y<|RT.done ?_;obtain rfl:=O h;exact aV.n ⟨(fJ,dZ),DZ _ Y,wR []⟩;subst DY
 try dsimp only
 refine aV.n<|sr<|mv Y<|ag Y<|dn<|bf ?_;obtain rfl:=O nu;exact R1 Y
theorem tw{x0:List (List Qr)}{x1:Int}{r:Bool}(h:iN x0 x1=some r):Pure ah 72 [slc 1 (List.map (eS 4 eQ) x0),ay x1] (az r):=by
 refine bz Tryz.func72 Y (af Y) (λec M vs hvs=>?_);unfold iN at h;refine sr<|ag Y<|dn<|sr<|mv Y<|bE h λx6 h6 h=>cl (u0 h6) ⟨Y,aq⟩<|mv Y<|lE h λx8 h8 h=>RT.leq .none _ Y Y T h8<|ag Y<|dn<|bf ?_;obtain rfl:=O h;exact R1 Y
theorem rf{x0:Lr}{r:Bool}(h:kI x0=some r):Pure ah 24 [.agg (Fi x0)] (az r):=by
 obtain⟨bp,bt,bC,bF⟩:=x0;refine bz Tryz.func24 Y (af Y) (λec M vs hvs=>?_);unfold kI at h;refine sr<|bx Y<|ag Y<|dn<|qq<|qq ?_;refine bK h (λXW=>AS.cM 50 [(1,.ptr 1 0),(37,aj XW)] [(1,⟨25,[ai bp,.sv (slc 1 (List.map (eS 4 eQ) bt)),.sv (slc 1 (List.map (eS 4 eQ) bC)),.sv (slc 4 (List.map eQ bF))]⟩)] []) (λh=>?_) (λIj h=>?_);refine aW<|fa Y Y<|lV Y Y Y<|lE h λx5 h5 h=>ls _ Y Y h5<|mv Y<|bE h λNl Ev h=>?_;cases x5;refine RT.fieldAddr (.some Y Y) Y T Y<|RT.sj (.some Y Y) Y Y Y T<|lE (F Ev) λx9 h9 Ev=>gg _ Y Y h9 ?_;obtain rfl:=O Ev;refine pF Y<|mv Y<|bE h λadA rQ h=>?_;cases x9;refine RT.fieldAddr (.some Y Y) Y T Y<|RT.sj (.some Y Y) Y Y Y T<|lE (F rQ) λfE lN rQ=>gn Y lN<|lE rQ λeH iZ rQ=>RT.lss (.some Y Y) _ Y Y T iZ ?_;obtain rfl:=O rQ;refine pF Y<|mv Y<|bE h λadB yu h=>?_;cases eH;refine RT.fieldAddr (.some Y Y) Y T Y<|RT.sj (.some Y Y) Y Y Y T<|lE (F yu) λiU pK yu=>gn Y pK<|lE yu λiE qb yu=>gg _ Y Y qb ?_;obtain rfl:=O yu;refine pF Y<|mv Y<|bE h λadC yw h=>?_;cases iE;refine RT.fieldAddr (.some Y Y) Y T Y<|RT.sj (.some Y Y) Y Y Y T<|lE (F yw) λnn uc yw=>gn Y uc<|lE yw λlQ rJ yw=>gg _ Y Y rJ ?_;obtain rfl:=O yw;refine pF Y<|mv Y<|bE h λadD vJ h=>?_;cases lQ
 refine RT.fieldAddr (.some Y Y) Y T Y<|RT.sj (.some Y Y) Y Y Y T<|lE (F vJ) λjX pS vJ=>gn Y pS<|RT.fieldAddr (.some Y Y) Y T Y<|RT.sj (.some Y Y) Y Y Y T<|lE vJ λrR A6 vJ=>gn Y A6<|lE vJ λpR w6 vJ=>gq _ Y Y (HC (p:=jX) (q:=rR) w6) ?_;obtain rfl:=O vJ;exact pF Y<|dn<|⟨pR,h,wR []⟩;obtain rfl:=O (V vJ);exact ww<|ww<|ww<|ww<|ww<|ww<|ww<|pT Y<|dn<|⟨true,h,wR []⟩;obtain rfl:=O (V yw);refine ww<|ww<|ww<|ww<|pT Y<|mv Y<|bE h λadE Kc h=>?_;obtain rfl:=O (V Kc);exact ww<|ww<|ww<|ww<|ww<|ww<|ww<|pT Y<|dn<|⟨true,h,wR []⟩;obtain rfl:=O (V yu);refine ww<|ww<|ww<|ww<|pT Y<|mv Y<|bE h λadF T6 h=>?_;obtain rfl:=O (V T6);refine ww<|ww<|ww<|ww<|pT Y<|mv Y<|bE h λadG T7 h=>?_;obtain rfl:=O (V T7);exact ww<|ww<|ww<|ww<|ww<|ww<|ww<|pT Y<|dn<|⟨true,h,wR []⟩;obtain rfl:=O (V rQ);refine ww<|ww<|ww<|ww<|pT Y<|mv Y<|bE h λadH T8 h=>?_;obtain rfl:=O (V T8);refine ww<|ww<|ww<|ww<|pT Y<|mv Y<|bE h λadI T9 h=>?_;obtain rfl:=O (V T9);refine ww<|ww<|ww<|ww<|pT Y<|mv Y<|bE h λadJ Ua h=>?_;obtain rfl:=O (V Ua);exact ww<|ww<|ww<|ww<|ww<|ww<|ww<|pT Y<|dn<|⟨true,h,wR []⟩;obtain rfl:=O (V Ev);refine ww<|ww<|ww<|pT Y<|mv Y<|bE h λadK Ub h=>?_;obtain rfl:=O (V Ub);refine ww<|ww<|ww<|ww<|pT Y<|mv Y<|bE h λadL Ud h=>?_
 obtain rfl:=O (V Ud);refine ww<|ww<|ww<|ww<|pT Y<|mv Y<|bE h λadM Ue h=>?_;obtain rfl:=O (V Ue);refine ww<|ww<|ww<|ww<|pT Y<|mv Y<|bE h λadN Uf h=>?_;obtain rfl:=O (V Uf);exact ww<|ww<|ww<|ww<|ww<|ww<|ww<|pT Y<|dn<|⟨true,h,wR []⟩
 try dsimp only
 refine aV.n ?_;cases Ij;refine fs<|qq ?_;refine bK (F h) (λQ0=>AS.cM 50 [(2,aj Q0)] [] []) (λh=>?_) (λFJ h=>?_);refine aW<|fa Y Y<|lV Y Y Y<|fa Y Y<|lV Y Y Y<|bE h λsy D1 h=>cl (tw D1) ⟨Y,Y,aq⟩<|mv Y<|bE h λNk vV h=>?_;cases sy;obtain rfl:=O (F vV);exact ww<|ww<|ww<|ww<|ww<|pF Y<|ag Y<|dn<|⟨false,h,wR []⟩;refine RT.fieldAddr (.some Y Y) Y T Y<|RT.sj (.some Y Y) Y Y Y T<|RT.fieldAddr (.some Y Y) Y T Y<|RT.sj (.some Y Y) Y Y Y T<|bE (V vV) λux h48 vV=>gc (tw h48) ⟨Y,Y,aq⟩ ?_;obtain rfl:=O vV;exact pT Y<|ag Y<|dn<|⟨ux,h,wR []⟩
 try dsimp only
 refine aV.n<|bf ?_;obtain rfl:=O h;exact R1 Y;refine cT<|sr<|ag Y<|dn<|bf<|aV.r ?_;obtain rfl:=O (V h);exact R1 Y
end
section
open Go.Fw
noncomputable def lq(x0:List Zr):Option (Bool):=(cu (λ(pM:Int)=>(show Option ((Int)⊕((Unit)⊕(Bool)))from(some (x0.length:Int)).bind λx6=>(some (decide ((pM:Int)<x6))).bind λx7=>(bif x7 then(cW x0 pM).bind λ⟨ir,hG⟩=>(some (hG.length:Int)).bind λeH=>(some (decide ((12:Int)<eH))).bind λgN=>(bif gN then some (.inr (.inr true))else(some (IntKind.i64.wrap (pM+1))).bind λx9=>some (.inl x9))else some (.inr (.inl ()))))) 0).bind λe6=>match e6 with|.inr v6=>some v6|.inl _=>some false
end
section
open Go.Fw Go.Fw.Z Go.RowKit
theorem CH{x0:List Zr}{r:Bool}(h:lq x0=some r):Pure ah 125 [slc 2 (List.map eZ x0)] (az r):=by
 refine bz Tryz.func125 Y (af Y) (λec M vs hvs=>?_);unfold lq at h;refine sr<|ag Y<|dn<|qq<|sr<|ag Y<|dn<|bE h λe6 DW nu=>?_;refine bT (λ(DX:Unit)=>AS.cM 17 [] [] []) (λDX=>.inl DX=e6) ?_ (λDX DY=>?_);refine bj ?_;refine bU DW (λs6=>AS.cM 17 [(0,.sv (slc 2 (List.map eZ x0))),(3,ai s6)] [] []) (wR []) (λpM y6 G6 h DZ zD=>?_)
 try dsimp only
 refine qq<|sr<|mv Y<|mv Y<|lE h λx6 h6 h=>ln Y h6<|lE h λx7 h7 h=>ls _ Y Y h7<|dn ?_;cases x7;refine cF<|cc<|aV.x<|aV.x<|bG.x<|aV.n ?_;obtain rfl:=O (F h);exact⟨(),zD _ Y,wR []⟩;refine cT<|bB<|aV.n<|qq<|bj<|sr<|mv Y<|mv Y ?_;obtain⟨⟨ir,hG⟩,gO,h⟩:=bS (V h);refine ix Y Y gO<|RT.bO .none Y T Y<|lr Y Y<|lE h λeH iZ h=>ln Y iZ<|lE h λgN kL h=>gt _ Y Y kL<|dn ?_;cases gN;refine cF<|bB<|bG.n<|aV.n<|aW<|mv Y<|lE (F h) λx9 h9 h=>ad _ Y Y h9<|ag Y<|RT.done ?_;obtain rfl:=O h;exact aV.n ⟨x9,DZ _ Y,wR []⟩;refine cT<|sr<|ag Y<|dn<|bf<|bG.r<|aV.r ?_;obtain rfl:=O (V h);have Ma:=zD _ Y;subst Ma;refine aV.r<|bG.r<|aV.r<|aV.r ?_;obtain rfl:=O nu;exact R1 Y;subst DY
 try dsimp only
 refine aV.n<|sr<|ag Y<|dn<|bf ?_;obtain rfl:=O nu;exact R1 Y
end
section
open Go.Fw
noncomputable def lu(x0:List Qr):Option (Bool):=(cu (λ(uC:Int)=>(show Option ((Int)⊕((Unit)⊕(Bool)))from(some (x0.length:Int)).bind λx6=>(some (decide ((uC:Int)<x6))).bind λx7=>(bif x7 then cQ (λ(Ik:Bool)=>(bif Ik then some (.inr (.inr true))else(some (IntKind.i64.wrap (uC+1))).bind λx9=>some (.inl x9))) λK22=>(cW x0 uC).bind λ⟨⟨ir,hG⟩,⟨Jc,Jd⟩⟩=>(cW x0 uC).bind λ⟨⟨kY,kZ⟩,⟨oq,ot⟩⟩=>(lq [⟨ir,hG⟩,⟨oq,ot⟩]).bind λiE=>(bif iE then some true else(cW x0 uC).bind λ⟨⟨lS,kT⟩,⟨sN,sO⟩⟩=>(some (kT.length:Int)).bind λiK=>(some (decide ((6:Int)<iK))).bind λz8=>some z8).bind λNm=>(bif Nm then some true else(cW x0 uC).bind λ⟨⟨Yp,Yq⟩,⟨Yr,Se⟩⟩=>(some (Se.length:Int)).bind λuO=>(some (decide ((6:Int)<uO))).bind λmO=>some mO).bind λUQ=>K22 UQ else some (.inr (.inl ()))))) 0).bind λKm=>match Km with|.inr Wh=>some Wh|.inl _=>some false
end
section
open Go.Fw Go.Fw.Z Go.RowKit
theorem CI{x0:List Qr}{r:Bool}(h:lu x0=some r):Pure ah 82 [slc 4 (List.map eQ x0)] (az r):=by
 refine bz Tryz.func82 Y (af Y) (λec M vs hvs=>?_);unfold lu at h;refine sr<|ag Y<|dn<|qq<|sr<|ag Y<|dn<|bE h λKm Ie mu=>?_;refine bT (λ(BO:Unit)=>AS.cM 42 [] [] []) (λBO=>.inl BO=Km) ?_ (λBO Ig=>?_);refine bj ?_;refine bU Ie (λKW=>AS.cM 42 [(0,.sv (slc 4 (List.map eQ x0))),(3,ai KW)] [] []) (wR []) (λuC y16 G16 h Ih CF=>?_)
 try dsimp only
 refine qq<|sr<|mv Y<|mv Y<|lE h λx6 h6 h=>ln Y h6<|lE h λx7 h7 h=>ls _ Y Y h7<|dn ?_;cases x7;refine cF<|cc<|aV.x<|aV.x<|bG.x<|aV.n ?_;obtain rfl:=O (F h);exact⟨(),CF _ Y,wR []⟩;refine cT<|bB<|aV.n<|qq<|bj<|qq ?_;refine bK (V h) (λj22=>AS.cM 42 [(0,.sv (slc 4 (List.map eQ x0))),(3,ai uC),(41,aj j22)] [] []) (λh=>?_) (λIk h=>?_);refine bh mixed<|mv Y<|mv Y ?_;obtain⟨⟨⟨ir,hG⟩,⟨Jc,Jd⟩⟩,gO,h⟩:=bS h;refine ix Y Y gO<|RT.bO .none Y T Y<|RT.iC (cs:=[_,_]) .none Y T Y Y<|mv Y<|mv Y ?_;obtain⟨⟨⟨kY,kZ⟩,⟨oq,ot⟩⟩,kU,h⟩:=bS h;refine ix Y Y kU<|RT.bO .none Y T Y<|RT.iC (cs:=[_,_]) .none Y T Y Y<|bl (l:=[⟨ir,hG⟩,⟨oq,ot⟩]) (e:=eZ) (.agg Y (.agg Y (.nil))) Y Y Y Y Y Y<|bE h λiE qb h=>cl (CH qb) ⟨Y,aq⟩<|mv Y<|bE h λNm qW h=>?_;cases iE;refine gm Y<|gm Y ?_;obtain⟨⟨⟨lS,kT⟩,⟨sN,sO⟩⟩,yh,qW⟩:=bS (F qW);refine RT.Tg (.some Y Y) Y Y T yh<|RT.bO (.some Y Y) Y T Y<|RT.bO (.some Y Y) Y T Y<|gr Y Y<|lE qW λiK nI qW=>gn Y nI<|lE qW λz8 D0 qW=>gg _ Y Y D0 ?_;obtain rfl:=O qW;refine pF Y<|mv Y<|bE h λadQ td h=>?_;cases z8;refine gm Y<|gm Y ?_;obtain⟨⟨⟨Yp,Yq⟩,⟨Yr,Se⟩⟩,A6,td⟩:=bS (F td)
 refine RT.Tg (.some Y Y) Y Y T A6<|RT.bO (.some Y Y) Y T Y<|RT.bO (.some Y Y) Y T Y<|gr Y Y<|lE td λuO FI td=>gn Y FI<|lE td λmO rS td=>gg _ Y Y rS ?_;obtain rfl:=O td;refine pF Y ?_;refine RT.done ⟨by kernel_rfl,?_⟩;exact aV.n<|⟨mO,h,wR []⟩;obtain rfl:=O (V td);refine ww<|ww<|ww<|ww<|ww<|ww<|ww<|ww<|pT Y ?_;refine RT.done ⟨by kernel_rfl,?_⟩;exact aV.n<|⟨true,h,wR []⟩;obtain rfl:=O (V qW);refine ww<|ww<|ww<|ww<|ww<|ww<|ww<|ww<|pT Y<|mv Y<|bE h λadR vV h=>?_;obtain rfl:=O (V vV);refine ww<|ww<|ww<|ww<|ww<|ww<|ww<|ww<|pT Y ?_;refine RT.done ⟨by kernel_rfl,?_⟩;exact aV.n<|⟨true,h,wR []⟩
 try dsimp only
 refine aV.n ?_;cases Ik;refine cF<|bB<|bG.n<|aV.n<|aW<|mv Y<|lE (F h) λx9 h9 h=>ad _ Y Y h9<|ag Y<|RT.done ?_;obtain rfl:=O h;exact aV.n ⟨x9,Ih _ Y,wR []⟩;refine cT<|sr<|ag Y<|dn<|bf<|bG.r<|aV.r ?_;obtain rfl:=O (V h);have Nj:=CF _ Y;subst Nj;refine aV.r<|bG.r<|aV.r<|aV.r ?_;obtain rfl:=O mu;exact R1 Y;subst Ig
 try dsimp only
 refine aV.n<|sr<|ag Y<|dn<|bf ?_;obtain rfl:=O mu;exact R1 Y
end
section
open Go.Fw
noncomputable def gz(x0:List (List Qr)):Option (Bool):=(cu (λ(Ko:Int)=>(show Option ((Int)⊕((Unit)⊕(Bool)))from(some (x0.length:Int)).bind λx6=>(some (decide ((Ko:Int)<x6))).bind λx7=>(bif x7 then cQ (λ(Il:Bool)=>(bif Il then some (.inr (.inr true))else(some (IntKind.i64.wrap (Ko+1))).bind λx9=>some (.inl x9))) λKQ=>(cW x0 Ko).bind λep=>(some (ep.length:Int)).bind λfE=>(some (decide ((20:Int)<fE))).bind λeH=>(bif eH then some true else(cW x0 Ko).bind λmN=>(lu mN).bind λiE=>some iE).bind λNn=>KQ Nn else some (.inr (.inl ()))))) 0).bind λJZ=>match JZ with|.inr v10=>some v10|.inl _=>some false
noncomputable def jE(x0:List (List (List Qr))):Option (Bool):=(cu (λ(uC:Int)=>(show Option ((Int)⊕((Unit)⊕(Bool)))from(some (x0.length:Int)).bind λx6=>(some (decide ((uC:Int)<x6))).bind λx7=>(bif x7 then cQ (λ(Im:Bool)=>(bif Im then some (.inr (.inr true))else(some (IntKind.i64.wrap (uC+1))).bind λx9=>some (.inl x9))) λK22=>(cW x0 uC).bind λep=>(some (ep.length:Int)).bind λfE=>(some (decide ((8:Int)<fE))).bind λeH=>(bif eH then some true else(cW x0 uC).bind λmN=>(jD mN).bind λiE=>(some (decide ((8:Int)<iE))).bind λjH=>some jH).bind λEw=>(bif Ew then some true else(cW x0 uC).bind λlQ=>(gz lQ).bind λiK=>some iK).bind λUR=>K22 UR else some (.inr (.inl ()))))) 0).bind λKm=>match Km with|.inr Wh=>some Wh|.inl _=>some false
noncomputable def mF:Option (Lr):=(ia [[3,5]]).bind λx3=>(ia [[1,0],[0,2],[3,2]]).bind λx8=>(cX [4,12,18]).bind λdZ=>some ⟨2,x3,x8,dZ⟩
noncomputable def lA(x0:List (List Qr)):Option (Bool):=(cu (λ(pM:Int)=>(show Option ((Int)⊕((Unit)⊕(Bool)))from(some (x0.length:Int)).bind λx6=>(some (decide ((pM:Int)<x6))).bind λx7=>(bif x7 then(cW x0 pM).bind λep=>(some (ep.length:Int)).bind λfE=>(some (decide ((0:Int)<fE))).bind λeH=>(bif eH then some (.inr (.inr false))else(some (IntKind.i64.wrap (pM+1))).bind λx9=>some (.inl x9))else some (.inr (.inl ()))))) 0).bind λe6=>match e6 with|.inr v6=>some v6|.inl _=>some true
noncomputable def ni(x0:List Qr):Option (List Qr):=(some (x0.length:Int)).bind λx5=>(some (min (x5:Int) 20)).bind λx6=>(wH x0 0 x6).bind λx7=>some x7
noncomputable def lB(x0:Lr):Option (Bool):=match x0 with|⟨bp,bt,bC,bF⟩=>cQ (λ(Sf:Bool)=>some Sf) λK59=>(some (bt.length:Int)).bind λx5=>(some (decide ((6:Int)<x5))).bind λx6=>(bif x6 then some true else(some (bC.length:Int)).bind λdZ=>(some (decide ((140:Int)<dZ))).bind λiJ=>some iJ).bind λNo=>(bif No then some true else(some (bF.length:Int)).bind λgN=>(some (decide ((140:Int)<gN))).bind λfJ=>some fJ).bind λPD=>(bif PD then some true else(some (bC.length:Int)).bind λjH=>(some (decide ((8:Int)<jH))).bind λlP=>(bif lP then(lA bC).bind λlQ=>(some (!lQ)).bind λnq=>some nq else some false).bind λPE=>some PE).bind λPF=>(bif PF then some true else(some (bC.length:Int)).bind λqQ=>(some (decide ((qQ:Int)<=8))).bind λrR=>(bif rR then(jE [bC]).bind λmO=>some mO else some false).bind λPG=>some PG).bind λPI=>(bif PI then some true else(jE [bt]).bind λvv=>some vv).bind λPJ=>(bif PJ then some true else(ni bF).bind λya=>(gz [ya]).bind λFG=>some FG).bind λPK=>K59 PK
end
end Go.Proofs.YtningmnklfpfjaaGreat
