/- A part of the proof: the framework, the plain functions, the followed functions, the plain laws. -/
import Derived.Test.YtningmnklfpfjaaGreatPSA2
set_option linter.unusedVariables false
set_option linter.unusedSimpArgs false
set_option linter.unusedSectionVars false
namespace Go.Proofs.YtningmnklfpfjaaGreat
section
open Go.Fw Go.Fw.Z Go.RowKit
theorem DY{x0:Int}(N:Nat){r:Qr}(h:dP x0=some r):dK ah 41 N [ay x0] (.agg ((fQ N) r)):=by
 refine bU Tryz.func41 Y (af Y) (λdw M vs hN hvs=>?_);unfold dP at h;refine sr<|al (cs:=[aA false,nw N ax,aA false,nw N ax]) (by exact⟨au,bu,au,bu,aq⟩) Y<|dn<|sr<|mv Y ?_;obtain⟨⟨Cf,Cg⟩,h4,h⟩:=bS h;refine RT.bZ .none (fY N h4) hN Y ⟨Y,aq⟩ T<|bI (cs:=[_,_,_,_]) (cs':=[aA Cf,nw N (slc 1 (List.map bh Cg)),aA false,nw N ax]) (.agg Y (.nil)) ⟨au,au,au,bu,aq⟩<|so Y Y Y<|dn<|bf ?_;obtain rfl:=O h;exact RZ (.agg Y Y (.k4 Y Y Y Y) Y (.nil))
theorem nH{x0:Int}{r:Qr}(h:dP x0=some r):Pure ah 41 [ay x0] (.agg (eQ r)):=eT (λN=>DY N h) (λN=>(SV.fT (qI _ _)))
theorem nI{x0:Qr}(N:Nat){r:Qr}(h:dQ x0=some r):dK ah 93 N [.agg (eQ x0)] (.agg ((fQ N) r)):=by
 obtain⟨⟨bk,bn⟩,⟨bt,bB⟩⟩:=x0;refine bU Tryz.func93 Y (af Y) (λdw M vs hN hvs=>?_);unfold dQ at h;refine sr<|bx Y<|al (cs:=[aA false,nw N ax,aA false,nw N ax]) (by exact⟨au,bu,au,bu,aq⟩) Y<|dn<|qq<|sr<|ld Y Y (.k4 Y Y Y Y) ?_;obtain⟨⟨ZC,ZD,x8c⟩,h8,h⟩:=bS h;refine cl (iu h8) ⟨Y,aq⟩<|mv Y<|ex Y Y<|ex Y Y<|ex Y Y<|ag Y<|ag Y<|ag Y<|dn<|sr<|mv Y<|dn ?_;cases x8c;refine fs<|sr<|ld Y Y (.k4 Y Y Y Y) ?_;obtain⟨⟨⟨WC,WD⟩,⟨WE,WG⟩⟩,jO,h⟩:=bS (F h);refine cl (fO jO) ⟨Y,aq⟩<|ex Y Y<|ex Y Y ?_;obtain⟨⟨⟨Ab,Ad⟩,⟨Cv,Cw⟩⟩,oG,h⟩:=bS h;refine RT.bZ .none (oc N oG) hN Y ⟨Y,Y,aq⟩ T<|so Y Y Y<|dn<|bf ?_;obtain rfl:=O h;exact RZ (.agg Y Y (.k4 Y Y Y Y) Y (.nil));refine cT<|sr<|mv Y<|mv Y ?_;obtain⟨⟨⟨jQ,jR⟩,⟨xJ,xK⟩⟩,gD,h⟩:=bS (V h);refine RT.bZ .none (pz N gD) hN Y ⟨Y,Y,aq⟩ T<|so Y Y Y<|dn<|bf<|aW.r ?_;obtain rfl:=O h;exact RZ (.agg Y Y (.k4 Y Y Y Y) Y (.nil))
theorem xL{x0:Qr}{r:Qr}(h:dQ x0=some r):Pure ah 93 [.agg (eQ x0)] (.agg (eQ r)):=eT (λN=>nI N h) (λN=>(SV.fT (qI _ _)))
theorem kz{x0:Qr}{r:Int}(h:fg x0=some r):Pure ah 59 [.agg (eQ x0)] (ay r):=by
 obtain⟨⟨bk,bn⟩,⟨bt,bB⟩⟩:=x0;refine bj Tryz.func59 Y (af Y) (λdw M vs hvs=>?_);unfold fg at h;refine sr<|bx Y<|ag Y<|dn<|qq<|sr<|fa Y Y<|ld Y Y (.k2 Y Y)<|bE h λx5 h5 h=>cl (ik h5) ⟨Y,aq⟩<|lE h λx6 h6 h=>ls _ Y Y h6<|dn ?_;cases x6;refine fs<|sr<|fa Y Y<|ld Y Y (.k2 Y Y)<|bE (F h) λeD iF h=>cl (ik iF) ⟨Y,aq⟩<|ag Y<|dn<|bf ?_;obtain rfl:=O h;exact R1 Y;refine cT<|sr<|fa Y Y<|ld Y Y (.k2 Y Y)<|bE (V h) λx9 h9 h=>cl (ik h9) ⟨Y,aq⟩<|lE h λdI gC h=>RT.neg .none _ Y T gC<|ag Y<|dn<|bf<|aW.r ?_;obtain rfl:=O h;exact R1 Y
theorem OT{x0:Qr}{x1:Qr}(N:Nat){r:Qr}(h:wD x0 x1=some r):dK ah 132 N [.agg (eQ x0),.agg (eQ x1)] (.agg ((fQ N) r)):=by
 obtain⟨⟨bk,bn⟩,⟨bt,bB⟩⟩:=x0;obtain⟨⟨cu,cm⟩,⟨eE,eG⟩⟩:=x1;refine bU Tryz.func132 Y (af Y) (λdw M vs hN hvs=>?_);unfold wD at h;refine sr<|bx Y<|bx Y<|al (cs:=[aA false,nw N ax,aA false,nw N ax]) (by exact⟨au,bu,au,bu,aq⟩) Y<|dn<|sr<|ld Y Y (.k4 Y Y Y Y) ?_;obtain⟨⟨Iq,Fo,Ir⟩,iF,h⟩:=bS h;refine cl (iu iF) ⟨Y,aq⟩<|mv Y<|ex Y Y<|ex Y Y<|ex Y Y<|ag Y<|ag Y<|ag Y<|dn<|sr<|ld Y Y (.k4 Y Y Y Y) ?_;obtain⟨⟨Is,Fp,It⟩,mz,h⟩:=bS h;refine cl (iu mz) ⟨Y,aq⟩<|mv Y<|ex Y Y<|ex Y Y<|ex Y Y<|ag Y<|ag Y<|ag Y<|dn<|qq<|qq ?_;refine bJ h (λj3=>AS.cj 41 [(2,.ptr 2 0),(3,.ptr 3 0),(4,.ptr 4 0),(5,ai Iq),(6,ai Fo),(8,ai Is),(9,ai Fp),(26,aj j3)] [(4,⟨43,[aj false,.sv (nw N ax),aj false,.sv (nw N ax)]⟩),(3,⟨43,[aj cu,.sv (slc 1 (List.map bh cm)),aj eE,.sv (slc 1 (List.map bh eG))]⟩),(2,⟨43,[aj bk,.sv (slc 1 (List.map bh bn)),aj bt,.sv (slc 1 (List.map bh bB))]⟩)] []) (λh=>?_) (λA7 h=>?_);refine aX<|mv Y<|mv Y<|bE h λGa rY h=>?_;cases Ir;obtain rfl:=O (F rY);exact ww<|pF Y<|dn<|⟨false,h,wR []⟩;refine gm Y ?_;obtain rfl:=O (V rY);exact pT Y<|dn<|⟨It,h,wR []⟩
 try dsimp only
 refine aW.n ?_;cases A7;refine fs<|sr<|ld Y Y (.k4 Y Y Y Y)<|ld Y Y (.k4 Y Y Y Y) ?_;obtain⟨⟨⟨vh,vi⟩,⟨yJ,yK⟩⟩,vm,h⟩:=bS (F h);refine RT.bZ .none (GK N vm) hN Y ⟨Y,Y,Y,aq⟩ T<|so Y Y Y<|dn<|bf ?_;obtain rfl:=O h;exact RZ (.agg Y Y (.k4 Y Y Y Y) Y (.nil));refine cT<|sr<|mv Y<|mv Y<|lE (V h) λgI m7 h=>RT.mul .none _ Y Y T m7<|mv Y<|mv Y<|lE h λiP pW h=>RT.mul .none _ Y Y T pW<|lE h λoD xn h=>ad _ Y Y xn<|mv Y<|mv Y<|lE h λpg yI h=>RT.mul .none _ Y Y T yI ?_;obtain⟨⟨⟨ON,OO⟩,⟨OP,OQ⟩⟩,DS,h⟩:=bS h;refine RT.bZ .none (pz N DS) hN Y ⟨Y,Y,aq⟩ T<|so Y Y Y<|dn<|bf<|aW.r ?_;obtain rfl:=O h;exact RZ (.agg Y Y (.k4 Y Y Y Y) Y (.nil))
theorem OU{x0:Qr}{x1:Qr}(N:Nat){r:Qr}(h:wE x0 x1=some r):dK ah 94 N [.agg (eQ x0),.agg (eQ x1)] (.agg ((fQ N) r)):=by
 obtain⟨⟨bk,bn⟩,⟨bt,bB⟩⟩:=x0;obtain⟨⟨cu,cm⟩,⟨eE,eG⟩⟩:=x1;refine bU Tryz.func94 Y (af Y) (λdw M vs hN hvs=>?_);unfold wE at h;refine sr<|bx Y<|bx Y<|al (cs:=[aA false,nw N ax,aA false,nw N ax]) (by exact⟨au,bu,au,bu,aq⟩) Y<|dn<|sr<|ld Y Y (.k4 Y Y Y Y) ?_;obtain⟨⟨Iq,Fo,Ir⟩,iF,h⟩:=bS h;refine cl (iu iF) ⟨Y,aq⟩<|mv Y<|ex Y Y<|ex Y Y<|ex Y Y<|ag Y<|ag Y<|ag Y<|dn<|sr<|ld Y Y (.k4 Y Y Y Y) ?_;obtain⟨⟨Is,Fp,It⟩,mz,h⟩:=bS h;refine cl (iu mz) ⟨Y,aq⟩<|mv Y<|ex Y Y<|ex Y Y<|ex Y Y<|ag Y<|ag Y<|ag Y<|dn<|qq<|qq ?_;refine bJ h (λj3=>AS.cj 41 [(2,.ptr 2 0),(3,.ptr 3 0),(4,.ptr 4 0),(5,ai Iq),(6,ai Fo),(8,ai Is),(9,ai Fp),(26,aj j3)] [(4,⟨43,[aj false,.sv (nw N ax),aj false,.sv (nw N ax)]⟩),(3,⟨43,[aj cu,.sv (slc 1 (List.map bh cm)),aj eE,.sv (slc 1 (List.map bh eG))]⟩),(2,⟨43,[aj bk,.sv (slc 1 (List.map bh bn)),aj bt,.sv (slc 1 (List.map bh bB))]⟩)] []) (λh=>?_) (λA7 h=>?_);refine aX<|mv Y<|mv Y<|bE h λGa rY h=>?_;cases Ir;obtain rfl:=O (F rY);exact ww<|pF Y<|dn<|⟨false,h,wR []⟩;refine gm Y ?_;obtain rfl:=O (V rY);exact pT Y<|dn<|⟨It,h,wR []⟩
 try dsimp only
 refine aW.n ?_;cases A7;refine fs<|sr<|ld Y Y (.k4 Y Y Y Y)<|ld Y Y (.k4 Y Y Y Y) ?_;obtain⟨⟨⟨vh,vi⟩,⟨yJ,yK⟩⟩,vm,h⟩:=bS (F h);refine RT.bZ .none (GL N vm) hN Y ⟨Y,Y,Y,aq⟩ T<|so Y Y Y<|dn<|bf ?_;obtain rfl:=O h;exact RZ (.agg Y Y (.k4 Y Y Y Y) Y (.nil));refine cT<|sr<|mv Y<|mv Y<|lE (V h) λgI m7 h=>RT.mul .none _ Y Y T m7<|mv Y<|mv Y<|lE h λiP pW h=>RT.mul .none _ Y Y T pW<|lE h λoD xn h=>sb _ Y Y xn<|mv Y<|mv Y<|lE h λpg yI h=>RT.mul .none _ Y Y T yI ?_;obtain⟨⟨⟨ON,OO⟩,⟨OP,OQ⟩⟩,DS,h⟩:=bS h;refine RT.bZ .none (pz N DS) hN Y ⟨Y,Y,aq⟩ T<|so Y Y Y<|dn<|bf<|aW.r ?_;obtain rfl:=O h;exact RZ (.agg Y Y (.k4 Y Y Y Y) Y (.nil))
theorem Gb{x0:Qr}{x1:Qr}(N:Nat){r:Qr}(h:sH x0 x1=some r):dK ah 89 N [.agg (eQ x0),.agg (eQ x1)] (.agg ((fQ N) r)):=by
 obtain⟨⟨bk,bn⟩,⟨bt,bB⟩⟩:=x0;obtain⟨⟨cu,cm⟩,⟨eE,eG⟩⟩:=x1;refine bU Tryz.func89 Y (af Y) (λdw M vs hN hvs=>?_);unfold sH at h;refine sr<|bx Y<|bx Y<|al (cs:=[aA false,nw N ax,aA false,nw N ax]) (by exact⟨au,bu,au,bu,aq⟩) Y<|dn<|sr<|ld Y Y (.k4 Y Y Y Y) ?_;obtain⟨⟨Iq,Fo,Ir⟩,iF,h⟩:=bS h;refine cl (iu iF) ⟨Y,aq⟩<|mv Y<|ex Y Y<|ex Y Y<|ex Y Y<|ag Y<|ag Y<|ag Y<|dn<|sr<|ld Y Y (.k4 Y Y Y Y) ?_;obtain⟨⟨Is,Fp,It⟩,mz,h⟩:=bS h;refine cl (iu mz) ⟨Y,aq⟩<|mv Y<|ex Y Y<|ex Y Y<|ex Y Y<|ag Y<|ag Y<|ag Y<|dn<|qq<|qq ?_;refine bJ h (λj3=>AS.cj 37 [(2,.ptr 2 0),(3,.ptr 3 0),(4,.ptr 4 0),(5,ai Iq),(6,ai Fo),(8,ai Is),(9,ai Fp),(26,aj j3)] [(4,⟨43,[aj false,.sv (nw N ax),aj false,.sv (nw N ax)]⟩),(3,⟨43,[aj cu,.sv (slc 1 (List.map bh cm)),aj eE,.sv (slc 1 (List.map bh eG))]⟩),(2,⟨43,[aj bk,.sv (slc 1 (List.map bh bn)),aj bt,.sv (slc 1 (List.map bh bB))]⟩)] []) (λh=>?_) (λA7 h=>?_);refine aX<|mv Y<|mv Y<|bE h λGa rY h=>?_;cases Ir;obtain rfl:=O (F rY);exact ww<|pF Y<|dn<|⟨false,h,wR []⟩;refine gm Y ?_;obtain rfl:=O (V rY);exact pT Y<|dn<|⟨It,h,wR []⟩
 try dsimp only
 refine aW.n ?_;cases A7;refine fs<|sr<|ld Y Y (.k4 Y Y Y Y)<|ld Y Y (.k4 Y Y Y Y) ?_;obtain⟨⟨⟨F6,F7⟩,⟨acq,acr⟩⟩,yI,h⟩:=bS (F h);refine RT.bZ .none (GM N yI) hN Y ⟨Y,Y,Y,aq⟩ T<|so Y Y Y<|dn<|bf ?_;obtain rfl:=O h;exact RZ (.agg Y Y (.k4 Y Y Y Y) Y (.nil));refine cT<|sr<|mv Y<|mv Y<|lE (V h) λgI m7 h=>RT.mul .none _ Y Y T m7<|mv Y<|mv Y<|lE h λiP pW h=>RT.mul .none _ Y Y T pW ?_;obtain⟨⟨⟨Cx,Cy⟩,⟨Iu,Iv⟩⟩,xn,h⟩:=bS h;refine RT.bZ .none (pz N xn) hN Y ⟨Y,Y,aq⟩ T<|so Y Y Y<|dn<|bf<|aW.r ?_;obtain rfl:=O h;exact RZ (.agg Y Y (.k4 Y Y Y Y) Y (.nil))
theorem OV{x0:Qr}{x1:Qr}{r:Qr×Int}(h:wF x0 x1=some r):Pure ah 105 [.agg (eQ x0),.agg (eQ x1)] (.Ca [.agg (eQ r.1),ay r.2]):=by
 obtain⟨⟨bk,bn⟩,⟨bt,bB⟩⟩:=x0;obtain⟨⟨cu,cm⟩,⟨eE,eG⟩⟩:=x1;refine bj Tryz.func105 Y (af Y) (λdw M vs hvs=>?_);unfold wF at h;refine sr<|bx Y<|bx Y<|al (cs:=[aA false,ax,aA false,ax]) (by exact⟨au,aC,au,aC,aq⟩) Y<|ag Y<|dn<|qq<|sr<|ld Y Y (.k4 Y Y Y Y)<|bE h λeD iF h=>cl (kz iF) ⟨Y,aq⟩<|lE h λei jx h=>eq _ Y Y (ve (p:=eD) (q:=0) jx)<|RT.done ?_;refine aW.n ?_;cases ei;refine fs<|sr<|ld Y Y (.k4 Y Y Y Y) ?_;obtain⟨⟨Kn,MG,WH⟩,jK,h⟩:=bS (F h);refine cl (iu jK) ⟨Y,aq⟩<|mv Y<|ex Y Y<|ex Y Y<|ex Y Y<|ag Y<|ag Y<|ag Y<|dn<|sr<|ld Y Y (.k4 Y Y Y Y) ?_;obtain⟨⟨Uw,Ux,afu⟩,oY,h⟩:=bS h;refine cl (iu oY) ⟨Y,aq⟩<|mv Y<|ex Y Y<|ex Y Y<|ex Y Y<|ag Y<|ag Y<|ag Y<|dn<|qq<|qq ?_;refine bJ h (λj3=>AS.cj 48 [(2,.ptr 2 0),(3,.ptr 3 0),(4,.ptr 4 0),(6,ai Kn),(7,ai MG),(9,ai Uw),(10,ai Ux),(31,aj j3)] [(4,⟨43,[aj false,.sv ax,aj false,.sv ax]⟩),(3,⟨43,[aj cu,.sv (slc 1 (List.map bh cm)),aj eE,.sv (slc 1 (List.map bh eG))]⟩),(2,⟨43,[aj bk,.sv (slc 1 (List.map bh bn)),aj bt,.sv (slc 1 (List.map bh bB))]⟩)] []) (λh=>?_) (λIw h=>?_);refine aX<|mv Y<|mv Y<|bE h λacv hg7 h=>?_;cases WH;obtain rfl:=O (F hg7);exact ww<|pF Y<|dn<|⟨false,h,wR []⟩;refine gm Y ?_;obtain rfl:=O (V hg7);exact pT Y<|dn<|⟨afu,h,wR []⟩
 try dsimp only
 refine aW.n ?_;cases Iw;refine fs<|sr<|ld Y Y (.k4 Y Y Y Y)<|ld Y Y (.k4 Y Y Y Y) ?_;obtain⟨⟨⟨F4,F5⟩,⟨acs,acu⟩⟩,zH,h⟩:=bS (F h);refine cl (GO zH) ⟨Y,Y,Y,aq⟩<|so Y Y Y<|ag Y<|dn<|bf ?_;obtain rfl:=O h;exact RZ (.agg Y Y (.k4 Y Y Y Y) Y (.tmp Y (.nil)));refine cT<|qq<|sr<|mv Y<|lE (V h) λoD xn h=>ls _ Y Y xn<|dn ?_;refine bJ h (λj6=>AS.cj 48 [(4,.ptr 4 0),(6,ai j6.1),(7,ai MG),(9,ai j6.2),(10,ai Ux)] [(4,⟨43,[aj false,.sv ax,aj false,.sv ax]⟩)] []) (λh=>?_) (λj6 h=>?_);cases oD;exact fs<|⟨(Kn,Uw),(F h),wR []⟩;exact cT<|aX<|mv Y<|lE (V h) λku vE h=>RT.neg .none _ Y T vE<|mv Y<|lE h λuG DS h=>RT.neg .none _ Y T DS<|ag Y<|ag Y<|dn<|⟨(ku,uG),h,wR []⟩;obtain⟨ajc,ajd⟩:=j6
 try dsimp only
 refine aW.n<|sr<|mv Y<|mv Y<|lE h λnk vm h=>RT.mul .none _ Y Y T vm<|mv Y<|mv Y<|lE h λvf ET h=>RT.mul .none _ Y Y T ET ?_;obtain⟨⟨⟨F8,F9⟩,⟨OR,OS⟩⟩,Aw,h⟩:=bS h;refine cl (Kr Aw) ⟨Y,Y,aq⟩<|so Y Y Y<|ag Y<|dn<|bf<|aW.r ?_;obtain rfl:=O h;exact RZ (.agg Y Y (.k4 Y Y Y Y) Y (.tmp Y (.nil)));refine cT<|sr<|bI (cs:=[_,_,_,_]) (cs':=[aA false,ax,aA false,ax]) (.nil) ⟨au,aC,au,aC,aq⟩<|so Y Y Y<|ag Y<|dn<|bf<|aW.r ?_;obtain rfl:=O (V h);exact RZ (.agg Y Y (.k4 Y Y Y Y) Y (.tmp Y (.nil)))
theorem OW{x0:Qr}(N:Nat){r:Qr}(h:sI x0=some r):dK ah 108 N [.agg (eQ x0)] (.agg ((fQ N) r)):=by
 obtain⟨⟨bk,bn⟩,⟨bt,bB⟩⟩:=x0;refine bU Tryz.func108 Y (af Y) (λdw M vs hN hvs=>?_);unfold sI at h;refine sr<|bx Y<|al (cs:=[aA false,nw N ax,aA false,nw N ax]) (by exact⟨au,bu,au,bu,aq⟩) Y<|dn<|sr<|ld Y Y (.k4 Y Y Y Y) ?_;obtain⟨⟨⟨A8,C0⟩,⟨Fq,GJ⟩⟩,h5,h⟩:=bS h;refine RT.bZ .none (nI N h5) hN Y ⟨Y,aq⟩ T<|al (cs:=[aA false,nw N ax,aA false,nw N ax]) (by exact⟨au,bu,au,bu,aq⟩) Y<|so Y Y Y<|dn<|qq<|aZ mixed<|fa Y Y<|ld Y Y (.k2 Y Y) ?_;obtain⟨⟨r5,r6⟩,h8,h⟩:=bS h;refine RT.bZ .none ((vG N h8).w (args':=[_]) ⟨(SV.fT (show cg [aA A8,nw N (slc 1 (List.map bh C0))] _ from⟨au,fN,aq⟩)),aq⟩) hN Y ⟨Y,aq⟩ T<|fa Y Y<|ld Y Y (.k2 Y Y)<|bI (cs:=[_,_,_,_]) (cs':=[aA r5,nw N (slc 1 (List.map bh r6)),aA Fq,nw N (slc 1 (List.map bh GJ))]) (.agg Y (.agg Y (.nil))) ⟨au,au,au,au,aq⟩<|so Y Y Y ?_;refine RT.done ⟨by kernel_rfl,?_⟩;refine aW.n<|bf ?_;obtain rfl:=O h;exact RZ (.agg Y Y (.k4 Y Y Y Y) Y (.nil))
theorem OX{x0:Qr}{r:Qr}(h:sI x0=some r):Pure ah 108 [.agg (eQ x0)] (.agg (eQ r)):=eT (λN=>OW N h) (λN=>(SV.fT (qI _ _)))
theorem OY{x0:Qr}{x1:Qr}{r:Int}(h:wG x0 x1=some r):Pure ah 86 [.agg (eQ x0),.agg (eQ x1)] (ay r):=by
 obtain⟨⟨bk,bn⟩,⟨bt,bB⟩⟩:=x0;obtain⟨⟨cu,cm⟩,⟨eE,eG⟩⟩:=x1;refine bj Tryz.func86 Y (af Y) (λdw M vs hvs=>?_);unfold wG at h;refine sr<|bx Y<|bx Y<|ag Y<|dn<|sr<|ld Y Y (.k4 Y Y Y Y) ?_;obtain⟨⟨⟨o6,o7⟩,⟨pX,pY⟩⟩,iF,h⟩:=bS h;refine cl (fO iF) ⟨Y,aq⟩<|mv Y<|ex Y Y<|ex Y Y<|al (cs:=[aA false,ax]) (by exact⟨au,aC,aq⟩) Y<|al (cs:=[aA false,ax]) (by exact⟨au,aC,aq⟩) Y<|so Y Y Y<|so Y Y Y<|dn<|sr<|ld Y Y (.k4 Y Y Y Y) ?_;obtain⟨⟨⟨kg,kj⟩,⟨n7,n8⟩⟩,jK,h⟩:=bS h;refine cl (fO jK) ⟨Y,aq⟩<|mv Y<|ex Y Y<|ex Y Y<|al (cs:=[aA false,ax]) (by exact⟨au,aC,aq⟩) Y<|al (cs:=[aA false,ax]) (by exact⟨au,aC,aq⟩) Y<|so Y Y Y<|so Y Y Y<|dn<|qq<|qq<|aZ mixed<|ld Y Y (.k2 Y Y)<|bE h λiA oH h=>?_;refine cl (ik oH) ⟨Y,aq⟩<|ld Y Y (.k2 Y Y)<|bE h λgX oY h=>cl (ik oY) ⟨Y,aq⟩<|ag Y<|ag Y ?_;refine RT.done ⟨by kernel_rfl,?_⟩;refine aW.n<|qq ?_;refine bJ h (λj3=>AS.cj 43 [(5,.ptr 5 0),(6,.ptr 6 0),(7,.ptr 7 0),(8,.ptr 8 0),(9,ai iA),(10,ai gX),(31,aj j3)] [(8,⟨41,[aj n7,.sv (slc 1 (List.map bh n8))]⟩),(7,⟨41,[aj kg,.sv (slc 1 (List.map bh kj))]⟩),(6,⟨41,[aj pX,.sv (slc 1 (List.map bh pY))]⟩),(5,⟨41,[aj o6,.sv (slc 1 (List.map bh o7))]⟩)] []) (λh=>?_) (λIw h=>?_)
 refine aX<|mv Y<|mv Y<|lE h λiO pN h=>ne _ Y Y (JV (p:=iA) (q:=gX) pN)<|mv Y<|bE h λacw rY h=>?_;cases iO;refine gm Y<|lE (F rY) λoF vD rY=>Uh _ Y Y (ve (p:=iA) (q:=0) vD) ?_;obtain rfl:=O rY;exact pF Y<|dn<|⟨oF,h,wR []⟩;obtain rfl:=O (V rY);exact ww<|ww<|pT Y<|dn<|⟨true,h,wR []⟩
 try dsimp only
 refine aW.n ?_;cases Iw;refine fs<|qq<|aZ mixed<|ld Y Y (.k2 Y Y)<|ld Y Y (.k2 Y Y) ?_;obtain⟨⟨Ae,Af⟩,Av,h⟩:=bS (F h);refine cl (DU Av) ⟨Y,Y,aq⟩<|ld Y Y (.k2 Y Y)<|ld Y Y (.k2 Y Y) ?_;obtain⟨⟨Lj,Lk⟩,GH,h⟩:=bS h;refine cl (DU GH) ⟨Y,Y,aq⟩<|bE h λnF yl h=>cl (MD yl) ⟨Y,Y,aq⟩<|ag Y ?_;refine RT.done ⟨by kernel_rfl,?_⟩;refine aW.n<|bf ?_;obtain rfl:=O h;exact R1 Y;refine cT<|sr<|mv Y<|mv Y<|lE (V h) λsY xp h=>sb _ Y Y xp<|bE h λku vE h=>cl (MI vE) ⟨Y,aq⟩<|ag Y<|dn<|bf<|aW.r ?_;obtain rfl:=O h;exact R1 Y
end
section
open Go.Fw
noncomputable def sZ(x0:List Qr)(x1:List Qr):Option (List Qr):=(some (x0.length:Int)).bind λfz=>(some (x1.length:Int)).bind λeD=>(some (max (fz:Int) eD)).bind λei=>(VW (α:=Qr) 64 ei).bind λdH=>(uM (λ(k:Nat) (sJ:(List Qr))=>(show Option ((List Qr))from(some (x0.getD k (⟨⟨false,[]⟩,⟨false,[]⟩⟩:Qr))).bind λ⟨⟨OZ,O0⟩,⟨O1,O2⟩⟩=>(some (x1.getD k (⟨⟨false,[]⟩,⟨false,[]⟩⟩:Qr))).bind λ⟨⟨O3,O4⟩,⟨O5,O6⟩⟩=>(wE ⟨⟨OZ,O0⟩,⟨O1,O2⟩⟩ ⟨⟨O3,O4⟩,⟨O5,O6⟩⟩).bind λ⟨⟨nG,m9⟩,⟨tY,tZ⟩⟩=>(nD 64 sJ [⟨⟨nG,m9⟩,⟨tY,tZ⟩⟩]).bind λiO=>some iO)) (max x0.length x1.length) dH).bind λsJ=>some sJ
noncomputable def rj(x0:Qr)(x1:Qr)(O7:Qr):Option (Qr):=match x0 with|⟨⟨bk,bn⟩,⟨bt,bB⟩⟩=>match x1 with|⟨⟨cu,cm⟩,⟨eE,eG⟩⟩=>match O7 with|⟨⟨O8,O9⟩,⟨Pa,Pb⟩⟩=>(sH ⟨⟨O8,O9⟩,⟨Pa,Pb⟩⟩ ⟨⟨bk,bn⟩,⟨bt,bB⟩⟩).bind λ⟨⟨r5,r6⟩,⟨C2,C3⟩⟩=>(wD ⟨⟨r5,r6⟩,⟨C2,C3⟩⟩ ⟨⟨cu,cm⟩,⟨eE,eG⟩⟩).bind λ⟨⟨AY,AZ⟩,⟨acy,acz⟩⟩=>some ⟨⟨AY,AZ⟩,⟨acy,acz⟩⟩
noncomputable def oI(x0:List Qr)(x1:List Qr)(WM:Qr):Option (List Qr):=match WM with|⟨⟨Rr,Ru⟩,⟨Rv,Rw⟩⟩=>(some (x0.length:Int)).bind λfz=>(some (x1.length:Int)).bind λeD=>(some (max (fz:Int) eD)).bind λei=>(VW (α:=Qr) 64 ei).bind λdH=>(uM (λ(k:Nat) (sJ:(List Qr))=>(show Option ((List Qr))from(some (x0.getD k (⟨⟨false,[]⟩,⟨false,[]⟩⟩:Qr))).bind λ⟨⟨OZ,O0⟩,⟨O1,O2⟩⟩=>(some (x1.getD k (⟨⟨false,[]⟩,⟨false,[]⟩⟩:Qr))).bind λ⟨⟨O3,O4⟩,⟨O5,O6⟩⟩=>(rj ⟨⟨OZ,O0⟩,⟨O1,O2⟩⟩ ⟨⟨O3,O4⟩,⟨O5,O6⟩⟩ ⟨⟨Rr,Ru⟩,⟨Rv,Rw⟩⟩).bind λ⟨⟨nG,m9⟩,⟨tY,tZ⟩⟩=>(nD 64 sJ [⟨⟨nG,m9⟩,⟨tY,tZ⟩⟩]).bind λiO=>some iO)) (max x0.length x1.length) dH).bind λsJ=>some sJ
noncomputable def yN(x0:List Qr)(x1:List Qr):Option (List Qr):=(sZ x0 x1).bind λx7=>some x7
noncomputable def qC(x0:Qr)(x1:List Qr):Option (List Qr):=match x0 with|⟨⟨bk,bn⟩,⟨bt,bB⟩⟩=>(some (x1.length:Int)).bind λx9=>(G5 64 x9 (⟨⟨false,[]⟩,⟨false,[]⟩⟩:Qr)).bind λdI=>(some (x1.length:Int)).bind λc9=>(bX (λ(s8:Int×(List Qr))=>match s8 with|⟨Pc,Pd⟩=>(show Option ((Int×(List Qr))⊕((List Qr)))from(some (decide ((Pc:Int)<c9))).bind λei=>(bif ei then(cL x1 Pc).bind λ⟨⟨qu,qw⟩,⟨Pe,Pf⟩⟩=>(sH ⟨⟨bk,bn⟩,⟨bt,bB⟩⟩ ⟨⟨qu,qw⟩,⟨Pe,Pf⟩⟩).bind λ⟨⟨wH,wI⟩,⟨wJ,wK⟩⟩=>(kW Pd Pc).bind λjg=>(stM Pd jg ⟨⟨wH,wI⟩,⟨wJ,wK⟩⟩).bind λDH=>(some (IntKind.i64.wrap (Pc+1))).bind λgX=>some (.inl (gX,DH))else some (.inr Pd)))) (0,dI)).bind λIy=>some Iy
noncomputable def ja(x0:Qr)(x1:List Qr)(x2:List Qr):Option (List Qr):=match x0 with|⟨⟨bk,bn⟩,⟨bt,bB⟩⟩=>(oI x1 x2 ⟨⟨bk,bn⟩,⟨bt,bB⟩⟩).bind λdI=>some dI
noncomputable def nm(x0:List Qr)(x1:List Qr):Option (Int):=(wj (λ(k:Nat) (s3:Unit)=>(show Option ((Unit)⊕(Int))from(some (x0.getD k (⟨⟨false,[]⟩,⟨false,[]⟩⟩:Qr))).bind λ⟨⟨acA,acB⟩,⟨acC,acD⟩⟩=>(some (x1.getD k (⟨⟨false,[]⟩,⟨false,[]⟩⟩:Qr))).bind λ⟨⟨acE,acF⟩,⟨acG,acH⟩⟩=>(wG ⟨⟨acA,acB⟩,⟨acC,acD⟩⟩ ⟨⟨acE,acF⟩,⟨acG,acH⟩⟩).bind λdH=>(some (decide ((dH:Int)≠0))).bind λdX=>(bif dX then some (.inr dH)else some (.inl ())))) (max x0.length x1.length) ()).bind λe3=>match e3 with|.inr v3=>some v3|.inl _=>some 0
noncomputable def wL(x0:List Qr):Option (Int):=(nm x0 []).bind λx4=>some x4
noncomputable def gP(x0:List Qr)(x1:List Qr):Option (Bool):=(nm x0 x1).bind λx7=>(some (decide ((x7:Int)=0))).bind λx8=>some x8
noncomputable def mP(x0:List Qr)(x1:Int):Option (List Qr):=(some (decide ((x1:Int)<1))).bind λx8=>(bif x8 then some []else(some (min (x1:Int) 65536)).bind λdI=>(G5 64 dI (⟨⟨false,[]⟩,⟨false,[]⟩⟩:Qr)).bind λfz=>(some (x0.length:Int)).bind λeD=>(some (fz.length:Int)).bind λdH=>(some (min (eD:Int) dH)).bind λfB=>(bX (λ(s8:Int×(List Qr))=>match s8 with|⟨Pg,Ph⟩=>(show Option ((Int×(List Qr))⊕((List Qr)))from(some (decide ((Pg:Int)<fB))).bind λeX=>(bif eX then(cL x0 Pg).bind λ⟨⟨vn,vo⟩,⟨yO,yP⟩⟩=>(dQ ⟨⟨vn,vo⟩,⟨yO,yP⟩⟩).bind λ⟨⟨Ll,Lm⟩,⟨Ln,Lo⟩⟩=>(kW Ph Pg).bind λiO=>(stM Ph iO ⟨⟨Ll,Lm⟩,⟨Ln,Lo⟩⟩).bind λDH=>(some (IntKind.i64.wrap (Pg+1))).bind λkT=>some (.inl (kT,DH))else some (.inr Ph)))) (0,fz)).bind λIz=>some Iz)
noncomputable def dR(x0:List Int):Option (List Qr):=(some (x0.length:Int)).bind λx7=>(G5 64 x7 (⟨⟨false,[]⟩,⟨false,[]⟩⟩:Qr)).bind λx8=>(some (x0.length:Int)).bind λdI=>(bX (λ(s8:Int×(List Qr))=>match s8 with|⟨ua,IA⟩=>(show Option ((Int×(List Qr))⊕((List Qr)))from(some (decide ((ua:Int)<dI))).bind λc9=>(bif c9 then(cL x0 ua).bind λei=>(dP ei).bind λ⟨⟨lT,lW⟩,⟨wM,wN⟩⟩=>(kW IA ua).bind λij=>(stM IA ij ⟨⟨lT,lW⟩,⟨wM,wN⟩⟩).bind λDH=>(some (IntKind.i64.wrap (ua+1))).bind λfL=>some (.inl (fL,DH))else some (.inr IA)))) (0,x8)).bind λC4=>some C4
end
section
open Go.Fw Go.Fw.Z Go.RowKit
theorem zJ(a b:List Qr):Pure ah 133 [(slc 4 (List.map eQ a)),(slc 4 (List.map eQ b))] (o5 165 [ref [(slc 4 (List.map eQ a))],ref [(slc 4 (List.map eQ b))]]):=by
 refine bj Tryz.func133 Y (af Y) (λdw M vs hvs=>?_);refine sr<|RT.EY .none (s:=.sv _) Y T Y Y<|RT.EY .none (s:=.sv _) Y T Y Y<|ag Y<|dn<|sr<|RT.makeFunc .none (.box Y (.box Y (.nil))) T<|an (s:=.kU _ _) Y<|dn<|bR (iU (i:=2) Y [(slc 4 (List.map eQ a))] (.cons Y .nil) .any 0 [(4,.kU 165 [.val (ref [(slc 4 (List.map eQ a))]),.box 3])] (λ_ _ _=>trivial) (xo.h (l:=[(slc 4 (List.map eQ a))])) ⟨@FT.kU _ _ _ _ _ 4 165 [.box 2,.box 3] Y,aq⟩) ?_;exact bR (iU (i:=3) Y [(slc 4 (List.map eQ b))] (.cons Y .nil) .any 0 [(4,.kU 165 [.val (ref [(slc 4 (List.map eQ a))]),.val (ref [(slc 4 (List.map eQ b))])])] (λ_ _ _=>trivial) (xo.h (l:=[(slc 4 (List.map eQ b))])) ⟨@FT.kU _ _ _ _ _ 4 165 [.val (ref [(slc 4 (List.map eQ a))]),.box 3] Y,aq⟩)<|bR (QX 4 (o5 165 [ref [(slc 4 (List.map eQ a))],ref [(slc 4 (List.map eQ b))]]) (λ_ _ h=>QY h))<|bf<|⟨.inr Y,QL (.tmp Y (.nil)) Y⟩
theorem zK(a b:List Qr):Iter ah 165 [ref [(slc 4 (List.map eQ a))],ref [(slc 4 (List.map eQ b))]] (max a.length b.length) (λk=>[.agg (eQ (a.getD k (⟨⟨false,[]⟩,⟨false,[]⟩⟩:Qr))),.agg (eQ (b.getD k (⟨⟨false,[]⟩,⟨false,[]⟩⟩:Qr)))]):=by
 refine CK Tryz.func165 Y Y (af Y) (λdw M O l J hJ JX hr=>?_);obtain⟨xA,JX⟩:=JX;have hla:a.length<=9223372036854775807:=by cases xA with|nil=>exact JX.elim|cons _ xA=>exact G7 JX.1
 have hlb:b.length<=9223372036854775807:=by cases xA with|nil=>exact JX.elim|cons _ xA=>cases xA with|nil=>exact JX.2.elim|cons _ _=>exact G7 JX.2.1
 refine cq ?_;refine aX ?_;refine RT.fX .none Y Y (tl Y) ?_;refine RT.len .none Y (tl Y) ?_;refine RT.fX .none Y Y (tl Y) ?_;refine RT.len .none Y (tl Y) ?_;refine RT.max .none (((max a.length b.length:Nat):Int)) Y Y (tl Y) (by simp only[List.length_map];split<;>omega) ?_;refine RT.mv .none Y (tl Y) ?_;refine RT.done ?_;refine aW.n ?_;refine aY ?_
 refine GZ (I:=λx:{i:Nat//i<=max a.length b.length}=>AS.cj 37 [(0,.sv (.v (.func (.yield l) #[] #[]))),(1,.sv (ref [(slc 4 (List.map eQ a))])),(2,.sv (ref [(slc 4 (List.map eQ b))])),(11,ai ((max a.length b.length:Nat):Int)),(12,ai ((x.1:Nat):Int))] [] [] (x.1)) (μ:=λx=>max a.length b.length-x.1) ⟨0,by omega⟩ (by(try dsimp only);exact cD id Y Y Y Y Y ⟨.sv (by first|exact au|exact SV.bA (by omega)|exact SV.bA (by push_cast;omega)|exact SV.bA (by dsimp only;omega)|exact SV.imp_eq (by simp)),.sv (by first|exact au|exact SV.bA (by omega)|exact SV.bA (by push_cast;omega)|exact SV.bA (by dsimp only;omega)|exact SV.imp_eq (by simp)),.sv (by first|exact au|exact SV.bA (by omega)|exact SV.bA (by push_cast;omega)|exact SV.bA (by dsimp only;omega)|exact SV.imp_eq (by simp)),.sv (by first|exact au|exact SV.bA (by omega)|exact SV.bA (by push_cast;omega)|exact SV.bA (by dsimp only;omega)|exact SV.imp_eq (by simp)),.sv (by first|exact au|exact SV.bA (by omega)|exact SV.bA (by push_cast;omega)|exact SV.bA (by dsimp only;omega)|exact SV.imp_eq (by simp)),aq⟩ trivial trivial (λ_ _=>Y)) ?_;rintro⟨i,hi0⟩
 try dsimp only
 rcases H9 a b i hi0 with⟨hi,E4,J8⟩|⟨hi,E4,J8⟩|⟨hi,E4,J8⟩|hi
 ·
  refine cq ?_;refine aX ?_;refine RT.lss .none (true) Y Y (tl Y) (by simp;omega) ?_;refine RT.done ?_;refine aW.n ?_;refine cq ?_;refine fe Y ?_;refine bw ?_;refine aW.n ?_;refine cq ?_;refine aY ?_;refine cq ?_;refine aX ?_;refine RT.mv .none Y (tl Y) ?_;refine RT.Ma .none Y (tl Y) ?_;refine RT.done ?_;refine aW.n ?_;refine cq ?_;refine aX ?_;refine RT.CQ .none (cs:=eQ ⟨⟨false,[]⟩,⟨false,[]⟩⟩) (by exact⟨au,aC,au,aC,aq⟩) Y (tl Y) Y Y ?_;refine RT.CQ .none (cs:=eQ ⟨⟨false,[]⟩,⟨false,[]⟩⟩) (by exact⟨au,aC,au,aC,aq⟩) Y (tl Y) Y Y ?_;refine RT.done ?_;refine aW.n ?_;refine cq ?_;refine cq ?_;refine aX ?_;refine RT.mv .none Y (tl Y) ?_;refine RT.fX .none Y Y (tl Y) ?_;refine RT.len .none Y (tl Y) ?_;refine RT.lss .none (true) Y Y (tl Y) (by simp only[List.length_map];simp;omega) ?_;refine RT.done ?_;refine aW.n ?_;refine fe Y ?_;refine aX ?_;refine RT.fX .none Y Y (tl Y) ?_;refine RT.mv .none Y (tl Y) ?_
  refine RT.ixA .none [aA ((a.getD i (⟨⟨false,[]⟩,⟨false,[]⟩⟩:Qr)).num.neg),slc 1 ((a.getD i (⟨⟨false,[]⟩,⟨false,[]⟩⟩:Qr)).num.w.map bh),aA ((a.getD i (⟨⟨false,[]⟩,⟨false,[]⟩⟩:Qr)).den.neg),slc 1 ((a.getD i (⟨⟨false,[]⟩,⟨false,[]⟩⟩:Qr)).den.w.map bh)] (Int.natCast_nonneg i) (by rw[Int.toNat_natCast,List.getElem?_map,jF E4];rfl) Y Y (tl Y) ?_;refine RT.gy .none Y (tl Y) (cs:=[aA ((a.getD i (⟨⟨false,[]⟩,⟨false,[]⟩⟩:Qr)).num.neg),slc 1 ((a.getD i (⟨⟨false,[]⟩,⟨false,[]⟩⟩:Qr)).num.w.map bh),aA ((a.getD i (⟨⟨false,[]⟩,⟨false,[]⟩⟩:Qr)).den.neg),slc 1 ((a.getD i (⟨⟨false,[]⟩,⟨false,[]⟩⟩:Qr)).den.w.map bh)]) Y Y ?_;refine RT.store .none Y Y Y Y Y ?_;refine RT.done ?_;refine aW.n ?_;refine cq ?_;refine cq ?_;refine aX ?_;refine RT.mv .none Y (tl Y) ?_;refine RT.fX .none Y Y (tl Y) ?_;refine RT.len .none Y (tl Y) ?_;refine RT.lss .none (true) Y Y (tl Y) (by simp only[List.length_map];simp;omega) ?_;refine RT.done ?_;refine aW.n ?_;refine fe Y ?_;refine aX ?_;refine RT.fX .none Y Y (tl Y) ?_;refine RT.mv .none Y (tl Y) ?_
  refine RT.ixA .none [aA ((b.getD i (⟨⟨false,[]⟩,⟨false,[]⟩⟩:Qr)).num.neg),slc 1 ((b.getD i (⟨⟨false,[]⟩,⟨false,[]⟩⟩:Qr)).num.w.map bh),aA ((b.getD i (⟨⟨false,[]⟩,⟨false,[]⟩⟩:Qr)).den.neg),slc 1 ((b.getD i (⟨⟨false,[]⟩,⟨false,[]⟩⟩:Qr)).den.w.map bh)] (Int.natCast_nonneg i) (by rw[Int.toNat_natCast,List.getElem?_map,jF J8];rfl) Y Y (tl Y) ?_;refine RT.gy .none Y (tl Y) (cs:=[aA ((b.getD i (⟨⟨false,[]⟩,⟨false,[]⟩⟩:Qr)).num.neg),slc 1 ((b.getD i (⟨⟨false,[]⟩,⟨false,[]⟩⟩:Qr)).num.w.map bh),aA ((b.getD i (⟨⟨false,[]⟩,⟨false,[]⟩⟩:Qr)).den.neg),slc 1 ((b.getD i (⟨⟨false,[]⟩,⟨false,[]⟩⟩:Qr)).den.w.map bh)]) Y Y ?_;refine RT.store .none Y Y Y Y Y ?_;refine RT.done ?_;refine aW.n ?_;refine cq ?_;refine aX ?_;refine RT.mv .none Y (tl Y) ?_;refine RT.load .none Y Y (.k4 Y Y Y Y) Y (tl Y) ?_;refine RT.load .none Y Y (.k4 Y Y Y Y) Y (tl Y) ?_;refine RT.yield .none hr Y (λ_ h=>h) Y (i) Y Y hi (by exact⟨Y,Y,aq⟩) (tl Y) (λyb=>?_);cases yb
  ·
   refine RT.not .none Y (tl Y) true Y ?_;refine RT.done ?_;refine aW.n ?_;refine fe Y ?_;refine bf ?_;refine bF.r ?_;refine aW.r ?_;refine aW.r ?_;refine bF.r ?_;exact⟨.inr rfl,(λh=>by cases h)⟩
  refine RT.not .none Y (tl Y) false Y ?_;refine RT.done ?_;refine aW.n ?_;refine je Y ?_;refine bw ?_;refine bF.n ?_;refine aW.n ?_;refine aX ?_;refine RT.add .none (((i:Nat):Int)+1) Y Y (tl Y) (uL (by omega)) ?_;refine RT.mv .none Y (tl Y) ?_;refine RT.done ?_;refine aW.n ?_;refine⟨⟨i+1,by omega⟩,(by dsimp only;omega),?_⟩
  try dsimp only
  exact cD id Y Y Y Y Y ⟨.sv (by first|exact au|exact SV.bA (by omega)|exact SV.bA (by push_cast;omega)|exact SV.bA (by dsimp only;omega)|exact SV.imp_eq (by simp)),.sv (by first|exact au|exact SV.bA (by omega)|exact SV.bA (by push_cast;omega)|exact SV.bA (by dsimp only;omega)|exact SV.imp_eq (by simp)),.sv (by first|exact au|exact SV.bA (by omega)|exact SV.bA (by push_cast;omega)|exact SV.bA (by dsimp only;omega)|exact SV.imp_eq (by simp)),.sv (by first|exact au|exact SV.bA (by omega)|exact SV.bA (by push_cast;omega)|exact SV.bA (by dsimp only;omega)|exact SV.imp_eq (by simp)),.sv (by first|exact au|exact SV.bA (by omega)|exact SV.bA (by push_cast;omega)|exact SV.bA (by dsimp only;omega)|exact SV.imp_eq (by simp)),aq⟩ trivial trivial (λ_ _=>Y)
 ·
  refine cq ?_;refine aX ?_;refine RT.lss .none (true) Y Y (tl Y) (by simp;omega) ?_;refine RT.done ?_;refine aW.n ?_;refine cq ?_;refine fe Y ?_;refine bw ?_;refine aW.n ?_;refine cq ?_;refine aY ?_;refine cq ?_;refine aX ?_;refine RT.mv .none Y (tl Y) ?_;refine RT.Ma .none Y (tl Y) ?_;refine RT.done ?_;refine aW.n ?_;refine cq ?_;refine aX ?_;refine RT.CQ .none (cs:=eQ ⟨⟨false,[]⟩,⟨false,[]⟩⟩) (by exact⟨au,aC,au,aC,aq⟩) Y (tl Y) Y Y ?_;refine RT.CQ .none (cs:=eQ ⟨⟨false,[]⟩,⟨false,[]⟩⟩) (by exact⟨au,aC,au,aC,aq⟩) Y (tl Y) Y Y ?_;refine RT.done ?_;refine aW.n ?_;refine cq ?_;refine cq ?_;refine aX ?_;refine RT.mv .none Y (tl Y) ?_;refine RT.fX .none Y Y (tl Y) ?_;refine RT.len .none Y (tl Y) ?_;refine RT.lss .none (true) Y Y (tl Y) (by simp only[List.length_map];simp;omega) ?_;refine RT.done ?_;refine aW.n ?_;refine fe Y ?_;refine aX ?_;refine RT.fX .none Y Y (tl Y) ?_;refine RT.mv .none Y (tl Y) ?_
  refine RT.ixA .none [aA ((a.getD i (⟨⟨false,[]⟩,⟨false,[]⟩⟩:Qr)).num.neg),slc 1 ((a.getD i (⟨⟨false,[]⟩,⟨false,[]⟩⟩:Qr)).num.w.map bh),aA ((a.getD i (⟨⟨false,[]⟩,⟨false,[]⟩⟩:Qr)).den.neg),slc 1 ((a.getD i (⟨⟨false,[]⟩,⟨false,[]⟩⟩:Qr)).den.w.map bh)] (Int.natCast_nonneg i) (by rw[Int.toNat_natCast,List.getElem?_map,jF E4];rfl) Y Y (tl Y) ?_;refine RT.gy .none Y (tl Y) (cs:=[aA ((a.getD i (⟨⟨false,[]⟩,⟨false,[]⟩⟩:Qr)).num.neg),slc 1 ((a.getD i (⟨⟨false,[]⟩,⟨false,[]⟩⟩:Qr)).num.w.map bh),aA ((a.getD i (⟨⟨false,[]⟩,⟨false,[]⟩⟩:Qr)).den.neg),slc 1 ((a.getD i (⟨⟨false,[]⟩,⟨false,[]⟩⟩:Qr)).den.w.map bh)]) Y Y ?_;refine RT.store .none Y Y Y Y Y ?_;refine RT.done ?_;refine aW.n ?_;refine cq ?_;refine cq ?_;refine aX ?_;refine RT.mv .none Y (tl Y) ?_;refine RT.fX .none Y Y (tl Y) ?_;refine RT.len .none Y (tl Y) ?_;refine RT.lss .none (false) Y Y (tl Y) (by simp only[List.length_map];simp;omega) ?_;refine RT.done ?_;refine aW.n ?_;refine je Y ?_;refine bw ?_;refine aW.n ?_;refine cq ?_;refine aX ?_;refine RT.mv .none Y (tl Y) ?_;refine RT.load .none Y Y (.k4 Y Y Y Y) Y (tl Y) ?_;refine RT.load .none Y Y (.k4 Y Y Y Y) Y (tl Y) ?_
  refine RT.yield .none hr Y (λ_ h=>h) Y (i) Y Y hi (by exact⟨Y,(by show AV.sv _=AV.sv _;rw[mB J8]),aq⟩) (tl Y) (λyb=>?_);cases yb
  ·
   refine RT.not .none Y (tl Y) true Y ?_;refine RT.done ?_;refine aW.n ?_;refine fe Y ?_;refine bf ?_;refine bF.r ?_;refine aW.r ?_;refine aW.r ?_;refine bF.r ?_;exact⟨.inr rfl,(λh=>by cases h)⟩
  refine RT.not .none Y (tl Y) false Y ?_;refine RT.done ?_;refine aW.n ?_;refine je Y ?_;refine bw ?_;refine bF.n ?_;refine aW.n ?_;refine aX ?_;refine RT.add .none (((i:Nat):Int)+1) Y Y (tl Y) (uL (by omega)) ?_;refine RT.mv .none Y (tl Y) ?_;refine RT.done ?_;refine aW.n ?_;refine⟨⟨i+1,by omega⟩,(by dsimp only;omega),?_⟩
  try dsimp only
  exact cD id Y Y Y Y Y ⟨.sv (by first|exact au|exact SV.bA (by omega)|exact SV.bA (by push_cast;omega)|exact SV.bA (by dsimp only;omega)|exact SV.imp_eq (by simp)),.sv (by first|exact au|exact SV.bA (by omega)|exact SV.bA (by push_cast;omega)|exact SV.bA (by dsimp only;omega)|exact SV.imp_eq (by simp)),.sv (by first|exact au|exact SV.bA (by omega)|exact SV.bA (by push_cast;omega)|exact SV.bA (by dsimp only;omega)|exact SV.imp_eq (by simp)),.sv (by first|exact au|exact SV.bA (by omega)|exact SV.bA (by push_cast;omega)|exact SV.bA (by dsimp only;omega)|exact SV.imp_eq (by simp)),.sv (by first|exact au|exact SV.bA (by omega)|exact SV.bA (by push_cast;omega)|exact SV.bA (by dsimp only;omega)|exact SV.imp_eq (by simp)),aq⟩ trivial trivial (λ_ _=>Y)
 ·
  refine cq ?_;refine aX ?_;refine RT.lss .none (true) Y Y (tl Y) (by simp;omega) ?_;refine RT.done ?_;refine aW.n ?_;refine cq ?_;refine fe Y ?_;refine bw ?_;refine aW.n ?_;refine cq ?_;refine aY ?_;refine cq ?_;refine aX ?_;refine RT.mv .none Y (tl Y) ?_;refine RT.Ma .none Y (tl Y) ?_;refine RT.done ?_;refine aW.n ?_;refine cq ?_;refine aX ?_;refine RT.CQ .none (cs:=eQ ⟨⟨false,[]⟩,⟨false,[]⟩⟩) (by exact⟨au,aC,au,aC,aq⟩) Y (tl Y) Y Y ?_;refine RT.CQ .none (cs:=eQ ⟨⟨false,[]⟩,⟨false,[]⟩⟩) (by exact⟨au,aC,au,aC,aq⟩) Y (tl Y) Y Y ?_;refine RT.done ?_;refine aW.n ?_;refine cq ?_;refine cq ?_;refine aX ?_;refine RT.mv .none Y (tl Y) ?_;refine RT.fX .none Y Y (tl Y) ?_;refine RT.len .none Y (tl Y) ?_;refine RT.lss .none (false) Y Y (tl Y) (by simp only[List.length_map];simp;omega) ?_;refine RT.done ?_;refine aW.n ?_;refine je Y ?_;refine bw ?_;refine aW.n ?_;refine cq ?_;refine cq ?_;refine aX ?_;refine RT.mv .none Y (tl Y) ?_;refine RT.fX .none Y Y (tl Y) ?_;refine RT.len .none Y (tl Y) ?_;refine RT.lss .none (true) Y Y (tl Y) (by simp only[List.length_map];simp;omega) ?_;refine RT.done ?_;refine aW.n ?_;refine fe Y ?_;refine aX ?_;refine RT.fX .none Y Y (tl Y) ?_
  refine RT.mv .none Y (tl Y) ?_;refine RT.ixA .none [aA ((b.getD i (⟨⟨false,[]⟩,⟨false,[]⟩⟩:Qr)).num.neg),slc 1 ((b.getD i (⟨⟨false,[]⟩,⟨false,[]⟩⟩:Qr)).num.w.map bh),aA ((b.getD i (⟨⟨false,[]⟩,⟨false,[]⟩⟩:Qr)).den.neg),slc 1 ((b.getD i (⟨⟨false,[]⟩,⟨false,[]⟩⟩:Qr)).den.w.map bh)] (Int.natCast_nonneg i) (by rw[Int.toNat_natCast,List.getElem?_map,jF J8];rfl) Y Y (tl Y) ?_;refine RT.gy .none Y (tl Y) (cs:=[aA ((b.getD i (⟨⟨false,[]⟩,⟨false,[]⟩⟩:Qr)).num.neg),slc 1 ((b.getD i (⟨⟨false,[]⟩,⟨false,[]⟩⟩:Qr)).num.w.map bh),aA ((b.getD i (⟨⟨false,[]⟩,⟨false,[]⟩⟩:Qr)).den.neg),slc 1 ((b.getD i (⟨⟨false,[]⟩,⟨false,[]⟩⟩:Qr)).den.w.map bh)]) Y Y ?_;refine RT.store .none Y Y Y Y Y ?_;refine RT.done ?_;refine aW.n ?_;refine cq ?_;refine aX ?_;refine RT.mv .none Y (tl Y) ?_;refine RT.load .none Y Y (.k4 Y Y Y Y) Y (tl Y) ?_;refine RT.load .none Y Y (.k4 Y Y Y Y) Y (tl Y) ?_;refine RT.yield .none hr Y (λ_ h=>h) Y (i) Y Y hi (by exact⟨(by show AV.sv _=AV.sv _;rw[mB E4]),Y,aq⟩) (tl Y) (λyb=>?_);cases yb
  ·
   refine RT.not .none Y (tl Y) true Y ?_;refine RT.done ?_;refine aW.n ?_;refine fe Y ?_;refine bf ?_;refine bF.r ?_;refine aW.r ?_;refine aW.r ?_;refine bF.r ?_;exact⟨.inr rfl,(λh=>by cases h)⟩
  refine RT.not .none Y (tl Y) false Y ?_;refine RT.done ?_;refine aW.n ?_;refine je Y ?_;refine bw ?_;refine bF.n ?_;refine aW.n ?_;refine aX ?_;refine RT.add .none (((i:Nat):Int)+1) Y Y (tl Y) (uL (by omega)) ?_;refine RT.mv .none Y (tl Y) ?_;refine RT.done ?_;refine aW.n ?_;refine⟨⟨i+1,by omega⟩,(by dsimp only;omega),?_⟩
  try dsimp only
  exact cD id Y Y Y Y Y ⟨.sv (by first|exact au|exact SV.bA (by omega)|exact SV.bA (by push_cast;omega)|exact SV.bA (by dsimp only;omega)|exact SV.imp_eq (by simp)),.sv (by first|exact au|exact SV.bA (by omega)|exact SV.bA (by push_cast;omega)|exact SV.bA (by dsimp only;omega)|exact SV.imp_eq (by simp)),.sv (by first|exact au|exact SV.bA (by omega)|exact SV.bA (by push_cast;omega)|exact SV.bA (by dsimp only;omega)|exact SV.imp_eq (by simp)),.sv (by first|exact au|exact SV.bA (by omega)|exact SV.bA (by push_cast;omega)|exact SV.bA (by dsimp only;omega)|exact SV.imp_eq (by simp)),.sv (by first|exact au|exact SV.bA (by omega)|exact SV.bA (by push_cast;omega)|exact SV.bA (by dsimp only;omega)|exact SV.imp_eq (by simp)),aq⟩ trivial trivial (λ_ _=>Y)
 subst hi;refine cq ?_;refine aX ?_;refine RT.lss .none (false) Y Y (tl Y) (by simp) ?_;refine RT.done ?_;refine aW.n ?_;refine cq ?_;refine je Y ?_;refine bN ?_;refine aW.x ?_;refine aW.x ?_;refine bF.x ?_;exact⟨.inl Y,(λ_=>Y)⟩
end
section
open Go.Fw Go.Fw.Z Go.RowKit
theorem IB{x0:List Qr}{x1:List Qr}(N:Nat){r:List Qr}(h:sZ x0 x1=some r):dK ah 95 N [slc 4 (List.map eQ x0),slc 4 (List.map eQ x1),.v (.func (.func 94) #[] #[])] (nw N (slc 4 (List.map (fQ N) r))):=by
 refine bU Tryz.func95 Y (af Y) (λdw M vs hN hvs=>?_);unfold sZ at h;refine sr<|RT.EY .none (s:=.sv _) Y T Y Y<|aI Y (bu (N:=N) (n:=4) (e:=(fQ N)))<|dn<|sr<|mv Y<|lE h λfz lq h=>ln Y lq<|mv Y<|lE h λeD iF h=>ln Y iF<|lE h λei jx h=>RT.max .none _ Y Y T (Ol (p:=fz) (q:=eD) jx)<|bE h λdH gD h=>RT.K0 (e:=(fQ N)) .none Y Y T Y T gD<|RT.alloc .none T Y Y<|RT.uK (cells:=[_]) .none Y Y Y Y T Y<|dn<|qq<|sr ?_;refine mv Y<|mv Y<|cl (zJ x0 x1) ⟨Y,Y,aq⟩<|dn<|aY<|bE h λsJ hl5 ho5=>?_;obtain⟨st5,hs5,ht5,hn5⟩:=vV hl5;refine qW (zK x0 x1) (λ_ _ _ _ _=>trivial) Y (λk=>AS.cj 29 [(5,.ptr 5 0),(7,.ptr 7 0),(18,.sv (o5 165 [ref [slc 4 (List.map eQ x0)],ref [slc 4 (List.map eQ x1)]]))] [(7,⟨23,[.row 302]⟩),(5,⟨106,[.sv (.v (.func (.func 94) #[] #[]))]⟩)] [(302,TR 43 4 (fQ N) (st5 k))]) [7,5] Y (λ_=>⟨Y,Y⟩) (CL Y) (λ_=>Y) (CM Y) (by(try dsimp only);rw[hs5];(try dsimp only);exact cD (λi=>bif Nat.beq i 302 then 15 else i) Y Y Y Y Y ⟨.ptr,.ptr,.sv au,aq⟩ ⟨⟨_,Y,⟨.row Y,aq⟩⟩,⟨_,Y,⟨.sv au,aq⟩⟩,aq⟩ ⟨⟨_,Y,cg.refl _⟩,aq⟩ (λi hi=>by rw[bV (show i≠302 by omega)];rfl)) (λk hk D hD=>?_) ?_;have h:=ht5 k hk;obtain⟨sJ,hsk⟩:∃q,st5 k=q:=⟨_,Y⟩;rw[hsk]at h⊢;dsimp only[AS.Z2,Cq]
 try dsimp only at h
 obtain⟨⟨⟨OZ,O0⟩,⟨O1,O2⟩⟩,afA,h⟩:=bS h;rw[Option.some.inj afA];obtain⟨⟨⟨O3,O4⟩,⟨O5,O6⟩⟩,Wr,h⟩:=bS h;rw[Option.some.inj Wr];refine sr<|al (cs:=[aA false,nw N ax,aA false,nw N ax]) (by exact⟨au,bu,au,bu,aq⟩) Y<|so Y Y Y<|dn<|aX<|al (cs:=[aA false,nw N ax,aA false,nw N ax]) (by exact⟨au,bu,au,bu,aq⟩) Y<|so Y Y Y<|RT.done ?_;refine aW.n ⟨Y,?_⟩;dsimp only[AS.Mc];refine aY<|aZ mixed<|RT.eA .none (s:=.row _) Y Y Y T<|lV Y Y Y<|ld Y Y (.k4 Y Y Y Y)<|ld Y Y (.k4 Y Y Y Y) ?_;obtain⟨⟨⟨nG,m9⟩,⟨tY,tZ⟩⟩,nP,h⟩:=bS h;refine RT.bZ .none (OU N nP) (Nat.le_trans hN hD) Y ⟨Y,Y,aq⟩ T<|bl (l:=[⟨⟨nG,m9⟩,⟨tY,tZ⟩⟩]) (e:=(fQ N)) (.agg Y (.nil)) Y Y Y Y Y Y<|bE h λiO pN h=>aR (k:=[⟨⟨nG,m9⟩,⟨tY,tZ⟩⟩]) (e:=(fQ N)) Y Y Y pN<|RT.uK (cells:=[_]) .none Y Y Y Y T Y ?_;refine RT.done ⟨by kernel_rfl,?_⟩;refine bF.n ?_;replace h:=Option.some.inj h;refine⟨aq,Y,Y,?_⟩
 try dsimp only
 rw[<-h]
 try dsimp only
 exact cD (λi=>bif Nat.beq i 302 then 27 else i) Y Y Y Y Y ⟨.ptr,.ptr,.sv au,aq⟩ ⟨⟨_,Y,⟨.row Y,aq⟩⟩,⟨_,Y,⟨.sv au,aq⟩⟩,aq⟩ ⟨⟨_,Y,cg.refl _⟩,aq⟩ (λi hi=>by rw[bV (show i≠302 by omega)];rfl);rw[hn5]
 try dsimp only
 refine bF.n<|aW.n<|sr<|RT.eA .none (s:=.row _) Y Y Y T<|an (s:=.row _) Y<|dn<|lB (i:=302) (E1:=43) (n:=4) (e:=(fQ N)) (l:=sJ) hN (λ_ h=>h) Y<|bf ?_;obtain rfl:=O ho5;exact R1 Y
theorem C5{x0:Qr}{x1:Qr}{O7:Qr}(N:Nat){r:Qr}(h:rj x0 x1 O7=some r):dK ah 141 N [.agg (eQ x0),.agg (eQ x1),ref (eQ O7)] (.agg ((fQ N) r)):=by
 obtain⟨⟨bk,bn⟩,⟨bt,bB⟩⟩:=x0;obtain⟨⟨cu,cm⟩,⟨eE,eG⟩⟩:=x1;obtain⟨⟨O8,O9⟩,⟨Pa,Pb⟩⟩:=O7;refine bU Tryz.func141 Y (af Y) (λdw M vs hN hvs=>?_);unfold rj at h;refine sr<|bx Y<|bx Y<|al (cs:=[aA false,nw N ax,aA false,nw N ax]) (by exact⟨au,bu,au,bu,aq⟩) Y<|dn<|qq<|aZ mixed<|RT.gy (cs:=[_,_,_,_]) .none Y T Y Y<|ld Y Y (.k4 Y Y Y Y) ?_;obtain⟨⟨⟨r5,r6⟩,⟨C2,C3⟩⟩,h8,h⟩:=bS h;refine RT.bZ .none (Gb N h8) hN Y ⟨Y,Y,aq⟩ T<|ld Y Y (.k4 Y Y Y Y) ?_;obtain⟨⟨⟨AY,AZ⟩,⟨acy,acz⟩⟩,gC,h⟩:=bS h;refine RT.bZ .none ((OT N gC).w (args':=[_,_]) ⟨(SV.fT (show cg [aA r5,nw N (slc 1 (List.map bh r6)),aA C2,nw N (slc 1 (List.map bh C3))] _ from⟨au,fN,au,fN,aq⟩)),au,aq⟩) hN Y ⟨Y,Y,aq⟩ T<|so Y Y Y ?_;refine RT.done ⟨by kernel_rfl,?_⟩;refine aW.n<|bf ?_;obtain rfl:=O h;exact RZ (.agg Y Y (.k4 Y Y Y Y) Y (.nil))
theorem DZ{x0:List Qr}{x1:List Qr}{WM:Qr}(N:Nat){r:List Qr}(h:oI x0 x1 WM=some r):dK ah 95 N [slc 4 (List.map eQ x0),slc 4 (List.map eQ x1),o5 141 [ref (eQ WM)]] (nw N (slc 4 (List.map (fQ N) r))):=by
 obtain⟨⟨Rr,Ru⟩,⟨Rv,Rw⟩⟩:=WM;refine bU Tryz.func95 Y (af Y) (λdw M vs hN hvs=>?_);unfold oI at h;refine sr<|RT.EY .none (s:=.sv _) Y T Y Y<|aI Y (bu (N:=N) (n:=4) (e:=(fQ N)))<|dn<|sr<|mv Y<|lE h λfz lq h=>ln Y lq<|mv Y<|lE h λeD iF h=>ln Y iF<|lE h λei jx h=>RT.max .none _ Y Y T (Ol (p:=fz) (q:=eD) jx)<|bE h λdH gD h=>RT.K0 (e:=(fQ N)) .none Y Y T Y T gD<|RT.alloc .none T Y Y<|RT.uK (cells:=[_]) .none Y Y Y Y T Y<|dn<|qq<|sr ?_;refine mv Y<|mv Y<|cl (zJ x0 x1) ⟨Y,Y,aq⟩<|dn<|aY<|bE h λsJ hl5 ho5=>?_;obtain⟨st5,hs5,ht5,hn5⟩:=vV hl5;refine qW (zK x0 x1) (λ_ _ _ _ _=>trivial) Y (λk=>AS.cj 29 [(5,.ptr 5 0),(7,.ptr 7 0),(18,.sv (o5 165 [ref [slc 4 (List.map eQ x0)],ref [slc 4 (List.map eQ x1)]]))] [(7,⟨23,[.row 302]⟩),(5,⟨106,[.sv (o5 141 [ref [aA Rr,slc 1 (List.map bh Ru),aA Rv,slc 1 (List.map bh Rw)]])]⟩)] [(302,TR 43 4 (fQ N) (st5 k))]) [7,5] Y (λ_=>⟨Y,Y⟩) (CL Y) (λ_=>Y) (CM Y) (by(try dsimp only);rw[hs5];(try dsimp only);exact cD (λi=>bif Nat.beq i 302 then 15 else i) Y Y Y Y Y ⟨.ptr,.ptr,.sv au,aq⟩ ⟨⟨_,Y,⟨.row Y,aq⟩⟩,⟨_,Y,⟨.sv au,aq⟩⟩,aq⟩ ⟨⟨_,Y,cg.refl _⟩,aq⟩ (λi hi=>by rw[bV (show i≠302 by omega)];rfl)) (λk hk D hD=>?_) ?_;have h:=ht5 k hk;obtain⟨sJ,hsk⟩:∃q,st5 k=q:=⟨_,Y⟩
 rw[hsk]at h⊢;dsimp only[AS.Z2,Cq]
 try dsimp only at h
 obtain⟨⟨⟨OZ,O0⟩,⟨O1,O2⟩⟩,afA,h⟩:=bS h;rw[Option.some.inj afA];obtain⟨⟨⟨O3,O4⟩,⟨O5,O6⟩⟩,Wr,h⟩:=bS h;rw[Option.some.inj Wr];refine sr<|al (cs:=[aA false,nw N ax,aA false,nw N ax]) (by exact⟨au,bu,au,bu,aq⟩) Y<|so Y Y Y<|dn<|aX<|al (cs:=[aA false,nw N ax,aA false,nw N ax]) (by exact⟨au,bu,au,bu,aq⟩) Y<|so Y Y Y<|RT.done ?_;refine aW.n ⟨Y,?_⟩;dsimp only[AS.Mc];refine aY<|aZ mixed<|RT.eA .none (s:=.row _) Y Y Y T<|lV Y Y Y<|ld Y Y (.k4 Y Y Y Y)<|ld Y Y (.k4 Y Y Y Y) ?_;obtain⟨⟨⟨nG,m9⟩,⟨tY,tZ⟩⟩,nP,h⟩:=bS h;refine RT.aeM (args:=[_,_]) (caps:=[_]) .none (C5 N nP) (Nat.le_trans hN hD) Y ⟨Y,Y,aq⟩ T<|bl (l:=[⟨⟨nG,m9⟩,⟨tY,tZ⟩⟩]) (e:=(fQ N)) (.agg Y (.nil)) Y Y Y Y Y Y<|bE h λiO pN h=>aR (k:=[⟨⟨nG,m9⟩,⟨tY,tZ⟩⟩]) (e:=(fQ N)) Y Y Y pN<|RT.uK (cells:=[_]) .none Y Y Y Y T Y ?_;refine RT.done ⟨by kernel_rfl,?_⟩;refine bF.n ?_;replace h:=Option.some.inj h;refine⟨aq,Y,Y,?_⟩
 try dsimp only
 rw[<-h]
 try dsimp only
 exact cD (λi=>bif Nat.beq i 302 then 27 else i) Y Y Y Y Y ⟨.ptr,.ptr,.sv au,aq⟩ ⟨⟨_,Y,⟨.row Y,aq⟩⟩,⟨_,Y,⟨.sv au,aq⟩⟩,aq⟩ ⟨⟨_,Y,cg.refl _⟩,aq⟩ (λi hi=>by rw[bV (show i≠302 by omega)];rfl);rw[hn5]
 try dsimp only
 refine bF.n<|aW.n<|sr<|RT.eA .none (s:=.row _) Y Y Y T<|an (s:=.row _) Y<|dn<|lB (i:=302) (E1:=43) (n:=4) (e:=(fQ N)) (l:=sJ) hN (λ_ h=>h) Y<|bf ?_;obtain rfl:=O ho5;exact R1 Y
theorem Rx{x0:List Qr}{x1:List Qr}(N:Nat){r:List Qr}(h:yN x0 x1=some r):dK ah 50 N [slc 4 (List.map eQ x0),slc 4 (List.map eQ x1)] (nw N (slc 4 (List.map (fQ N) r))):=by
 refine bU Tryz.func50 Y (af Y) (λdw M vs hN hvs=>?_);unfold yN at h;refine sr<|aI Y (bu (N:=N) (n:=4) (e:=(fQ N)))<|dn<|sr<|mv Y<|mv Y<|bE h λx7 h7 h=>RT.bZ .none (IB N h7) hN Y ⟨Y,Y,Y,aq⟩ T<|ag Y<|dn<|bf ?_;obtain rfl:=O h;exact R1 Y
theorem MJ{x0:Qr}{x1:List Qr}(N:Nat){r:List Qr}(h:qC x0 x1=some r):dK ah 40 N [.agg (eQ x0),slc 4 (List.map eQ x1)] (nw N (slc 4 (List.map (fQ N) r))):=by
 obtain⟨⟨bk,bn⟩,⟨bt,bB⟩⟩:=x0;refine bU Tryz.func40 Y (af Y) (λdw M vs hN hvs=>?_);unfold qC at h;refine sr<|bx Y<|aI Y (bu (N:=N) (n:=4) (e:=(fQ N)))<|dn<|sr<|mv Y<|lE h λx9 h9 h=>ln Y h9<|bE h λdI gC h=>RT.tL (n:=4) (e:=(fQ N)) .none Y Y T Y T (by rfl) (by decide) (by exact⟨au,bu,au,bu,aq⟩) gC<|an (s:=.row _) Y<|dn<|qq<|sr<|mv Y<|lE h λc9 fC h=>ln Y fC<|mv Y<|dn<|bE h λe8 Kl Cd=>?_;refine bK (λ(Iy:(List Qr))=>AS.cj 26 [(5,.row 10)] [] [(10,TR 43 4 (fQ N) Iy)]) (λIy=>Iy=e8) ?_ (λIy Mt=>?_);refine aY ?_;refine bL Kl (λs8=>AS.cj 26 [(2,.ptr 2 0),(5,.row 10),(11,.sv (slc 4 (List.map eQ x1))),(12,ai c9),(13,ai s8.1)] [(2,⟨43,[aj bk,.sv (slc 1 (List.map bh bn)),aj bt,.sv (slc 1 (List.map bh bB))]⟩)] [(10,TR 43 4 (fQ N) s8.2)]) (wR []) (λs8 y8 G8 h Mu Mv=>?_);obtain⟨Pc,Pd⟩:=s8
 try dsimp only
 refine sr<|lE h λei jx h=>ls _ Y Y jx<|dn<|qq ?_;cases ei;refine cF<|bN<|aW.x<|aW.x<|bF.x<|aW.n ?_;obtain rfl:=O (F h);exact⟨Pd,Mv _ Y,wR []⟩;refine cT<|bw<|aW.n<|qq<|aY<|sr<|mv Y ?_;obtain⟨⟨⟨qu,qw⟩,⟨Pe,Pf⟩⟩,lu,h⟩:=bS (V h);refine ix Y Y lu<|RT.gy (cs:=[_,_,_,_]) .none Y T Y Y<|al (cs:=[aA false,nw N ax,aA false,nw N ax]) (by exact⟨au,bu,au,bu,aq⟩) Y<|ag Y<|so Y Y Y<|dn<|aX<|mo (s:=.row _) Y<|mv Y<|ld Y Y (.k4 Y Y Y Y)<|ld Y Y (.k4 Y Y Y Y) ?_;obtain⟨⟨⟨wH,wI⟩,⟨wJ,wK⟩⟩,oH,h⟩:=bS h;refine RT.bZ .none (Gb N oH) hN Y ⟨Y,Y,aq⟩ T<|bE h λjg qP h=>iR Y Y Y qP<|bE h λDH yH h=>sA ⟨⟨wH,wI⟩,⟨wJ,wK⟩⟩ Y Y Y yH<|RT.done<|bF.n<|aW.n<|aX<|lE h λgX oY h=>ad _ Y Y oY<|mv Y<|RT.done ?_;obtain rfl:=O h;exact aW.n ⟨(gX,DH),Mu _ Y,wR []⟩;subst Mt
 try dsimp only
 refine aW.n<|sr<|mo (s:=.row _) Y<|an (s:=.row _) Y<|dn<|lB (i:=10) (E1:=43) (n:=4) (e:=(fQ N)) (l:=Iy) hN (λ_ h=>h) Y<|bf ?_;obtain rfl:=O Cd;exact R1 Y
theorem MK{x0:Qr}{x1:List Qr}{r:List Qr}(h:qC x0 x1=some r):Pure ah 40 [.agg (eQ x0),slc 4 (List.map eQ x1)] (slc 4 (List.map eQ r)):=eT (λN=>MJ N h) (λN=>Ui)
theorem yQ{x0:Qr}{x1:List Qr}{x2:List Qr}(N:Nat){r:List Qr}(h:ja x0 x1 x2=some r):dK ah 96 N [.agg (eQ x0),slc 4 (List.map eQ x1),slc 4 (List.map eQ x2)] (nw N (slc 4 (List.map (fQ N) r))):=by
 obtain⟨⟨bk,bn⟩,⟨bt,bB⟩⟩:=x0;refine bU Tryz.func96 Y (af Y) (λdw M vs hN hvs=>?_);unfold ja at h;refine sr<|bx Y<|aI Y (bu (N:=N) (n:=4) (e:=(fQ N)))<|dn ?_;refine bR (iU (i:=3) Y [aA bk,slc 1 (List.map bh bn),aA bt,slc 1 (List.map bh bB)] (.k4 Y Y Y Y) .any 0 [(3,.sv (ref [aA bk,slc 1 (List.map bh bn),aA bt,slc 1 (List.map bh bB)]))] (λ_ _ _=>trivial) (xo.h (l:=[aA bk,slc 1 (List.map bh bn),aA bt,slc 1 (List.map bh bB)])) ⟨@FT.ptr _ _ _ _ _ 3 0 Y,aq⟩)<|sr<|mv Y<|mv Y<|RT.Fa (caps:=[_]) .none ⟨Y,aq⟩ T<|bE h λdI gC h=>?_;refine RT.bZ .none (DZ N gC) hN Y ⟨Y,Y,Y,aq⟩ T<|ag Y<|dn<|bf ?_;obtain rfl:=O h;exact R1 Y
theorem Fs{x0:Qr}{x1:List Qr}{x2:List Qr}{r:List Qr}(h:ja x0 x1 x2=some r):Pure ah 96 [.agg (eQ x0),slc 4 (List.map eQ x1),slc 4 (List.map eQ x2)] (slc 4 (List.map eQ r)):=eT (λN=>yQ N h) (λN=>Ui)
theorem Bd{x0:List Qr}{x1:List Qr}{r:Int}(h:nm x0 x1=some r):Pure ah 88 [slc 4 (List.map eQ x0),slc 4 (List.map eQ x1)] (ay r):=by
 refine bj Tryz.func88 Y (af Y) (λdw M vs hvs=>?_);unfold nm at h;refine sr<|al (cs:=[ay 0]) (by exact⟨au,aq⟩) Y<|dn<|qq<|sr<|mv Y<|mv Y<|cl (zJ x0 x1) ⟨Y,Y,aq⟩<|dn<|aY<|bE h λe3 hl3 ho3=>?_;obtain⟨m3,st3,hs3,ht3,hn3⟩:=La hl3;refine yd (zK x0 x1) (λ_ _ _ _ _=>trivial) Y (λk=>AS.cj 19 [(4,.ptr 4 0),(10,.sv (o5 165 [ref [slc 4 (List.map eQ x0)],ref [slc 4 (List.map eQ x1)]]))] [(4,⟨3,[ai 0]⟩)] []) [4] Y (λ_=>⟨Y,Y⟩) (CL Y) (λ_=>Y) (CM Y) (by(try dsimp only);(try dsimp only);exact cD id Y Y Y Y Y ⟨.ptr,.sv au,aq⟩ ⟨⟨_,Y,⟨.sv au,aq⟩⟩,aq⟩ trivial (λ_ _=>Y)) m3 (λk hk hkm D hD=>?_) (λhdn=>?_);obtain⟨y3,h,hG3,hE3⟩:=ht3 k hk hkm;dsimp only[AS.Z2,Cq]
 try dsimp only at h
 obtain⟨⟨⟨acA,acB⟩,⟨acC,acD⟩⟩,anQ,h⟩:=bS h;rw[Option.some.inj anQ];obtain⟨⟨⟨acE,acF⟩,⟨acG,acH⟩⟩,anR,h⟩:=bS h;rw[Option.some.inj anR];refine sr<|al (cs:=[aA false,ax,aA false,ax]) (by exact⟨au,aC,au,aC,aq⟩) Y<|so Y Y Y<|dn<|aX<|al (cs:=[aA false,ax,aA false,ax]) (by exact⟨au,aC,au,aC,aq⟩) Y<|so Y Y Y<|RT.done ?_;refine aW.n ⟨Y,?_⟩;dsimp only[AS.Mc];refine aY<|sr<|ld Y Y (.k4 Y Y Y Y)<|ld Y Y (.k4 Y Y Y Y)<|bE h λdH gD h=>cl (OY gD) ⟨Y,Y,aq⟩<|ag Y<|dn<|sr<|mv Y<|lE h λdX jO h=>ne _ Y Y (JV (p:=dH) (q:=0) jO)<|dn ?_;cases dX;refine cF<|bw<|bF.n ?_;obtain rfl:=O (F h);obtain⟨hm3,hq3⟩:=hG3 _ Y;exact⟨hm3,Y,Y,wR []⟩;refine cT<|sr<|mv Y<|RT.AI (cells:=[_]) .none (s:=.sv _) Y Y Y T Y<|dn<|bf<|bF.r ?_;obtain rfl:=O (V h);have he3:=hE3 _ Y;subst he3;refine⟨Y,Y,?_⟩;refine bF.r<|aW.r ?_;obtain rfl:=O ho3;exact RZ (.one Y Y Y (.nil));have hd3:=hn3 hdn;subst hd3;obtain⟨ee3,afC⟩:∃q,st3 (max x0.length x1.length)=q:=⟨_,Y⟩;rw[afC]at ho3
 try dsimp only
 refine bF.n<|aW.n<|sr<|RT.AI (cells:=[_]) .none (s:=.sv _) Y Y Y T Y<|dn<|bf ?_;obtain rfl:=O ho3;exact RZ (.one Y Y Y (.nil))
theorem Pj{x0:List Qr}{r:Int}(h:wL x0=some r):Pure ah 91 [slc 4 (List.map eQ x0)] (ay r):=by
 refine bj Tryz.func91 Y (af Y) (λdw M vs hvs=>?_);unfold wL at h;refine sr<|ag Y<|dn<|sr<|mv Y<|bE h λx4 h4 h=>cl ((Bd h4).w (args':=[_,_]) ⟨au,aC,aq⟩) ⟨Y,Y,aq⟩<|ag Y<|dn<|bf ?_;obtain rfl:=O h;exact R1 Y
theorem mQ{x0:List Qr}{x1:List Qr}{r:Bool}(h:gP x0 x1=some r):Pure ah 37 [slc 4 (List.map eQ x0),slc 4 (List.map eQ x1)] (aA r):=by
 refine bj Tryz.func37 Y (af Y) (λdw M vs hvs=>?_);unfold gP at h;refine sr<|ag Y<|dn<|sr<|mv Y<|mv Y<|bE h λx7 h7 h=>cl (Bd h7) ⟨Y,Y,aq⟩<|lE h λx8 h8 h=>eq _ Y Y (ve (p:=x7) (q:=0) h8)<|ag Y<|dn<|bf ?_;obtain rfl:=O h;exact R1 Y
theorem Cz{x0:List Qr}{x1:Int}(N:Nat){r:List Qr}(h:mP x0 x1=some r):dK ah 47 N [slc 4 (List.map eQ x0),ay x1] (nw N (slc 4 (List.map (fQ N) r))):=by
 refine bU Tryz.func47 Y (af Y) (λdw M vs hN hvs=>?_);unfold mP at h;refine sr<|aI Y (bu (N:=N) (n:=4) (e:=(fQ N)))<|dn<|qq<|sr<|mv Y<|lE h λx8 h8 h=>ls _ Y Y h8<|dn ?_;cases x8;refine fs<|sr<|mv Y<|lE (F h) λdI gC h=>RT.min .none _ Y Y T (V1 (p:=x1) (q:=65536) gC)<|bE h λfz lq h=>RT.tL (n:=4) (e:=(fQ N)) .none Y Y T Y T (by rfl) (by decide) (by exact⟨au,bu,au,bu,aq⟩) lq<|an (s:=.row _) Y<|dn<|qq<|sr<|mv Y<|lE h λeD iF h=>ln Y iF<|mo (s:=.row _) Y<|lE h λdH gD h=>lL Y Y gD<|lE h λfB lu h=>?_;refine RT.min .none _ Y Y T (V1 (p:=eD) (q:=dH) lu)<|mv Y<|dn<|bE h λe8 Kl Cd=>?_;refine bK (λ(Iz:(List Qr))=>AS.cj 30 [(5,.row 11)] [] [(11,TR 43 4 (fQ N) Iz)]) (λIz=>Iz=e8) ?_ (λIz Mt=>?_);refine aY ?_;refine bL Kl (λs8=>AS.cj 30 [(0,.sv (slc 4 (List.map eQ x0))),(5,.row 11),(16,ai fB),(17,ai s8.1)] [] [(11,TR 43 4 (fQ N) s8.2)]) (wR []) (λs8 y8 G8 h Mu Mv=>?_);obtain⟨Pg,Ph⟩:=s8
 try dsimp only
 refine sr<|lE h λeX jK h=>ls _ Y Y jK<|dn<|qq ?_;cases eX;refine cF<|bN<|aW.x<|aW.x<|bF.x<|aW.n ?_;obtain rfl:=O (F h);exact⟨Ph,Mv _ Y,wR []⟩;refine cT<|bw<|aW.n<|qq<|aY<|sr<|mv Y<|ag Y<|dn<|aX<|mo (s:=.row _) Y<|mv Y<|mv Y<|mv Y ?_;obtain⟨⟨⟨vn,vo⟩,⟨yO,yP⟩⟩,oY,h⟩:=bS (V h);refine ix Y Y oY<|RT.gy (cs:=[_,_,_,_]) .none Y T Y Y ?_;obtain⟨⟨⟨Ll,Lm⟩,⟨Ln,Lo⟩⟩,rW,h⟩:=bS h;refine RT.bZ .none (nI N rW) hN Y ⟨Y,aq⟩ T<|bE h λiO pN h=>iR Y Y Y pN<|bE h λDH yH h=>sA ⟨⟨Ll,Lm⟩,⟨Ln,Lo⟩⟩ Y Y Y yH<|RT.done<|bF.n<|aW.n<|aX<|lE h λkT uO h=>ad _ Y Y uO<|mv Y<|RT.done ?_;obtain rfl:=O h;exact aW.n ⟨(kT,DH),Mu _ Y,wR []⟩;subst Mt
 try dsimp only
 refine aW.n<|sr<|mo (s:=.row _) Y<|an (s:=.row _) Y<|dn<|lB (i:=11) (E1:=43) (n:=4) (e:=(fQ N)) (l:=Iz) hN (λ_ h=>h) Y<|bf ?_;obtain rfl:=O Cd;exact R1 Y;refine cT<|sr<|aI Y (bu (N:=N) (n:=4) (e:=(fQ N)))<|dn<|bf<|aW.r ?_;obtain rfl:=O (V h);exact R1 Y
theorem Ks{x0:List Qr}{x1:Int}{r:List Qr}(h:mP x0 x1=some r):Pure ah 47 [slc 4 (List.map eQ x0),ay x1] (slc 4 (List.map eQ r)):=eT (λN=>Cz N h) (λN=>Ui)
theorem fU{x0:List Int}{r:List Qr}(h:dR x0=some r):Pure ah 54 [slc 1 (List.map bD x0)] (slc 4 (List.map eQ r)):=by
 refine bj Tryz.func54 Y (af Y) (λdw M vs hvs=>?_);unfold dR at h;refine sr<|aI Y (aC (n:=4) (e:=eQ))<|dn<|sr<|mv Y<|lE h λx7 h7 h=>ln Y h7<|bE h λx8 h8 h=>RT.tL (n:=4) (e:=eQ) .none Y Y T Y T (by rfl) (by decide) (by exact⟨au,aC,au,aC,aq⟩) h8<|an (s:=.row _) Y<|dn<|qq<|sr<|mv Y<|lE h λdI gC h=>ln Y gC<|mv Y<|dn<|bE h λe8 Kl Cd=>?_;refine bK (λ(C4:(List Qr))=>AS.cj 23 [(3,.row 8)] [] [(8,TR 43 4 eQ C4)]) (λC4=>C4=e8) ?_ (λC4 Mt=>?_);refine aY ?_;refine bL Kl (λs8=>AS.cj 23 [(3,.row 8),(9,.sv (slc 1 (List.map bD x0))),(10,ai dI),(11,ai s8.1)] [] [(8,TR 43 4 eQ s8.2)]) (wR []) (λs8 y8 G8 h Mu Mv=>?_);obtain⟨ua,IA⟩:=s8
 try dsimp only
 refine sr<|lE h λc9 fC h=>ls _ Y Y fC<|dn<|qq ?_;cases c9;refine cF<|bN<|aW.x<|aW.x<|bF.x<|aW.n ?_;obtain rfl:=O (F h);exact⟨IA,Mv _ Y,wR []⟩;refine cT<|bw<|aW.n<|qq<|aY<|sr<|mv Y<|bE (V h) λei jx h=>ix Y Y jx<|lr Y Y<|ag Y<|ag Y<|dn<|aX<|mo (s:=.row _) Y<|mv Y<|mv Y ?_;obtain⟨⟨⟨lT,lW⟩,⟨wM,wN⟩⟩,mz,h⟩:=bS h;refine cl (nH mz) ⟨Y,aq⟩<|bE h λij oG h=>iR Y Y Y oG<|bE h λDH yH h=>sA ⟨⟨lT,lW⟩,⟨wM,wN⟩⟩ Y Y Y yH<|RT.done<|bF.n<|aW.n<|aX<|lE h λfL ke h=>ad _ Y Y ke<|mv Y<|RT.done ?_;obtain rfl:=O h;exact aW.n ⟨(fL,DH),Mu _ Y,wR []⟩;subst Mt
 try dsimp only
 refine aW.n<|sr<|mo (s:=.row _) Y<|an (s:=.row _) Y<|dn<|bR (cV (i:=8) (E1:=43) (n:=4) (e:=eQ) (l:=C4) Y)<|bf ?_;obtain rfl:=O Cd;exact R1 Y
end
section
open Go.Fw
noncomputable def yR(x0:List (List Qr))(x1:Int):Option (List Qr):=cE (λ(IC:Bool)=>(bif IC then some []else(cL x0 x1).bind λdH=>some dH)) λK3=>(some (decide ((x1:Int)<0))).bind λx6=>(bif x6 then some true else(some (x0.length:Int)).bind λdI=>(some (decide ((dI:Int)<=x1))).bind λfz=>some fz).bind λPk=>K3 Pk
noncomputable def sK(x0:List (List Qr)):Option (Int):=(some (x0.length:Int)).bind λx7=>(bX (λ(s6:Int×Int)=>match s6 with|⟨uc,aat⟩=>(show Option ((Int×Int)⊕(Int))from(some (decide ((aat:Int)<x7))).bind λx9=>(bif x9 then(cL x0 aat).bind λdI=>(some (dI.length:Int)).bind λei=>(some (max (uc:Int) ei)).bind λdH=>(some (IntKind.i64.wrap (aat+1))).bind λfB=>some (.inl (dH,fB))else some (.inr uc)))) (0,0)).bind λyS=>some yS
noncomputable def Be(x0:List (List Qr))(x1:Int)(x2:Int):Option (Qr):=(yR x0 x1).bind λdI=>cE (λ(WN:Bool)=>(bif WN then some ⟨⟨false,[]⟩,⟨false,[]⟩⟩else(cL dI x2).bind λ⟨⟨wH,wI⟩,⟨wJ,wK⟩⟩=>(dQ ⟨⟨wH,wI⟩,⟨wJ,wK⟩⟩).bind λ⟨⟨vn,vo⟩,⟨yO,yP⟩⟩=>some ⟨⟨vn,vo⟩,⟨yO,yP⟩⟩)) λK3=>(some (decide ((x2:Int)<0))).bind λc9=>(bif c9 then some true else(some (dI.length:Int)).bind λfB=>(some (decide ((fB:Int)<=x2))).bind λdX=>some dX).bind λacJ=>K3 acJ
noncomputable def lY(x0:List (List Int)):Option (List (List Qr)):=(some (x0.length:Int)).bind λx7=>(G5 24 x7 ([]:List Qr)).bind λx8=>(some (x0.length:Int)).bind λdI=>(bX (λ(s8:Int×(List (List Qr)))=>match s8 with|⟨ua,IA⟩=>(show Option ((Int×(List (List Qr)))⊕((List (List Qr))))from(some (decide ((ua:Int)<dI))).bind λc9=>(bif c9 then(cL x0 ua).bind λei=>(dR ei).bind λjl=>(kW IA ua).bind λij=>(stM IA ij jl).bind λDH=>(some (IntKind.i64.wrap (ua+1))).bind λfL=>some (.inl (fL,DH))else some (.inr IA)))) (0,x8)).bind λC4=>some C4
end
section
open Go.Fw Go.Fw.Z Go.RowKit
theorem Ry{x0:List (List Qr)}{x1:Int}{r:List Qr}(h:yR x0 x1=some r):Pure ah 139 [slc 1 (List.map (eS 4 eQ) x0),.v (.int .i64 x1)] (slc 4 (List.map eQ r)):=by
 refine bj Tryz.func139 Y (af Y) (λdw M vs hvs=>?_);unfold yR at h;refine sr<|aI Y (aC (n:=4) (e:=eQ))<|dn<|qq<|qq ?_;refine bJ h (λj3=>AS.cj 17 [(0,.sv (slc 1 (List.map (eS 4 eQ) x0))),(1,.sv (.v (.int .i64 x1))),(12,.sv (.v (.bool j3)))] [] []) (λh=>?_) (λIC h=>?_);refine aX<|mv Y<|lE h λx6 h6 h=>ls _ Y Y h6<|mv Y<|bE h λPk rY h=>?_;cases x6;refine gm Y<|gm Y<|lE (F rY) λdI gC rY=>gn Y gC<|lE rY λfz lq rY=>RT.geq (.some Y Y) _ Y Y T lq ?_;obtain rfl:=O rY;exact pF Y<|dn<|⟨fz,h,wR []⟩;obtain rfl:=O (V rY);exact ww<|ww<|ww<|ww<|pT Y<|dn<|⟨true,h,wR []⟩
 try dsimp only
 refine aW.n ?_;cases IC;refine fs<|sr<|mv Y<|mv Y<|bE (F h) λdH gD h=>ix Y Y gD<|lr Y Y<|ag Y<|dn<|bf ?_;obtain rfl:=O h;exact R1 Y;refine cT<|sr<|aI Y (aC (n:=4) (e:=eQ))<|dn<|bf<|aW.r ?_;obtain rfl:=O (V h);exact R1 Y
theorem Gc{x0:List (List Qr)}{r:Int}(h:sK x0=some r):Pure ah 84 [slc 1 (List.map (eS 4 eQ) x0)] (.v (.int .i64 r)):=by
 refine bj Tryz.func84 Y (af Y) (λdw M vs hvs=>?_);unfold sK at h;refine sr<|ag Y<|dn<|sr<|ag Y<|dn<|qq<|sr<|mv Y<|lE h λx7 h7 h=>ln Y h7<|mv Y<|dn<|bE h λe6 vA jo=>?_;refine bK (λ(yS:Int)=>AS.cj 18 [(3,.sv (.v (.int .i64 yS)))] [] []) (λyS=>yS=e6) ?_ (λyS vB=>?_);refine aY ?_;refine bL vA (λs6=>AS.cj 18 [(3,.sv (.v (.int .i64 s6.1))),(6,.sv (slc 1 (List.map (eS 4 eQ) x0))),(7,.sv (.v (.int .i64 x7))),(8,.sv (.v (.int .i64 s6.2)))] [] []) (wR []) (λs6 y6 G6 h vC qy=>?_);obtain⟨uc,aat⟩:=s6
 try dsimp only
 refine sr<|lE h λx9 h9 h=>ls _ Y Y h9<|dn<|qq ?_;cases x9;refine cF<|bN<|aW.x<|aW.x<|bF.x<|aW.n ?_;obtain rfl:=O (F h);exact⟨uc,qy _ Y,wR []⟩;refine cT<|bw<|aW.n<|qq<|aY<|sr<|bE (V h) λdI gC h=>ix Y Y gC<|lr Y Y<|ag Y<|dn<|aX<|mv Y<|mv Y<|lE h λei jx h=>ln Y jx<|lE h λdH gD h=>RT.max .none _ Y Y T (Ol (p:=uc) (q:=ei) gD)<|ag Y<|RT.done<|bF.n<|aW.n<|aX<|lE h λfB lu h=>ad _ Y Y lu<|mv Y<|RT.done ?_;obtain rfl:=O h;exact aW.n ⟨(dH,fB),vC _ Y,wR []⟩;subst vB
 try dsimp only
 refine aW.n<|sr<|mv Y<|ag Y<|dn<|bf ?_;obtain rfl:=O jo;exact R1 Y
theorem Uy{x0:List (List Qr)}{x1:Int}{x2:Int}{r:Qr}(h:Be x0 x1 x2=some r):Pure ah 103 [slc 1 (List.map (eS 4 eQ) x0),.v (.int .i64 x1),.v (.int .i64 x2)] (.agg (eQ r)):=by
 refine bj Tryz.func103 Y (af Y) (λdw M vs hvs=>?_);unfold Be at h;refine sr<|al (cs:=[.v (.bool false),slc 1 (List.map bh []),.v (.bool false),slc 1 (List.map bh [])]) (by exact⟨au,aC,au,aC,aq⟩) Y<|dn<|sr<|mv Y<|mv Y<|bE h λdI gC h=>cl (Ry gC) ⟨Y,Y,aq⟩<|ag Y<|dn<|qq<|qq ?_;refine bJ h (λj3=>AS.cj 25 [(2,.sv (.v (.int .i64 x2))),(6,.ptr 6 0),(7,.sv (slc 4 (List.map eQ dI))),(18,.sv (.v (.bool j3)))] [(6,⟨43,[.sv (.v (.bool false)),.sv (slc 1 (List.map bh [])),.sv (.v (.bool false)),.sv (slc 1 (List.map bh []))]⟩)] []) (λh=>?_) (λWN h=>?_);refine aX<|mv Y<|lE h λc9 fC h=>ls _ Y Y fC<|mv Y<|bE h λacJ rY h=>?_;cases c9;refine gm Y<|gm Y<|lE (F rY) λfB lu rY=>gn Y lu<|lE rY λdX jO rY=>RT.geq (.some Y Y) _ Y Y T jO ?_;obtain rfl:=O rY;exact pF Y<|dn<|⟨dX,h,wR []⟩;obtain rfl:=O (V rY);exact ww<|ww<|ww<|ww<|pT Y<|dn<|⟨true,h,wR []⟩
 try dsimp only
 refine aW.n ?_;cases WN;refine fs<|sr<|mv Y<|mv Y ?_;obtain⟨⟨⟨wH,wI⟩,⟨wJ,wK⟩⟩,oH,h⟩:=bS (F h);refine ix Y Y oH<|RT.gy (cs:=[_,_,_,_]) .none Y T Y Y ?_;obtain⟨⟨⟨vn,vo⟩,⟨yO,yP⟩⟩,oY,h⟩:=bS h;refine cl (xL oY) ⟨Y,aq⟩<|so Y Y Y<|dn<|bf ?_;obtain rfl:=O h;exact RZ (.agg Y Y (.cons Y (.cons Y (.cons Y (.cons Y (.nil))))) Y (.nil));refine cT<|sr<|bI (cs:=[_,_,_,_]) (cs':=[.v (.bool false),slc 1 (List.map bh []),.v (.bool false),slc 1 (List.map bh [])]) (.nil) ⟨au,aC,au,aC,aq⟩<|so Y Y Y<|dn<|bf<|aW.r ?_;obtain rfl:=O (V h);exact RZ (.agg Y Y (.cons Y (.cons Y (.cons Y (.cons Y (.nil))))) Y (.nil))
theorem Ag{x0:List (List Int)}{r:List (List Qr)}(h:lY x0=some r):Pure ah 100 [slc 1 (List.map (eS 1 bD) x0)] (slc 1 (List.map (eS 4 eQ) r)):=by
 refine bj Tryz.func100 Y (af Y) (λdw M vs hvs=>?_);unfold lY at h;refine sr<|aI Y (aC (n:=1) (e:=(eS 4 eQ)))<|dn<|sr<|mv Y<|lE h λx7 h7 h=>ln Y h7<|bE h λx8 h8 h=>RT.tL (n:=1) (e:=(eS 4 eQ)) .none Y Y T Y T (by rfl) (by decide) (by exact⟨aC,aq⟩) h8<|an (s:=.row _) Y<|dn<|qq<|sr<|mv Y<|lE h λdI gC h=>ln Y gC<|mv Y<|dn<|bE h λe8 Kl Cd=>?_;refine bK (λ(C4:(List (List Qr)))=>AS.cj 23 [(3,.row 8)] [] [(8,TR 23 1 (eS 4 eQ) C4)]) (λC4=>C4=e8) ?_ (λC4 Mt=>?_);refine aY ?_;refine bL Kl (λs8=>AS.cj 23 [(3,.row 8),(9,.sv (slc 1 (List.map (eS 1 bD) x0))),(10,.sv (.v (.int .i64 dI))),(11,.sv (.v (.int .i64 s8.1)))] [] [(8,TR 23 1 (eS 4 eQ) s8.2)]) (wR []) (λs8 y8 G8 h Mu Mv=>?_);obtain⟨ua,IA⟩:=s8
 try dsimp only
 refine sr<|lE h λc9 fC h=>ls _ Y Y fC<|dn<|qq ?_;cases c9;refine cF<|bN<|aW.x<|aW.x<|bF.x<|aW.n ?_;obtain rfl:=O (F h);exact⟨IA,Mv _ Y,wR []⟩;refine cT<|bw<|aW.n<|qq<|aY<|sr<|mv Y<|bE (V h) λei jx h=>ix Y Y jx<|lr Y Y<|ag Y<|ag Y<|dn<|aX<|mo (s:=.row _) Y<|mv Y<|mv Y<|bE h λjl mz h=>cl (fU mz) ⟨Y,aq⟩<|bE h λij oG h=>iR Y Y Y oG<|bE h λDH yH h=>sR jl Y Y Y Y yH<|RT.done<|bF.n<|aW.n<|aX<|lE h λfL ke h=>ad _ Y Y ke ?_;refine mv Y<|RT.done ?_;obtain rfl:=O h;exact aW.n ⟨(fL,DH),Mu _ Y,wR []⟩;subst Mt
 try dsimp only
 refine aW.n<|sr<|mo (s:=.row _) Y<|an (s:=.row _) Y<|dn<|bR (cV (i:=8) (E1:=23) (n:=1) (e:=(eS 4 eQ)) (l:=C4) Y)<|bf ?_;obtain rfl:=O Cd;exact R1 Y
end
end Go.Proofs.YtningmnklfpfjaaGreat
namespace Go.Fw
section
open Go.RowKit
def qe:List (Nat×Row×Value)->(Nat->Value)->Nat->Value
 |[],ν,j=>ν j
 |(k,_,v)::l,ν,j=>if j=k then v else qe l ν j
theorem ud{ν:Nat->Value}:∀{l:List (Nat×Row×Value)} {j:Nat},(∀R v,(j,R,v)∉l)->qe l ν j=ν j
 |[],_,_=>rfl
 |(k,R,v)::l,j,h=>by
  have:j≠k:=λe=>h R v (by rw[e];simp);rw[qe,if_neg this];exact ud (λR v hm=>h R v (List.mem_cons_of_mem _ hm))
theorem nc{ν:Nat->Value}:∀{l:List (Nat×Row×Value)} {j:Nat} {R:Row} {v:Value},(l.map (·.1)).Nodup->(j,R,v)∈l->qe l ν j=v
 |(k,R',v')::l,j,R,v,hn,h=>by
  rw[List.map_cons,List.nodup_cons]at hn;rcases List.mem_cons.1 h with e|e
  ·cases e;rw[qe,if_pos rfl]
  have:j≠k:=λq=>hn.1 (List.mem_map.2 ⟨(j,R,v),e,q⟩);rw[qe,if_neg this];exact nc hn.2 e
def D0(olds:List Nat)(news:List (Nat×Row×Value)):List (Nat×qO):=olds.map (λj=>(j,.dead))++news.map (λn=>(n.1,.live n.2.1))
theorem zL:∀(l k:List (Nat×qO)) (j:Nat),fy (l++k) j=match fy k j with|some R=>some R|none=>fy l j
 |[],k,j=>by cases h:fy k j<;>simp[h,fy]
 |(i,R)::l,k,j=>by
  rw[List.cons_append,fy,fy,zL l k j];cases h:fy k j<;>simp
theorem C6{l:List (Nat×qO)}{j:Nat}(h:∀R,(j,R)∉l):fy l j=none:=by
 induction l with
 |nil=>rfl
 |cons p l ih=>
  obtain⟨i,R⟩:=p;rw[fy,ih (λR hm=>h R (List.mem_cons_of_mem _ hm))];have:j≠i:=λe=>h R (by rw[e];simp);simp[this]
theorem C7{l:List (Nat×qO)}{j:Nat}{R:qO}(h:fy l j=some R):(j,R)∈l:=by
 induction l with
 |nil=>cases h
 |cons p l ih=>
  obtain⟨i,R'⟩:=p;rw[fy]at h;cases e:fy l j with
  |some R2=>rw[e]at h;cases h;exact List.mem_cons_of_mem _ (ih e)
  |none=>
   rw[e]at h;by_cases q:j=i
   ·subst q;simp at h;subst h;simp
   simp[q]at h
theorem ID{l:List (Nat×qO)}{j:Nat}{R:qO}(h:(j,R)∈l):∃R',fy l j=some R':=by
 induction l with
 |nil=>cases h
 |cons p l ih=>
  obtain⟨i,R'⟩:=p;rw[fy];rcases List.mem_cons.1 h with e|e
  ·cases e;cases q:fy l j with
   |some R2=>exact⟨R2,Y⟩
   |none=>exact⟨R,by simp⟩
  obtain⟨R2,h2⟩:=ih e;exact⟨R2,by rw[h2]⟩
section swap
variable {C:Ctx}{S:AS}
theorem bC.ajl{E:Env}{a:Act}{w w':World}(h:bC C S E a w){i:Nat}{T:TypeId}{cells cells':List AV}{us':List Value}{M':Mem}(hB:S.b i=some ⟨T,cells⟩)(olds:List Nat)(news:List (Nat×Row×Value))
  (hold:∀j∈olds,∃R,S.r j=.live R) (hnew:∀k R v,(k,R,v)∈news->S.r k=.un/\k<1000) (hnd:(news.map (·.1)).Nodup)
  (hM:E.M.le M') (hmn:∀b o x,M' b o=some x->E.M b o=some x\/w.heap.size<=b\/∃j∈olds,(E.ν j).ownBlock=some b) (hin:M'.ep w')
  (anV:w'.heap[E.β i]? =some (.cells ⟨us'⟩ T (0,0))) (hnb:∀o,M' (E.β i) o=none) (CH:eI {E with M:=M',ν:=qe news E.ν} cells' us')
  (hcb:∀x∈cells',(∀j,¬x.mb j)/\∀j,x.mr j->∃R v,(j,R,v)∈news)
  (hrow:∀k R v,(k,R,v)∈news->(∃vs:List Value,w'.ownsRow 0 R.E R.sz v R.n vs/\SV.gw M' R.cells vs)/\∀g,v.ownBlock=some g->((∃j∈olds,(E.ν j).ownBlock=some g)\/w.heap.size<=g)/\(∀o,M' g o=none)/\g≠E.β i)
  (ajm:∀k R v k' R' v' g,(k,R,v)∈news->(k',R',v')∈news->v.ownBlock=some g->v'.ownBlock=some g->k=k')
  (hos:w'.os=w.os) (yT:w'.tape=w.tape) (hout:w'.output=w.output) (hsize:w.heap.size<=w'.heap.size)
  (pV:∀k,k<w.heap.size->k≠E.β i->(∀j∈olds,(E.ν j).ownBlock≠some k)->w'.heap[k]? =w.heap[k]?):
  bC C (AS.cO (D0 olds news) (AS.iQ [(i,⟨T,cells'⟩)] S)) {E with M:=M',ν:=qe news E.ν} a w':=by
 obtain⟨Uz,anW,aau,Zw,UA,_⟩:=h.bx i _ hB;have arP:E.β i<w.heap.size:=(Array.getElem?_eq_some_iff.1 UA).1;obtain⟨n1,n2,n3,n4,n5⟩:=ic (D0 olds news) (AS.iQ [(i,⟨T,cells'⟩)] S);have tOf:(AS.cO (D0 olds news) (AS.iQ [(i,⟨T,cells'⟩)] S)).t=S.t:=n2;have Gw:∀j,(AS.cO (D0 olds news) (AS.iQ [(i,⟨T,cells'⟩)] S)).b j=if j=i then some ⟨T,cells'⟩else S.b j:=λj=>by
  rw[n3];by_cases e:j=i
  ·subst e;rw[if_pos rfl];exact AS.dO _ _ _
  rw[if_neg e];exact AS.cJ _ _ _ _ e
 have ajn:∀k R v,(k,R,v)∈news->fy (news.map (λn=>(n.1,qO.live n.2.1))) k=some (.live R):=λk R v hm=>by
  obtain⟨R',vU⟩:=ID (l:=news.map (λn=>(n.1,qO.live n.2.1))) (j:=k) (R:=.live R) (List.mem_map.2 ⟨(k,R,v),hm,Y⟩);obtain⟨⟨k2,R2,v2⟩,Vy,e⟩:=List.mem_map.1 (C7 vU);have e1:k2=k:=congrArg Prod.fst e;have e2:qO.live R2=R':=congrArg Prod.snd e;rw[e1]at Vy;have:R2=R:=by
   have key:∀(l:List (Nat×Row×Value)),(l.map (·.1)).Nodup->(k,R2,v2)∈l->(k,R,v)∈l->R2=R:=by
    intro l
    induction l with
    |nil=>intro _ h;cases h
    |cons p l ih=>
     intro hn h1 h2;rw[List.map_cons,List.nodup_cons]at hn;rcases List.mem_cons.1 h1 with e1|e1<;>rcases List.mem_cons.1 h2 with e2|e2
     ·rw[<-e1]at e2;cases e2;rfl
     ·exact absurd (List.mem_map.2 ⟨_,e2,by rw[<-e1]⟩) hn.1
     ·exact absurd (List.mem_map.2 ⟨_,e1,by rw[<-e2]⟩) hn.1
     exact ih hn.2 e1 e2
   exact key news hnd Vy hm
  rw[vU,<-e2,this]
 have ajo:∀k R v,(k,R,v)∈news->(AS.cO (D0 olds news) (AS.iQ [(i,⟨T,cells'⟩)] S)).r k=.live R:=λk R v hm=>by
  rw[pM,D0,zL,ajn k R v hm];rfl
 have ajp:∀j,(∀R v,(j,R,v)∉news)->(AS.cO (D0 olds news) (AS.iQ [(i,⟨T,cells'⟩)] S)).r j=if j∈olds then .dead else S.r j:=λj hn=>by
  have e1:fy (news.map (λn=>(n.1,qO.live n.2.1))) j=none:=C6 (λR hm=>by
   obtain⟨⟨k2,R2,v2⟩,Vy,e⟩:=List.mem_map.1 hm;cases e;exact hn R2 v2 Vy)
  rw[pM,D0,zL,e1];by_cases ho:j∈olds
  ·rw[if_pos ho];obtain⟨R',vU⟩:=ID (l:=olds.map (λj=>(j,qO.dead))) (j:=j) (R:=.dead) (List.mem_map.2 ⟨j,ho,Y⟩);obtain⟨j2,_,e⟩:=List.mem_map.1 (C7 vU);cases e;rw[vU];rfl
  rw[if_neg ho,C6 (λR hm=>by obtain⟨j2,Vy,e⟩:=List.mem_map.1 hm;cases e;exact ho Vy)];rfl
 have WO:∀j,S.r j≠ .un->∀R v,(j,R,v)∉news:=λj hj R v hm=>hj (hnew j R v hm).1;have rne:∀j,S.r j≠ .un->(AS.cO (D0 olds news) (AS.iQ [(i,⟨T,cells'⟩)] S)).r j≠ .un:=λj hj=>by
  rw[ajp j (WO j hj)];split
  ·simp
  exact hj
 have Ft:∀j∈olds,∀g,(E.ν j).ownBlock=some g->(C.w0.heap.size<=g\/C.BK g)/\(∀o,E.M g o=none)/\¬E.O g/\(∀n B,S.b n=some B->E.β n≠g)/\g<w.heap.size/\∃c e,w.heap[g]? =some (Obj.cells c e (0,0)):=λj hj g hg=>by
  obtain⟨R,hR⟩:=hold j hj;obtain⟨⟨us,q1,_⟩,q2⟩:=h.rx j R hR;obtain⟨q3,q4,q5,q6⟩:=q2 g hg;refine⟨q3,q4,q5,q6,nS h hR hg,?_⟩;rcases q1.2 with⟨q7,_⟩|⟨g',cap,cur,q7,_,q8,_⟩
  ·rw[q7]at hg;cases hg
  rw[q7]at hg;cases hg;exact⟨_,_,q8⟩
 have keep:∀x:AV,(∀j,x.mr j->S.r j≠ .un)->∀v,x.holds E v->x.holds {E with M:=M',ν:=qe news E.ν} v:=λx hx v hv=>
  AV.dJ (E:=E) (E':={E with M:=M',ν:=qe news E.ν}) hM (λ_ _=>rfl) (λj hj=>ud (WO j (hx j hj))) hv
 have noM:∀b,b<w.heap.size->(∀o,E.M b o=none)->(∀j∈olds,(E.ν j).ownBlock≠some b)->∀o,M' b o=none:=λb h1 h2 h3 o=>by
  cases e:M' b o with
  |none=>rfl
  |some v=>
   rcases hmn b o v e with q|q|⟨j,q1,q2⟩
   ·rw[h2 o]at q;cases q
   ·omega
   exact absurd q2 (h3 j q1)
 have live:∀j R,(AS.cO (D0 olds news) (AS.iQ [(i,⟨T,cells'⟩)] S)).r j=.live R->(∃v,(j,R,v)∈news)\/((∀R v,(j,R,v)∉news)/\j∉olds/\S.r j=.live R):=λj R hj=>by
  by_cases hn:∃R v,(j,R,v)∈news
  ·obtain⟨R',v,hm⟩:=hn;rw[ajo j R' v hm]at hj;cases hj;exact .inl ⟨v,hm⟩
  have hn:∀R v,(j,R,v)∉news:=λR v hm=>hn ⟨R,v,hm⟩;rw[ajp j hn]at hj;by_cases ho:j∈olds
  ·rw[if_pos ho]at hj;cases hj
  rw[if_neg ho]at hj;exact .inr ⟨hn,ho,hj⟩
 have oth:∀j R,S.r j=.live R->j∉olds->∀g,(E.ν j).ownBlock=some g->∀j'∈olds,(E.ν j').ownBlock≠some g:=λj R hR ho g hg j' hj' e=>by
  obtain⟨R',vU⟩:=hold j' hj';have:=h.iN j j' R R' hR vU g hg e;subst this;exact ho hj'
 exact{
  wf:=by
   refine⟨λs j hj=>?_,λs j hj=>?_,λj B iT x hx m hm=>?_,λj B iT x hx m hm=>?_⟩
   ·rw[tOf]at hj;obtain⟨B,iT⟩:=h.wf.tb s j hj;rw[Gw];by_cases e:j=i
    ·exact⟨_,if_pos e⟩
    exact⟨B,by rw[if_neg e];exact iT⟩
   ·rw[tOf]at hj;exact rne j (h.wf.tr s j hj)
   ·rw[Gw]at iT⊢;by_cases e:j=i
    ·rw[if_pos e]at iT;cases iT;exact absurd hm ((hcb x hx).1 m)
    rw[if_neg e]at iT;obtain⟨B2,hB2⟩:=h.wf.bb j B iT x hx m hm;by_cases e2:m=i
    ·exact⟨_,if_pos e2⟩
    exact⟨B2,by rw[if_neg e2];exact hB2⟩
   rw[Gw]at iT;by_cases e:j=i
   ·rw[if_pos e]at iT;cases iT;obtain⟨R,v,Vy⟩:=(hcb x hx).2 m hm;rw[ajo m R v Vy];simp
   rw[if_neg e]at iT;exact rne m (h.wf.br j B iT x hx m hm)
  marks:=by
   obtain⟨ds,d1,d2,d3⟩:=h.marks;refine⟨ds,d1,d2,λr hr=>?_⟩;obtain⟨p1,p2,p3⟩:=d3 r hr;refine⟨p1,p2,?_⟩;rw[pV r (Array.getElem?_eq_some_iff.1 p3).1 (λe=>by rw[e,UA]at p3;cases p3) (λj hj e=>by
    obtain⟨_,_,_,_,_,c,e2,q⟩:=Ft j hj r e;rw[q]at p3;cases p3)]
   exact p3
  size:=by rw[n1];exact h.size
  os:=hos.trans h.os
  tape:=yT.trans h.tape
  output:=hout.trans h.output
  grown:=Nat.le_trans h.grown hsize
  frame:=λk hk hown=>by
   rw[pV k (Nat.lt_of_lt_of_le hk h.grown) (λe=>by
    rcases Uz with q|q
    ·omega
    ·exact hown (C.J3 _ (by rw[e];exact q))) (λj hj e=>by
    rcases(Ft j hj k e).1 with q|q
    ·omega
    exact hown (C.J3 _ q))]
   exact h.frame k hk hown
  m0:=Mem.le_trans h.m0 hM
  gS:=λb o v e=>by
   rcases hmn b o v e with q|q|⟨j,q1,q2⟩
   ·exact h.gS b o v q
   ·exact .inr (.inl (Nat.le_trans h.grown q))
   rcases(Ft j q1 b q2).1 with q|q
   ·exact .inr (.inl q)
   exact .inr (.inr (C.J3 _ q))
  ep:=hin
  tm:=λs=>by rw[tOf];exact keep _ (h.wf.tr s) _ (h.tm s)
  bx:=λj B iT=>by
   rw[Gw]at iT;by_cases e:j=i
   ·rw[if_pos e]at iT;cases iT;subst e;exact⟨Uz,hnb,aau,us',anV,CH⟩
   rw[if_neg e]at iT;obtain⟨p1,p2,p3,vs,p4,p5⟩:=h.bx j B iT;have hlt:=(Array.getElem?_eq_some_iff.1 p4).1;have hno:∀j'∈olds,(E.ν j').ownBlock≠some (E.β j):=λj' hj' q=>(Ft j' hj' _ q).2.2.2.1 j B iT Y;refine⟨p1,noM _ hlt p2 hno,p3,vs,?_,p5.imp (λx hx v hv=>keep x (h.wf.br j B iT x hx) v hv)⟩;show w'.heap[E.β j]? =_;rw[pV _ hlt (λq=>e (h.inj j i B _ iT hB q)) hno];exact p4
  inj:=λj j' B B' h1 h2 e=>by
   have key:∀n B,(AS.cO (D0 olds news) (AS.iQ [(i,⟨T,cells'⟩)] S)).b n=some B->∃B',S.b n=some B':=λn B hn=>by
    rw[Gw]at hn;by_cases e:n=i
    ·subst e;exact⟨_,hB⟩
    rw[if_neg e]at hn;exact⟨B,hn⟩
   obtain⟨B1,p1⟩:=key j B h1;obtain⟨B2,p2⟩:=key j' B' h2;exact h.inj j j' B1 B2 p1 p2 e
  rx:=λj R hj=>by
   have boxes:∀g,(∀n B,S.b n=some B->E.β n≠g)->∀n B,(AS.cO (D0 olds news) (AS.iQ [(i,⟨T,cells'⟩)] S)).b n=some B->E.β n≠g:=λg hg n B hn=>by
    rw[Gw]at hn;by_cases e:n=i
    ·subst e;exact hg _ _ hB
    rw[if_neg e]at hn;exact hg n B hn
   rcases live j R hj with⟨v,hm⟩|⟨hn,ho,hR⟩
   ·rw[show({E with M:=M',ν:=qe news E.ν}:Env).ν j=v from nc hnd hm];obtain⟨p1,p2⟩:=hrow j R v hm;refine⟨p1,λg hg=>?_⟩;obtain⟨p3,p4,p5⟩:=p2 g hg;rcases p3 with⟨j',q1,q2⟩|p3
    ·obtain⟨o1,o2,o3,o4,_⟩:=Ft j' q1 g q2;exact⟨o1,p4,o3,boxes g o4⟩
    refine⟨.inl (Nat.le_trans h.grown p3),p4,λq=>?_,boxes g (λn B hn q=>?_)⟩
    ·have:=(h.qp g q).1;omega
    obtain⟨_,_,_,vs,q4,_⟩:=h.bx n B hn;have:=(Array.getElem?_eq_some_iff.1 q4).1;omega
   rw[show({E with M:=M',ν:=qe news E.ν}:Env).ν j=E.ν j from ud hn];obtain⟨⟨us,p1,p2⟩,p3⟩:=h.rx j R hR;refine⟨⟨us,eW p1 λg hg=>pV g (nS h hR hg) (λe=>(p3 g hg).2.2.2 i _ hB e.symm) (oth j R hR ho g hg),p2.mono hM⟩,λg hg=>?_⟩;obtain⟨p4,p5,p6,p7⟩:=p3 g hg;exact⟨p4,noM g (nS h hR hg) p5 (oth j R hR ho g hg),p6,boxes g p7⟩
  iN:=λj j' R R' h1 h2 g e1 e2=>by
   have mixed:∀j R v j' R' g,(j,R,v)∈news->S.r j'=.live R'->j'∉olds->v.ownBlock=some g->(E.ν j').ownBlock=some g->False:=λj R v j' R' g hm vU ho e1 e2=>by
    rcases((hrow j R v hm).2 g e1).1 with⟨j2,q1,q2⟩|q
    ·exact oth j' R' vU ho g e2 j2 q1 q2
    have:=nS h vU e2;omega
   rcases live j R h1 with⟨v,hm⟩|⟨hn,ho,hR⟩<;>rcases live j' R' h2 with⟨v',hm'⟩|⟨hn',ho',vU⟩
   ·rw[show({E with M:=M',ν:=qe news E.ν}:Env).ν j=v from nc hnd hm]at e1;rw[show({E with M:=M',ν:=qe news E.ν}:Env).ν j'=v' from nc hnd hm']at e2;exact ajm j R v j' R' v' g hm hm' e1 e2
   ·rw[show({E with M:=M',ν:=qe news E.ν}:Env).ν j=v from nc hnd hm]at e1;rw[show({E with M:=M',ν:=qe news E.ν}:Env).ν j'=E.ν j' from ud hn']at e2;exact(mixed j R v j' R' g hm vU ho' e1 e2).elim
   ·rw[show({E with M:=M',ν:=qe news E.ν}:Env).ν j=E.ν j from ud hn]at e1;rw[show({E with M:=M',ν:=qe news E.ν}:Env).ν j'=v' from nc hnd hm']at e2;exact(mixed j' R' v' j R g hm' hR ho e2 e1).elim
   rw[show({E with M:=M',ν:=qe news E.ν}:Env).ν j=E.ν j from ud hn]at e1;rw[show({E with M:=M',ν:=qe news E.ν}:Env).ν j'=E.ν j' from ud hn']at e2;exact h.iN j j' R R' hR vU g e1 e2
  kV:=h.kV
  gu:=λk v e=>by
   rw[show({E with M:=M',ν:=qe news E.ν}:Env).ν k=E.ν k from ud (λR v hm=>by have:=(hnew k R v hm).2;have:=C.T4 k _ e;omega)];exact h.gu k v e
  qp:=λb hb=>by
   obtain⟨p1,p2,p3⟩:=h.qp b hb;exact⟨Nat.lt_of_lt_of_le p1 hsize,noM b p1 p2 (λj hj e=>(Ft j hj b e).2.2.1 hb),p3⟩
  jj:=by
   have hj:=C.jf S.g S.go E.O E.M M' w w' h.jj hM hin (λb o v e=>by
    rcases hmn b o v e with q|q|⟨j,q1,q2⟩
    ·exact .inl q
    ·exact .inr ⟨.inl (Nat.le_trans h.grown q),λq2=>by have:=(h.qp b q2).1;omega⟩
    ·obtain⟨o1,_,o3,_⟩:=Ft j q1 b q2;exact .inr ⟨o1,o3⟩) (λb hb=>by
    have hlt:b<w.heap.size\/w.heap.size<=b:=Nat.lt_or_ge _ _;have hb':b<w.heap.size:=by
     rcases hb with⟨q,_⟩|q
     ·exact Nat.lt_of_lt_of_le q h.grown
     exact(h.qp b q).1
    refine pV b hb' (λe=>?_) (λj hj e=>?_)
    ·subst e;rcases hb with⟨q1,q2⟩|q
     ·rcases Uz with p|p
      ·omega
      exact q2 p
     exact aau q
    obtain⟨o1,_,o3,_⟩:=Ft j hj b e;rcases hb with⟨q1,q2⟩|q
    ·rcases o1 with p|p
     ·omega
     exact q2 p
    exact o3 q) hos yT hout hsize
   rw[n4,n5];exact hj}
end swap
end
section
open Go.RowKit
inductive Oc where
 |s (x:SV)
 |r (R:Row)
def xM(M:Mem)(w:World):List Oc->List Value->Prop
 |[],[]=>True
 |.s x::l,v::vs=>x.h M v/\xM M w l vs
 |.r R::l,v::vs=>(∃us:List Value,w.ownsRow 0 R.E R.sz v R.n us/\SV.gw M R.cells us)/\xM M w l vs
 |_,_=>False
def rowsOf:List Oc->List Row
 |[]=>[]
 |.s _::l=>rowsOf l
 |.r R::l=>R::rowsOf l
def cQ:List Oc->List Value->List (Row×Value)
 |.s _::l,_::vs=>cQ l vs
 |.r R::l,v::vs=>(R,v)::cQ l vs
 |_,_=>[]
def gK(c:List Oc)(us:List Value)(g:Nat):Prop:=∃p∈cQ c us,p.2.ownBlock=some g
def di:List Nat->List Oc->List AV
 |ids,.s x::l=>.sv x::di ids l
 |i::ids,.r _::l=>.row i::di ids l
 |[],.r _::l=>.sv .any::di [] l
 |_,[]=>[]
def S0(l:List (Row×Value)):Prop:=l.Pairwise λp q=>∀g,p.2.ownBlock=some g->q.2.ownBlock≠some g
structure xN (M:Mem) (w:World) (β:Nat) (T:TypeId) (c:List Oc) (us:List Value):Prop where
 hp:w.heap[β]? =some (.cells ⟨us⟩ T (0,0))
 al:xM M w c us
 nb:∀o,M β o=none
 nr:∀g,gK c us g->g≠β/\∀o,M g o=none
 ap:S0 (cQ c us)
theorem mD{M:Mem}{w:World}:∀{c:List Oc} {us:List Value},xM M w c us->(cQ c us).map (·.1)=rowsOf c
 |[],[],_=>rfl
 |.s _::l,_::vs,h=>mD (c:=l) (us:=vs) h.2
 |.r R::l,v::vs,h=>congrArg (R:: ·) (mD (c:=l) (us:=vs) h.2)
 |[],_::_,h=>h.elim
 |.s _::_,[],h=>h.elim
 |.r _::_,[],h=>h.elim
theorem qf{M:Mem}{w:World}:∀{c:List Oc} {us:List Value},xM M w c us->∀p∈cQ c us,∃vs:List Value,w.ownsRow 0 p.1.E p.1.sz p.2 p.1.n vs/\SV.gw M p.1.cells vs
 |[],[],_,p,hp=>by cases hp
 |.s _::l,_::vs,h,p,hp=>qf (c:=l) (us:=vs) h.2 p hp
 |.r R::l,v::vs,h,p,hp=>by
  rcases List.mem_cons.1 hp with rfl|hp
  ·exact h.1
  exact qf (c:=l) (us:=vs) h.2 p hp
 |[],_::_,h,_,_=>h.elim
 |.s _::_,[],h,_,_=>h.elim
 |.r _::_,[],h,_,_=>h.elim
theorem nJ{α β:Type}:∀{l:List α} {k:List β} {a:α} {b:β},(a,b)∈l.zip k->a∈l/\b∈k
 |_::_,_::_,_,_,h=>by
  rw[List.zip_cons_cons]at h;rcases List.mem_cons.1 h with e|e
  ·cases e;simp
  have:=nJ e;exact⟨List.mem_cons_of_mem _ this.1,List.mem_cons_of_mem _ this.2⟩
 |[],_,_,_,h=>by simp at h
 |_::_,[],_,_,h=>by simp at h
theorem Hi{α β:Type}:∀{l:List α} {k:List β},l.length=k.length->(l.zip k).map (·.1)=l
 |[],[],_=>rfl
 |_::l,_::k,h=>by rw[List.zip_cons_cons,List.map_cons,Hi (by simpa using h)]
 |[],_::_,h=>by simp at h
 |_::_,[],h=>by simp at h
theorem Fu:∀{ids:List Nat} {l:List (Row×Value)},ids.Nodup->S0 l->∀k R v k' R' v' g,(k,R,v)∈ids.zip l->(k',R',v')∈ids.zip l->v.ownBlock=some g->v'.ownBlock=some g->k=k'
 |i::ids,p::l,hn,ha,k,R,v,k',R',v',g,h1,h2,e1,e2=>by
  rw[List.zip_cons_cons]at h1 h2;rw[List.nodup_cons]at hn;obtain⟨ha1,ha2⟩:=List.pairwise_cons.1 ha;rcases List.mem_cons.1 h1 with q1|q1<;>rcases List.mem_cons.1 h2 with q2|q2
  ·cases q1;cases q2;rfl
  ·cases q1;exact absurd e2 (ha1 (R',v') (nJ q2).2 g e1)
  ·cases q2;exact absurd e1 (ha1 (R,v) (nJ q1).2 g e2)
  exact Fu hn.2 ha2 k R v k' R' v' g q1 q2 e1 e2
 |[],_,_,_,_,_,_,_,_,_,_,h1,_,_,_=>by simp at h1
 |_::_,[],_,_,_,_,_,_,_,_,_,h1,_,_,_=>by simp at h1
theorem wO{E:Env}{w:World}:∀{ids:List Nat} {c:List Oc} {us:List Value},ids.length=(rowsOf c).length->xM E.M w c us->(∀i p,(i,p)∈ids.zip (cQ c us)->E.ν i=p.2)->eI E (di ids c) us
 |ids,[],[],_,_,_=>by cases ids<;>exact trivial
 |ids,.s x::l,v::vs,hl,h,hv=>by
  have ih:=wO (E:=E) (w:=w) (ids:=ids) (c:=l) (us:=vs) hl h.2 hv;cases ids<;>exact⟨h.1,ih⟩
 |i::ids,.r R::l,v::vs,hl,h,hv=>by
  refine⟨(hv i (R,v) (by rw[cQ,List.zip_cons_cons];simp)).symm,wO (w:=w) (ids:=ids) (c:=l) (us:=vs) (by simpa[rowsOf]using hl) h.2 (λj p hm=>hv j p ?_)⟩;rw[cQ,List.zip_cons_cons];exact List.mem_cons_of_mem _ hm
 |[],.r R::l,_::_,hl,_,_=>by simp[rowsOf]at hl
 |_,[],_::_,_,h,_=>h.elim
 |_,.s _::_,[],_,h,_=>h.elim
 |_,.r _::_,[],_,h,_=>h.elim
theorem wP:∀{ids:List Nat} {c:List Oc} (x:AV),x∈di ids c->(∀j,¬x.mb j)/\∀j,x.mr j->j∈ids
 |ids,[],x,h=>by cases ids<;>simp[di]at h
 |ids,.s y::l,x,h=>by
  have h':x∈AV.sv y::di ids l:=by cases ids<;>exact h
  rcases List.mem_cons.1 h' with rfl|h'
  ·exact⟨λj e=>e,λj e=>e.elim⟩
  exact wP x h'
 |i::ids,.r _::l,x,h=>by
  rcases List.mem_cons.1 (show x∈AV.row i::di ids l from h)with rfl|h'
  ·exact⟨λj e=>e,λj e=>by cases e;simp⟩
  obtain⟨h1,h2⟩:=wP x h';exact⟨h1,λj e=>List.mem_cons_of_mem _ (h2 j e)⟩
 |[],.r _::l,x,h=>by
  rcases List.mem_cons.1 (show x∈AV.sv .any::di [] l from h)with rfl|h'
  ·exact⟨λj e=>e,λj e=>e.elim⟩
  exact wP x h'
def Lv(S:AS):List Nat->List Row->Prop
 |[],[]=>True
 |j::js,R::Rs=>S.r j=.live R/\Lv S js Rs
 |_,_=>False
theorem Lv.len{S:AS}:∀{js:List Nat} {Rs:List Row},Lv S js Rs->js.length=Rs.length
 |[],[],_=>rfl
 |_::_,_::_,h=>congrArg (· +1) (Lv.len h.2)
 |[],_::_,h=>h.elim
 |_::_,[],h=>h.elim
theorem Lv.mem{S:AS}:∀{js:List Nat} {Rs:List Row},Lv S js Rs->∀j∈js,∃R,S.r j=.live R
 |j::js,R::Rs,h,k,hk=>by
  rcases List.mem_cons.1 hk with rfl|hk
  ·exact⟨R,h.1⟩
  exact Lv.mem h.2 k hk
 |[],_,_,k,hk=>by cases hk
 |_::_,[],h,_,_=>h.elim
theorem Bf{C:Ctx}{S:AS}{E:Env}{a:Act}{w:World}(h:bC C S E a w):∀{js:List Nat} {c:List Oc} {us:List Value},Lv S js (rowsOf c)->eI E (di js c) us->xM E.M w c us/\cQ c us=(rowsOf c).zip (js.map E.ν)
 |[],[],[],_,_=>⟨aq,Y⟩
 |js,.s x::l,v::vs,hL,hv=>by
  have Cb:eI E (AV.sv x::di js l) (v::vs):=by cases js<;>exact hv
  obtain⟨h1,h2⟩:=Bf h (js:=js) (c:=l) (us:=vs) hL Cb.2;exact⟨⟨Cb.1,h1⟩,h2⟩
 |j::js,.r R::l,v::vs,hL,hv=>by
  have hL:S.r j=.live R/\Lv S js (rowsOf l):=hL;have Cb:eI E (AV.row j::di js l) (v::vs):=hv;obtain⟨h1,h2⟩:=Bf h (js:=js) (c:=l) (us:=vs) hL.2 Cb.2;have e:v=E.ν j:=Cb.1;obtain⟨q1,_⟩:=h.rx j R hL.1;rw[<-e]at q1;refine⟨⟨q1,h1⟩,?_⟩;rw[cQ,h2,e];rfl
 |[],.r _::_,_,hL,_=>hL.elim
 |_::_,[],_,hL,_=>hL.elim
 |[],[],_::_,_,hv=>by simp[di]at hv;exact hv.elim
 |js,.s x::l,[],_,hv=>by
  have Cb:eI E (AV.sv x::di js l) []:=by cases js<;>exact hv
  exact Cb.elim
 |_::_,.r _::_,[],_,hv=>hv.elim
theorem Bg{α β:Type}:∀{l:List α} {k:List β} {b:β},l.length=k.length->b∈k->∃a,(a,b)∈l.zip k
 |a::l,c::k,b,h,hb=>by
  rcases List.mem_cons.1 hb with rfl|hb
  ·exact⟨a,by rw[List.zip_cons_cons];simp⟩
  obtain⟨a',h'⟩:=Bg (l:=l) (k:=k) (by simpa using h) hb;exact⟨a',by rw[List.zip_cons_cons];exact List.mem_cons_of_mem _ h'⟩
 |[],[],_,_,hb=>by cases hb
 |[],_::_,_,h,_=>by simp at h
theorem yU{C:Ctx}{S:AS}{E:Env}{a:Act}{w:World}(h:bC C S E a w){i:Nat}{T:TypeId}{js:List Nat}{c:List Oc}(hB:S.b i=some ⟨T,di js c⟩)(hL:Lv S js (rowsOf c))(hn:js.Nodup):
  ∃us,xN E.M w (E.β i) T c us/\(∀g,gK c us g↔∃j∈js,(E.ν j).ownBlock=some g):=by
 obtain⟨_,q1,_,us,q2,q3⟩:=h.bx i _ hB;obtain⟨p1,p2⟩:=Bf h hL q3;have hlen:=hL.len;have L9:∀g,gK c us g↔∃j∈js,(E.ν j).ownBlock=some g:=λg=>by
  unfold gK;rw[p2];constructor
  ·rintro⟨⟨R,v⟩,hm,hg⟩;obtain⟨j,hj,rfl⟩:=List.mem_map.1 (nJ hm).2;exact⟨j,hj,hg⟩
  rintro⟨j,hj,hg⟩;obtain⟨R,hR⟩:=Bg (l:=rowsOf c) (k:=js.map E.ν) (by simp[hlen]) (List.mem_map.2 ⟨j,hj,Y⟩);exact⟨(R,E.ν j),hR,hg⟩
 refine⟨us,⟨q2,p1,q1,λg hg=>?_,?_⟩,L9⟩
 ·obtain⟨j,hj,FX⟩:=(L9 g).1 hg;obtain⟨R,hR⟩:=hL.mem j hj;obtain⟨_,q4⟩:=h.rx j R hR;obtain⟨_,q5,_,q6⟩:=q4 g FX;exact⟨λe=>q6 i _ hB e.symm,q5⟩
 rw[p2];have key:∀(js:List Nat) (Rs:List Row),Lv S js Rs->js.Nodup->S0 (Rs.zip (js.map E.ν)):=by
  intro js
  induction js with
  |nil=>intro Rs hL _;cases Rs with|nil=>exact List.Pairwise.nil|cons _ _=>exact hL.elim
  |cons j js ih=>
   intro Rs hL hn;cases Rs with
   |nil=>exact hL.elim
   |cons R Rs=>
    rw[List.nodup_cons]at hn;rw[List.map_cons,List.zip_cons_cons];refine List.pairwise_cons.2 ⟨λp hp g e1 e2=>?_,ih Rs hL.2 hn.2⟩;obtain⟨R',v'⟩:=p;obtain⟨j',hj',rfl⟩:=List.mem_map.1 (nJ hp).2;obtain⟨R2,hR2⟩:=hL.2.mem j' hj';have:=h.iN j j' R R2 hL.1 hR2 g e1 e2;subst this;exact hn.1 hj'
 exact key js _ hL hn
def wQ(M:Mem)(β:Nat):Env:=⟨λ_=>β,λ_=>.nilIface,λ_=>False,M⟩
def Fc.oy:Fc->Bool
 |.val _=>true
 |.box i=>Nat.beq i 1000
 |.row _=>false
def AV.oy:AV->Bool
 |.sv _=>true
 |.ptr i _=>Nat.beq i 1000
 |.cmp _ js=>js.all Fc.oy
 |_=>false
def Fc.rnb(i:Nat):Fc->Fc
 |.box _=>.box i
 |c=>c
def AV.rnb(i:Nat):AV->AV
 |.ptr _ o=>.ptr i o
 |.cmp t js=>.cmp t (js.map (Fc.rnb i))
 |x=>x
theorem UB{E:Env}{i:Nat}{x:AV}{v:Value}(hx:x.oy=true)(h:(x.rnb i).holds E v):x.holds (wQ E.M (E.β i)) v:=by
 cases x with
 |sv s=>exact h
 |ptr k o=>exact h
 |cmp t js=>
  obtain⟨vs,rfl,h⟩:=h;refine⟨vs,Y,?_⟩;have key:∀(l:List Fc) (vs:List Value),(l.all Fc.oy)=true->HK E (l.map (Fc.rnb i)) vs->HK (wQ E.M (E.β i)) l vs:=by
   intro l
   induction l with
   |nil=>intro vs _ h;cases vs with|nil=>trivial|cons _ _=>exact h.elim
   |cons c l ih=>
    intro vs ho h;rw[List.all_cons,Bool.and_eq_true]at ho;cases vs with
    |nil=>exact h.elim
    |cons u vs=>
     refine⟨?_,ih vs ho.2 h.2⟩;cases c with
     |val s=>exact h.1
     |box k=>exact h.1
     |row k=>exact(Bool.false_ne_true ho.1).elim
  exact key js vs hx h
 |_=>exact(Bool.false_ne_true hx).elim
theorem Hj{E:Env}{i:Nat}:∀{l:List AV} {vs:List Value},(l.all AV.oy)=true->eI E (l.map (AV.rnb i)) vs->eI (wQ E.M (E.β i)) l vs
 |[],[],_,_=>trivial
 |x::l,v::vs,h,hv=>by
  rw[List.all_cons,Bool.and_eq_true]at h;exact⟨UB h.1 hv.1,Hj h.2 hv.2⟩
 |[],_::_,_,h=>h.elim
 |_::_,[],_,h=>h.elim
def aav(P:Program)(f:FuncId)(args:List AV)(T:TypeId)(c0:List Oc)(res:SV)(c1:List Oc):Prop:=
 ∀(M:Mem) (w:World) (β:Nat) (vs us:List Value),M.ep w->xN M w β T c0 us->eI (wQ M β) args vs->
  Calls P f ⟨vs⟩ w λe w'=>∃v M' us',e=.returned v/\M.le M'/\(∀b o x,M' b o=some x->M b o=some x\/w.heap.size<=b\/gK c0 us b)/\M'.ep w'/\res.h M' v/\
   xN M' w' β T c1 us'/\(∀g,gK c1 us' g->gK c0 us g\/w.heap.size<=g)/\w'.os=w.os/\w'.tape=w.tape/\w'.output=w.output/\w.heap.size<=w'.heap.size/\
   ∀k,k<w.heap.size->k≠β->¬gK c0 us k->w'.heap[k]? =w.heap[k]?
def afE(w:World)(M:Mem)(β:Nat)(c:List Oc)(us:List Value):Ctx:={w0:=w,M0:=M,own:=λk=>k=β\/gK c us k,BK:=λk=>k=β\/gK c us k,kV:=λi=>bif Nat.beq i 1000 then some β else none,gu:=λ_=>none,ro:=none,J:=λ_ _ _ _ _=>True,J3:=λ_ h=>h,T4:=λ_ _ h=>(by cases h),jf:=λ_ _ _ _ _ _ _ _ _ _ _ _ _ _ _ _=>trivial}
theorem D1{M:Mem}{w:World}:∀{ids:List Nat} {c:List Oc} {us:List Value},xM M w c us->∀{i:Nat} {R:Row},(i,R)∈ids.zip (rowsOf c)->∃v,(i,R,v)∈ids.zip (cQ c us)
 |ids,.s x::l,v::vs,h,i,R,hm=>by
  have hm':(i,R)∈ids.zip (rowsOf l):=hm;exact D1 (c:=l) (us:=vs) h.2 hm'
 |k::ids,.r R'::l,v::vs,h,i,R,hm=>by
  have hm':(i,R)∈(k,R')::ids.zip (rowsOf l):=hm;rw[cQ,List.zip_cons_cons];rcases List.mem_cons.1 hm' with e|e
  ·cases e;exact⟨v,by simp⟩
  obtain⟨v',h'⟩:=D1 (ids:=ids) (c:=l) (us:=vs) h.2 e;exact⟨v',List.mem_cons_of_mem _ h'⟩
 |[],.r _::_,_::_,_,_,_,hm=>by simp at hm
 |_,[],[],_,_,_,hm=>by simp[rowsOf]at hm
 |_,[],_::_,h,_,_,_=>h.elim
 |_,.s _::_,[],h,_,_,_=>h.elim
 |_,.r _::_,[],h,_,_,_=>h.elim
theorem S3{n:Nat}{args:List AV}{T:TypeId}{c:List Oc}{M:Mem}{w:World}{β:Nat}{vs us:List Value}(ids:List Nat)(hM:M.ep w)(ho:xN M w β T c us)(hv:eI (wQ M β) args vs)(S4:args.all AV.oy=true)(hn:args.length<=n)(J6:ids.Nodup)(hil:ids.length=(rowsOf c).length):
  bC (afE w M β c us) (AS.JU n args [(1000,⟨T,di ids c⟩)] (ids.zip (rowsOf c))) ⟨λ_=>β,qe (ids.zip (cQ c us)) (λ_=>.nilIface),λ_=>False,M⟩ {tmps:=⟨vs⟩++Array.replicate (n-(⟨vs⟩:Array Value).size) undef,defers:=[]} w:=by
 have hl:=hv.length;have hrv:(cQ c us).length=(rowsOf c).length:=by rw[<-mD ho.al,List.length_map]
 have hnd:((ids.zip (cQ c us)).map (·.1)).Nodup:=by rw[Hi (by omega)];exact J6
 have acM:∀s,(zA args s).oy=true:=λs=>by
  rcases DB (l:=args) (k:=s)with e|e
  ·rw[e];rfl
  exact List.all_eq_true.1 S4 _ e
 have oyB:∀x:AV,x.oy=true->(∀j,x.mb j->j=1000)/\∀j,¬x.mr j:=λx hx=>by
  cases x with
  |sv s=>exact⟨λj e=>e.elim,λj e=>e⟩
  |ptr k o=>exact⟨λj e=>by cases e;exact Nat.eq_of_beq_eq_true hx,λj e=>e⟩
  |cmp t js=>
   refine⟨λj e=>?_,λj e=>?_⟩
   ·exact Nat.eq_of_beq_eq_true (List.all_eq_true.1 hx _ e)
   exact Bool.false_ne_true (List.all_eq_true.1 hx _ e)
  |_=>exact(Bool.false_ne_true hx).elim
 have hall:eI ⟨λ_=>β,qe (ids.zip (cQ c us)) (λ_=>.nilIface),λ_=>False,M⟩ args vs:=by
  refine hv.imp (λx hx v hh=>?_);exact AV.dJ (E:=wQ M β) (E':=⟨λ_=>β,qe (ids.zip (cQ c us)) (λ_=>.nilIface),λ_=>False,M⟩) (Mem.le_refl _) (λ_ _=>rfl) (λj hj=>absurd hj ((oyB x (List.all_eq_true.1 S4 x hx)).2 j)) hh
 have live:∀j R,(AS.JU n args [(1000,⟨T,di ids c⟩)] (ids.zip (rowsOf c))).r j=.live R->(j,R)∈ids.zip (rowsOf c):=λj R hj=>by
  have hj:(match JR (ids.zip (rowsOf c)) j with|some R=>qO.live R|none=>.un)=.live R:=hj;cases e:JR (ids.zip (rowsOf c)) j with
  |none=>rw[e]at hj;cases hj
  |some R'=>rw[e]at hj;cases hj;exact G2 e
 have isLive:∀j∈ids,(AS.JU n args [(1000,⟨T,di ids c⟩)] (ids.zip (rowsOf c))).r j≠ .un:=λj hj=>by
  have key:∀(ids:List Nat) (Rs:List Row),ids.length=Rs.length->j∈ids->∃R,JR (ids.zip Rs) j=some R:=by
   intro ids
   induction ids with
   |nil=>intro _ _ h;cases h
   |cons k ids ih=>
    intro Rs hl hm;cases Rs with
    |nil=>simp at hl
    |cons R Rs=>
     rw[List.zip_cons_cons,JR];by_cases e:j=k
     ·subst e;exact⟨R,by simp⟩
     rw[bV e];rcases List.mem_cons.1 hm with q|q
     ·exact absurd q e
     exact ih Rs (by simpa using hl) q
  obtain⟨R,hR⟩:=key ids _ hil hj;show(match JR (ids.zip (rowsOf c)) j with|some R=>qO.live R|none=>.un)≠ .un;rw[hR];simp
 have box:∀j B,(AS.JU n args [(1000,⟨T,di ids c⟩)] (ids.zip (rowsOf c))).b j=some B->j=1000/\B=⟨T,di ids c⟩:=λj B h=>by
  have:=xz h;simpa using this
 have VR:(AS.JU n args [(1000,⟨T,di ids c⟩)] (ids.zip (rowsOf c))).b 1000=some ⟨T,di ids c⟩:=rfl
 exact{
  wf:=by
   refine⟨λs j hj=>?_,λs j hj=>?_,λi B hB x hx j hj=>?_,λi B hB x hx j hj=>?_⟩
   ·have:=(oyB _ (acM s)).1 j hj;subst this;exact⟨_,VR⟩
   ·exact absurd hj ((oyB _ (acM s)).2 j)
   ·obtain⟨rfl,rfl⟩:=box i B hB;exact absurd hj ((wP x hx).1 j)
   obtain⟨rfl,rfl⟩:=box i B hB;exact isLive j ((wP x hx).2 j hj)
  marks:=⟨[],Y,List.nodup_nil,by simp⟩
  size:=by simp[AS.JU];omega
  os:=rfl
  tape:=rfl
  output:=rfl
  grown:=Nat.le_refl _
  frame:=λ_ _ _=>rfl
  m0:=Mem.le_refl _
  gS:=λ_ _ _ e=>.inl e
  ep:=hM
  tm:=λs=>QN hall s
  bx:=λi B h=>by
   obtain⟨rfl,rfl⟩:=box i B h;refine⟨.inr (.inl Y),ho.nb,λh=>h,us,ho.hp,?_⟩;exact wO (w:=w) hil ho.al (λj p hm=>nc (R:=p.1) (v:=p.2) hnd hm)
  inj:=λi j B1 B2 hi hj _=>by rw[(box i B1 hi).1,(box j B2 hj).1]
  rx:=λj R hj=>by
   obtain⟨v,hm⟩:=D1 ho.al (live j R hj);have hν:qe (ids.zip (cQ c us)) (λ_=>Value.nilIface) j=v:=nc hnd hm;show(∃vs:List Value,w.ownsRow 0 R.E R.sz (qe (ids.zip (cQ c us)) (λ_=>.nilIface) j) R.n vs/\SV.gw M R.cells vs)/\_;rw[hν];refine⟨qf ho.al (R,v) (nJ hm).2,λg hg=>?_⟩;have hg:v.ownBlock=some g:=by rw[<-hν];exact hg
   have hb:gK c us g:=⟨(R,v),(nJ hm).2,hg⟩;obtain⟨q1,q2⟩:=ho.nr g hb;refine⟨.inr (.inr hb),q2,λh=>h,λk B _ e=>q1 e.symm⟩
  iN:=λj j' R R' h1 h2 g e1 e2=>by
   obtain⟨v,hm⟩:=D1 ho.al (live j R h1);obtain⟨v',hm'⟩:=D1 ho.al (live j' R' h2);have hν:qe (ids.zip (cQ c us)) (λ_=>Value.nilIface) j=v:=nc hnd hm;have an0:qe (ids.zip (cQ c us)) (λ_=>Value.nilIface) j'=v':=nc hnd hm';exact Fu J6 ho.ap j R v j' R' v' g hm hm' (by rw[<-hν];exact e1) (by rw[<-an0];exact e2)
  kV:=λi b e=>by
   simp only[afE]at e;cases h:Nat.beq i 1000 with
   |false=>rw[h]at e;cases e
   |true=>rw[h]at e;cases e;rfl
  gu:=λi v e=>by cases e
  qp:=λb e=>e.elim
  jj:=trivial}
theorem IE{P:Program}{f:FuncId}{fn:Func}{code:Code}{args:List AV}{T:TypeId}{c0 c1:List Oc}{res:SV}(ids:List Nat)(hf:P.funcs[f]? =some fn)(hb:fn.body=some code)(hn:args.length<=fn.ntmps)(S4:args.all AV.oy=true)(J6:ids.Nodup)(hil:ids.length=(rowsOf c0).length)
  (h:∀(w:World) (M:Mem) (β:Nat) (us:List Value),Ok P (afE w M β c0 us) code (AS.JU fn.ntmps args [(1000,⟨T,di ids c0⟩)] (ids.zip (rowsOf c0))) (λe S=>(e=.normal\/e=.ret)/\VF P S fn.results.toList res/\∃ks:List Nat,S.b 1000=some ⟨T,di ks c1⟩/\Lv S ks (rowsOf c1)/\ks.Nodup)):aav P f args T c0 res c1:=by
 intro M w β vs us hM ho hv;refine kq Y hf hb (S3 ids hM ho hv S4 hn J6 hil) (h w M β us) ?_;rintro S' E a w' ⟨hr,ks,hB,hL,hk⟩ hh;obtain⟨v,hv,hx⟩:=(Gx.sv hr).run hh;have hβ:E.β 1000=β:=hh.kV 1000 β Y;obtain⟨us',ho',pV⟩:=yU hh hB hL hk;rw[hβ]at ho';refine⟨v,hv,v,E.M,us',Y,hh.m0,λb o x e=>?_,hh.ep,hx,ho',λg hg=>?_,hh.os,hh.tape,hh.output,hh.grown,λk hk hne hno=>hh.frame k hk (λe=>e.elim hne hno)⟩
 ·rcases hh.gS b o x e with q|q|q|q
  ·exact .inl q
  ·exact .inr (.inl q)
  ·rw[show b=β from q,ho'.nb o]at e;cases e
  exact .inr (.inr q)
 obtain⟨j,hj,FX⟩:=(pV g).1 hg;obtain⟨R,hR⟩:=hL.mem j hj;obtain⟨_,q⟩:=hh.rx j R hR;rcases(q g FX).1 with q1|q1|q1
 ·exact .inr q1
 ·exact absurd q1 (ho'.nr g hg).1
 exact .inl q1
end
section
open Go.RowKit
def Un(S:AS):List Nat->Prop
 |[]=>True
 |k::ks=>(S.r k=.un/\k<1000)/\Un S ks
theorem Un.mem{S:AS}:∀{ks:List Nat},Un S ks->∀k∈ks,S.r k=.un/\k<1000
 |k::ks,h,j,hj=>by
  rcases List.mem_cons.1 hj with rfl|hj
  ·exact h.1
  exact Un.mem h.2 j hj
 |[],_,j,hj=>by cases hj
theorem Un.congr{S S':AS}:∀{ks:List Nat},(∀k∈ks,S'.r k=S.r k)->Un S ks->Un S' ks
 |[],_,_=>trivial
 |k::ks,h,hu=>⟨by rw[h k (by simp)];exact hu.1,Un.congr (λj hj=>h j (List.mem_cons_of_mem _ hj)) hu.2⟩
theorem Lv.congr{S S':AS}:∀{js:List Nat} {Rs:List Row},(∀k∈js,S'.r k=S.r k)->Lv S js Rs->Lv S' js Rs
 |[],[],_,_=>trivial
 |j::js,R::Rs,h,hl=>⟨by rw[h j (by simp)];exact hl.1,Lv.congr (λk hk=>h k (List.mem_cons_of_mem _ hk)) hl.2⟩
 |[],_::_,_,h=>h.elim
 |_::_,[],_,h=>h.elim
def D2(js ks:List Nat)(c:List Oc):List (Nat×qO):=js.map (λj=>(j,qO.dead))++(ks.zip (rowsOf c)).map (λp=>(p.1,.live p.2))
theorem Pm:∀(ks:List Nat) (l:List (Row×Value)),(ks.zip l).map (λn=>(n.1,qO.live n.2.1))=(ks.zip (l.map (·.1))).map (λp=>(p.1,.live p.2))
 |[],_=>rfl
 |_::_,[]=>rfl
 |k::ks,p::l=>by rw[List.map_cons,List.zip_cons_cons,List.zip_cons_cons,List.map_cons,List.map_cons,Pm ks l]
theorem Pn{M:Mem}{w:World}{c:List Oc}{us:List Value}(h:xM M w c us)(js ks:List Nat):D0 js (ks.zip (cQ c us))=D2 js ks c:=by
 unfold D0 D2;rw[Pm,mD h]
section steps
variable {P:Program}{C:Ctx}{ops:Array Oper}{S:AS}{nd:Bool}{K:List Ac->AS->Prop}{rest:List Oper}{acc:List Ac}
variable {gd:Option (Nat×Bool)}{rg:List Nat}{d:Nat}{ty:TypeId}{pos:String}{aft:Array Edge}{x y z:Operand}{T U E0:TypeId}
theorem bC.aaw{E:Env}{a:Act}{w w':World}(h:bC C S E a w){i:Nat}{js ks:List Nat}{c0 c1:List Oc}{us us':List Value}{M':Mem}(hB:S.b i=some ⟨T,di js c0⟩)(hL:Lv S js (rowsOf c0))(hks:ks.Nodup)(JS:ks.length=(rowsOf c1).length)(hku:Un S ks)
  (IF:∀g,gK c0 us g↔∃j∈js,(E.ν j).ownBlock=some g) (hM:E.M.le M') (hn:∀b o x,M' b o=some x->E.M b o=some x\/w.heap.size<=b\/gK c0 us b) (hin:M'.ep w') (ho:xN M' w' (E.β i) T c1 us') (hg:∀g,gK c1 us' g->gK c0 us g\/w.heap.size<=g)
  (hos:w'.os=w.os) (yT:w'.tape=w.tape) (hout:w'.output=w.output) (hsize:w.heap.size<=w'.heap.size) (pV:∀k,k<w.heap.size->k≠E.β i->¬gK c0 us k->w'.heap[k]? =w.heap[k]?):
  ∃E':Env,E'.M=M'/\E'.β=E.β/\bC C (AS.cO (D2 js ks c1) (AS.iQ [(i,⟨T,di ks c1⟩)] S)) E' a w':=by
 have hrv:(cQ c1 us').length=(rowsOf c1).length:=by rw[<-mD ho.al,List.length_map]
 have hnd:((ks.zip (cQ c1 us')).map (·.1)).Nodup:=by rw[Hi (by omega)];exact hks
 rw[<-Pn ho.al js ks];refine⟨{E with M:=M',ν:=qe (ks.zip (cQ c1 us')) E.ν},Y,Y,h.ajl hB js (ks.zip (cQ c1 us')) (λj hj=>hL.mem j hj) (λk R v hm=>hku.mem k (nJ hm).1) hnd hM (λb o x e=>?_) hin ho.hp ho.nb ?_ (λx hx=>?_) (λk R v hm=>?_) (Fu hks ho.ap) hos yT hout hsize (λk hk hne hno=>pV k hk hne (λq=>?_))⟩
 ·rcases hn b o x e with q|q|q
  ·exact .inl q
  ·exact .inr (.inl q)
  exact .inr (.inr ((IF b).1 q))
 ·exact wO (E:={E with M:=M',ν:=qe (ks.zip (cQ c1 us')) E.ν}) (w:=w') JS ho.al (λj p hm=>nc (R:=p.1) (v:=p.2) hnd hm)
 ·obtain⟨q1,q2⟩:=wP x hx;refine⟨q1,λj hj=>?_⟩;have hj:=q2 j hj;have key:∀(ks:List Nat) (l:List (Row×Value)),ks.length=l.length->j∈ks->∃R v,(j,R,v)∈ks.zip l:=by
   intro ks
   induction ks with
   |nil=>intro _ _ h;cases h
   |cons k ks ih=>
    intro l hl hm;cases l with
    |nil=>simp at hl
    |cons p l=>
     rw[List.zip_cons_cons];rcases List.mem_cons.1 hm with q|q
     ·subst q;exact⟨p.1,p.2,by simp⟩
     obtain⟨R,v,h⟩:=ih l (by simpa using hl) q;exact⟨R,v,List.mem_cons_of_mem _ h⟩
  exact key ks _ (by omega) hj
 ·refine⟨qf ho.al (R,v) (nJ hm).2,λg NZ=>?_⟩;have hb:gK c1 us' g:=⟨(R,v),(nJ hm).2,NZ⟩;obtain⟨q1,q2⟩:=ho.nr g hb;refine⟨?_,q2,q1⟩;rcases hg g hb with q|q
  ·exact .inl ((IF g).1 q)
  exact .inr q
 obtain⟨j,hj,e⟩:=(IF k).1 q;exact hno j hj e
theorem RT.Lp(hg:Gd ops S gd rg){f:FuncId}[cZ P f]{g:Operand}{xs:Array Operand}{at_:Array TypeId}{args:List AV}{T:TypeId}{c0 c1:List Oc}{res:SV}(hp:aav P f args T c0 res c1)(i:Nat)(js ks:List Nat)(hB:S.b i=some ⟨T,di js c0⟩)(hL:Lv S js (rowsOf c0))(hjs:js.Nodup)(hks:ks.Nodup)(JS:ks.length=(rowsOf c1).length)(hku:Un S ks)
  (S4:args.all AV.oy=true) (hf:S.ev g=.sv (.v (.func (.func f) #[] #[]))) (hargs:CJ S xs.toList (args.map (AV.rnb i))) (hd:d<S.n)
  (next:RunT P C ops nd K rest (⟨rg++(bp g++xs.toList.flatMap bp),[i],js++ks,⟨some (d,.sv res),[(i,⟨T,di ks c1⟩)],D2 js ks c1⟩⟩::acc) ((AS.cO (D2 js ks c1) (AS.iQ [(i,⟨T,di ks c1⟩)] S)).set d (.sv res))):RunT P C ops nd K (⟨some d,.call ⟨.value g,xs,at_⟩,ty,pos,aft,gd⟩::rest) acc S:=by
 refine .inl ⟨_,[i],js++ks,_,?_,next⟩;rintro S' hn ht hb hr k a w L Q ho ⟨E,h⟩ hLL;refine dy (C:=C) ho (hg.wanted h (λs hs=>ht s (List.mem_append_left _ hs)) Y) ?_;have AJ:a.eval g=.func (.func f) #[] ⟨[]⟩:=by
  have h1:=h.ev g;rw[bQ (λ_ h=>List.mem_append_right _ (List.mem_append_left _ h)) ht,hf]at h1;exact h1
 have hall:=Hj S4 (CJ.vals h hargs (λs hs=>ht s (List.mem_append_right _ (List.mem_append_right _ hs))));have iT:S'.b i=some ⟨T,di js c0⟩:=by rw[hb i (by simp)];exact hB
 have hL':Lv S' js (rowsOf c0):=hL.congr (λk hk=>hr k (List.mem_append_left _ hk));have an1:Un S' ks:=hku.congr (λk hk=>hr k (List.mem_append_right _ hk));obtain⟨us,ho1,IF⟩:=yU h iT hL' hjs;refine dm (C:=C) (by intro c h;cases h) (tJ AJ) ?_;rw[List.append_nil];refine⟨λh=>by simp at h,kp ((hp E.M w (E.β i) _ us h.ep ho1 hall).mono ?_)⟩;rintro e w' ⟨v,M',us',rfl,hM,hnew,hin,hv,SW,ZE,hos,yT,hout,hsize,pV⟩;obtain⟨E',e1,e2,h1⟩:=h.aaw iT hL' hks JS an1 IF hM hnew hin SW ZE hos yT hout hsize pV;refine hLL _ _ ⟨_,h1.put (x:=.sv res) (v:=v) (by show res.h E'.M v;rw[e1];exact hv) ?_ iz⟩;rw[(ic _ _).1];show d<S'.n;omega
theorem RT.cC(hg:Gd ops S gd rg){i o:Nat}(hx:S.ev x=.ptr i o)(hd:d<S.n)
  (next:RunT P C ops nd K rest (⟨rg++bp x,[],[],⟨some (d,.ptr i o),[],[]⟩⟩::acc) (S.set d (.ptr i o))):RunT P C ops nd K (⟨some d,.nilCheck x,ty,pos,aft,gd⟩::rest) acc S:=
 RT.value hg (bp x) [] [] (.ptr i o) hd (by intro c h;cases h) (λS' ht _ _ E a w h=>by
  have hx':S'.ev x=.ptr i o:=by rw[bQ (λ_ h=>h) ht,hx]
  have h1:=h.ev x;rw[hx']at h1;have h2:a.eval x=.pointer (some ⟨E.β i,o,none⟩):=h1;exact⟨a.eval x,by simp[execOp,h2],h1,qS h.wf hx'⟩) next
class S5 (P:Program) (T:TypeId):Prop where
 u:P.underlying T=some (.pointer (P.pointee T))
theorem RT.Rz(hg:Gd ops S gd rg)[tT:S5 P T]{i o:Nat}(hx:S.ev x=.ptr i o)(hy:S.ev y=.sv (.v (.pointer none)))(hd:d<S.n)
  (next:RunT P C ops nd K rest (⟨rg++(bp x++bp y),[],[],⟨some (d,.sv (.v (.bool false))),[],[]⟩⟩::acc) (S.set d (.sv (.v (.bool false))))):RunT P C ops nd K (⟨some d,.binOp .eql T x y U,ty,pos,aft,gd⟩::rest) acc S:=
 RT.value hg (bp x++bp y) [] [] (.sv (.v (.bool false))) hd (by intro c h;cases h) (λS' ht _ _ E a w h=>by
  have h1:=h.ev x;rw[bQ (λ_ h=>List.mem_append_left _ h) ht,hx]at h1;have h2:=h.ev y;rw[bQ (λ_ h=>List.mem_append_right _ h) ht,hy]at h2;have h1:a.eval x=.pointer (some ⟨E.β i,o,none⟩):=h1;have h2:a.eval y=.pointer none:=h2;have e:=run_eql_pointer_nil (P:=P) w T (some ⟨E.β i,o,none⟩) tT.u;refine⟨.bool false,?_,Y,iz⟩;simp[execOp,h1,h2,eqGuard,e]) next
theorem RT.ML(hg:Gd ops S gd rg)[tT:S5 P T](hx:S.ev x=.sv (.v (.pointer none)))(hy:S.ev y=.sv (.v (.pointer none)))(hd:d<S.n)
  (next:RunT P C ops nd K rest (⟨rg++(bp x++bp y),[],[],⟨some (d,.sv (.v (.bool true))),[],[]⟩⟩::acc) (S.set d (.sv (.v (.bool true))))):RunT P C ops nd K (⟨some d,.binOp .eql T x y U,ty,pos,aft,gd⟩::rest) acc S:=
 RT.N5 hg (by intro c h;cases h) hx hy hd (λρ w h1 h2=>by
  have e:=run_eql_pointer_nil (P:=P) w T none tT.u;simp[execOp,h1,h2,eqGuard,e]) next
def Fc.av:Fc->AV
 |.val s=>.sv s
 |.box i=>.ptr i 0
 |.row i=>.row i
theorem RT.D3(hg:Gd ops S gd rg){i:Nat}{js:List Fc}{s:Fc}(hx:S.ev x=.cmp .Ca js)(hi:js[i]? =some s)(hd:d<S.n)
  (next:RunT P C ops nd K rest (⟨rg++bp x,[],[],⟨some (d,s.av),[],[]⟩⟩::acc) (S.set d s.av)):RunT P C ops nd K (⟨some d,.extract x i,ty,pos,aft,gd⟩::rest) acc S:=
 RT.value hg (bp x) [] [] s.av hd (by intro c h;cases h) (λS' ht _ _ E a w h=>by
  have hx':S'.ev x=.cmp .Ca js:=by rw[bQ (λ_ h=>h) ht,hx]
  have h1:=h.ev x;rw[hx']at h1;obtain⟨l1,l2⟩:=qS h.wf hx';obtain⟨vs,hv,hall⟩:=h1;have hv:a.eval x=.tuple ⟨vs⟩:=hv;obtain⟨u,hu,hs⟩:=hall.get hi;have hm:=List.mem_of_getElem? hi;refine⟨u,by simp[execOp,hv,Instr.extract,hu],?_,λj e=>?_,λj e=>?_⟩
  ·cases s<;>exact hs
  ·cases s with
   |val s=>exact e.elim
   |box k=>have e:j=k:=e;subst e;exact l1 j hm
   |row k=>exact e.elim
  cases s with
  |val s=>exact e.elim
  |box k=>exact e.elim
  |row k=>have e:j=k:=e;subst e;exact l2 j hm) next
def an2(tp:Bool)(p:Value)(rs:List Value):Value:=bif tp then .tuple ⟨p::rs⟩else p
def RA(P:Program)(f:FuncId)(args:List SV)(tp:Bool)(rest:List SV)(T:TypeId)(c:List Oc):Prop:=
 ∀(M:Mem) (w:World) (vs:List Value),M.ep w->SV.gw M args vs->
  Calls P f ⟨vs⟩ w λe w'=>∃β rs M' us,e=.returned (an2 tp (.pointer (some ⟨β,0,none⟩)) rs)/\M.le M'/\(∀b o x,M' b o=some x->M b o=some x\/w.heap.size<=b)/\M'.ep w'/\SV.gw M' rest rs/\
   xN M' w' β T c us/\w.heap.size<=β/\(∀g,gK c us g->w.heap.size<=g)/\Below w.heap.size w w'
theorem Po{w:World}{M:Mem}{S':AS}{E:Env}{a:Act}{w':World}{k:Nat}{ks:List Nat}{c:List Oc}(hB:S'.b k=some ⟨T,di ks c⟩)(hL:Lv S' ks (rowsOf c))(hk:ks.Nodup)(hh:bC (Oa w M) S' E a w'):
  ∃us,M.le E.M/\(∀b o x,E.M b o=some x->M b o=some x\/w.heap.size<=b)/\E.M.ep w'/\xN E.M w' (E.β k) T c us/\w.heap.size<=E.β k/\(∀g,gK c us g->w.heap.size<=g)/\Below w.heap.size w w':=by
 obtain⟨us,ho,pV⟩:=yU hh hB hL hk;refine⟨us,hh.m0,λb o x e=>?_,hh.ep,ho,(hh.bx k _ hB).1.elim id (λh=>h.elim),λg hg=>?_,hh.os,hh.tape,hh.output,hh.grown,λk hk=>hh.frame k hk (λh=>h)⟩
 ·rcases hh.gS b o x e with h|h|h
  ·exact .inl h
  ·exact .inr h
  exact h.elim
 obtain⟨j,hj,FX⟩:=(pV g).1 hg;obtain⟨R,hR⟩:=hL.mem j hj;exact((hh.rx j R hR).2 g FX).1.elim id (λh=>h.elim)
theorem Pp{f:FuncId}{fn:Func}{code:Code}{args:List SV}{c:List Oc}(hf:P.funcs[f]? =some fn)(hb:fn.body=some code)(hn:args.length<=fn.ntmps)
  (h:∀(w:World) (M:Mem) (vs:List Value),SV.gw M args vs->Ok P (Oa w M) code (AS.init fn.ntmps args) (λe S=>(e=.normal\/e=.ret)/\∃(k:Nat) (ks:List Nat),Gx P S fn.results.toList (.ptr k 0)/\S.b k=some ⟨T,di ks c⟩/\Lv S ks (rowsOf c)/\ks.Nodup)):RA P f args false [] T c:=by
 intro M w vs hM hvs;refine kq Y hf hb (pU hM hvs hn) (h w M vs hvs) ?_;rintro S' E a w' ⟨k,ks,hr,hB,hL,hk⟩ hh;obtain⟨v,hv,hx⟩:=hr.run hh;obtain rfl:v=.pointer (some ⟨E.β k,0,none⟩):=hx;obtain⟨us,q1,q2,q3,q4,q5,q6,q7⟩:=Po hB hL hk hh;exact⟨_,hv,E.β k,[],E.M,us,Y,q1,q2,q3,aq,q4,q5,q6,q7⟩
theorem Ge{f:FuncId}{fn:Func}{code:Code}{args:List SV}{s:SV}{c:List Oc}{t1 t2:Nat}(hf:P.funcs[f]? =some fn)(hb:fn.body=some code)(hn:args.length<=fn.ntmps)(hres:fn.results=#[.tmp t1,.tmp t2])
  (h:∀(w:World) (M:Mem) (vs:List Value),SV.gw M args vs->Ok P (Oa w M) code (AS.init fn.ntmps args) (λe S=>(e=.normal\/e=.ret)/\∃(k:Nat) (ks:List Nat),S.t t1=.ptr k 0/\S.t t2=.sv s/\S.b k=some ⟨T,di ks c⟩/\Lv S ks (rowsOf c)/\ks.Nodup)):RA P f args true [s] T c:=by
 intro M w vs hM hvs;refine kq Y hf hb (pU hM hvs hn) (h w M vs hvs) ?_;rintro S' E a w' ⟨k,ks,hr1,hr2,hB,hL,hk⟩ hh;have h1:=hh.tm t1;rw[hr1]at h1;have h1:a.tmps.getD t1 undef=.pointer (some ⟨E.β k,0,none⟩):=h1;have h2:=hh.tm t2;rw[hr2]at h2;obtain⟨us,q1,q2,q3,q4,q5,q6,q7⟩:=Po hB hL hk hh;refine⟨.tuple #[.pointer (some ⟨E.β k,0,none⟩),a.tmps.getD t2 undef],?_,E.β k,[a.tmps.getD t2 undef],E.M,us,Y,q1,q2,q3,⟨h2,aq⟩,q4,q5,q6,q7⟩;rw[Array.getD_eq_getD_getElem?]at h1;simp[results,hres,h1]
theorem bC.S6{a:Act}{w:World}:∀(ks:List Nat) (l:List (Row×Value)) {S:AS} {E:Env},bC C S E a w->ks.length=l.length->ks.Nodup->Un S ks->(∀p∈l,∃vs:List Value,w.ownsRow 0 p.1.E p.1.sz p.2 p.1.n vs/\SV.gw E.M p.1.cells vs)->S0 l->(∀p∈l,∀g,p.2.ownBlock=some g->T8 C S E g)->
  ∃E':Env,E'.M=E.M/\E'.β=E.β/\E'.O=E.O/\(∀i p,(i,p)∈ks.zip l->E'.ν i=p.2)/\(∀i,i∉ks->E'.ν i=E.ν i)/\bC C (AS.cO ((ks.zip l).map (λn=>(n.1,.live n.2.1))) S) E' a w
 |[],[],S,E,h,_,_,_,_,_,_=>⟨E,Y,Y,Y,λi p hm=>(by simp at hm),λ_ _=>Y,h⟩
 |k::ks,p::l,S,E,h,hl,hn,hu,ho,ha,hf=>by
  obtain⟨R,v⟩:=p;rw[List.nodup_cons]at hn;obtain⟨ha1,ha2⟩:=List.pairwise_cons.1 ha;obtain⟨vs,ho1,SW⟩:=ho (R,v) (by simp);have h1:=h.L8 hu.1.1 hu.1.2 [] none (.inl ⟨Y,Y⟩) (R':=R) ho1 SW (λg hg=>.inr (hf (R,v) (by simp) g hg)) (zB w none);have hu':Un (AS.cO ([]++[(k,.live R)]) S) ks:=hu.2.congr (λj hj=>by
   show(AS.xZ S k _).r j=_;exact AS.pR _ _ _ _ (λe=>hn.1 (e▸hj)))
  obtain⟨E',q1,q2,q3,q4,q5,q6⟩:=bC.S6 ks l h1 (by simpa using hl) hn.2 hu' (λp hp=>ho p (List.mem_cons_of_mem _ hp)) ha2 (λp hp g hg=>by
   obtain⟨f1,f2,f3,f4,f5⟩:=hf p (List.mem_cons_of_mem _ hp) g hg;refine⟨f1,f2,f3,f4,λj R' vU e=>?_⟩;have vU:(AS.xZ S k (.live R)).r j=.live R':=vU;by_cases ej:j=k
   ·subst ej;have e:(if j=j then v else E.ν j).ownBlock=some g:=e;rw[if_pos rfl]at e;exact ha1 p hp g e hg
   rw[AS.pR _ _ _ _ ej]at vU;have e:(if j=k then v else E.ν j).ownBlock=some g:=e;rw[if_neg ej]at e;exact f5 j R' vU e)
  refine⟨E',q1,q2,q3,λi p hm=>?_,λi hi=>?_,q6⟩
  ·rw[List.zip_cons_cons]at hm;rcases List.mem_cons.1 hm with e|e
   ·cases e;rw[q5 k hn.1];show(if k=k then v else E.ν k)=v;rw[if_pos rfl]
   exact q4 i p e
  rw[q5 i (λhm=>hi (List.mem_cons_of_mem _ hm))];show(if i=k then v else E.ν i)=E.ν i;rw[if_neg (λe=>hi (by rw[e];simp))]
 |[],_::_,_,_,_,hl,_,_,_,_,_=>by simp at hl
 |_::_,[],_,_,_,hl,_,_,_,_,_=>by simp at hl
theorem IG(i:Nat)(B:vY):∀(l:List (Nat×qO)) (S:AS),AS.cO l (S.oE i B)=(AS.cO l S).oE i B
 |[],_=>rfl
 |(j,R)::l,S=>IG i B l (S.xZ j R)
theorem Bh{α β:Type}:∀{l:List α} {k:List β} {a:α},l.length=k.length->a∈l->∃b,(a,b)∈l.zip k
 |a::l,c::k,b,h,hb=>by
  rcases List.mem_cons.1 hb with rfl|hb
  ·exact⟨c,by rw[List.zip_cons_cons];simp⟩
  obtain⟨a',h'⟩:=Bh (l:=l) (k:=k) (by simpa using h) hb;exact⟨a',by rw[List.zip_cons_cons];exact List.mem_cons_of_mem _ h'⟩
 |[],_,_,_,hb=>by cases hb
 |_::_,[],_,h,_=>by simp at h
theorem bC.newObj{E:Env}{a:Act}{w w':World}(h:bC C S E a w){i:Nat}(hi:S.b i=none)(hp:C.kV i=none){ks:List Nat}{c:List Oc}{us:List Value}{M':Mem}{β:Nat}(hks:ks.Nodup)(JS:ks.length=(rowsOf c).length)(hku:Un S ks)
  (hM:E.M.le M') (hn:∀b o x,M' b o=some x->E.M b o=some x\/w.heap.size<=b) (hin:M'.ep w') (ho:xN M' w' β T c us) (hβ:w.heap.size<=β) (hg:∀g,gK c us g->w.heap.size<=g) (Mb:Below w.heap.size w w'):
  ∃E':Env,E'.M=M'/\E'.β i=β/\bC C (AS.cO (D2 [] ks c) (AS.iQ [(i,⟨T,di ks c⟩)] S)) E' a w':=by
 have hrv:(cQ c us).length=(rowsOf c).length:=by rw[<-mD ho.al,List.length_map]
 have h0:=h.grow hM hn hin Mb;obtain⟨E1,q1,q2,q3,q4,q5,h1⟩:=bC.S6 ks (cQ c us) h0 (by omega) hks hku (qf ho.al) ho.ap (λp hp g NZ=>h.G4 (hg g ⟨p,hp,NZ⟩) (ho.nr g ⟨p,hp,NZ⟩).2);have hS1:AS.cO ((ks.zip (cQ c us)).map (λn=>(n.1,.live n.2.1))) S=AS.cO (D2 [] ks c) S:=by rw[<-Pn ho.al [] ks];rfl
 rw[hS1]at h1;obtain⟨f1,f2,f3,f4,f5⟩:=h.G4 (M':=M') hβ ho.nb;have hi1:(AS.cO (D2 [] ks c) S).b i=none:=by rw[(ic _ _).2.2.1];exact hi
 have hfree:T8 C (AS.cO (D2 [] ks c) S) E1 β:=by
  refine⟨f1,by rw[q1];exact f2,by rw[q3];exact f3,λj B hB=>?_,λj R hR e=>?_⟩
  ·rw[(ic _ _).2.2.1]at hB;rw[q2];exact f4 j B hB
  by_cases hj:j∈ks
  ·obtain⟨p,hm⟩:=Bh (l:=ks) (k:=cQ c us) (by omega) hj;rw[q4 j p hm]at e;exact(ho.nr β ⟨p,(nJ hm).2,e⟩).1 Y
  rw[pM,C6 (λR hm=>by
   obtain⟨x,hx,e⟩:=List.mem_map.1 (show(j,R)∈(ks.zip (rowsOf c)).map (λp=>(p.1,qO.live p.2))from hm);obtain⟨k,R2⟩:=x;have e:k=j:=congrArg Prod.fst e;exact hj (e▸(nJ hx).1))]at hR
  rw[q5 j hj]at e;exact f5 j R hR e
 have h2:=h1.SN hi1 hp hfree ho.hp (wO (w:=w') JS (by rw[q1];exact ho.al) q4) (λx hx=>by
  obtain⟨p1,p2⟩:=wP x hx;refine⟨λj e=>absurd e (p1 j),λj e=>?_⟩;obtain⟨R,hm⟩:=Bh (l:=ks) (k:=rowsOf c) JS (p2 j e);obtain⟨R',vU⟩:=ID (l:=D2 [] ks c) (j:=j) (R:=.live R) (List.mem_map.2 ⟨(j,R),hm,Y⟩);rw[pM,vU];obtain⟨x,hx,e⟩:=List.mem_map.1 (show(j,R')∈(ks.zip (rowsOf c)).map (λp=>(p.1,qO.live p.2))from C7 vU);rw[<-show qO.live x.2=R' from congrArg Prod.snd e];simp)
 refine⟨{E1 with β:=λj=>if j=i then β else E1.β j},q1,?_,?_⟩
 rotate_left 1
 ·rw[show AS.iQ [(i,(⟨T,di ks c⟩:vY))] S=S.oE i ⟨T,di ks c⟩from Y,IG];exact h2
 show(if i=i then β else E1.β i)=β;rw[if_pos rfl]
theorem RT.MM(hg:Gd ops S gd rg){f:FuncId}[cZ P f]{g:Operand}{xs:Array Operand}{at_:Array TypeId}{args:List SV}{T:TypeId}{c:List Oc}(hp:RA P f args false [] T c)(ks:List Nat)(hks:ks.Nodup)(JS:ks.length=(rowsOf c).length)(hku:Un S ks)(hf:S.ev g=.sv (.v (.func (.func f) #[] #[])))(hargs:kf S xs.toList args)(hd:d<S.n)(hdb:S.b d=none)(QU:C.kV d=none)
  (next:RunT P C ops nd K rest (⟨rg++(bp g++xs.toList.flatMap bp),[d],ks,⟨some (d,.ptr d 0),[(d,⟨T,di ks c⟩)],D2 [] ks c⟩⟩::acc) ((AS.cO (D2 [] ks c) (AS.iQ [(d,⟨T,di ks c⟩)] S)).set d (.ptr d 0))):RunT P C ops nd K (⟨some d,.call ⟨.value g,xs,at_⟩,ty,pos,aft,gd⟩::rest) acc S:=by
 refine .inl ⟨_,[d],ks,_,?_,next⟩;rintro S' hn ht hb hr i a w L Q ho ⟨E,h⟩ hL;refine dy (C:=C) ho (hg.wanted h (λs hs=>ht s (List.mem_append_left _ hs)) Y) ?_;have AJ:a.eval g=.func (.func f) #[] ⟨[]⟩:=by
  have h1:=h.ev g;rw[bQ (λ_ h=>List.mem_append_right _ (List.mem_append_left _ h)) ht,hf]at h1;exact h1
 have hall:=kf.vals h hargs (λs hs=>ht s (List.mem_append_right _ (List.mem_append_right _ hs)));have hdn:S'.b d=none:=by rw[hb d (by simp)];exact hdb
 refine dm (C:=C) (by intro c h;cases h) (tJ AJ) ?_;rw[List.append_nil];refine⟨λh=>by simp at h,kp ((hp E.M w _ h.ep hall).mono ?_)⟩;rintro e w' ⟨β,rs,M',us,rfl,hM,hnew,hin,hrs,SW,hβ,ZE,Mb⟩;obtain⟨E',e1,e2,h1⟩:=h.newObj hdn QU hks JS (hku.congr hr) hM hnew hin SW hβ ZE Mb;refine hL _ _ ⟨_,h1.put (x:=.ptr d 0) (v:=.pointer (some ⟨β,0,none⟩)) (by show _=Value.pointer (some ⟨E'.β d,0,none⟩);rw[e2]) ?_ ⟨λj e=>?_,λj e=>e.elim⟩⟩
 ·rw[(ic _ _).1];show d<S'.n;omega
 have e:j=d:=e;subst e;rw[(ic _ _).2.2.1];exact⟨_,AS.dO _ _ _⟩
theorem RT.S7(hg:Gd ops S gd rg){f:FuncId}[cZ P f]{g:Operand}{xs:Array Operand}{at_:Array TypeId}{args:List SV}{T:TypeId}{c:List Oc}{s:SV}(hp:RA P f args true [s] T c)(ks:List Nat)(hks:ks.Nodup)(JS:ks.length=(rowsOf c).length)(hku:Un S ks)(hf:S.ev g=.sv (.v (.func (.func f) #[] #[])))(hargs:kf S xs.toList args)(hd:d<S.n)(hdb:S.b d=none)(QU:C.kV d=none)
  (next:RunT P C ops nd K rest (⟨rg++(bp g++xs.toList.flatMap bp),[d],ks,⟨some (d,.cmp .Ca [.box d,.val s]),[(d,⟨T,di ks c⟩)],D2 [] ks c⟩⟩::acc) ((AS.cO (D2 [] ks c) (AS.iQ [(d,⟨T,di ks c⟩)] S)).set d (.cmp .Ca [.box d,.val s]))):RunT P C ops nd K (⟨some d,.call ⟨.value g,xs,at_⟩,ty,pos,aft,gd⟩::rest) acc S:=by
 refine .inl ⟨_,[d],ks,_,?_,next⟩;rintro S' hn ht hb hr i a w L Q ho ⟨E,h⟩ hL;refine dy (C:=C) ho (hg.wanted h (λs hs=>ht s (List.mem_append_left _ hs)) Y) ?_;have AJ:a.eval g=.func (.func f) #[] ⟨[]⟩:=by
  have h1:=h.ev g;rw[bQ (λ_ h=>List.mem_append_right _ (List.mem_append_left _ h)) ht,hf]at h1;exact h1
 have hall:=kf.vals h hargs (λs hs=>ht s (List.mem_append_right _ (List.mem_append_right _ hs)));have hdn:S'.b d=none:=by rw[hb d (by simp)];exact hdb
 refine dm (C:=C) (by intro c h;cases h) (tJ AJ) ?_;rw[List.append_nil];refine⟨λh=>by simp at h,kp ((hp E.M w _ h.ep hall).mono ?_)⟩;rintro e w' ⟨β,rs,M',us,rfl,hM,hnew,hin,hrs,SW,hβ,ZE,Mb⟩;obtain⟨E',e1,e2,h1⟩:=h.newObj hdn QU hks JS (hku.congr hr) hM hnew hin SW hβ ZE Mb
 match rs,hrs with
 |[r],hrs=>
  refine hL _ _ ⟨_,h1.put (x:=.cmp .Ca [.box d,.val s]) (v:=.tuple #[.pointer (some ⟨β,0,none⟩),r]) ⟨[.pointer (some ⟨β,0,none⟩),r],Y,by show _=Value.pointer (some ⟨E'.β d,0,none⟩);rw[e2],by show s.h E'.M r;rw[e1];exact hrs.1,aq⟩ ?_ ⟨λj e=>?_,λj e=>?_⟩⟩
  ·rw[(ic _ _).1];show d<S'.n;omega
  ·have e:j=d:=by simpa[AV.mb]using e
   subst e;rw[(ic _ _).2.2.1];exact⟨_,AS.dO _ _ _⟩
  simp[AV.mr]at e
end steps
end
section
open Go.RowKit
def II(P:Program)(f:FuncId)(args:List AV)(T:TypeId)(c:List Oc)(res:SV):Prop:=
 ∀(M:Mem) (w:World) (β:Nat) (vs us:List Value),M.ep w->xN M w β T c us->eI (wQ M β) args vs->
  Calls P f ⟨vs⟩ w λe w'=>∃v M',e=.returned v/\M.le M'/\(∀b o x,M' b o=some x->M b o=some x\/w.heap.size<=b)/\M'.ep w'/\res.h M' v/\
   xN M' w' β T c us/\w'.os=w.os/\w'.tape=w.tape/\w'.output=w.output/\w.heap.size<=w'.heap.size/\∀k,k<w.heap.size->k≠β->¬gK c us k->w'.heap[k]? =w.heap[k]?
def lkV:List (Nat×Row×Value)->Nat->Option Value
 |[],_=>none
 |(k,_,v)::l,j=>if j=k then some v else lkV l j
theorem MN:∀{l:List (Nat×Row×Value)} {j:Nat} {v:Value},lkV l j=some v->∃R,(j,R,v)∈l
 |(k,R,u)::l,j,v,h=>by
  rw[lkV]at h;by_cases e:j=k
  ·rw[if_pos e]at h;cases h;subst e;exact⟨R,by simp⟩
  rw[if_neg e]at h;obtain⟨R',hm⟩:=MN h;exact⟨R',List.mem_cons_of_mem _ hm⟩
 |[],_,_,h=>by cases h
theorem WQ:∀{l:List (Nat×Row×Value)} {j:Nat} {R:Row} {v:Value},(l.map (·.1)).Nodup->(j,R,v)∈l->lkV l j=some v
 |(k,R',v')::l,j,R,v,hn,h=>by
  rw[List.map_cons,List.nodup_cons]at hn;rw[lkV];rcases List.mem_cons.1 h with e|e
  ·cases e;rw[if_pos rfl]
  have:j≠k:=λq=>hn.1 (List.mem_map.2 ⟨(j,R,v),e,q⟩);rw[if_neg this];exact WQ hn.2 e
theorem afG{ids:List Nat}(h:(ids.all λi=>Nat.ble 1000 i)=true):∀i∈ids,1000<=i:=λi hi=>af (List.all_eq_true.1 h i hi)
def aaz(w:World)(M:Mem)(β:Nat)(c:List Oc)(us:List Value)(ids:List Nat)(J6:(ids.all λi=>Nat.ble 1000 i)=true):Ctx:={w0:=w,M0:=M,own:=λk=>k=β\/gK c us k,BK:=λk=>k=β\/gK c us k,kV:=λi=>bif Nat.beq i 1000 then some β else none,gu:=lkV (ids.zip (cQ c us)),ro:=none,J:=λ_ _ _ _ _=>True,J3:=λ_ h=>h,T4:=λ_ _ h=>(by obtain⟨R,hm⟩:=MN h;exact afG J6 _ (nJ hm).1),jf:=λ_ _ _ _ _ _ _ _ _ _ _ _ _ _ _ _=>trivial}
def Oc.cst:Oc->Prop
 |.s x=>∃v,x=.v v
 |.r _=>True
def MO:List Oc->Prop
 |[]=>True
 |c::l=>c.cst/\MO l
theorem MP{M M':Mem}{w w':World}:∀{c:List Oc} {us us':List Value},MO c->xM M w c us->xM M' w' c us'->cQ c us=cQ c us'->us=us'
 |[],[],[],_,_,_,_=>rfl
 |.s x::l,v::vs,v'::vs',hc,h,h',e=>by
  obtain⟨y,rfl⟩:=hc.1;have e1:v=y:=h.1;have e2:v'=y:=h'.1;rw[e1,e2,MP hc.2 h.2 h'.2 e]
 |.r R::l,v::vs,v'::vs',hc,h,h',e=>by
  rw[cQ,cQ]at e;have e1:=(List.cons.inj e).1;have e2:=(List.cons.inj e).2;rw[MP hc.2 h.2 h'.2 e2];rw[(Prod.mk.inj e1).2]
 |[],[],_::_,_,_,h,_=>h.elim
 |[],_::_,_,_,h,_,_=>h.elim
 |.s _::_,[],_,_,h,_,_=>h.elim
 |.r _::_,[],_,_,h,_,_=>h.elim
 |.s _::_,_::_,[],_,_,h,_=>h.elim
 |.r _::_,_::_,[],_,_,h,_=>h.elim
section steps
variable {P:Program}{C:Ctx}{ops:Array Oper}{S:AS}{nd:Bool}{K:List Ac->AS->Prop}{rest:List Oper}{acc:List Ac}
variable {gd:Option (Nat×Bool)}{rg:List Nat}{d:Nat}{ty:TypeId}{pos:String}{aft:Array Edge}{x y z:Operand}{T U E0:TypeId}
theorem bC.S8{E:Env}{a:Act}{w w':World}(h:bC C S E a w){i:Nat}{js:List Nat}{c:List Oc}{us:List Value}{M':Mem}(hB:S.b i=some ⟨T,di js c⟩)(hL:Lv S js (rowsOf c))(hjs:js.Nodup)(G0:xN E.M w (E.β i) T c us)
  (hM:E.M.le M') (hn:∀b o x,M' b o=some x->E.M b o=some x\/w.heap.size<=b) (hin:M'.ep w') (ho:xN M' w' (E.β i) T c us)
  (hos:w'.os=w.os) (yT:w'.tape=w.tape) (hout:w'.output=w.output) (hsize:w.heap.size<=w'.heap.size) (pV:∀k,k<w.heap.size->k≠E.β i->¬gK c us k->w'.heap[k]? =w.heap[k]?):
  bC C S {E with M:=M'} a w':=by
 obtain⟨Uz,anW,aau,us0,UA,ajt⟩:=h.bx i _ hB;obtain rfl:us0=us:=by
  rw[G0.hp]at UA;have:=Option.some.inj UA;injection this with e
  injection e with e
  exact e.symm
 obtain⟨_,hrv⟩:=Bf h hL ajt;have hlen:=hL.len;have L9:∀g,gK c us0 g↔∃j∈js,(E.ν j).ownBlock=some g:=λg=>by
  unfold gK;rw[hrv];constructor
  ·rintro⟨⟨R,v⟩,hm,hg⟩;obtain⟨j,hj,rfl⟩:=List.mem_map.1 (nJ hm).2;exact⟨j,hj,hg⟩
  rintro⟨j,hj,hg⟩;obtain⟨R,hR⟩:=Bg (l:=rowsOf c) (k:=js.map E.ν) (by simp[hlen]) (List.mem_map.2 ⟨j,hj,Y⟩);exact⟨(R,E.ν j),hR,hg⟩
 have Ft:∀g,gK c us0 g->(C.w0.heap.size<=g\/C.BK g)/\¬E.O g/\(∀n B,S.b n=some B->E.β n≠g)/\∃c e,w.heap[g]? =some (Obj.cells c e (0,0)):=λg hg=>by
  obtain⟨j,hj,FX⟩:=(L9 g).1 hg;obtain⟨R,hR⟩:=hL.mem j hj;obtain⟨⟨us,q1,_⟩,q2⟩:=h.rx j R hR;obtain⟨q3,q4,q5,q6⟩:=q2 g FX;refine⟨q3,q5,q6,?_⟩;rcases q1.2 with⟨q7,_⟩|⟨g',cap,cur,q7,_,q8,_⟩
  ·rw[q7]at FX;cases FX
  rw[q7]at FX;cases FX;exact⟨_,_,q8⟩
 have keep:∀x:AV,∀v,x.holds E v->x.holds {E with M:=M'} v:=λx v hv=>AV.dJ (E:=E) (E':={E with M:=M'}) hM (λ_ _=>rfl) (λ_ _=>rfl) hv;have noM:∀b,b<w.heap.size->(∀o,E.M b o=none)->∀o,M' b o=none:=λb h1 h2 o=>by
  cases e:M' b o with
  |none=>rfl
  |some v=>
   rcases hn b o v e with q|q
   ·rw[h2 o]at q;cases q
   omega
 exact{
  wf:=h.wf
  marks:=by
   obtain⟨ds,d1,d2,d3⟩:=h.marks;refine⟨ds,d1,d2,λr hr=>?_⟩;obtain⟨p1,p2,p3⟩:=d3 r hr;refine⟨p1,p2,?_⟩;rw[pV r (Array.getElem?_eq_some_iff.1 p3).1 (λe=>by rw[e,UA]at p3;cases p3) (λe=>by
    obtain⟨_,_,_,c,e2,q⟩:=Ft r e;rw[q]at p3;cases p3)]
   exact p3
  size:=h.size
  os:=hos.trans h.os
  tape:=yT.trans h.tape
  output:=hout.trans h.output
  grown:=Nat.le_trans h.grown hsize
  frame:=λk hk hown=>by
   rw[pV k (Nat.lt_of_lt_of_le hk h.grown) (λe=>by
    rcases Uz with q|q
    ·omega
    ·exact hown (C.J3 _ (by rw[e];exact q))) (λe=>by
    rcases(Ft k e).1 with q|q
    ·omega
    exact hown (C.J3 _ q))]
   exact h.frame k hk hown
  m0:=Mem.le_trans h.m0 hM
  gS:=λb o v e=>by
   rcases hn b o v e with q|q
   ·exact h.gS b o v q
   exact .inr (.inl (Nat.le_trans h.grown q))
  ep:=hin
  tm:=λs=>keep _ _ (h.tm s)
  bx:=λj B iT=>by
   obtain⟨p1,p2,p3,vs,p4,p5⟩:=h.bx j B iT;have hlt:=(Array.getElem?_eq_some_iff.1 p4).1;by_cases e:j=i
   ·subst e;rw[hB]at iT;cases iT;refine⟨p1,ho.nb,p3,us0,ho.hp,?_⟩;exact ajt.imp (λx _ v hv=>keep x v hv)
   refine⟨p1,noM _ hlt p2,p3,vs,?_,p5.imp (λx _ v hv=>keep x v hv)⟩;show w'.heap[E.β j]? =_;rw[pV _ hlt (λq=>e (h.inj j i B _ iT hB q)) (λq=>(Ft _ q).2.2.1 j B iT Y)];exact p4
  inj:=h.inj
  rx:=λj R hR=>by
   obtain⟨⟨vs,p1,p2⟩,p3⟩:=h.rx j R hR;by_cases hj:j∈js
   ·have hz:(R,E.ν j)∈cQ c us0:=by
     rw[hrv];have key:∀(js:List Nat) (Rs:List Row),Lv S js Rs->j∈js->(R,E.ν j)∈Rs.zip (js.map E.ν):=by
      intro js
      induction js with
      |nil=>intro _ _ h;cases h
      |cons k js ih=>
       intro Rs hl hm;cases Rs with
       |nil=>exact hl.elim
       |cons R' Rs=>
        rw[List.map_cons,List.zip_cons_cons];rcases List.mem_cons.1 hm with q|q
        ·subst q;have:=hl.1;rw[hR]at this;cases this;simp
        exact List.mem_cons_of_mem _ (ih Rs hl.2 q)
     exact key js _ hL hj
    refine⟨qf ho.al _ hz,λg hg=>?_⟩;obtain⟨p4,p5,p6,p7⟩:=p3 g hg;exact⟨p4,(ho.nr g ⟨_,hz,hg⟩).2,p6,p7⟩
   have oth:∀g,(E.ν j).ownBlock=some g->¬gK c us0 g:=λg hg q=>by
    obtain⟨j',hj',e⟩:=(L9 g).1 q;obtain⟨R',vU⟩:=hL.mem j' hj';have:=h.iN j j' R R' hR vU g hg e;subst this;exact hj hj'
   refine⟨⟨vs,eW p1 λg hg=>pV g (nS h hR hg) (λe=>(p3 g hg).2.2.2 i _ hB e.symm) (oth g hg),p2.mono hM⟩,λg hg=>?_⟩;obtain⟨p4,p5,p6,p7⟩:=p3 g hg;exact⟨p4,noM g (nS h hR hg) p5,p6,p7⟩
  iN:=h.iN
  kV:=h.kV
  gu:=h.gu
  qp:=λb hb=>by
   obtain⟨p1,p2,p3⟩:=h.qp b hb;exact⟨Nat.lt_of_lt_of_le p1 hsize,noM b p1 p2,p3⟩
  jj:=C.jf S.g S.go E.O E.M M' w w' h.jj hM hin (λb o v e=>by
    rcases hn b o v e with q|q
    ·exact .inl q
    ·exact .inr ⟨.inl (Nat.le_trans h.grown q),λq2=>by have:=(h.qp b q2).1;omega⟩) (λb hb=>by
    have hb':b<w.heap.size:=by
     rcases hb with⟨q,_⟩|q
     ·exact Nat.lt_of_lt_of_le q h.grown
     exact(h.qp b q).1
    refine pV b hb' (λe=>?_) (λe=>?_)
    ·subst e;rcases hb with⟨q1,q2⟩|q
     ·rcases Uz with p|p
      ·omega
      exact q2 p
     exact aau q
    obtain⟨o1,o3,_⟩:=Ft b e;rcases hb with⟨q1,q2⟩|q
    ·rcases o1 with p|p
     ·omega
     exact q2 p
    exact o3 q) hos yT hout hsize}
theorem RT.sL(hg:Gd ops S gd rg){f:FuncId}[cZ P f]{g:Operand}{xs:Array Operand}{at_:Array TypeId}{args:List AV}{T:TypeId}{c:List Oc}{res:SV}(hp:II P f args T c res)(i:Nat)(js:List Nat)(hB:S.b i=some ⟨T,di js c⟩)(hL:Lv S js (rowsOf c))(hjs:js.Nodup)
  (S4:args.all AV.oy=true) (hf:S.ev g=.sv (.v (.func (.func f) #[] #[]))) (hargs:CJ S xs.toList (args.map (AV.rnb i))) (hd:d<S.n)
  (next:RunT P C ops nd K rest (⟨rg++(bp g++xs.toList.flatMap bp),[i],js,⟨some (d,.sv res),[],[]⟩⟩::acc) (S.set d (.sv res))):RunT P C ops nd K (⟨some d,.call ⟨.value g,xs,at_⟩,ty,pos,aft,gd⟩::rest) acc S:=by
 refine .inl ⟨_,[i],js,_,?_,next⟩;rintro S' hn ht hb hr k a w L Q ho ⟨E,h⟩ hLL;refine dy (C:=C) ho (hg.wanted h (λs hs=>ht s (List.mem_append_left _ hs)) Y) ?_;have AJ:a.eval g=.func (.func f) #[] ⟨[]⟩:=by
  have h1:=h.ev g;rw[bQ (λ_ h=>List.mem_append_right _ (List.mem_append_left _ h)) ht,hf]at h1;exact h1
 have hall:=Hj S4 (CJ.vals h hargs (λs hs=>ht s (List.mem_append_right _ (List.mem_append_right _ hs))));have iT:S'.b i=some ⟨T,di js c⟩:=by rw[hb i (by simp)];exact hB
 have hL':Lv S' js (rowsOf c):=hL.congr (λk hk=>hr k hk);obtain⟨us,ho1,IF⟩:=yU h iT hL' hjs;refine dm (C:=C) (by intro c h;cases h) (tJ AJ) ?_;rw[List.append_nil];refine⟨λh=>by simp at h,kp ((hp E.M w (E.β i) _ us h.ep ho1 hall).mono ?_)⟩;rintro e w' ⟨v,M',rfl,hM,hnew,hin,hv,SW,hos,yT,hout,hsize,pV⟩;have h1:=h.S8 iT hL' hjs ho1 hM hnew hin SW hos yT hout hsize pV;exact hLL _ _ ⟨_,h1.put (x:=.sv res) (v:=v) hv (by show d<S'.n;omega) iz⟩
end steps
end
end Go.Fw
namespace Go.Proofs.YtningmnklfpfjaaGreat
section
open Go.Fw
noncomputable def ry(x0:Lr):Option (Sz):=match x0 with|⟨bk,bn,bt,bB⟩=>(some (bn.length:Int)).bind λx7=>(some (bt.length:Int)).bind λdI=>(some (bB.length:Int)).bind λeD=>some ⟨bk,x7,dI,eD⟩
noncomputable def kZ(x0:Lr):Option (Bool):=match x0 with|⟨bk,bn,bt,bB⟩=>(ry ⟨bk,bn,bt,bB⟩).bind λ⟨A8,C0,Fq,GJ⟩=>cE (λ(WR:Bool)=>(bif WR then some false else cE (λ(RB:Bool)=>(bif RB then some false else cE (λ(acP:Bool)=>some acP) λK16=>(sK bn).bind λpg=>(some (decide ((pg:Int)<=A8))).bind λvW=>(bif vW then(sK bt).bind λvf=>(some (decide ((vf:Int)<=A8))).bind λvg=>some vg else some false).bind λWS=>K16 WS)) λGC=>(some (decide ((128:Int)<Fq))).bind λjH=>(bif jH then some true else(some (decide ((GJ:Int)≠Fq))).bind λiP=>some iP).bind λWT=>GC WT)) λWU=>(some (decide ((A8:Int)<0))).bind λx8=>(bif x8 then some true else(some (decide ((64:Int)<A8))).bind λc9=>some c9).bind λWV=>(bif WV then some true else(some (decide ((C0:Int)<1))).bind λdX=>some dX).bind λafH=>(bif afH then some true else(some (decide ((4:Int)<C0))).bind λiA=>some iA).bind λafI=>WU afI
end
section
open Go.Fw Go.Fw.Z Go.RowKit
theorem Kt{x0:Lr}{r:Sz}(h:ry x0=some r):Pure ah 83 [.agg (KX x0)] (.agg (eSz r)):=by
 obtain⟨bk,bn,bt,bB⟩:=x0;refine bj Tryz.func83 Y (af Y) (λdw M vs hvs=>?_);unfold ry at h;refine sr<|bx Y<|al (cs:=[ay 0,ay 0,ay 0,ay 0]) (by exact⟨au,au,au,au,aq⟩) Y<|dn<|sr<|fa Y Y<|lV Y Y Y<|fa Y Y<|lV Y Y Y<|lE h λx7 h7 h=>ln Y h7<|fa Y Y<|lV Y Y Y<|lE h λdI gC h=>ln Y gC<|fa Y Y ?_;refine lV Y Y Y<|lE h λeD iF h=>ln Y iF<|bI (cs:=[_,_,_,_]) (cs':=[ay bk,ay x7,ay dI,ay eD]) (.one Y (.one Y (.one Y (.one Y (.nil))))) ⟨au,au,au,au,aq⟩<|so Y Y Y<|dn<|bf ?_;obtain rfl:=O h;exact RZ (.agg Y Y (.k4 Y Y Y Y) Y (.nil))
theorem xO{x0:Lr}{r:Bool}(h:kZ x0=some r):Pure ah 34 [.agg (KX x0)] (aA r):=by
 obtain⟨bk,bn,bt,bB⟩:=x0;refine bj Tryz.func34 Y (af Y) (λdw M vs hvs=>?_);unfold kZ at h;refine sr<|bx Y<|ag Y<|dn<|sr<|ld Y Y (.k4 Y Y Y Y) ?_;obtain⟨⟨A8,C0,Fq,GJ⟩,h5,h⟩:=bS h;refine cl (Kt h5) ⟨Y,aq⟩<|al (cs:=[ay 0,ay 0,ay 0,ay 0]) (by exact⟨au,au,au,au,aq⟩) Y<|so Y Y Y<|dn<|qq<|qq ?_;refine bJ h (λS9=>AS.cj 48 [(1,.ptr 1 0),(3,.ptr 3 0),(23,aj S9)] [(3,⟨97,[ai A8,ai C0,ai Fq,ai GJ]⟩),(1,⟨25,[ai bk,.sv (slc 1 (List.map (eS 4 eQ) bn)),.sv (slc 1 (List.map (eS 4 eQ) bt)),.sv (slc 4 (List.map eQ bB))]⟩)] []) (λh=>?_) (λWR h=>?_);refine aX<|fa Y Y<|lV Y Y Y<|lE h λx8 h8 h=>ls _ Y Y h8<|mv Y<|bE h λWV MQ h=>?_;cases x8;refine RT.fieldAddr (.some Y Y) Y T Y<|RT.yx (.some Y Y) Y Y Y T<|lE (F MQ) λc9 fC MQ=>gg _ Y Y fC ?_;obtain rfl:=O MQ;refine pF Y<|mv Y<|bE h λan4 aaA h=>?_;cases c9;refine RT.fieldAddr (.some Y Y) Y T Y<|RT.yx (.some Y Y) Y Y Y T<|lE (F aaA) λdX jO aaA=>RT.lss (.some Y Y) _ Y Y T jO ?_;obtain rfl:=O aaA;refine pF Y<|mv Y<|bE h λan5 aaB h=>?_;cases dX;refine RT.fieldAddr (.some Y Y) Y T Y<|RT.yx (.some Y Y) Y Y Y T<|lE (F aaB) λiA oH aaB=>gg _ Y Y oH ?_;obtain rfl:=O aaB;exact pF Y<|dn<|⟨iA,h,wR []⟩;obtain rfl:=O (V aaB);exact ww<|ww<|ww<|pT Y<|dn<|⟨true,h,wR []⟩
 obtain rfl:=O (V aaA);refine ww<|ww<|ww<|pT Y<|mv Y<|bE h λafJ Ku h=>?_;obtain rfl:=O (V Ku);exact ww<|ww<|ww<|pT Y<|dn<|⟨true,h,wR []⟩;obtain rfl:=O (V MQ);refine ww<|ww<|ww<|pT Y<|mv Y<|bE h λRC jq h=>?_;obtain rfl:=O (V jq);refine ww<|ww<|ww<|pT Y<|mv Y<|bE h λan6 kn h=>?_;obtain rfl:=O (V kn);exact ww<|ww<|ww<|pT Y<|dn<|⟨true,h,wR []⟩
 try dsimp only
 refine aW.n ?_;cases WR;refine fs<|qq<|qq ?_;refine bJ (F h) (λGF=>AS.cj 48 [(1,.ptr 1 0),(3,.ptr 3 0),(33,aj GF)] [(3,⟨97,[ai A8,ai C0,ai Fq,ai GJ]⟩),(1,⟨25,[ai bk,.sv (slc 1 (List.map (eS 4 eQ) bn)),.sv (slc 1 (List.map (eS 4 eQ) bt)),.sv (slc 4 (List.map eQ bB))]⟩)] []) (λh=>?_) (λRB h=>?_);refine aX<|fa Y Y<|lV Y Y Y<|lE h λjH rW h=>gt _ Y Y rW<|mv Y<|bE h λWT rZ h=>?_;cases jH;refine RT.fieldAddr (.some Y Y) Y T Y<|RT.yx (.some Y Y) Y Y Y T<|RT.fieldAddr (.some Y Y) Y T Y<|RT.yx (.some Y Y) Y Y Y T<|lE (F rZ) λiP pW rZ=>gq _ Y Y (JV (p:=GJ) (q:=Fq) pW) ?_;obtain rfl:=O rZ;exact pF Y<|dn<|⟨iP,h,wR []⟩;obtain rfl:=O (V rZ);exact ww<|ww<|ww<|ww<|ww<|pT Y<|dn<|⟨true,h,wR []⟩
 try dsimp only
 refine aW.n ?_;cases RB;refine fs<|qq ?_;refine bJ (F h) (λVq=>AS.cj 48 [(2,aj Vq)] [] []) (λh=>?_) (λacP h=>?_);refine aZ mixed<|fa Y Y<|lV Y Y Y<|bE h λpg yI h=>cl (Gc yI) ⟨Y,aq⟩<|fa Y Y<|lV Y Y Y<|lE h λvW DT h=>RT.leq .none _ Y Y T DT<|mv Y<|bE h λWS wz h=>?_;cases vW;obtain rfl:=O (F wz);refine ww<|ww<|ww<|ww<|ww<|ww<|pF Y<|ag Y ?_;refine RT.done ⟨by kernel_rfl,?_⟩;exact aW.n<|⟨false,h,wR []⟩;refine RT.fieldAddr (.some Y Y) Y T Y<|RT.yx (.some Y Y) Y Y Y T<|bE (V wz) λvf ET wz=>gc (Gc ET) ⟨Y,aq⟩<|RT.fieldAddr (.some Y Y) Y T Y<|RT.yx (.some Y Y) Y Y Y T<|lE wz λvg h46 wz=>RT.leq (.some Y Y) _ Y Y T h46 ?_;obtain rfl:=O wz;refine pT Y<|ag Y ?_;refine RT.done ⟨by kernel_rfl,?_⟩;exact aW.n<|⟨vg,h,wR []⟩
 try dsimp only
 refine aW.n<|bf ?_;obtain rfl:=O h;exact R1 Y;refine cT<|sr<|ag Y<|dn<|bf<|aW.r ?_;obtain rfl:=O (V h);exact R1 Y;refine cT<|sr<|ag Y<|dn<|bf<|aW.r ?_;obtain rfl:=O (V h);exact R1 Y
end
end Go.Proofs.YtningmnklfpfjaaGreat
namespace Go.Fw
section
open Go.RowKit
def Ta(P:Program)(f:FuncId)(args:Nat->List AV)(T:TypeId)(c:List Oc)(Post:Nat->Mem->World->Value->Prop):Prop:=
 ∀(M:Mem) (w:World) (β:Nat) (vs us:List Value),M.ep w->xN M w β T c us->eI (wQ M β) (args β) vs->
  Calls P f ⟨vs⟩ w λe w'=>∃v M',e=.returned v/\M.le M'/\(∀b o x,M' b o=some x->M b o=some x\/w.heap.size<=b)/\M'.ep w'/\Post w.heap.size M' w' v/\
   xN M' w' β T c us/\w'.os=w.os/\w'.tape=w.tape/\w'.output=w.output/\w.heap.size<=w'.heap.size/\∀k,k<w.heap.size->k≠β->¬gK c us k->w'.heap[k]? =w.heap[k]?
theorem Pq{P:Program}{f:FuncId}{fn:Func}{code:Code}{args:Nat->List AV}{T:TypeId}{c:List Oc}{Post:Nat->Mem->World->Value->Prop}(ids:List Nat)(hf:P.funcs[f]? =some fn)(hb:fn.body=some code)(hn:∀β,(args β).length<=fn.ntmps)(S4:∀β,(args β).all AV.oy=true)(J6:ids.Nodup)(hil:ids.length=(rowsOf c).length)(hge:(ids.all λi=>Nat.ble 1000 i)=true)(afK:MO c)(Rq:AS->Prop)
  (h:∀(w:World) (M:Mem) (β:Nat) (us:List Value),Ok P (aaz w M β c us ids hge) code (AS.JU fn.ntmps (args β) [(1000,⟨T,di ids c⟩)] (ids.zip (rowsOf c))) (λe S=>(e=.normal\/e=.ret)/\Rq S/\S.b 1000=some ⟨T,di ids c⟩/\Lv S ids (rowsOf c)))
  (hr:∀(w:World) (M:Mem) (β:Nat) (us:List Value) (S':AS) (E:Env) (a:Act) (w':World),Rq S'->bC (aaz w M β c us ids hge) S' E a w'->S'.b 1000=some ⟨T,di ids c⟩->(∀g,gK c us g->∃j∈ids,(E.ν j).ownBlock=some g)->(∀j∈ids,∃R,S'.r j=.live R)->∃v,(results fn a.tmps).run P w'=.ok v w'/\Post w.heap.size E.M w' v):Ta P f args T c Post:=by
 intro M w β vs us hM ho hv;have hrv:(cQ c us).length=(rowsOf c).length:=by rw[<-mD ho.al,List.length_map]
 have hnd:((ids.zip (cQ c us)).map (·.1)).Nodup:=by rw[Hi (by omega)];exact J6
 have aev:bC (aaz w M β c us ids hge) (AS.JU fn.ntmps (args β) [(1000,⟨T,di ids c⟩)] (ids.zip (rowsOf c))) ⟨λ_=>β,qe (ids.zip (cQ c us)) (λ_=>.nilIface),λ_=>False,M⟩ {tmps:=⟨vs⟩++Array.replicate (fn.ntmps-(⟨vs⟩:Array Value).size) undef,defers:=[]} w:=by
  have h0:=S3 (n:=fn.ntmps) ids hM ho hv (S4 β) (hn β) J6 hil
  exact{wf:=h0.wf,marks:=h0.marks,size:=h0.size,os:=h0.os,tape:=h0.tape,output:=h0.output,grown:=h0.grown,frame:=h0.frame,m0:=h0.m0,gS:=h0.gS,ep:=h0.ep,tm:=h0.tm,bx:=h0.bx,inj:=h0.inj,rx:=h0.rx,iN:=h0.iN,kV:=h0.kV,gu:=λi v e=>(by
   obtain⟨R,hm⟩:=MN e
   exact nc hnd hm),qp:=h0.qp,jj:=trivial}
 refine kq Y hf hb aev (h w M β us) ?_;rintro S' E a w' ⟨hq,hB,hL⟩ hh;have hβ:E.β 1000=β:=hh.kV 1000 β Y;obtain⟨us',ho',pV⟩:=yU hh hB hL J6;rw[hβ]at ho';obtain⟨_,_,_,us2,q2,q3⟩:=hh.bx 1000 _ hB;rw[hβ,ho'.hp]at q2;obtain rfl:us'=us2:=by
  have:=Option.some.inj q2;injection this with e
  injection e
 obtain⟨_,an7⟩:=Bf hh hL q3;have nU:cQ c us=cQ c us':=by
  rw[an7];have key:∀(ids:List Nat) (l:List (Row×Value)) (Rs:List Row),ids.length=l.length->l.map (·.1)=Rs->(∀i R v,(i,R,v)∈ids.zip l->E.ν i=v)->l=Rs.zip (ids.map E.ν):=by
   intro ids
   induction ids with
   |nil=>intro l Rs hl hm _;cases l with|nil=>cases hm;rfl|cons _ _=>simp at hl
   |cons i ids ih=>
    intro l Rs hl hm hν;cases l with
    |nil=>simp at hl
    |cons p l=>
     cases hm;obtain⟨R,v⟩:=p;rw[List.map_cons,List.map_cons,List.zip_cons_cons,hν i R v (by rw[List.zip_cons_cons];simp),<-ih l _ (by simpa using hl) Y (λi R v hm=>hν i R v (by rw[List.zip_cons_cons];exact List.mem_cons_of_mem _ hm))]
  exact key ids _ _ (by omega) (mD ho.al) (λi R v hm=>hh.gu i v (WQ hnd hm))
 obtain rfl:us=us':=MP afK ho.al ho'.al nU;obtain⟨v,hv,hx⟩:=hr w M β us S' E a w' hq hh hB (λg hg=>(pV g).1 hg) (λj hj=>hL.mem j hj);refine⟨v,hv,v,E.M,Y,hh.m0,λb o x e=>?_,hh.ep,hx,ho',hh.os,hh.tape,hh.output,hh.grown,λk hk hne hno=>hh.frame k hk (λe=>e.elim hne hno)⟩;rcases hh.gS b o x e with q|q|q|q
 ·exact .inl q
 ·exact .inr q
 ·rw[show b=β from q,ho'.nb o]at e;cases e
 rw[(ho'.nr b q).2 o]at e;cases e
section steps
variable {P:Program}{C:Ctx}{ops:Array Oper}{S:AS}{nd:Bool}{K:List Ac->AS->Prop}{rest:List Oper}{acc:List Ac}
variable {gd:Option (Nat×Bool)}{rg:List Nat}{d:Nat}{ty:TypeId}{pos:String}{aft:Array Edge}{x y z:Operand}{T U E0:TypeId}
end steps
end
section
open Go.RowKit
instance{cs:List SV}:One (ref cs):=⟨λ_ _ h=>by obtain⟨b,o,rfl,_⟩:=h;rfl⟩
section steps
variable {P:Program}{C:Ctx}{ops:Array Oper}{S:AS}{nd:Bool}{K:List Ac->AS->Prop}{rest:List Oper}{acc:List Ac}
variable {gd:Option (Nat×Bool)}{rg:List Nat}{d:Nat}{ty:TypeId}{pos:String}{aft:Array Edge}{x y z:Operand}{T U E0:TypeId}
theorem RT.cz(hg:Gd ops S gd rg){cs:List SV}(hx:S.ev x=.sv (ref cs))(hd:d<S.n)
  (next:RunT P C ops nd K rest (⟨rg++bp x,[],[],⟨some (d,.sv (ref cs)),[],[]⟩⟩::acc) (S.set d (.sv (ref cs)))):RunT P C ops nd K (⟨some d,.nilCheck x,ty,pos,aft,gd⟩::rest) acc S:=
 RT.value hg (bp x) [] [] (.sv (ref cs)) hd (by intro c h;cases h) (λS' ht _ _ E a w h=>by
  have h1:=h.ev x;rw[bQ (λ_ h=>h) ht,hx]at h1;have h1:(ref cs).h E.M (a.eval x):=h1;obtain⟨b,o,e,h2⟩:=h1;exact⟨a.eval x,by simp[execOp,e],⟨b,o,e,h2⟩,iz⟩) next
theorem RT.WW(hg:Gd ops S gd rg)[tT:S5 P T]{cs:List SV}(hx:S.ev x=.sv (ref cs))(hy:S.ev y=.sv (.v (.pointer none)))(hd:d<S.n)
  (next:RunT P C ops nd K rest (⟨rg++(bp x++bp y),[],[],⟨some (d,.sv (.v (.bool false))),[],[]⟩⟩::acc) (S.set d (.sv (.v (.bool false))))):RunT P C ops nd K (⟨some d,.binOp .eql T x y U,ty,pos,aft,gd⟩::rest) acc S:=
 RT.value hg (bp x++bp y) [] [] (.sv (.v (.bool false))) hd (by intro c h;cases h) (λS' ht _ _ E a w h=>by
  have h1:=h.ev x;rw[bQ (λ_ h=>List.mem_append_left _ h) ht,hx]at h1;have h2:=h.ev y;rw[bQ (λ_ h=>List.mem_append_right _ h) ht,hy]at h2;have h1:(ref cs).h E.M (a.eval x):=h1;obtain⟨b,o,h1,_⟩:=h1;have h2:a.eval y=.pointer none:=h2;have e:=run_eql_pointer_nil (P:=P) w T (some ⟨b,o,none⟩) tT.u;refine⟨.bool false,?_,Y,iz⟩;simp[execOp,h1,h2,eqGuard,e]) next
end steps
end
section
open Go.RowKit
noncomputable def CA(M:Mem)(w:World)(p:Nat->Prop):Mem:=λb o=>@ite _ (p b) (Classical.propDecidable _) (match w.cell? ⟨b,o,none⟩with|some v=>if v.oneCell'=true then some v else none|none=>none) (M b o)
noncomputable def D4(M:Mem)(p:Nat->Prop):Mem:=λb o=>@ite _ (p b) (Classical.propDecidable _) none (M b o)
theorem Pr{M:Mem}{w:World}{p:Nat->Prop}{b o:Nat}{v:Value}(hb:p b)(hc:w.cell? ⟨b,o,none⟩=some v)(h1:v.oneCell'=true):CA M w p b o=some v:=by
 unfold CA;rw[if_pos hb,hc];simp[h1]
theorem UC{M:Mem}{w:World}{p:Nat->Prop}(h:M.ep w):(CA M w p).ep w:=λb o v e=>by
 unfold CA at e;split at e
 ·split at e
  ·rename_i q;split at e
   ·rename_i h1;cases e;exact Fact.of q h1
   cases e
  cases e
 exact h b o v e
theorem D5{M:Mem}{w:World}{p:Nat->Prop}(h:∀b,p b->∀o,M b o=none):M.le (CA M w p):=λb o v e=>by
 unfold CA;rw[if_neg];exact e;intro hb;rw[h b hb o]at e;cases e
theorem Ps{M:Mem}{p:Nat->Prop}:(D4 M p).le M:=λb o v e=>by
 unfold D4 at e;split at e
 ·cases e
 exact e
theorem Pt{M:Mem}{p:Nat->Prop}{b o:Nat}{v:Value}(hb:¬p b)(e:M b o=some v):D4 M p b o=some v:=by unfold D4;rw[if_neg hb];exact e
theorem IJ{M:Mem}{p:Nat->Prop}{b:Nat}(hb:p b)(o:Nat):D4 M p b o=none:=by unfold D4;rw[if_pos hb]
def OcI:List Oc->List SV->Prop
 |[],[]=>True
 |.s x::l,y::k=>(SV.imp x y/\∀M v,x.h M v->v.oneCell'=true)/\OcI l k
 |.r R::l,y::k=>(∃rows,Rows R.sz rows R.cells/\rows.length=R.n/\(∀M vs,SV.gw M R.cells vs->∀v∈vs,v.oneCell'=true)/\SV.imp (slc R.sz rows) y)/\OcI l k
 |_,_=>False
theorem fm{E:TypeId}{n:Nat}{α:Type}{e:α->List SV}{l:List α}[el:EL e n]:∃rows,Rows (TR E n e l).sz rows (TR E n e l).cells/\rows.length=(TR E n e l).n/\(∀M vs,SV.gw M (TR E n e l).cells vs->∀v∈vs,v.oneCell'=true)/\SV.imp (slc (TR E n e l).sz rows) (slc n (l.map e)):=
 ⟨l.map e,wh l,by simp,qt l,au⟩
theorem WX{M:Mem}{w:World}{p:Nat->Prop}{R:Row}{v:Value}{rows:List (List SV)}(hno:∀b,p b->∀o,M b o=none)(hb:∀g,v.ownBlock=some g->p g)(ho:∃vs:List Value,w.ownsRow 0 R.E R.sz v R.n vs/\SV.gw M R.cells vs)
  (nU:Rows R.sz rows R.cells) (hn:rows.length=R.n) (hone:∀M vs,SV.gw M R.cells vs->∀v∈vs,v.oneCell'=true):(slc R.sz rows).h (CA M w p) v/\v.oneCell'=true:=by
 obtain⟨vs,hown,hvs⟩:=ho;have nO:=AL nU;rcases hown.2 with⟨h1,h2⟩|⟨g,cap,cur,h1,_,h2,h3,h4,h5,h6⟩
 ·rw[h2]at hn;exact⟨.inl ⟨none,h1,List.length_eq_zero_iff.1 hn⟩,by rw[h1];rfl⟩
 have hg:p g:=hb g (by rw[h1];rfl);have hm:maxLen=9223372036854775807:=by decide
 refine⟨.inr ⟨g,0,cap,by rw[h1,hn],by rw[hn];exact h3,by omega,λk row hk=>?_⟩,by rw[h1];rfl⟩;obtain⟨q1,q2⟩:=yA nU k row hk;refine⟨q1,λj s hs=>?_⟩;have ES:=q2 j s hs;obtain⟨y,hy,hys⟩:=hvs.get ES;have hlt:k*R.sz+j<R.n*R.sz:=by
  have:=(List.getElem?_eq_some_iff.1 ES).1;rw[nO,hn]at this;exact this
 have h1':=hone _ _ hvs y (List.mem_of_getElem? hy);refine⟨y,Pr hg ?_ h1',h1',s.mono (D5 hno) hys⟩;rw[<-h6,List.getElem?_take,if_pos hlt]at hy;simp only[World.cell?,h2];simpa using hy
theorem MR{M:Mem}{w:World}{p:Nat->Prop}(hno:∀b,p b->∀o,M b o=none):∀{c:List Oc} {cs:List SV} {us:List Value} {k:Nat} {s:SV},OcI c cs->xM M w c us->(∀q∈cQ c us,∀g,q.2.ownBlock=some g->p g)->cs[k]? =some s->∃y,us[k]? =some y/\y.oneCell'=true/\s.h (CA M w p) y
 |.s x::l,y::cs,u::us,k,s,hi,ho,hb,hk=>by
  cases k with
  |zero=>cases hk;exact⟨u,rfl,hi.1.2 _ _ ho.1,y.mono (D5 hno) (hi.1.1 _ _ ho.1)⟩
  |succ k=>exact MR hno (c:=l) (cs:=cs) (us:=us) (k:=k) hi.2 ho.2 hb hk
 |.r R::l,y::cs,u::us,k,s,hi,ho,hb,hk=>by
  cases k with
  |zero=>
   cases hk;obtain⟨rows,q1,q2,q3,q4⟩:=hi.1;obtain⟨r1,r2⟩:=WX hno (λg hg=>hb (R,u) (by rw[cQ];simp) g hg) ho.1 q1 q2 q3;exact⟨u,Y,r2,q4 _ _ r1⟩
  |succ k=>exact MR hno (c:=l) (cs:=cs) (us:=us) (k:=k) hi.2 ho.2 (λq hq=>hb q (by rw[cQ];exact List.mem_cons_of_mem _ hq)) hk
 |[],[],_,_,_,_,_,_,hk=>by simp at hk
 |[],_::_,_,_,_,hi,_,_,_=>hi.elim
 |.s _::_,[],_,_,_,hi,_,_,_=>hi.elim
 |.r _::_,[],_,_,_,hi,_,_,_=>hi.elim
 |.s _::_,_::_,[],_,_,_,ho,_,_=>ho.elim
 |.r _::_,_::_,[],_,_,_,ho,_,_=>ho.elim
theorem C8{M M':Mem}{w w':World}(hM:M.le M'):∀{c:List Oc} {us:List Value},xM M w c us->(∀q∈cQ c us,∀g,q.2.ownBlock=some g->w'.heap[g]? =w.heap[g]?)->xM M' w' c us
 |[],[],_,_=>trivial
 |.s x::l,u::us,h,hs=>⟨x.mono hM h.1,C8 hM (c:=l) (us:=us) h.2 hs⟩
 |.r R::l,u::us,h,hs=>by
  obtain⟨vs,h1,h2⟩:=h.1;exact⟨⟨vs,eW h1 (λg hg=>hs (R,u) (by rw[cQ];simp) g hg),h2.mono hM⟩,C8 hM (c:=l) (us:=us) h.2 (λq hq=>hs q (by rw[cQ];exact List.mem_cons_of_mem _ hq))⟩
 |[],_::_,h,_=>h.elim
 |.s _::_,[],h,_=>h.elim
 |.r _::_,[],h,_=>h.elim
def AV.aju(cells:List SV):AV->SV
 |.sv s=>s
 |_=>ref cells
def AV.acQ:AV->Bool
 |.sv _=>true
 |.ptr i o=>Nat.beq i 1000&&Nat.beq o 0
 |_=>false
theorem Pu{M M':Mem}{β:Nat}{cells:List SV}(hM:M.le M')(hc:(ref cells).h M' (.pointer (some ⟨β,0,none⟩))):∀{args:List AV} {vs:List Value},(args.all AV.acQ)=true->eI (wQ M β) args vs->SV.gw M' (args.map (AV.aju cells)) vs
 |[],[],_,_=>trivial
 |x::l,v::vs,hy,h=>by
  rw[List.all_cons,Bool.and_eq_true]at hy;refine⟨?_,Pu hM hc hy.2 h.2⟩;cases x with
  |sv s=>exact s.mono hM h.1
  |ptr i o=>
   have h1:=Bool.and_eq_true_iff.1 hy.1;have e:v=.pointer (some ⟨β,o,none⟩):=h.1;rw[e,Nat.eq_of_beq_eq_true h1.2];exact hc
  |_=>exact(Bool.false_ne_true hy.1).elim
 |[],_::_,_,h=>h.elim
 |_::_,[],_,h=>h.elim
theorem iv{P:Program}{f:FuncId}{args:List AV}{T:TypeId}{c:List Oc}{cells:List SV}{r:Nat->SV}{res:SV}(hp:∀N,dK P f N (args.map (AV.aju cells)) (r N))(hy:args.all AV.acQ=true)(hi:OcI c cells)(hr:∀N M v,(r N).h M v->res.h (M.fr N) v):II P f args T c res:=by
 intro M w β vs us hM ho hv;have hno:∀b,(b=β\/gK c us b)->∀o,M b o=none:=λb hb o=>by
  rcases hb with rfl|hb
  ·exact ho.nb o
  exact(ho.nr b hb).2 o
 have hlt:∀b,(b=β\/gK c us b)->b<w.heap.size:=λb hb=>by
  rcases hb with rfl|⟨q,hq,hg⟩
  ·exact(Array.getElem?_eq_some_iff.1 ho.hp).1
  obtain⟨ws,h1,_⟩:=qf ho.al q hq;rcases h1.2 with⟨h2,_⟩|⟨g,cap,cur,h2,_,h3,_⟩
  ·rw[h2]at hg;cases hg
  rw[h2]at hg;cases hg;exact(Array.getElem?_eq_some_iff.1 h3).1
 have nO:(ref cells).h (CA M w (λb=>b=β\/gK c us b)) (.pointer (some ⟨β,0,none⟩)):=⟨β,0,Y,λk s hk=>by
  obtain⟨y,h1,h2,h3⟩:=MR hno hi ho.al (λq hq g hg=>.inr ⟨q,hq,hg⟩) hk;refine⟨y,Pr (.inl Y) ?_ h2,h2,h3⟩;simp only[World.cell?,ho.hp];simpa using h1⟩
 refine(hp w.heap.size _ w vs (Nat.le_refl _) (UC hM) (Pu (D5 hno) nO hy hv)).mono ?_;rintro e w' ⟨v,M',rfl,hM',hnew,an8,hres,hb⟩;have hMM:M.le (D4 M' (λb=>b=β\/gK c us b)):=λb o x e=>Pt (λhb=>by rw[hno b hb o]at e;cases e) (hM' b o x (D5 hno b o x e));refine⟨v,D4 M' (λb=>b=β\/gK c us b),Y,hMM,λb o x e=>?_,λb o x e=>an8 b o x (Ps b o x e),res.mono (λb o x e=>?_) (hr _ _ _ hres),?_,hb.os,hb.tape,hb.output,hb.size,λk hk _ _=>hb.block k hk⟩
 ·rcases hnew b o x (Ps b o x e)with q|q
  ·refine .inl ?_;unfold CA at q;split at q
   ·rename_i J8;have e2:D4 M' (λb=>b=β\/gK c us b) b o=none:=IJ (p:=λb=>b=β\/gK c us b) J8 o;rw[e2]at e;cases e
   exact q
  exact .inr q
 ·unfold Mem.fr at e;split at e
  ·rename_i hN;exact Pt (λJ8=>by have:=hlt b J8;omega) e
  cases e
 exact⟨by rw[hb.block β (hlt β (.inl Y))];exact ho.hp,C8 hMM ho.al (λq hq g hg=>hb.block g (hlt g (.inr ⟨q,hq,hg⟩))),λo=>IJ (p:=λb=>b=β\/gK c us b) (.inl Y) o,λg hg=>⟨(ho.nr g hg).1,λo=>IJ (p:=λb=>b=β\/gK c us b) (.inr hg) o⟩,ho.ap⟩
theorem tc{P:Program}{f:FuncId}{args:List SV}{r:SV}(h:Pure P f args r)(N:Nat):dK P f N args r:=λM w vs _ hM hv=>h M w vs hM hv
theorem afL{s:SV}:∀(N:Nat) (M:Mem) (v:Value),(nw N s).h M v->s.h (M.fr N) v:=λ_ _ _ h=>h.1
theorem Hl{l:List Qr}:∀(N:Nat) (M:Mem) (v:Value),(nw N (slc 4 (l.map (fQ N)))).h M v->(slc 4 (l.map eQ)).h (M.fr N) v:=λN M v h=>Ui (M.fr N) v (by
 obtain⟨h1,h2⟩:=h;rw[<-Mem.Wb]at h1;exact⟨h1,λg e=>by rw[Mem.Wb];exact h2 g e⟩)
theorem Tc{x:Value}:∀(N:Nat) (M:Mem) (v:Value),(SV.v x).h M v->(SV.v x).h (M.fr N) v:=λ_ _ _ h=>h
theorem MS{P:Program}{f:FuncId}{fn:Func}{code:Code}{args:Nat->List AV}{T:TypeId}{c:List Oc}{res:SV}(ids:List Nat)(hf:P.funcs[f]? =some fn)(hb:fn.body=some code)(hn:∀β,(args β).length<=fn.ntmps)(S4:∀β,(args β).all AV.oy=true)(J6:ids.Nodup)(hil:ids.length=(rowsOf c).length)(hge:(ids.all λi=>Nat.ble 1000 i)=true)(afK:MO c)
  (h:∀(w:World) (M:Mem) (β:Nat) (us:List Value),Ok P (aaz w M β c us ids hge) code (AS.JU fn.ntmps (args β) [(1000,⟨T,di ids c⟩)] (ids.zip (rowsOf c))) (λe S=>(e=.normal\/e=.ret)/\VF P S fn.results.toList res/\S.b 1000=some ⟨T,di ids c⟩/\Lv S ids (rowsOf c))):Ta P f args T c (λ_ M' _ v=>res.h M' v):=
 Pq ids hf hb hn S4 J6 hil hge afK _ h (λw M β us S' E a w' hr hh _ _ _=>by
  obtain⟨v,hv,hx⟩:=(Gx.sv hr).run hh;exact⟨v,hv,hx⟩)
section steps
variable {P:Program}{C:Ctx}{ops:Array Oper}{S:AS}{nd:Bool}{K:List Ac->AS->Prop}{rest:List Oper}{acc:List Ac}{Q:Exit->AS->Prop}
variable {gd:Option (Nat×Bool)}{rg:List Nat}{d:Nat}{ty:TypeId}{pos:String}{aft:Array Edge}{x y z:Operand}{T U E0:TypeId}
theorem aaC{c:Code}{i k β:Nat}(hp:C.kV k=some β)(hB:S.b i=some ⟨T,[.ptr k 0]⟩)(h:Ok P C c (S.oE i ⟨T,[.sv (.v (.pointer (some ⟨β,0,none⟩)))]⟩) Q):Ok P C c S Q:=λa w ⟨E,hh⟩=>by
 refine h a w ⟨E,?_⟩;have hβ:E.β k=β:=hh.kV k β hp;have Gw:∀j B,(S.oE i ⟨T,[.sv (.v (.pointer (some ⟨β,0,none⟩)))]⟩).b j=some B->(j=i/\B=⟨T,[.sv (.v (.pointer (some ⟨β,0,none⟩)))]⟩)\/(j≠i/\S.b j=some B):=λj B e=>by
  by_cases hj:j=i
  ·subst hj;rw[AS.dO]at e;cases e;exact .inl ⟨rfl,rfl⟩
  rw[AS.cJ _ _ _ _ hj]at e;exact .inr ⟨hj,e⟩
 have bTo:∀j,(∃B,S.b j=some B)->∃B,(S.oE i ⟨T,[.sv (.v (.pointer (some ⟨β,0,none⟩)))]⟩).b j=some B:=λj ⟨B,e⟩=>by
  by_cases hj:j=i
  ·subst hj;exact⟨_,AS.dO _ _ _⟩
  exact⟨B,by rw[AS.cJ _ _ _ _ hj];exact e⟩
 have afM:∀j B,(S.oE i ⟨T,[.sv (.v (.pointer (some ⟨β,0,none⟩)))]⟩).b j=some B->∃B',S.b j=some B':=λj B e=>by
  rcases Gw j B e with⟨rfl,_⟩|⟨_,q⟩
  ·exact⟨_,hB⟩
  exact⟨_,q⟩
 exact{hh with
  wf:=⟨λs j hj=>bTo j (hh.wf.tb s j hj),hh.wf.tr,λj B e y hy m hm=>by
    rcases Gw j B e with⟨rfl,rfl⟩|⟨_,q⟩
    ·obtain rfl:y=_:=by simpa using hy
     exact(hm:False).elim
    ·exact bTo m (hh.wf.bb j B q y hy m hm),λj B e y hy m hm=>by
    rcases Gw j B e with⟨rfl,rfl⟩|⟨_,q⟩
    ·obtain rfl:y=_:=by simpa using hy
     exact(hm:False).elim
    exact hh.wf.br j B q y hy m hm⟩
  bx:=λj B e=>by
   rcases Gw j B e with⟨rfl,rfl⟩|⟨_,q⟩
   ·obtain⟨h1,h2,h3,vs,h4,h5⟩:=hh.bx j _ hB;refine⟨h1,h2,h3,vs,h4,?_⟩
    match vs,h5 with
    |[v],h5=>exact⟨(show v=.pointer (some ⟨β,0,none⟩)from hβ▸h5.1),aq⟩
   exact hh.bx j B q
  inj:=λj j' B B' e e' q=>by
   obtain⟨_,h1⟩:=afM j B e;obtain⟨_,h2⟩:=afM j' B' e';exact hh.inj j j' _ _ h1 h2 q
  rx:=λj R hR=>by
   obtain⟨p1,p2⟩:=hh.rx j R hR;refine⟨p1,λg hg=>?_⟩;obtain⟨q1,q2,q3,q4⟩:=p2 g hg;refine⟨q1,q2,q3,λm B e=>?_⟩;obtain⟨_,h1⟩:=afM m B e
   exact q4 m _ h1}
theorem RT.Fv(hg:Gd ops S gd rg)[tV:zo P T]{k β:Nat}{B:vY}(hx:S.ev x=.sv (ref [.v (.pointer (some ⟨β,0,none⟩))]))(hp:C.kV k=some β)(hB:S.b k=some B)(hd:d<S.n)
  (next:RunT P C ops nd K rest (⟨rg++bp x,[k],[],⟨some (d,.ptr k 0),[],[]⟩⟩::acc) (S.set d (.ptr k 0))):RunT P C ops nd K (⟨some d,.load T x,ty,pos,aft,gd⟩::rest) acc S:=
 RT.value hg (bp x) [k] [] (.ptr k 0) hd (by intro c h;cases h) (λS' ht hb _ E a w h=>by
  have h1:=h.ev x;rw[bQ (λ_ h=>h) ht,hx]at h1;obtain⟨b,o,e,hc⟩:=h1;obtain⟨u,hu,hu1,hs⟩:=hc 0 _ Y;have hβ:E.β k=β:=h.kV k β hp;have hs:u=.pointer (some ⟨β,0,none⟩):=hs;refine⟨u,?_,by show u=.pointer (some ⟨E.β k,0,none⟩);rw[hβ];exact hs,λj e=>?_,λj e=>e.elim⟩
  ·have hcc:w.cell? ⟨b,o,none⟩=some u:=(h.ep _ _ _ hu).cell hu1;simp[execOp,e,Instr.loadAt,Instr.sureAddr,loadVar,tV.isAgg,hcc]
  have e:j=k:=e;subst e;exact⟨B,by rw[hb j (by simp)];exact hB⟩) next
theorem RT.aaD(hg:Gd ops S gd rg){f:FuncId}[cZ P f]{g:Operand}{xs:Array Operand}{at_:Array TypeId}{args:List AV}{caps:Nat->List SV}{β:Nat}{T:TypeId}{c:List Oc}{res:SV}(hp:Ta P f (λβ=>args++(caps β).map AV.sv) T c (λ_ M' _ v=>res.h M' v))(i:Nat)(js:List Nat)(QU:C.kV i=some β)(hB:S.b i=some ⟨T,di js c⟩)(hL:Lv S js (rowsOf c))(hjs:js.Nodup)
  (S4:args.all AV.oy=true) (hf:S.ev g=.sv (o5 f (caps β))) (hargs:CJ S xs.toList (args.map (AV.rnb i))) (hd:d<S.n)
  (next:RunT P C ops nd K rest (⟨rg++(bp g++xs.toList.flatMap bp),[i],js,⟨some (d,.sv res),[],[]⟩⟩::acc) (S.set d (.sv res))):RunT P C ops nd K (⟨some d,.call ⟨.value g,xs,at_⟩,ty,pos,aft,gd⟩::rest) acc S:=by
 refine .inl ⟨_,[i],js,_,?_,next⟩;rintro S' hn ht hb hr k a w L Q ho ⟨E,h⟩ hLL;refine dy (C:=C) ho (hg.wanted h (λs hs=>ht s (List.mem_append_left _ hs)) Y) ?_;have AJ:(o5 f (caps β)).h E.M (a.eval g):=by
  have h1:=h.ev g;rw[bQ (λ_ h=>List.mem_append_right _ (List.mem_append_left _ h)) ht,hf]at h1;exact h1
 obtain⟨xA,AJ,JX⟩:=AJ;have hβ:E.β i=β:=h.kV i β QU;have hall:=Hj S4 (CJ.vals h hargs (λs hs=>ht s (List.mem_append_right _ (List.mem_append_right _ hs))));have iT:S'.b i=some ⟨T,di js c⟩:=by rw[hb i (by simp)];exact hB
 have hL':Lv S' js (rowsOf c):=hL.congr (λk hk=>hr k hk);obtain⟨us,ho1,IF⟩:=yU h iT hL' hjs;have ajv:eI (wQ E.M (E.β i)) (args++(caps (E.β i)).map AV.sv) (xs.toList.map a.eval++xA):=hall.append (eI.Dv (E:=wQ E.M (E.β i)) (by rw[hβ];exact JX));have hrun:(execOp a.eval ⟨some d,.call ⟨.value g,xs,at_⟩,ty,pos,aft,gd⟩).run P w=.ok (.enter f ⟨xs.toList.map a.eval++xA⟩) w:=by
  have e2:xs.map a.eval++⟨xA⟩=⟨xs.toList.map a.eval++xA⟩:=by apply Array.ext';simp
  have e1:=cZ.run (P:=P) (f:=f) (xs.map a.eval++⟨xA⟩) w;rw[<-e2];simp[execOp,resolve,AJ,Deferred.ofValue,invoke,e1]
 refine dm (C:=C) (by intro c h;cases h) hrun ?_;refine⟨λh=>by simp at h,kp ((hp E.M w (E.β i) _ us h.ep ho1 ajv).mono ?_)⟩;rintro e w' ⟨v,M',rfl,hM,hnew,hin,hv,SW,hos,yT,hout,hsize,pV⟩;have h1:=h.S8 iT hL' hjs ho1 hM hnew hin SW hos yT hout hsize pV;exact hLL _ _ ⟨_,h1.put (x:=.sv res) (v:=v) hv (by show d<S'.n;omega) iz⟩
theorem aaE{α:Type}(l k:List α):(JW l k).length=l.length:=by unfold JW;simp;omega
theorem Lq{M:Mem}{b:Nat}{α:Type}{e:α->List SV}[el:EL e 1]:∀(k:List α) (o:Nat),(∀(i:Nat) (row:List SV),(k.map e)[i]? =some row->∀(q:Nat) (s:SV),row[q]? =some s->∃y,M b (o+i*1+q)=some y/\y.oneCell'=true/\s.h M y)->∃cs:List Value,cs.length=k.length/\SV.gw M (k.flatMap e) cs/\∀j v,cs[j]? =some v->M b (o+j)=some v/\v.oneCell'=true
 |[],_,_=>⟨[],Y,aq,λj v h=>by simp at h⟩
 |x::k,o,h=>by
  obtain⟨cs,h1,h2,h3⟩:=Lq k (o+1) (λi row hr q s hs=>by
   have:=h (i+1) row (by simpa using hr) q s hs;rwa[show o+(i+1)*1+q=o+1+i*1+q by omega]at this)
  have hl:=el.len x
  match he:e x,hl with
  |[s],_=>
   obtain⟨y,q1,q2,q3⟩:=h 0 [s] (by simp[he]) 0 s Y;refine⟨y::cs,by simp[h1],?_,λj v hj=>?_⟩
   ·rw[List.flatMap_cons,he];exact⟨q3,h2⟩
   cases j with
   |zero=>cases hj;exact⟨by simpa using q1,q2⟩
   |succ j=>rw[show o+(j+1)=o+1+j by omega];exact h3 j v (by simpa using hj)
theorem Pv{M:Mem}{α:Type}{e:α->List SV}[el:EL e 1]:∀(l:List α) (vs:List Value) (m:Nat),SV.gw M (l.flatMap e) vs->SV.gw M ((l.drop m).flatMap e) (vs.drop m)
 |l,vs,0,h=>by simpa using h
 |[],vs,m+1,h=>by
  cases vs with
  |nil=>trivial
  |cons _ _=>exact h.elim
 |x::l,vs,m+1,h=>by
  have hl:=el.len x
  match he:e x,hl with
  |[s],_=>
   rw[List.flatMap_cons,he]at h
   match vs,h with
   |v::vs,h=>exact Pv l vs m h.2
theorem RT.Td(hg:Gd ops S gd rg)[tS:gU P T E0 1]{α:Type}{e:α->List SV}[el:EL e 1]{i:Nat}{E1:TypeId}{l k:List α}{m:Int}(hx:S.ev x=.row i)(hR:S.r i=.live (TR E1 1 e l))(hy:S.ev y=.sv (slc 1 (k.map e)))(hd:d<S.n)(hm:((Min.min k.length l.length:Nat):Int)=m)
  (next:RunT P C ops nd K rest (⟨rg++(bp x++bp y),[],[i],⟨some (d,.sv (.v (.int .i64 m))),[],[(i,.live (TR E1 1 e (JW l k)))]⟩⟩::acc) ((AS.cO [(i,.live (TR E1 1 e (JW l k)))] S).set d (.sv (.v (.int .i64 m))))):RunT P C ops nd K (⟨some d,.call ⟨.builtin .copy,#[x,y],#[T,U]⟩,ty,pos,aft,gd⟩::rest) acc S:=by
 subst hm;refine .inl ⟨_,[],[i],_,?_,next⟩;rintro S' hn' ht _ VC ix a w L Q ho ⟨E,h⟩ hL;refine dy (C:=C) ho (hg.wanted h (λs hs=>ht s (List.mem_append_left _ hs)) Y) ?_;have vU:S'.r i=.live (TR E1 1 e l):=by rw[VC i (by simp)];exact hR
 have h1:a.eval x=E.ν i:=by
  have h1:=h.ev x;rw[bQ (λ_ h=>List.mem_append_right _ (List.mem_append_left _ h)) ht,hx]at h1;exact h1
 have h2:(slc 1 (k.map e)).h E.M (a.eval y):=by
  have h2:=h.ev y;rw[bQ (λ_ h=>List.mem_append_right _ (List.mem_append_right _ h)) ht,hy]at h2;exact h2
 have hsrc:∃sa sc,a.eval y=.slice sa k.length sc:=by
  rcases h2 with⟨sa,q1,q2⟩|⟨b,o,c,q1,_⟩
  ·have:k=[]:=List.map_eq_nil_iff.1 q2;subst this;exact⟨sa,0,q1⟩
  rw[List.length_map]at q1;exact⟨_,c,q1⟩
 obtain⟨⟨us,hown,G0⟩,_⟩:=h.rx i _ vU;have an9:∃da dc,E.ν i=.slice da l.length dc:=by
  rcases hown.2 with⟨q1,q2⟩|⟨g,cap,cur,q1,_⟩
  ·have q2:l.length=0:=q2;exact⟨none,0,by rw[q2];exact q1⟩
  exact⟨_,cap,q1⟩
 obtain⟨sa,sc,hs⟩:=hsrc;by_cases h0:Nat.min k.length l.length=0
 ·obtain⟨da,dc,hdv⟩:=an9;have hc:JW l k=l:=by
   rcases Nat.eq_zero_or_pos l.length with q|q
   ·have:=List.length_eq_zero_iff.1 q;subst this;simp[JW]
   have:k.length=0:=by
    have h0:Min.min k.length l.length=0:=h0;omega
   have:=List.length_eq_zero_iff.1 this;subst this;simp[JW]
  have hr:(execOp a.eval ⟨some d,.call ⟨.builtin .copy,#[x,y],#[T,U]⟩,ty,pos,aft,gd⟩).run P w=.ok (.value (goInt 0)) w:=by
   have:=run_copy_none (P:=P) w T U ty E0 da sa l.length dc k.length sc tS.u tS.s h0;simp[execOp,resolve,invoke,builtin,h1,hs,hdv,this]
  refine dm (C:=C) (by intro c h;cases h) hr (hL _ _ ⟨E,?_⟩);rw[hc];have e0:((Min.min k.length l.length:Nat):Int)=0:=by
   have h0:Min.min k.length l.length=0:=h0;rw[h0];rfl
  rw[e0];have:AS.app S' ⟨some (d,.sv (.v (.int .i64 0))),[],[(i,.live (TR E1 1 e l))]⟩=S'.set d (.sv (.v (.int .i64 0))):=by
   show(AS.xZ S' i _).set d _=_;rw[AS.KV vU]
  rw[this];exact h.put (x:=.sv (.v (.int .i64 0))) (v:=.int .i64 0) Y (by show d<S'.n;omega) iz
 have hpos:0<Min.min k.length l.length:=Nat.pos_of_ne_zero h0;obtain⟨g,FX⟩:∃g,(E.ν i).ownBlock=some g:=by
  rcases hown.2 with⟨_,q2⟩|⟨g,cap,cur,q1,_⟩
  ·have q2:l.length=0:=q2;omega
  exact⟨g,by rw[q1];rfl⟩
 obtain⟨cur,vs,q1,q2,q3,q4,cap,q5,q6,q7,q8⟩:=HT h vU FX;replace q2:cur.take (l.length*1)=vs:=q2;replace q3:vs.length=l.length*1:=q3;replace q6:l.length<=cap:=q6;replace q8:cur.length=cap*1:=q8;rcases h2 with⟨sa',r1,r2⟩|⟨b,o,c,r1,_,_,r4⟩
 ·have:k=[]:=List.map_eq_nil_iff.1 r2;subst this;simp at hpos
 rw[List.length_map]at r1;rw[hs]at r1;cases r1;obtain⟨cs,c1,c2,c3⟩:=Lq (M:=E.M) (b:=b) (e:=e) (k.take (Min.min k.length l.length)) o (λj row hr q s hq=>by
  refine(r4 j row ?_).2 q s hq;rw[List.map_take,List.getElem?_take]at hr;split at hr
  ·exact hr
  cases hr)
 have nO:cs.length=Nat.min k.length l.length:=by rw[c1,List.length_take];show Min.min (Min.min k.length l.length) k.length=Min.min k.length l.length;omega
 have afN:cs.length=Min.min k.length l.length:=nO;have hrun:=run_copy_row (P:=P) w T U ty E0 g 0 l.length cap ⟨b,o,none⟩ k.length sc ⟨cur⟩ E1 cs tS.u tS.s q1 nO (λj v hj=>by
  rw[jN];exact(h.ep _ _ _ (c3 j v hj).1).cell (c3 j v hj).2) (by simp;omega) (λv hv=>by
  obtain⟨j,hj,rfl⟩:=List.getElem_of_mem hv;exact(c3 j _ (List.getElem?_eq_getElem hj)).2)
 have hr:(execOp a.eval ⟨some d,.call ⟨.builtin .copy,#[x,y],#[T,U]⟩,ty,pos,aft,gd⟩).run P w=.ok (.value (goInt cs.length)) (w.setRow g (cs++cur.drop cs.length).toArray):=by
  have hrun:(Builtin.copy_ #[T,U] ty #[.slice (some ⟨g,0,none⟩) l.length cap,.slice (some ⟨b,o,none⟩) k.length sc]).run P w=.ok (goInt cs.length) (w.setRow g (cs++cur.drop cs.length).toArray):=by simpa using hrun
  have q5:E.ν i=.slice (some ⟨g,0,none⟩) l.length cap:=q5;simp[execOp,resolve,invoke,builtin,h1,hs,q5,hrun]
 have aoa:JW l k=k.take (Min.min k.length l.length)++l.drop (Min.min k.length l.length):=by
  unfold JW;have e1:k.take l.length=k.take (Min.min k.length l.length):=by rw[List.take_eq_take_iff];omega
  have e2:l.drop k.length=l.drop (Min.min k.length l.length):=by rw[List.drop_eq_drop_iff];omega
  rw[e1,e2]
 have hall:SV.gw E.M ((JW l k).flatMap e) (cs++vs.drop cs.length):=by
  rw[aoa,List.flatMap_append,<-afN];rw[<-afN]at c2;exact SV.gw.append c2 (Pv l vs cs.length q4)
 have hh:=setRow_heap w g ⟨cur⟩ (cs++cur.drop cs.length).toArray E1 (0,0) q1;have ajw:(w.setRow g (cs++cur.drop cs.length).toArray).ownsRow 0 E1 1 (E.ν i) l.length (cs++vs.drop cs.length):=by
  refine⟨by simp;omega,.inr ⟨g,cap,_,q5,Nat.zero_le _,hh,q6,q7,by simp;omega,?_⟩⟩;rw[<-q2];simp only[List.take_append,List.length_take,List.drop_take];congr 1;rw[List.take_of_length_le (by omega)]
 have hp:=h.QM vU FX (w':=w.setRow g (cs++cur.drop cs.length).toArray) ⟨_,_,q1⟩ Y Y Y (by simp[World.setRow]) (λk' hk'=>setRow_other w g k' _ hk') ajw hall;refine dm (C:=C) (by intro c h;cases h) hr (hL _ _ ⟨E,?_⟩);have hrow:(⟨(TR E1 1 e l).E,(TR E1 1 e l).sz,(TR E1 1 e l).n,(JW l k).flatMap e⟩:Row)=TR E1 1 e (JW l k):=by
  show Row.mk _ _ l.length _=Row.mk _ _ (JW l k).length _;rw[aaE]
 rw[hrow]at hp;rw[<-afN];exact hp.put (x:=.sv (.v (.int .i64 cs.length))) (v:=.int .i64 cs.length) Y (by show d<S'.n;omega) iz
end steps
end
end Go.Fw
namespace Go.Proofs.YtningmnklfpfjaaGreat
section
open Go.Fw
noncomputable def dB(x0:Tb):Option (Bool):=match x0 with|⟨bk,bn,bt,bB,cI⟩=>cE (λ(ajx:Bool)=>some ajx) λK3=>(bif false then none else(some (!bk)).bind λdI=>some dI).bind λacR=>K3 acR
noncomputable def iI(x0:Tb):Option (Int):=match x0 with|⟨bk,bn,bt,bB,cI⟩=>(some (cI.length:Int)).bind λfz=>(some (IntKind.i64.wrap (bn+fz))).bind λc9=>some c9
noncomputable def oJ(x0:Tb)(x1:Int):Option (List Qr):=match x0 with|⟨bk,bn,bt,bB,cI⟩=>(some (cI.length:Int)).bind λc9=>(G5 64 c9 (⟨⟨false,[]⟩,⟨false,[]⟩⟩:Qr)).bind λeD=>(some (cI.length:Int)).bind λeX=>(bX (λ(s8:Int×(List Qr))=>match s8 with|⟨Pw,Px⟩=>(show Option ((Int×(List Qr))⊕((List Qr)))from(some (decide ((Pw:Int)<eX))).bind λij=>(bif ij then(cL cI Pw).bind λiA=>(cL iA x1).bind λ⟨⟨acS,acT⟩,⟨acU,acV⟩⟩=>(dQ ⟨⟨acS,acT⟩,⟨acU,acV⟩⟩).bind λ⟨⟨sq,su⟩,⟨Gf,Gg⟩⟩=>(kW Px Pw).bind λnV=>(stM Px nV ⟨⟨sq,su⟩,⟨Gf,Gg⟩⟩).bind λDH=>(some (IntKind.i64.wrap (Pw+1))).bind λiP=>some (.inl (iP,DH))else some (.inr Px)))) (0,eD)).bind λIK=>some IK
noncomputable def nn(x0:Tb)(x1:Int):Option (List Qr):=match x0 with|⟨bk,bn,bt,bB,cI⟩=>(some (bt.length:Int)).bind λc9=>(some (IntKind.i64.wrap (c9+bn))).bind λdX=>(G5 64 dX (⟨⟨false,[]⟩,⟨false,[]⟩⟩:Qr)).bind λeX=>(some (decide ((x1:Int)<bn))).bind λgX=>cE (λ(WY:(List Qr))=>some WY) λWU=>(bif gX then(some (bt.length:Int)).bind λgI=>(bX (λ(QC:Int×(List Qr))=>match QC with|⟨IL,IM⟩=>(show Option ((Int×(List Qr))⊕((List Qr)))from(some (decide ((IL:Int)<gI))).bind λnV=>(bif nV then(cL bt IL).bind λoD=>(cL oD x1).bind λ⟨⟨D6,D7⟩,⟨Ls,Lt⟩⟩=>(kW IM IL).bind λyE=>(stM IM yE ⟨⟨D6,D7⟩,⟨Ls,Lt⟩⟩).bind λZF=>(some (IntKind.i64.wrap (IL+1))).bind λnF=>some (.inl (nF,ZF))else some (.inr IM)))) (0,eX)).bind λC9=>(some (bt.length:Int)).bind λsj=>(some (IntKind.i64.wrap (sj+x1))).bind λAy=>(dP (-1)).bind λ⟨⟨Le,Lf⟩,⟨WZ,W0⟩⟩=>(kW C9 Ay).bind λAz=>(stM C9 Az ⟨⟨Le,Lf⟩,⟨WZ,W0⟩⟩).bind λl22=>WU l22 else WU eX)
noncomputable def lZ(x0:Tb)(x1:List Qr):Option (List Qr):=match x0 with|⟨bk,bn,bt,bB,cI⟩=>(some (bt.length:Int)).bind λc9=>(some (IntKind.i64.wrap (c9+bn))).bind λdX=>(G5 64 dX (⟨⟨false,[]⟩,⟨false,[]⟩⟩:Qr)).bind λeX=>(some (x1.length:Int)).bind λij=>(bX (λ(pA:(List Qr)×Int)=>match pA with|⟨IN,zM⟩=>(show Option (((List Qr)×Int)⊕((List Qr)))from(some (decide ((zM:Int)<ij))).bind λiA=>(bif iA then(cL x1 zM).bind λ⟨⟨vn,vo⟩,⟨yO,yP⟩⟩=>cE (λ(RE:Bool)=>cE (λ(W2:(List Qr))=>(some (IntKind.i64.wrap (zM+1))).bind λAA=>some (.inl (W2,AA))) λK21=>(bif RE then(cL bB zM).bind λAy=>(nn ⟨bk,bn,bt,bB,cI⟩ Ay).bind λAz=>(ja ⟨⟨vn,vo⟩,⟨yO,yP⟩⟩ Az IN).bind λCc=>K21 Cc else K21 IN)) λK19=>(cL bB zM).bind λnV=>(some (decide ((nV:Int)<bn))).bind λuG=>(bif uG then(fg ⟨⟨vn,vo⟩,⟨yO,yP⟩⟩).bind λnk=>(some (decide ((nk:Int)≠0))).bind λyE=>some yE else some false).bind λW4=>K19 W4 else some (.inr IN)))) (eX,0)).bind λyV=>some yV
noncomputable def kA(x0:Tb):Option (List Int):=match x0 with|⟨bk,bn,bt,bB,cI⟩=>(dB ⟨bk,bn,bt,bB,cI⟩).bind λx5=>(bif x5 then some []else(some (bB.length:Int)).bind λdI=>(G5 8 dI (0:Int)).bind λfz=>some (JW fz bB))
noncomputable def jL(x0:Tb):Option (List Qr):=match x0 with|⟨bk,bn,bt,bB,cI⟩=>(dB ⟨bk,bn,bt,bB,cI⟩).bind λx4=>(bif x4 then some []else(iI ⟨bk,bn,bt,bB,cI⟩).bind λx7=>(oJ ⟨bk,bn,bt,bB,cI⟩ x7).bind λx8=>some x8)
noncomputable def e5(x0:Tb)(x1:Int):Option (List Qr):=match x0 with|⟨bk,bn,bt,bB,cI⟩=>cE (λ(W5:Bool)=>(bif W5 then some []else(oJ ⟨bk,bn,bt,bB,cI⟩ x1).bind λij=>(lZ ⟨bk,bn,bt,bB,cI⟩ ij).bind λfL=>(nn ⟨bk,bn,bt,bB,cI⟩ x1).bind λgX=>(yN fL gX).bind λjG=>some jG)) λK6=>(dB ⟨bk,bn,bt,bB,cI⟩).bind λx6=>(bif x6 then some true else(some (decide ((x1:Int)<0))).bind λx9=>some x9).bind λacW=>(bif acW then some true else(iI ⟨bk,bn,bt,bB,cI⟩).bind λei=>(some (decide ((ei:Int)<=x1))).bind λdH=>some dH).bind λafO=>K6 afO
noncomputable def kC(x0:Tb):Option (List Qr):=match x0 with|⟨bk,bn,bt,bB,cI⟩=>(dB ⟨bk,bn,bt,bB,cI⟩).bind λx4=>(bif x4 then some []else(jL ⟨bk,bn,bt,bB,cI⟩).bind λx7=>(lZ ⟨bk,bn,bt,bB,cI⟩ x7).bind λx8=>some x8)
noncomputable def iJ(x0:Tb):Option (List Qr):=match x0 with|⟨bk,bn,bt,bB,cI⟩=>(dB ⟨bk,bn,bt,bB,cI⟩).bind λx7=>(bif x7 then some []else(G5 64 bn (⟨⟨false,[]⟩,⟨false,[]⟩⟩:Qr)).bind λc9=>(jL ⟨bk,bn,bt,bB,cI⟩).bind λei=>(some (ei.length:Int)).bind λdH=>(bX (λ(uH:Int×(List Qr))=>match uH with|⟨IP,IQ⟩=>(show Option ((Int×(List Qr))⊕((List Qr)))from(some (decide ((IP:Int)<dH))).bind λdX=>(bif dX then(cL ei IP).bind λ⟨⟨lT,lW⟩,⟨wM,wN⟩⟩=>(cL bB IP).bind λjH=>(some (decide ((jH:Int)<bn))).bind λiP=>cE (λ(RF:(List Qr))=>(some (IntKind.i64.wrap (IP+1))).bind λvf=>some (.inl (vf,RF))) λGC=>(bif iP then(cL bB IP).bind λvW=>(kW IQ vW).bind λnF=>(stM IQ nF ⟨⟨lT,lW⟩,⟨wM,wN⟩⟩).bind λTe=>GC Te else GC IQ)else some (.inr IQ)))) (0,c9)).bind λIS=>some IS)
noncomputable def sM(x0:Tb):Option (List (List Qr)):=match x0 with|⟨bk,bn,bt,bB,cI⟩=>(dB ⟨bk,bn,bt,bB,cI⟩).bind λx7=>(bif x7 then some []else(some (cI.length:Int)).bind λc9=>(bX (λ(s6:Int×(List (List Qr)))=>match s6 with|⟨Tf,gL⟩=>(show Option ((Int×(List (List Qr)))⊕((List (List Qr))))from(some (decide ((Tf:Int)<c9))).bind λei=>(bif ei then(cL cI Tf).bind λdH=>(iI ⟨bk,bn,bt,bB,cI⟩).bind λij=>(mP dH ij).bind λfL=>(nD 24 gL [fL]).bind λjg=>(some (IntKind.i64.wrap (Tf+1))).bind λgX=>some (.inl (gX,jg))else some (.inr gL)))) (0,[])).bind λdj=>some dj)
noncomputable def jS(x0:Tb):Option (Bool):=match x0 with|⟨bk,bn,bt,bB,cI⟩=>(dB ⟨bk,bn,bt,bB,cI⟩).bind λx6=>(bif x6 then some false else(jL ⟨bk,bn,bt,bB,cI⟩).bind λx8=>(some (x8.length:Int)).bind λx9=>(bX (λ(Tg:Int)=>(show Option ((Int)⊕((Unit)⊕(Bool)))from(some (decide ((Tg:Int)<x9))).bind λfz=>(bif fz then(cL x8 Tg).bind λ⟨⟨jh,iX⟩,⟨Th,Ti⟩⟩=>(fg ⟨⟨jh,iX⟩,⟨Th,Ti⟩⟩).bind λdH=>(some (decide ((dH:Int)<0))).bind λfB=>(bif fB then some (.inr (.inr false))else(some (IntKind.i64.wrap (Tg+1))).bind λdX=>some (.inl dX))else some (.inr (.inl ()))))) 0).bind λe6=>match e6 with|.inr v6=>some v6|.inl _=>some true)
noncomputable def jy(x0:Tb):Option (Bool):=match x0 with|⟨bk,bn,bt,bB,cI⟩=>(dB ⟨bk,bn,bt,bB,cI⟩).bind λx5=>(bif x5 then some false else(wj (λ(k:Nat) (s3:Unit)=>(show Option ((Unit)⊕(Bool))from(some ((k:Nat):Int)).bind λp8=>(e5 ⟨bk,bn,bt,bB,cI⟩ p8).bind λfz=>(wL fz).bind λc9=>(some (decide ((c9:Int)<0))).bind λeD=>(bif eD then some (.inr false)else some (.inl ())))) ((IntKind.i64.wrap (Tb.vars ⟨bk,bn,bt,bB,cI⟩+((Tb.rows ⟨bk,bn,bt,bB,cI⟩).length:Int))).toNat) ()).bind λe3=>match e3 with|.inr v3=>some v3|.inl _=>some true)
noncomputable def gZ(x0:Tb):Option (List (List Qr)):=match x0 with|⟨bk,bn,bt,bB,cI⟩=>(dB ⟨bk,bn,bt,bB,cI⟩).bind λx6=>(bif x6 then some []else(uM (λ(k:Nat) (Fx:(List (List Qr)))=>(show Option ((List (List Qr)))from(some ((k:Nat):Int)).bind λp9=>(e5 ⟨bk,bn,bt,bB,cI⟩ p9).bind λeD=>(nD 24 Fx [eD]).bind λdH=>some dH)) ((IntKind.i64.wrap (Tb.vars ⟨bk,bn,bt,bB,cI⟩+((Tb.rows ⟨bk,bn,bt,bB,cI⟩).length:Int))).toNat) []).bind λFx=>some Fx)
noncomputable def dW(x0:Lr):Option (Bool×Int×(List (List Qr))×(List Int)×(List (List Qr))):=match x0 with|⟨bk,bn,bt,bB⟩=>(some (bn.length:Int)).bind λdH=>(bX (λ(s6:Int×(List (List Qr)))=>match s6 with|⟨Tj,MT⟩=>(show Option ((Int×(List (List Qr)))⊕((List (List Qr))))from(some (decide ((Tj:Int)<dH))).bind λdX=>(bif dX then(cL bn Tj).bind λeX=>(mP eX bk).bind λkT=>(nD 24 MT [kT]).bind λoF=>(some (IntKind.i64.wrap (Tj+1))).bind λoD=>some (.inl (oD,oF))else some (.inr MT)))) (0,[])).bind λyn=>(some (bt.length:Int)).bind λpg=>(bX (λ(s30:Int×(List Int)×(List (List Qr)))=>match s30 with|⟨wS,BS,BT⟩=>(show Option ((Int×(List Int)×(List (List Qr)))⊕((List Int)×(List (List Qr))))from(some (decide ((wS:Int)<pg))).bind λqX=>(bif qX then(some (bt.length:Int)).bind λsn=>(some (IntKind.i64.wrap (bk+sn))).bind λzu=>(some (IntKind.i64.wrap (zu+1))).bind λvg=>(G5 64 vg (⟨⟨false,[]⟩,⟨false,[]⟩⟩:Qr)).bind λsF=>(bX (λ(SX:Int×(List Qr))=>match SX with|⟨IT,IU⟩=>(show Option ((Int×(List Qr))⊕((List Qr)))from(some (decide ((IT:Int)<bk))).bind λBP=>(bif BP then(Be bt wS IT).bind λ⟨⟨Lu,Lw⟩,⟨Lx,Ly⟩⟩=>(kW IU IT).bind λDt=>(stM IU Dt ⟨⟨Lu,Lw⟩,⟨Lx,Ly⟩⟩).bind λZz=>(some (IntKind.i64.wrap (IT+1))).bind λQ1=>some (.inl (Q1,Zz))else some (.inr IU)))) (0,sF)).bind λDa=>(some (IntKind.i64.wrap (bk+wS))).bind λQ4=>(dP 1).bind λ⟨⟨Lz,LA⟩,⟨LB,LC⟩⟩=>(kW Da Q4).bind λQ5=>(stM Da Q5 ⟨⟨Lz,LA⟩,⟨LB,LC⟩⟩).bind λl42=>(some (l42.length:Int)).bind λHo=>(some (IntKind.i64.wrap (Ho-1))).bind λUp=>(cL bB wS).bind λ⟨⟨acX,acY⟩,⟨acZ,ac0⟩⟩=>(dQ ⟨⟨acX,acY⟩,⟨acZ,ac0⟩⟩).bind λ⟨⟨W6,W7⟩,⟨W8,W9⟩⟩=>(kW l42 Up).bind λF3=>(stM l42 F3 ⟨⟨W6,W7⟩,⟨W8,W9⟩⟩).bind λl44=>(nD 24 BT [l44]).bind λIe=>(some (IntKind.i64.wrap (bk+wS))).bind λZG=>(nD 8 BS [ZG]).bind λafQ=>(some (IntKind.i64.wrap (wS+1))).bind λKi=>some (.inl (Ki,afQ,Ie))else some (.inr (BS,BT))))) (0,[],[])).bind λe30=>match e30 with|⟨Tk,Tl⟩=>some (true,bk,yn,Tk,Tl)
noncomputable def nq(x0:Lr):Option (Bool×Int×(List (List Qr))×(List Int)×(List (List Qr))):=match x0 with|⟨bk,bn,bt,bB⟩=>(kZ ⟨bk,bn,bt,bB⟩).bind λx5=>(some (!x5)).bind λx6=>(bif x6 then none else(dW ⟨bk,bn,bt,bB⟩).bind λ⟨r5,r6,C2,C3,ajz⟩=>some (r5,r6,C2,C3,ajz))
noncomputable def ue(x0:List Qr)(O7:Qr):Option (List Qr):=match O7 with|⟨⟨O8,O9⟩,⟨Pa,Pb⟩⟩=>(qC ⟨⟨O8,O9⟩,⟨Pa,Pb⟩⟩ x0).bind λx6=>some x6
noncomputable def oK(o0:Bool)(o1:Int)(o2:List (List Qr))(o3:List Int)(o4:List (List Qr))(x0:List Qr)(O7:Int)(c_2:Int):Option (List Qr):=(cL x0 O7).bind λ⟨⟨r5,r6⟩,⟨C2,C3⟩⟩=>(fg ⟨⟨r5,r6⟩,⟨C2,C3⟩⟩).bind λdI=>(some (decide ((dI:Int)=0))).bind λfz=>(bif fz then some x0 else(cL x0 O7).bind λ⟨⟨jQ,jR⟩,⟨xJ,xK⟩⟩=>(sI ⟨⟨jQ,jR⟩,⟨xJ,xK⟩⟩).bind λ⟨⟨q9,rf⟩,⟨Ah,Ai⟩⟩=>(kW o4 c_2).bind λjg=>(o4[jg]?).bind λgX=>(ja ⟨⟨q9,rf⟩,⟨Ah,Ai⟩⟩ gX x0).bind λjH=>some jH)
noncomputable def cX(o0:Bool)(o1:Int)(o2:List (List Qr))(o3:List Int)(o4:List (List Qr))(x1:Int)(x2:Int):Option ((List (List Qr))×(List Int)×(List (List Qr))):=(dP 1).bind λ⟨⟨AU,AW⟩,⟨ac1,ac2⟩⟩=>(kW o4 x1).bind λjl=>(o4[jl]?).bind λij=>(cL ij x2).bind λ⟨⟨wH,wI⟩,⟨wJ,wK⟩⟩=>(wF ⟨⟨AU,AW⟩,⟨ac1,ac2⟩⟩ ⟨⟨wH,wI⟩,⟨wJ,wK⟩⟩).bind λ⟨⟨⟨Fy,Fz⟩,⟨FA,FB⟩⟩,Ux⟩=>(kW o4 x1).bind λyE=>(o4[yE]?).bind λnF=>(ue nF ⟨⟨Fy,Fz⟩,⟨FA,FB⟩⟩).bind λvf=>(kW o4 x1).bind λsn=>(stM o4 sn vf).bind λl2=>(some (l2.length:Int)).bind λBP=>(bX (λ(z9:Int×(List (List Qr)))=>match z9 with|⟨xP,jZ⟩=>(show Option ((Int×(List (List Qr)))⊕((List (List Qr))))from(some (decide ((xP:Int)<BP))).bind λKv=>(bif Kv then(kW jZ xP).bind λAA=>(jZ[AA]?).bind λJZ=>(some (decide ((xP:Int)≠x1))).bind λUk=>cE (λ(Bi:(List (List Qr)))=>(some (IntKind.i64.wrap (xP+1))).bind λJ0=>some (.inl (J0,Bi))) λXa=>(bif Uk then(oK o0 o1 o2 o3 jZ JZ x2 x1).bind λQ5=>(kW jZ xP).bind λWe=>(stM jZ We Q5).bind λl17=>Xa l17 else Xa jZ)else some (.inr jZ)))) (0,l2)).bind λyW=>some (o2,o3,yW)
noncomputable def dA(o0:Bool)(o1:Int)(o2:List (List Qr))(o3:List Int)(o4:List (List Qr))(x1:Int)(x2:Int):Option (Int×(List (List Qr))×(List Int)×(List (List Qr))):=(dB (⟨o0,o1,o2,o3,o4⟩:Tb)).bind λdI=>(bif dI then some (2,o2,o3,o4)else cE (λ(Xb:Bool)=>(bif Xb then some (1,o2,o3,o4)else(some (o3.length:Int)).bind λpg=>(bX (λ(MU:Int)=>(show Option ((Int)⊕((Unit)⊕(Int×(List (List Qr))×(List Int)×(List (List Qr)))))from(some (decide ((MU:Int)<pg))).bind λqX=>(bif qX then(kW o3 MU).bind λvW=>(o3[vW]?).bind λnk=>(some (decide ((nk:Int)=x2))).bind λvf=>(bif vf then some (.inr (.inr (1,o2,o3,o4)))else(some (IntKind.i64.wrap (MU+1))).bind λsn=>some (.inl sn))else some (.inr (.inl ()))))) 0).bind λD8=>match D8 with|.inr jT=>some jT|.inl _=>(kW o4 x1).bind λAy=>(o4[Ay]?).bind λBP=>(cL BP x2).bind λ⟨⟨ac3,ac4⟩,⟨ac5,ac6⟩⟩=>(fg ⟨⟨ac3,ac4⟩,⟨ac5,ac6⟩⟩).bind λAA=>(some (decide ((AA:Int)=0))).bind λJZ=>(bif JZ then some (7,o2,o3,o4)else(cX o0 o1 o2 o3 o4 x1 x2).bind λ⟨ZF,l21,l22⟩=>(kW l21 x1).bind λx67=>(stM l21 x67 x2).bind λl24=>some (0,ZF,l24,l22)))) λWU=>(some (decide ((x1:Int)<0))).bind λc9=>(bif c9 then some true else(some (o4.length:Int)).bind λjl=>(some (decide ((jl:Int)<=x1))).bind λij=>some ij).bind λXc=>(bif Xc then some true else(some (decide ((x2:Int)<0))).bind λgX=>some gX).bind λafR=>(bif afR then some true else(iI (⟨o0,o1,o2,o3,o4⟩:Tb)).bind λgI=>(some (decide ((gI:Int)<=x2))).bind λoF=>some oF).bind λafS=>WU afS)
end
section
open Go.Fw Go.Fw.Z Go.RowKit
instance:S5 ah 30:=⟨by kernel_rfl⟩
theorem fP{x0:Tb}{r:Bool}(h:dB x0=some r):Pure ah 57 [ref (zC x0)] (aA r):=by
 obtain⟨bk,bn,bt,bB,cI⟩:=x0;refine bj Tryz.func57 Y (af Y) (λdw M vs hvs=>?_);unfold dB at h;refine sr<|ag Y<|dn<|qq ?_;refine bJ h (λj3=>AS.cj 12 [(2,aj j3)] [] []) (λh=>?_) (λajx h=>?_);refine aX<|mv Y<|RT.WW .none Y Y T<|mv Y<|bE h λacR rY h=>gm Y<|RT.cz (.some Y Y) Y T<|RT.bT (.some Y Y) Y T Y<|gr Y Y<|lE (F rY) λdI gC rY=>QZ Y _ gC ?_;obtain rfl:=O rY;exact pF Y<|ag Y<|dn<|⟨dI,h,wR []⟩
 try dsimp only
 refine aW.n<|bf ?_;obtain rfl:=O h;exact R1 Y
theorem rz{x0:Tb}{r:Int}(h:iI x0=some r):Pure ah 58 [ref (zC x0)] (ay r):=by
 obtain⟨bk,bn,bt,bB,cI⟩:=x0;refine bj Tryz.func58 Y (af Y) (λdw M vs hvs=>?_);unfold iI at h;refine sr<|ag Y<|dn<|qq<|aZ mixed<|mv Y<|RT.cz .none Y T<|RT.bT .none Y T Y<|lr Y Y<|mv Y<|RT.cz .none Y T<|RT.bT .none Y T Y<|lr Y Y<|lE h λfz lq h=>ln Y lq<|lE h λc9 fC h=>ad _ Y Y fC<|ag Y ?_;refine RT.done ⟨by kernel_rfl,?_⟩;refine aW.n<|bf ?_;obtain rfl:=O h;exact R1 Y
theorem CB{x0:Tb}{x1:Int}(N:Nat){r:List Qr}(h:oJ x0 x1=some r):dK ah 64 N [ref (zC x0),ay x1] (nw N (slc 4 (List.map (fQ N) r))):=by
 obtain⟨bk,bn,bt,bB,cI⟩:=x0;refine bU Tryz.func64 Y (af Y) (λdw M vs hN hvs=>?_);unfold oJ at h;refine sr<|aI Y (bu (N:=N) (n:=4) (e:=(fQ N)))<|dn<|sr<|mv Y<|RT.cz .none Y T<|RT.bT .none Y T Y<|lr Y Y<|lE h λc9 fC h=>ln Y fC<|bE h λeD iF h=>RT.tL (n:=4) (e:=(fQ N)) .none Y Y T Y T (by rfl) (by decide) (by exact⟨au,bu,au,bu,aq⟩) iF<|an (s:=.row _) Y<|dn<|qq<|sr<|mv Y<|RT.cz .none Y T ?_;refine RT.bT .none Y T Y<|lr Y Y<|lE h λeX jK h=>ln Y jK<|mv Y<|dn<|bE h λe8 Kl Cd=>?_;refine bK (λ(IK:(List Qr))=>AS.cj 34 [(5,.row 13)] [] [(13,TR 43 4 (fQ N) IK)]) (λIK=>IK=e8) ?_ (λIK Mt=>?_);refine aY ?_;refine bL Kl (λs8=>AS.cj 34 [(1,ai x1),(5,.row 13),(17,.sv (slc 1 (List.map (eS 4 eQ) cI))),(18,ai eX),(19,ai s8.1)] [] [(13,TR 43 4 (fQ N) s8.2)]) (wR []) (λs8 y8 G8 h Mu Mv=>?_);obtain⟨Pw,Px⟩:=s8
 try dsimp only
 refine sr<|lE h λij oG h=>ls _ Y Y oG<|dn<|qq ?_;cases ij;refine cF<|bN<|aW.x<|aW.x<|bF.x<|aW.n ?_;obtain rfl:=O (F h);exact⟨Px,Mv _ Y,wR []⟩;refine cT<|bw<|aW.n<|qq<|aY<|sr<|mv Y<|bE (V h) λiA oH h=>ix Y Y oH<|lr Y Y<|ag Y<|ag Y<|dn<|aX<|mo (s:=.row _) Y<|mv Y<|mv Y<|mv Y ?_;obtain⟨⟨⟨acS,acT⟩,⟨acU,acV⟩⟩,uO,h⟩:=bS h;refine ix Y Y uO<|RT.gy (cs:=[_,_,_,_]) .none Y T Y Y ?_;obtain⟨⟨⟨sq,su⟩,⟨Gf,Gg⟩⟩,vD,h⟩:=bS h;refine RT.bZ .none (nI N vD) hN Y ⟨Y,aq⟩ T<|bE h λnV yy h=>iR Y Y Y yy<|bE h λDH yH h=>sA ⟨⟨sq,su⟩,⟨Gf,Gg⟩⟩ Y Y Y yH<|RT.done<|bF.n<|aW.n<|aX<|lE h λiP pW h=>ad _ Y Y pW<|mv Y<|RT.done ?_;obtain rfl:=O h;exact aW.n ⟨(iP,DH),Mu _ Y,wR []⟩;subst Mt
 try dsimp only
 refine aW.n<|sr<|mo (s:=.row _) Y<|an (s:=.row _) Y<|dn<|lB (i:=13) (E1:=43) (n:=4) (e:=(fQ N)) (l:=IK) hN (λ_ h=>h) Y<|bf ?_;obtain rfl:=O Cd;exact R1 Y
theorem Bj{x0:Tb}{x1:Int}{r:List Qr}(h:nn x0 x1=some r):Pure ah 78 [ref (zC x0),ay x1] (slc 4 (List.map eQ r)):=by
 obtain⟨bk,bn,bt,bB,cI⟩:=x0;refine bj Tryz.func78 Y (af Y) (λdw M vs hvs=>?_);unfold nn at h;refine sr<|aI Y (aC (n:=4) (e:=eQ))<|dn<|qq<|aZ mixed<|mv Y<|RT.cz .none Y T<|RT.bT .none Y T Y<|lr Y Y<|lE h λc9 fC h=>ln Y fC<|mv Y<|RT.cz .none Y T<|RT.bT .none Y T Y<|lr Y Y<|lE h λdX jO h=>ad _ Y Y jO<|bE h λeX jK h=>RT.tL (n:=4) (e:=eQ) .none Y Y T Y T (by rfl) (by decide) (by exact⟨au,aC,au,aC,aq⟩) jK ?_;refine an (s:=.row _) Y ?_;refine RT.done ⟨by kernel_rfl,?_⟩;refine aW.n<|qq<|sr<|mv Y<|mv Y<|RT.cz .none Y T<|RT.bT .none Y T Y<|lr Y Y<|lE h λgX oY h=>ls _ Y Y oY<|dn ?_;refine bJ h (λS9=>AS.cj 54 [(5,.row 18)] [] [(18,TR 43 4 eQ S9)]) (λh=>?_) (λWY h=>?_);cases gX;exact fs<|⟨eX,(F h),wR []⟩;refine cT<|qq<|sr<|mv Y<|RT.cz .none Y T<|RT.bT .none Y T Y<|lr Y Y<|lE (V h) λgI m7 h=>ln Y m7<|mv Y<|dn<|bE h λe18 Xd sN=>?_;refine bK (λ(C9:(List Qr))=>AS.cj 54 [(0,.sv (ref [aA bk,ay bn,slc 1 (List.map (eS 4 eQ) bt),slc 1 (List.map bD bB),slc 1 (List.map (eS 4 eQ) cI)])),(1,ai x1),(5,.row 18)] [] [(18,TR 43 4 eQ C9)]) (λC9=>C9=e18) ?_ (λC9 Xe=>?_);refine aY ?_
 refine bL Xd (λQC=>AS.cj 54 [(0,.sv (ref [aA bk,ay bn,slc 1 (List.map (eS 4 eQ) bt),slc 1 (List.map bD bB),slc 1 (List.map (eS 4 eQ) cI)])),(1,ai x1),(5,.row 18),(28,.sv (slc 1 (List.map (eS 4 eQ) bt))),(29,ai gI),(30,ai QC.1)] [] [(18,TR 43 4 eQ QC.2)]) (wR []) (λQC y18 G18 h Xf RG=>?_);obtain⟨IL,IM⟩:=QC
 try dsimp only
 refine sr<|lE h λnV yy h=>ls _ Y Y yy<|dn<|qq ?_;cases nV;refine cF<|bN<|aW.x<|aW.x<|bF.x<|aW.n ?_;obtain rfl:=O (F h);exact⟨IM,RG _ Y,wR []⟩;refine cT<|bw<|aW.n<|qq<|aY<|sr<|mv Y<|bE (V h) λoD xn h=>ix Y Y xn<|lr Y Y<|ag Y<|ag Y<|dn<|aX<|mo (s:=.row _) Y<|mv Y<|mv Y<|mv Y ?_;obtain⟨⟨⟨D6,D7⟩,⟨Ls,Lt⟩⟩,DT,h⟩:=bS h;refine ix Y Y DT<|RT.gy (cs:=[_,_,_,_]) .none Y T Y Y<|bE h λyE GH h=>iR Y Y Y GH<|bE h λZF Xg h=>sA ⟨⟨D6,D7⟩,⟨Ls,Lt⟩⟩ Y Y Y Xg<|RT.done<|bF.n<|aW.n<|aX<|lE h λnF yl h=>ad _ Y Y yl<|mv Y<|RT.done ?_;obtain rfl:=O h;exact aW.n ⟨(nF,ZF),Xf _ Y,wR []⟩;subst Xe
 try dsimp only
 refine aW.n<|aZ mixed<|mo (s:=.row _) Y<|mv Y<|RT.cz .none Y T<|RT.bT .none Y T Y<|lr Y Y<|lE sN λsj h48 sN=>ln Y h48<|mv Y<|lE sN λAy Kk sN=>ad _ Y Y Kk ?_;obtain⟨⟨⟨Le,Lf⟩,⟨WZ,W0⟩⟩,Ik,sN⟩:=bS sN;refine cl (nH Ik) ⟨Y,aq⟩<|bE sN λAz GI sN=>iR Y Y Y GI<|bE sN λl22 ajB sN=>sA ⟨⟨Le,Lf⟩,⟨WZ,W0⟩⟩ Y Y Y ajB ?_;refine RT.done ⟨by kernel_rfl,?_⟩;exact aW.n<|⟨l22,sN,wR []⟩
 try dsimp only
 refine aW.n<|sr<|mo (s:=.row _) Y<|an (s:=.row _) Y<|dn<|bR (cV (i:=18) (E1:=43) (n:=4) (e:=eQ) (l:=WY) Y)<|bf ?_;obtain rfl:=O h;exact R1 Y
theorem Aj{x0:Tb}{x1:List Qr}(N:Nat){r:List Qr}(h:lZ x0 x1=some r):dK ah 77 N [ref (zC x0),slc 4 (List.map eQ x1)] (nw N (slc 4 (List.map (fQ N) r))):=by
 obtain⟨bk,bn,bt,bB,cI⟩:=x0;refine bU Tryz.func77 Y (af Y) (λdw M vs hN hvs=>?_);unfold lZ at h;refine sr<|aI Y (bu (N:=N) (n:=4) (e:=(fQ N)))<|dn<|qq<|aZ mixed<|mv Y<|RT.cz .none Y T<|RT.bT .none Y T Y<|lr Y Y<|lE h λc9 fC h=>ln Y fC<|mv Y<|RT.cz .none Y T<|RT.bT .none Y T Y<|lr Y Y<|lE h λdX jO h=>ad _ Y Y jO<|bE h λeX jK h=>RT.tL (n:=4) (e:=(fQ N)) .none Y Y T Y T (by rfl) (by decide) (by exact⟨au,bu,au,bu,aq⟩) jK ?_;refine an (s:=.row _) Y ?_;refine RT.done ⟨by kernel_rfl,?_⟩;refine aW.n<|qq<|sr<|mv Y<|lE h λij oG h=>ln Y oG<|mv Y<|dn<|lB (i:=18) (E1:=43) (n:=4) (e:=(fQ N)) (l:=eX) hN (λ_ h=>h) Y<|bE h λD8 wU ko=>?_;refine bK (λ(yV:(List Qr))=>AS.cj 57 [(5,.sv (nw N (slc 4 (List.map (fQ N) yV))))] [] []) (λyV=>yV=D8) ?_ (λyV uS=>?_);refine aY ?_;refine bL wU (λpA=>AS.cj 57 [(0,.sv (ref [aA bk,ay bn,slc 1 (List.map (eS 4 eQ) bt),slc 1 (List.map bD bB),slc 1 (List.map (eS 4 eQ) cI)])),(5,.sv (nw N (slc 4 (List.map (fQ N) pA.1)))),(19,.sv (slc 4 (List.map eQ x1))),(20,ai ij),(21,ai pA.2)] [] []) (wR []) (λpA ZH ZI h yo vH=>?_);obtain⟨IN,zM⟩:=pA
 try dsimp only
 refine sr<|lE h λiA oH h=>ls _ Y Y oH<|dn<|qq ?_;cases iA;refine cF<|bN<|aW.x<|aW.x<|bF.x<|aW.n ?_;obtain rfl:=O (F h);exact⟨IN,vH _ Y,wR []⟩;refine cT<|bw<|aW.n<|qq<|aY<|sr<|mv Y ?_;obtain⟨⟨⟨vn,vo⟩,⟨yO,yP⟩⟩,oY,h⟩:=bS (V h);refine ix Y Y oY<|RT.gy (cs:=[_,_,_,_]) .none Y T Y Y<|al (cs:=[aA false,nw N ax,aA false,nw N ax]) (by exact⟨au,bu,au,bu,aq⟩) Y<|ag Y<|so Y Y Y<|dn<|qq ?_;refine bJ h (λj19=>AS.cj 57 [(0,.sv (ref [aA bk,ay bn,slc 1 (List.map (eS 4 eQ) bt),slc 1 (List.map bD bB),slc 1 (List.map (eS 4 eQ) cI)])),(5,.sv (nw N (slc 4 (List.map (fQ N) IN)))),(6,ai zM),(7,.ptr 7 0),(19,.sv (slc 4 (List.map eQ x1))),(20,ai ij),(21,ai zM),(42,aj j19)] [(7,⟨43,[aj vn,.sv (slc 1 (List.map bh vo)),aj yO,.sv (slc 1 (List.map bh yP))]⟩)] []) (λh=>?_) (λRE h=>?_);refine aZ mixed<|mv Y<|RT.cz .none Y T<|RT.bT .none Y T Y<|lr Y Y<|mv Y<|bE h λnV yy h=>ix Y Y yy<|lr Y Y<|mv Y<|RT.cz .none Y T<|RT.bT .none Y T Y<|lr Y Y<|lE h λuG DS h=>ls _ Y Y DS<|mv Y<|bE h λW4 Ku h=>?_;cases uG;obtain rfl:=O (F Ku);refine ww<|ww<|ww<|pF Y ?_;refine RT.done ⟨by kernel_rfl,?_⟩;exact aW.n<|⟨false,h,wR []⟩
 refine gl Y Y (.k4 Y Y Y Y)<|bE (V Ku) λnk vm Ku=>gc (kz vm) ⟨Y,aq⟩<|lE Ku λyE GH Ku=>gq _ Y Y (JV (p:=nk) (q:=0) GH) ?_;obtain rfl:=O Ku;refine pT Y ?_;refine RT.done ⟨by kernel_rfl,?_⟩;exact aW.n<|⟨yE,h,wR []⟩
 try dsimp only
 refine aW.n ?_;refine bJ h (λj21=>AS.cj 57 [(0,.sv (ref [aA bk,ay bn,slc 1 (List.map (eS 4 eQ) bt),slc 1 (List.map bD bB),slc 1 (List.map (eS 4 eQ) cI)])),(5,.sv (nw N (slc 4 (List.map (fQ N) j21)))),(19,.sv (slc 4 (List.map eQ x1))),(20,ai ij),(21,ai zM)] [] []) (λh=>?_) (λW2 h=>?_);cases RE;exact fs<|⟨IN,(F h),wR []⟩;refine cT<|aZ mixed<|ld Y Y (.k4 Y Y Y Y)<|mv Y<|mv Y<|RT.cz .none Y T<|RT.bT .none Y T Y<|lr Y Y<|mv Y<|bE (V h) λAy Kk h=>ix Y Y Kk<|lr Y Y<|bE h λAz GI h=>cl (Bj GI) ⟨Y,Y,aq⟩<|mv Y<|bE h λCc Li h=>RT.bZ .none ((yQ N Li).w (args':=[_,_,_]) ⟨au,au,Ui,aq⟩) hN Y ⟨Y,Y,Y,aq⟩ T ?_;refine ag Y ?_;refine RT.done ⟨by kernel_rfl,?_⟩;exact aW.n<|⟨Cc,h,wR []⟩
 try dsimp only
 refine bF.n<|aW.n<|aX<|lE h λAA OL h=>ad _ Y Y OL<|mv Y<|RT.done ?_;obtain rfl:=O h;exact aW.n ⟨(W2,AA),yo _ Y,wR []⟩;subst uS
 try dsimp only
 refine aW.n<|sr<|mv Y<|ag Y<|dn<|bf ?_;obtain rfl:=O ko;exact R1 Y
theorem D9{x0:Tb}(N:Nat){r:List Int}(h:kA x0=some r):dK ah 17 N [ref (zC x0)] (nw N (slc 1 (List.map bD r))):=by
 obtain⟨bk,bn,bt,bB,cI⟩:=x0;refine bU Tryz.func17 Y (af Y) (λdw M vs hN hvs=>?_);unfold kA at h;refine sr<|aI Y (bu (N:=N) (n:=1) (e:=bD))<|dn<|qq<|sr<|mv Y<|bE h λx5 h5 h=>cl (fP h5) ⟨Y,aq⟩<|dn ?_;cases x5;refine fs<|sr<|mv Y<|RT.cz .none Y T<|RT.bT .none Y T Y<|lr Y Y<|lE (F h) λdI gC h=>ln Y gC<|bE h λfz lq h=>RT.tL (n:=1) (e:=bD) .none Y Y T Y T (by rfl) (by decide) (by exact⟨au,aq⟩) lq<|an (s:=.row _) Y<|dn<|sr<|mo (s:=.row _) Y<|mv Y<|RT.cz .none Y T<|RT.bT .none Y T Y<|lr Y Y ?_;refine RT.Td (l:=fz) (k:=bB) (e:=bD) .none Y Y Y T Y<|dn<|sr<|mo (s:=.row _) Y<|an (s:=.row _) Y<|dn<|lB (i:=11) (E1:=3) (n:=1) (e:=bD) (l:=(JW fz bB)) hN (λ_ h=>h) Y<|bf ?_;obtain rfl:=O h;exact R1 Y;refine cT<|sr<|aI Y (bu (N:=N) (n:=1) (e:=bD))<|dn<|bf<|aW.r ?_;obtain rfl:=O (V h);exact R1 Y
theorem MV{x0:Tb}{r:List Int}(h:kA x0=some r):Pure ah 17 [ref (zC x0)] (slc 1 (List.map bD r)):=eT (λN=>D9 N h) (λN=>fN)
theorem zN{x0:Tb}(N:Nat){r:List Qr}(h:jL x0=some r):dK ah 19 N [ref (zC x0)] (nw N (slc 4 (List.map (fQ N) r))):=by
 obtain⟨bk,bn,bt,bB,cI⟩:=x0;refine bU Tryz.func19 Y (af Y) (λdw M vs hN hvs=>?_);unfold jL at h;refine sr<|aI Y (bu (N:=N) (n:=4) (e:=(fQ N)))<|dn<|qq<|sr<|mv Y<|bE h λx4 h4 h=>cl (fP h4) ⟨Y,aq⟩<|dn ?_;cases x4;refine fs<|sr<|mv Y<|mv Y<|bE (F h) λx7 h7 h=>cl (rz h7) ⟨Y,aq⟩<|bE h λx8 h8 h=>RT.bZ .none (CB N h8) hN Y ⟨Y,Y,aq⟩ T<|ag Y<|dn<|bf ?_;obtain rfl:=O h;exact R1 Y;refine cT<|sr<|aI Y (bu (N:=N) (n:=4) (e:=(fQ N)))<|dn<|bf<|aW.r ?_;obtain rfl:=O (V h);exact R1 Y
theorem IV{x0:Tb}{r:List Qr}(h:jL x0=some r):Pure ah 19 [ref (zC x0)] (slc 4 (List.map eQ r)):=eT (λN=>zN N h) (λN=>Ui)
theorem qg{x0:Tb}{x1:Int}(N:Nat){r:List Qr}(h:e5 x0 x1=some r):dK ah 28 N [ref (zC x0),ay x1] (nw N (slc 4 (List.map (fQ N) r))):=by
 obtain⟨bk,bn,bt,bB,cI⟩:=x0;refine bU Tryz.func28 Y (af Y) (λdw M vs hN hvs=>?_);unfold e5 at h;refine sr<|aI Y (bu (N:=N) (n:=4) (e:=(fQ N)))<|dn<|qq<|qq ?_;refine bJ h (λj6=>AS.cj 26 [(0,.sv (ref [aA bk,ay bn,slc 1 (List.map (eS 4 eQ) bt),slc 1 (List.map bD bB),slc 1 (List.map (eS 4 eQ) cI)])),(1,ai x1),(16,aj j6)] [] []) (λh=>?_) (λW5 h=>?_);refine aX<|mv Y<|bE h λx6 h6 h=>cl (fP h6) ⟨Y,aq⟩<|mv Y<|bE h λacW hg7 h=>?_;cases x6;refine gm Y<|lE (F hg7) λx9 h9 hg7=>RT.lss (.some Y Y) _ Y Y T h9 ?_;obtain rfl:=O hg7;refine pF Y<|mv Y<|bE h λarW WJ h=>?_;cases x9;refine gm Y<|gm Y<|bE (F WJ) λei jx WJ=>gc (rz jx) ⟨Y,aq⟩<|lE WJ λdH gD WJ=>RT.geq (.some Y Y) _ Y Y T gD ?_;obtain rfl:=O WJ;exact pF Y<|dn<|⟨dH,h,wR []⟩;obtain rfl:=O (V WJ);exact ww<|ww<|ww<|ww<|pT Y<|dn<|⟨true,h,wR []⟩;obtain rfl:=O (V hg7);refine ww<|ww<|pT Y<|mv Y<|bE h λarX hg9 h=>?_;obtain rfl:=O (V hg9);exact ww<|ww<|ww<|ww<|pT Y<|dn<|⟨true,h,wR []⟩
 try dsimp only
 refine aW.n ?_;cases W5;refine fs<|sr<|mv Y<|mv Y<|mv Y<|bE (F h) λij oG h=>RT.bZ .none (CB N oG) hN Y ⟨Y,Y,aq⟩ T<|bE h λfL ke h=>RT.bZ .none ((Aj N ke).w (args':=[_,_]) ⟨au,Ui,aq⟩) hN Y ⟨Y,Y,aq⟩ T<|mv Y<|mv Y<|bE h λgX oY h=>cl (Bj oY) ⟨Y,Y,aq⟩<|bE h λjG nP h=>RT.bZ .none ((Rx N nP).w (args':=[_,_]) ⟨Ui,au,aq⟩) hN Y ⟨Y,Y,aq⟩ T ?_;refine ag Y<|dn<|bf ?_;obtain rfl:=O h;exact R1 Y;refine cT<|sr<|aI Y (bu (N:=N) (n:=4) (e:=(fQ N)))<|dn<|bf<|aW.r ?_;obtain rfl:=O (V h);exact R1 Y
theorem Db{x0:Tb}{x1:Int}{r:List Qr}(h:e5 x0 x1=some r):Pure ah 28 [ref (zC x0),ay x1] (slc 4 (List.map eQ r)):=eT (λN=>qg N h) (λN=>Ui)
theorem Ea{x0:Tb}(N:Nat){r:List Qr}(h:kC x0=some r):dK ah 38 N [ref (zC x0)] (nw N (slc 4 (List.map (fQ N) r))):=by
 obtain⟨bk,bn,bt,bB,cI⟩:=x0;refine bU Tryz.func38 Y (af Y) (λdw M vs hN hvs=>?_);unfold kC at h;refine sr<|aI Y (bu (N:=N) (n:=4) (e:=(fQ N)))<|dn<|qq<|sr<|mv Y<|bE h λx4 h4 h=>cl (fP h4) ⟨Y,aq⟩<|dn ?_;cases x4;refine fs<|sr<|mv Y<|mv Y<|bE (F h) λx7 h7 h=>RT.bZ .none (zN N h7) hN Y ⟨Y,aq⟩ T<|bE h λx8 h8 h=>RT.bZ .none ((Aj N h8).w (args':=[_,_]) ⟨au,Ui,aq⟩) hN Y ⟨Y,Y,aq⟩ T<|ag Y<|dn<|bf ?_;obtain rfl:=O h;exact R1 Y;refine cT<|sr<|aI Y (bu (N:=N) (n:=4) (e:=(fQ N)))<|dn<|bf<|aW.r ?_;obtain rfl:=O (V h);exact R1 Y
theorem MW{x0:Tb}{r:List Qr}(h:kC x0=some r):Pure ah 38 [ref (zC x0)] (slc 4 (List.map eQ r)):=eT (λN=>Ea N h) (λN=>Ui)
theorem Ak{x0:Tb}(N:Nat){r:List Qr}(h:iJ x0=some r):dK ah 21 N [ref (zC x0)] (nw N (slc 4 (List.map (fQ N) r))):=by
 obtain⟨bk,bn,bt,bB,cI⟩:=x0;refine bU Tryz.func21 Y (af Y) (λdw M vs hN hvs=>?_);unfold iJ at h;refine sr<|aI Y (bu (N:=N) (n:=4) (e:=(fQ N)))<|dn<|qq<|sr<|mv Y<|bE h λx7 h7 h=>cl (fP h7) ⟨Y,aq⟩<|dn ?_;cases x7;refine fs<|sr<|mv Y<|RT.cz .none Y T<|RT.bT .none Y T Y<|lr Y Y<|bE (F h) λc9 fC h=>RT.tL (n:=4) (e:=(fQ N)) .none Y Y T Y T (by rfl) (by decide) (by exact⟨au,bu,au,bu,aq⟩) fC<|an (s:=.row _) Y<|dn<|qq<|sr<|mv Y<|bE h λei jx h=>RT.bZ .none (zN N jx) hN Y ⟨Y,aq⟩ T<|lE h λdH gD h=>RT.Lc .none Y T gD<|mv Y ?_;refine dn<|bE h λFi yg pq=>?_;refine bK (λ(IS:(List Qr))=>AS.cj 45 [(3,.row 12)] [] [(12,TR 43 4 (fQ N) IS)]) (λIS=>IS=Fi) ?_ (λIS yh=>?_);refine aY ?_;refine bL yg (λuH=>AS.cj 45 [(0,.sv (ref [aA bk,ay bn,slc 1 (List.map (eS 4 eQ) bt),slc 1 (List.map bD bB),slc 1 (List.map (eS 4 eQ) cI)])),(3,.row 12),(14,.sv (nw N (slc 4 (List.map (fQ N) ei)))),(15,ai dH),(16,ai uH.1)] [] [(12,TR 43 4 (fQ N) uH.2)]) (wR []) (λuH ZA ZB h yj uN=>?_);obtain⟨IP,IQ⟩:=uH
 try dsimp only
 refine sr<|lE h λdX jO h=>ls _ Y Y jO<|dn<|qq ?_;cases dX;refine cF<|bN<|aW.x<|aW.x<|bF.x<|aW.n ?_;obtain rfl:=O (F h);exact⟨IQ,uN _ Y,wR []⟩;refine cT<|bw<|aW.n<|qq<|aY<|sr<|mv Y ?_;obtain⟨⟨⟨lT,lW⟩,⟨wM,wN⟩⟩,mz,h⟩:=bS (V h);refine RT.aiH .none Y Y T mz<|RT.gy (cs:=[_,_,_,_]) .none Y T Y Y<|al (cs:=[aA false,nw N ax,aA false,nw N ax]) (by exact⟨au,bu,au,bu,aq⟩) Y<|ag Y<|so Y Y Y<|dn<|qq<|aZ mixed<|mv Y<|RT.cz .none Y T<|RT.bT .none Y T Y<|lr Y Y<|mv Y<|bE h λjH rW h=>ix Y Y rW ?_;refine lr Y Y<|mv Y<|RT.cz .none Y T<|RT.bT .none Y T Y<|lr Y Y<|lE h λiP pW h=>ls _ Y Y pW ?_;refine RT.done ⟨by kernel_rfl,?_⟩;refine aW.n ?_;refine bJ h (λGF=>AS.cj 45 [(0,.sv (ref [aA bk,ay bn,slc 1 (List.map (eS 4 eQ) bt),slc 1 (List.map bD bB),slc 1 (List.map (eS 4 eQ) cI)])),(3,.row 12),(14,.sv (nw N (slc 4 (List.map (fQ N) ei)))),(15,ai dH),(16,ai IP)] [] [(12,TR 43 4 (fQ N) GF)]) (λh=>?_) (λRF h=>?_);cases iP;exact fs<|⟨IQ,(F h),wR []⟩;refine cT<|aZ mixed<|mo (s:=.row _) Y<|mv Y<|RT.cz .none Y T<|RT.bT .none Y T Y<|lr Y Y<|mv Y<|bE (V h) λvW DT h=>ix Y Y DT<|lr Y Y<|ld Y Y (.k4 Y Y Y Y)<|bE h λnF yl h=>iR Y Y Y yl<|bE h λTe Xh h=>sA ⟨⟨lT,lW⟩,⟨wM,wN⟩⟩ Y Y Y Xh ?_;refine RT.done ⟨by kernel_rfl,?_⟩
 exact aW.n<|⟨Te,h,wR []⟩
 try dsimp only
 refine bF.n<|aW.n<|aX<|lE h λvf ET h=>ad _ Y Y ET<|mv Y<|RT.done ?_;obtain rfl:=O h;exact aW.n ⟨(vf,RF),yj _ Y,wR []⟩;subst yh
 try dsimp only
 refine aW.n<|sr<|mo (s:=.row _) Y<|an (s:=.row _) Y<|dn<|lB (i:=12) (E1:=43) (n:=4) (e:=(fQ N)) (l:=IS) hN (λ_ h=>h) Y<|bf ?_;obtain rfl:=O pq;exact R1 Y;refine cT<|sr<|aI Y (bu (N:=N) (n:=4) (e:=(fQ N)))<|dn<|bf<|aW.r ?_;obtain rfl:=O (V h);exact R1 Y
theorem GP{x0:Tb}{r:List Qr}(h:iJ x0=some r):Pure ah 21 [ref (zC x0)] (slc 4 (List.map eQ r)):=eT (λN=>Ak N h) (λN=>Ui)
theorem Py{x0:Tb}(N:Nat){r:List (List Qr)}(h:sM x0=some r):dK ah 18 N [ref (zC x0)] (nw N (slc 1 (List.map (fS N 4 (fQ N)) r))):=by
 obtain⟨bk,bn,bt,bB,cI⟩:=x0;refine bU Tryz.func18 Y (af Y) (λdw M vs hN hvs=>?_);unfold sM at h;refine sr<|aI Y (bu (N:=N) (n:=1) (e:=(fS N 4 (fQ N))))<|dn<|qq<|sr<|mv Y<|bE h λx7 h7 h=>cl (fP h7) ⟨Y,aq⟩<|dn ?_;cases x7;refine fs<|sr<|ag Y<|dn<|bR (c8 3 304 23 1 Y Y T)<|qq<|sr<|mv Y<|RT.cz .none Y T<|RT.bT .none Y T Y<|lr Y Y<|lE (F h) λc9 fC h=>ln Y fC<|mv Y<|dn<|bE h λe6 vA jo=>?_;refine bK (λ(dj:(List (List Qr)))=>AS.cj 26 [(3,.row 306)] [] [(306,TR 23 1 (fS N 4 (fQ N)) dj)]) (λdj=>dj=e6) ?_ (λdj vB=>?_);refine aY ?_;refine bL vA (λs6=>AS.cj 26 [(0,.sv (ref [aA bk,ay bn,slc 1 (List.map (eS 4 eQ) bt),slc 1 (List.map bD bB),slc 1 (List.map (eS 4 eQ) cI)])),(3,.row 306),(11,.sv (slc 1 (List.map (eS 4 eQ) cI))),(12,ai c9),(13,ai s6.1)] [] [(306,TR 23 1 (fS N 4 (fQ N)) s6.2)]) (cD (λi=>bif Nat.beq i 306 then 304 else i) Y Y Y Y Y ⟨.sv au,.row Y,.sv au,.sv au,.sv au,aq⟩ trivial ⟨⟨_,Y,cg.refl _⟩,aq⟩ (λi hi=>by rw[bV (show i≠306 by omega)];rfl)) (λs6 y6 G6 h vC qy=>?_);obtain⟨Tf,gL⟩:=s6
 try dsimp only
 refine sr<|lE h λei jx h=>ls _ Y Y jx<|dn<|qq ?_;cases ei;refine cF<|bN<|aW.x<|aW.x<|bF.x<|aW.n ?_;obtain rfl:=O (F h);exact⟨gL,qy _ Y,wR []⟩;refine cT<|bw<|aW.n<|qq<|aY<|sr<|bE (V h) λdH gD h=>ix Y Y gD<|lr Y Y<|ag Y<|dn<|aX<|mo (s:=.row _) Y<|mv Y<|mv Y<|bE h λij oG h=>cl (rz oG) ⟨Y,aq⟩<|bE h λfL ke h=>RT.bZ .none (Cz N ke) hN Y ⟨Y,Y,aq⟩ T<|bl (l:=[fL]) (e:=(fS N 4 (fQ N))) (.one Y (.nil)) Y Y Y Y Y Y<|bE h λjg qP h=>aR (k:=[fL]) (e:=(fS N 4 (fQ N))) Y Y Y qP ?_;refine an (s:=.row _) Y<|RT.done<|bF.n<|aW.n<|aX<|lE h λgX oY h=>ad _ Y Y oY<|mv Y<|RT.done ?_;obtain rfl:=O h;exact aW.n ⟨(gX,jg),vC _ Y,cD (λi=>bif Nat.beq i 306 then 23 else i) Y Y Y Y Y ⟨.sv au,.row Y,.sv au,.sv au,.sv au,aq⟩ trivial ⟨⟨_,Y,cg.refl _⟩,aq⟩ (λi hi=>by rw[bV (show i≠306 by omega)];rfl)⟩;subst vB
 try dsimp only
 refine aW.n<|sr<|mo (s:=.row _) Y<|an (s:=.row _) Y<|dn<|lB (i:=306) (E1:=23) (n:=1) (e:=(fS N 4 (fQ N))) (l:=dj) hN (λ_ h=>h) Y<|bf ?_;obtain rfl:=O jo;exact R1 Y;refine cT<|sr<|aI Y (bu (N:=N) (n:=1) (e:=(fS N 4 (fQ N))))<|dn<|bf<|aW.r ?_;obtain rfl:=O (V h);exact R1 Y
theorem Pz{x0:Tb}{r:List (List Qr)}(h:sM x0=some r):Pure ah 18 [ref (zC x0)] (slc 1 (List.map (eS 4 eQ) r)):=eT (λN=>Py N h) (λN=>aiJ)
theorem Al{x0:Tb}{r:Bool}(h:jS x0=some r):Pure ah 35 [ref (zC x0)] (aA r):=by
 obtain⟨bk,bn,bt,bB,cI⟩:=x0;refine bj Tryz.func35 Y (af Y) (λdw M vs hvs=>?_);unfold jS at h;refine sr<|ag Y<|dn<|qq<|sr<|mv Y<|bE h λx6 h6 h=>cl (fP h6) ⟨Y,aq⟩<|dn ?_;cases x6;refine fs<|qq<|sr<|mv Y<|bE (F h) λx8 h8 h=>cl (IV h8) ⟨Y,aq⟩<|lE h λx9 h9 h=>ln Y h9<|mv Y<|dn<|bE h λe6 vA jo=>?_;refine bK (λ(uI:Unit)=>AS.cj 18 [] [] []) (λuI=>.inl uI=e6) ?_ (λuI vB=>?_);refine aY ?_;refine bL vA (λs6=>AS.cj 18 [(8,.sv (slc 4 (List.map eQ x8))),(9,ai x9),(10,ai s6)] [] []) (wR []) (λTg y6 G6 h vC qy=>?_)
 try dsimp only
 refine sr<|lE h λfz lq h=>ls _ Y Y lq<|dn<|qq ?_;cases fz;refine cF<|bN<|aW.x<|aW.x<|bF.x<|aW.n ?_;obtain rfl:=O (F h);exact⟨(),qy _ Y,wR []⟩;refine cT<|bw<|aW.n<|qq<|aY<|sr ?_;obtain⟨⟨⟨jh,iX⟩,⟨Th,Ti⟩⟩,fC,h⟩:=bS (V h);refine ix Y Y fC<|RT.gy (cs:=[_,_,_,_]) .none Y T Y Y<|al (cs:=[aA false,ax,aA false,ax]) (by exact⟨au,aC,au,aC,aq⟩) Y<|so Y Y Y<|dn<|sr<|ld Y Y (.k4 Y Y Y Y)<|bE h λdH gD h=>cl (kz gD) ⟨Y,aq⟩<|lE h λfB lu h=>ls _ Y Y lu<|dn ?_;cases fB;refine cF<|bw<|bF.n<|aW.n<|aX<|lE (F h) λdX jO h=>ad _ Y Y jO<|mv Y<|RT.done ?_;obtain rfl:=O h;exact aW.n ⟨dX,vC _ Y,wR []⟩;refine cT<|sr<|ag Y<|dn<|bf<|bF.r<|aW.r ?_;obtain rfl:=O (V h);have GG:=qy _ Y;subst GG;refine aW.r<|bF.r<|aW.r<|aW.r ?_;obtain rfl:=O jo;exact R1 Y;subst vB
 try dsimp only
 refine aW.n<|sr<|ag Y<|dn<|bf ?_;obtain rfl:=O jo;exact R1 Y;refine cT<|sr<|ag Y<|dn<|bf<|aW.r ?_;obtain rfl:=O (V h);exact R1 Y
theorem Bk(t:Tb):Pure ah 65 [ref (zC t)] (o5 114 [ref [ref (zC t)]]):=by
 refine bj Tryz.func65 Y (af Y) (λdw M vs hvs=>?_);exact sr<|RT.EY .none (s:=.sv _) Y T Y Y<|ag Y<|dn<|sr<|RT.makeFunc .none (.box Y (.nil)) T<|an (s:=.kU _ _) Y<|dn<|bR (iU (i:=1) Y [ref (zC t)] (.cons Y .nil) .any 0 [(2,.kU 114 [.val (ref [ref (zC t)])])] (λ_ _ _=>trivial) (xo.h (l:=[ref (zC t)])) ⟨@FT.kU _ _ _ _ _ 2 114 [.box 1] Y,aq⟩)<|bR (QX 2 (o5 114 [ref [ref (zC t)]]) (λ_ _ h=>QY h))<|bf<|⟨.inr Y,QL (.tmp Y (.nil)) Y⟩
theorem aaG(n:Int):IntKind.i64.wrap n<=9223372036854775807:=by
 show(if(true&&decide (n%18446744073709551616≥9223372036854775808))=true then n%18446744073709551616-18446744073709551616 else n%18446744073709551616)<=9223372036854775807;by_cases h:n%18446744073709551616≥9223372036854775808
 ·simp only[h,decide_true,Bool.and_self,if_true];omega
 simp only[h,decide_false,Bool.and_false,Bool.false_eq_true,if_false];omega
theorem width_eq(t:Tb):iI t=some (IntKind.i64.wrap (t.vars+(t.rows.length:Int))):=by
 cases t;rfl
theorem Bl(t:Tb):Iter ah 114 [ref [ref (zC t)]] (IntKind.i64.wrap (t.vars+(t.rows.length:Int))).toNat (λk=>[ay (k:Int)]):=by
 refine CK Tryz.func114 Y Y (af Y) (λdw M O l J hJ JX hr=>?_);have hw:=aaG (t.vars+(t.rows.length:Int));have hwd:=width_eq t;generalize (IntKind.i64.wrap (t.vars+(t.rows.length:Int)))=W at hw hwd hr⊢;refine cq ?_;refine aX ?_;refine RT.fX .none Y Y (tl Y) ?_;refine RT.call .none (rz hwd) Y ⟨Y,aq⟩ (tl Y) ?_;refine RT.mv .none Y (tl Y) ?_;refine RT.done ?_;refine aW.n ?_;refine aY ?_
 refine GZ (I:=λx:{i:Nat//i<=W.toNat}=>AS.cj 14 [(0,.sv (.v (.func (.yield l) #[] #[]))),(1,.sv (ref [ref (zC t)])),(5,ai W),(6,ai ((x.1:Nat):Int))] [] [] (x.1)) (μ:=λx=>W.toNat-x.1) ⟨0,by omega⟩ (by(try dsimp only);exact cD id Y Y Y Y Y ⟨.sv (by first|exact au|exact SV.bA (by omega)|exact SV.bA (by push_cast;omega)|exact SV.bA (by dsimp only;omega)|exact SV.imp_eq (by simp)),.sv (by first|exact au|exact SV.bA (by omega)|exact SV.bA (by push_cast;omega)|exact SV.bA (by dsimp only;omega)|exact SV.imp_eq (by simp)),.sv (by first|exact au|exact SV.bA (by omega)|exact SV.bA (by push_cast;omega)|exact SV.bA (by dsimp only;omega)|exact SV.imp_eq (by simp)),.sv (by first|exact au|exact SV.bA (by omega)|exact SV.bA (by push_cast;omega)|exact SV.bA (by dsimp only;omega)|exact SV.imp_eq (by simp)),aq⟩ trivial trivial (λ_ _=>Y)) ?_;rintro⟨i,hi0⟩
 try dsimp only
 rcases Nat.lt_or_eq_of_le hi0 with hi|hi
 ·
  refine cq ?_;refine aX ?_;refine RT.lss .none (true) Y Y (tl Y) (by simp;omega) ?_;refine RT.done ?_;refine aW.n ?_;refine cq ?_;refine fe Y ?_;refine bw ?_;refine aW.n ?_;refine cq ?_;refine aY ?_;refine cq ?_;refine aX ?_;refine RT.mv .none Y (tl Y) ?_;refine RT.Ma .none Y (tl Y) ?_;refine RT.done ?_;refine aW.n ?_;refine cq ?_;refine aX ?_;refine RT.mv .none Y (tl Y) ?_;refine RT.mv .none Y (tl Y) ?_;refine RT.yield .none hr Y (λ_ h=>h) Y (i) Y Y (by omega) (by exact⟨Y,aq⟩) (tl Y) (λyb=>?_);cases yb
  ·
   refine RT.not .none Y (tl Y) true Y ?_;refine RT.done ?_;refine aW.n ?_;refine fe Y ?_;refine bf ?_;refine bF.r ?_;refine aW.r ?_;refine aW.r ?_;refine bF.r ?_;exact⟨.inr rfl,(λh=>by cases h)⟩
  refine RT.not .none Y (tl Y) false Y ?_;refine RT.done ?_;refine aW.n ?_;refine je Y ?_;refine bw ?_;refine bF.n ?_;refine aW.n ?_;refine aX ?_;refine RT.add .none (((i:Nat):Int)+1) Y Y (tl Y) (uL (by omega)) ?_;refine RT.mv .none Y (tl Y) ?_;refine RT.done ?_;refine aW.n ?_;refine⟨⟨i+1,by omega⟩,(by dsimp only;omega),?_⟩
  try dsimp only
  exact cD id Y Y Y Y Y ⟨.sv (by first|exact au|exact SV.bA (by omega)|exact SV.bA (by push_cast;omega)|exact SV.bA (by dsimp only;omega)|exact SV.imp_eq (by simp)),.sv (by first|exact au|exact SV.bA (by omega)|exact SV.bA (by push_cast;omega)|exact SV.bA (by dsimp only;omega)|exact SV.imp_eq (by simp)),.sv (by first|exact au|exact SV.bA (by omega)|exact SV.bA (by push_cast;omega)|exact SV.bA (by dsimp only;omega)|exact SV.imp_eq (by simp)),.sv (by first|exact au|exact SV.bA (by omega)|exact SV.bA (by push_cast;omega)|exact SV.bA (by dsimp only;omega)|exact SV.imp_eq (by simp)),aq⟩ trivial trivial (λ_ _=>Y)
 subst hi;refine cq ?_;refine aX ?_;refine RT.lss .none (false) Y Y (tl Y) (by simp;omega) ?_;refine RT.done ?_;refine aW.n ?_;refine cq ?_;refine je Y ?_;refine bN ?_;refine aW.x ?_;refine aW.x ?_;refine bF.x ?_;exact⟨.inl Y,(λ_=>Y)⟩
theorem Bm{x0:Tb}{r:Bool}(h:jy x0=some r):Pure ah 42 [ref (zC x0)] (aA r):=by
 obtain⟨bk,bn,bt,bB,cI⟩:=x0;refine bj Tryz.func42 Y (af Y) (λdw M vs hvs=>?_);unfold jy at h;refine sr<|RT.EY .none (s:=.sv _) Y T Y Y<|al (cs:=[aA false]) (by exact⟨au,aq⟩) Y<|dn<|qq<|sr<|lV Y Y Y<|bE h λx5 h5 h=>cl (fP h5) ⟨Y,aq⟩<|dn ?_;cases x5;refine fs<|qq<|sr<|lV Y Y Y<|cl (Bk ⟨bk,bn,bt,bB,cI⟩) ⟨Y,aq⟩<|dn<|aY<|bE (F h) λe3 hl3 ho3=>?_;obtain⟨m3,st3,hs3,ht3,hn3⟩:=La hl3;refine yd (Bl ⟨bk,bn,bt,bB,cI⟩) (λ_ _ _ _ _=>trivial) Y (λk=>AS.cj 14 [(1,.ptr 1 0),(2,.ptr 2 0),(7,.sv (o5 114 [ref [ref [aA bk,ay bn,slc 1 (List.map (eS 4 eQ) bt),slc 1 (List.map bD bB),slc 1 (List.map (eS 4 eQ) cI)]]]))] [(2,⟨4,[aj false]⟩),(1,⟨30,[.sv (ref [aA bk,ay bn,slc 1 (List.map (eS 4 eQ) bt),slc 1 (List.map bD bB),slc 1 (List.map (eS 4 eQ) cI)])]⟩)] []) [2,1] Y (λ_=>⟨Y,Y⟩) (CL Y) (λ_=>Y) (CM Y) (by(try dsimp only);(try dsimp only);exact cD id Y Y Y Y Y ⟨.ptr,.ptr,.sv au,aq⟩ ⟨⟨_,Y,⟨.sv au,aq⟩⟩,⟨_,Y,⟨.sv au,aq⟩⟩,aq⟩ trivial (λ_ _=>Y)) m3 (λk hk hkm D hD=>?_) (λhdn=>?_);obtain⟨y3,h,hG3,hE3⟩:=ht3 k hk hkm;dsimp only[AS.Z2,Cq]
 try dsimp only at h
 refine lE h λp8 hp8 h=>?_;rw[hp8];refine aX<|ag Y<|RT.done ?_;refine aW.n ⟨Y,?_⟩;dsimp only[AS.Mc];refine aY<|sr<|lV Y Y Y<|mv Y<|bE h λfz lq h=>cl (Db lq) ⟨Y,Y,aq⟩<|bE h λc9 fC h=>cl (Pj fC) ⟨Y,aq⟩<|lE h λeD iF h=>ls _ Y Y iF<|dn ?_;cases eD;refine cF<|bw<|bF.n ?_;obtain rfl:=O (F h);obtain⟨hm3,hq3⟩:=hG3 _ Y;exact⟨hm3,Y,Y,wR []⟩;refine cT<|sr<|RT.AI (cells:=[_]) .none (s:=.sv _) Y Y Y T Y<|dn<|bf<|bF.r ?_;obtain rfl:=O (V h);have he3:=hE3 _ Y;subst he3;refine⟨Y,Y,?_⟩;refine bF.r<|aW.r ?_;obtain rfl:=O ho3;exact RZ (.one Y Y Y (.nil));have hd3:=hn3 hdn;subst hd3;obtain⟨ee3,afC⟩:∃q,st3 ((IntKind.i64.wrap (Tb.vars ⟨bk,bn,bt,bB,cI⟩+((Tb.rows ⟨bk,bn,bt,bB,cI⟩).length:Int))).toNat)=q:=⟨_,Y⟩;rw[afC]at ho3
 try dsimp only
 refine bF.n<|aW.n<|sr<|RT.AI (cells:=[_]) .none (s:=.sv _) Y Y Y T Y<|dn<|bf ?_;obtain rfl:=O ho3;exact RZ (.one Y Y Y (.nil));refine cT<|sr<|RT.AI (cells:=[_]) .none (s:=.sv _) Y Y Y T Y<|dn<|bf<|aW.r ?_;obtain rfl:=O (V h);exact RZ (.one Y Y Y (.nil))
theorem Ch{x0:Tb}(N:Nat){r:List (List Qr)}(h:gZ x0=some r):dK ah 20 N [ref (zC x0)] (nw N (slc 1 (List.map (fS N 4 (fQ N)) r))):=by
 obtain⟨bk,bn,bt,bB,cI⟩:=x0;refine bU Tryz.func20 Y (af Y) (λdw M vs hN hvs=>?_);unfold gZ at h;refine sr<|RT.EY .none (s:=.sv _) Y T Y Y<|aI Y (bu (N:=N) (n:=1) (e:=(fS N 4 (fQ N))))<|dn<|qq<|sr<|lV Y Y Y<|bE h λx6 h6 h=>cl (fP h6) ⟨Y,aq⟩<|dn ?_;cases x6;refine fs<|sr<|RT.alloc .none T Y Y<|dn<|bR (BO 3 0 302 23 1 Y Y Y T)<|qq<|sr<|lV Y Y Y<|cl (Bk ⟨bk,bn,bt,bB,cI⟩) ⟨Y,aq⟩<|dn<|aY<|bE (F h) λFx hl5 ho5=>?_;obtain⟨st5,hs5,ht5,hn5⟩:=vV hl5;refine qW (Bl ⟨bk,bn,bt,bB,cI⟩) (λ_ _ _ _ _=>trivial) Y (λk=>AS.cj 17 [(1,.ptr 1 0),(3,.ptr 3 0),(8,.sv (o5 114 [ref [ref [aA bk,ay bn,slc 1 (List.map (eS 4 eQ) bt),slc 1 (List.map bD bB),slc 1 (List.map (eS 4 eQ) cI)]]]))] [(3,⟨22,[.row 304]⟩),(1,⟨30,[.sv (ref [aA bk,ay bn,slc 1 (List.map (eS 4 eQ) bt),slc 1 (List.map bD bB),slc 1 (List.map (eS 4 eQ) cI)])]⟩)] [(304,TR 23 1 (fS N 4 (fQ N)) (st5 k))]) [3,1] Y (λ_=>⟨Y,Y⟩) (CL Y) (λ_=>Y) (CM Y) (by(try dsimp only);rw[hs5];(try dsimp only);exact cD (λi=>bif Nat.beq i 304 then 302 else i) Y Y Y Y Y ⟨.ptr,.ptr,.sv au,aq⟩ ⟨⟨_,Y,⟨.row Y,aq⟩⟩,⟨_,Y,⟨.sv au,aq⟩⟩,aq⟩ ⟨⟨_,Y,cg.refl _⟩,aq⟩ (λi hi=>by rw[bV (show i≠304 by omega)];rfl)) (λk hk D hD=>?_) ?_;have h:=ht5 k hk;obtain⟨Fx,hsk⟩:∃q,st5 k=q:=⟨_,Y⟩
 rw[hsk]at h⊢;dsimp only[AS.Z2,Cq]
 try dsimp only at h
 refine lE h λp9 hp9 h=>?_;rw[hp9];refine aX<|ag Y<|RT.done ?_;refine aW.n ⟨Y,?_⟩;dsimp only[AS.Mc];refine aY<|aZ mixed<|RT.eA .none (s:=.row _) Y Y Y T<|lV Y Y Y<|mv Y<|bE h λeD iF h=>RT.bZ .none (qg N iF) (Nat.le_trans hN hD) Y ⟨Y,Y,aq⟩ T<|bl (l:=[eD]) (e:=(fS N 4 (fQ N))) (.one Y (.nil)) Y Y Y Y Y Y<|bE h λdH gD h=>aR (k:=[eD]) (e:=(fS N 4 (fQ N))) Y Y Y gD<|RT.uK (cells:=[_]) .none Y Y Y Y T Y ?_;refine RT.done ⟨by kernel_rfl,?_⟩;refine bF.n ?_;replace h:=Option.some.inj h;refine⟨aq,Y,Y,?_⟩
 try dsimp only
 rw[<-h]
 try dsimp only
 exact cD (λi=>bif Nat.beq i 304 then 15 else i) Y Y Y Y Y ⟨.ptr,.ptr,.sv au,aq⟩ ⟨⟨_,Y,⟨.row Y,aq⟩⟩,⟨_,Y,⟨.sv au,aq⟩⟩,aq⟩ ⟨⟨_,Y,cg.refl _⟩,aq⟩ (λi hi=>by rw[bV (show i≠304 by omega)];rfl);rw[hn5]
 try dsimp only
 refine bF.n<|aW.n<|sr<|RT.eA .none (s:=.row _) Y Y Y T<|an (s:=.row _) Y<|dn<|lB (i:=304) (E1:=23) (n:=1) (e:=(fS N 4 (fQ N))) (l:=Fx) hN (λ_ h=>h) Y<|bf ?_;obtain rfl:=O ho5;exact R1 Y;refine cT<|sr<|aI Y (bu (N:=N) (n:=1) (e:=(fS N 4 (fQ N))))<|dn<|bf<|aW.r ?_;obtain rfl:=O (V h);exact R1 Y
theorem Ci{x0:Tb}{r:List (List Qr)}(h:gZ x0=some r):Pure ah 20 [ref (zC x0)] (slc 1 (List.map (eS 4 eQ) r)):=eT (λN=>Ch N h) (λN=>aiJ)
theorem IW{o0:Bool}{o1:Int}{o2:List (List Qr)}{o3:List Int}{o4:List (List Qr)}{r:Bool}(h:dB (⟨o0,o1,o2,o3,o4⟩:Tb)=some r):II ah 57 [.ptr 1000 0] 79 [.s (aA o0),.s (ay o1),.r (TR 23 1 (eS 4 eQ) o2),.r (TR 3 1 bD o3),.r (TR 23 1 (eS 4 eQ) o4)] (aA r):=iv (cells:=zC (⟨o0,o1,o2,o3,o4⟩:Tb)) (r:=λN=>(aA r)) (λN=>by exact tc (fP h) N) Y ⟨⟨au,λ_ _ q=>One.h _ _ q⟩,⟨au,λ_ _ q=>One.h _ _ q⟩,fm,fm,fm,aq⟩ Tc
theorem MX{o0:Bool}{o1:Int}{o2:List (List Qr)}{o3:List Int}{o4:List (List Qr)}{r:Int}(h:iI (⟨o0,o1,o2,o3,o4⟩:Tb)=some r):II ah 58 [.ptr 1000 0] 79 [.s (aA o0),.s (ay o1),.r (TR 23 1 (eS 4 eQ) o2),.r (TR 3 1 bD o3),.r (TR 23 1 (eS 4 eQ) o4)] (ay r):=iv (cells:=zC (⟨o0,o1,o2,o3,o4⟩:Tb)) (r:=λN=>(ay r)) (λN=>by exact tc (rz h) N) Y ⟨⟨au,λ_ _ q=>One.h _ _ q⟩,⟨au,λ_ _ q=>One.h _ _ q⟩,fm,fm,fm,aq⟩ Tc
theorem MY{o0:Bool}{o1:Int}{o2:List (List Qr)}{o3:List Int}{o4:List (List Qr)}{r:List Int}(h:kA (⟨o0,o1,o2,o3,o4⟩:Tb)=some r):II ah 17 [.ptr 1000 0] 79 [.s (aA o0),.s (ay o1),.r (TR 23 1 (eS 4 eQ) o2),.r (TR 3 1 bD o3),.r (TR 23 1 (eS 4 eQ) o4)] (slc 1 (List.map bD r)):=iv (cells:=zC (⟨o0,o1,o2,o3,o4⟩:Tb)) (r:=λN=>nw N (slc 1 (List.map bD r))) (λN=>by exact D9 N h) Y ⟨⟨au,λ_ _ q=>One.h _ _ q⟩,⟨au,λ_ _ q=>One.h _ _ q⟩,fm,fm,fm,aq⟩ afL
theorem Dc{o0:Bool}{o1:Int}{o2:List (List Qr)}{o3:List Int}{o4:List (List Qr)}{r:List Qr}(h:jL (⟨o0,o1,o2,o3,o4⟩:Tb)=some r):II ah 19 [.ptr 1000 0] 79 [.s (aA o0),.s (ay o1),.r (TR 23 1 (eS 4 eQ) o2),.r (TR 3 1 bD o3),.r (TR 23 1 (eS 4 eQ) o4)] (slc 4 (List.map eQ r)):=iv (cells:=zC (⟨o0,o1,o2,o3,o4⟩:Tb)) (r:=λN=>nw N (slc 4 (List.map (fQ N) r))) (λN=>by exact zN N h) Y ⟨⟨au,λ_ _ q=>One.h _ _ q⟩,⟨au,λ_ _ q=>One.h _ _ q⟩,fm,fm,fm,aq⟩ Hl
theorem Dd{o0:Bool}{o1:Int}{o2:List (List Qr)}{o3:List Int}{o4:List (List Qr)}{x1:Int}{r:List Qr}(h:e5 (⟨o0,o1,o2,o3,o4⟩:Tb) x1=some r):II ah 28 [.ptr 1000 0,ai x1] 79 [.s (aA o0),.s (ay o1),.r (TR 23 1 (eS 4 eQ) o2),.r (TR 3 1 bD o3),.r (TR 23 1 (eS 4 eQ) o4)] (slc 4 (List.map eQ r)):=iv (cells:=zC (⟨o0,o1,o2,o3,o4⟩:Tb)) (r:=λN=>nw N (slc 4 (List.map (fQ N) r))) (λN=>by exact qg N h) Y ⟨⟨au,λ_ _ q=>One.h _ _ q⟩,⟨au,λ_ _ q=>One.h _ _ q⟩,fm,fm,fm,aq⟩ Hl
theorem Eb{o0:Bool}{o1:Int}{o2:List (List Qr)}{o3:List Int}{o4:List (List Qr)}{r:List Qr}(h:kC (⟨o0,o1,o2,o3,o4⟩:Tb)=some r):II ah 38 [.ptr 1000 0] 79 [.s (aA o0),.s (ay o1),.r (TR 23 1 (eS 4 eQ) o2),.r (TR 3 1 bD o3),.r (TR 23 1 (eS 4 eQ) o4)] (slc 4 (List.map eQ r)):=iv (cells:=zC (⟨o0,o1,o2,o3,o4⟩:Tb)) (r:=λN=>nw N (slc 4 (List.map (fQ N) r))) (λN=>by exact Ea N h) Y ⟨⟨au,λ_ _ q=>One.h _ _ q⟩,⟨au,λ_ _ q=>One.h _ _ q⟩,fm,fm,fm,aq⟩ Hl
theorem GQ{o0:Bool}{o1:Int}{o2:List (List Qr)}{o3:List Int}{o4:List (List Qr)}{r:List Qr}(h:iJ (⟨o0,o1,o2,o3,o4⟩:Tb)=some r):II ah 21 [.ptr 1000 0] 79 [.s (aA o0),.s (ay o1),.r (TR 23 1 (eS 4 eQ) o2),.r (TR 3 1 bD o3),.r (TR 23 1 (eS 4 eQ) o4)] (slc 4 (List.map eQ r)):=iv (cells:=zC (⟨o0,o1,o2,o3,o4⟩:Tb)) (r:=λN=>nw N (slc 4 (List.map (fQ N) r))) (λN=>by exact Ak N h) Y ⟨⟨au,λ_ _ q=>One.h _ _ q⟩,⟨au,λ_ _ q=>One.h _ _ q⟩,fm,fm,fm,aq⟩ Hl
theorem GR{o0:Bool}{o1:Int}{o2:List (List Qr)}{o3:List Int}{o4:List (List Qr)}{r:Bool}(h:jS (⟨o0,o1,o2,o3,o4⟩:Tb)=some r):II ah 35 [.ptr 1000 0] 79 [.s (aA o0),.s (ay o1),.r (TR 23 1 (eS 4 eQ) o2),.r (TR 3 1 bD o3),.r (TR 23 1 (eS 4 eQ) o4)] (aA r):=iv (cells:=zC (⟨o0,o1,o2,o3,o4⟩:Tb)) (r:=λN=>(aA r)) (λN=>by exact tc (Al h) N) Y ⟨⟨au,λ_ _ q=>One.h _ _ q⟩,⟨au,λ_ _ q=>One.h _ _ q⟩,fm,fm,fm,aq⟩ Tc
theorem Bn{o0:Bool}{o1:Int}{o2:List (List Qr)}{o3:List Int}{o4:List (List Qr)}{r:Bool}(h:jy (⟨o0,o1,o2,o3,o4⟩:Tb)=some r):II ah 42 [.ptr 1000 0] 79 [.s (aA o0),.s (ay o1),.r (TR 23 1 (eS 4 eQ) o2),.r (TR 3 1 bD o3),.r (TR 23 1 (eS 4 eQ) o4)] (aA r):=iv (cells:=zC (⟨o0,o1,o2,o3,o4⟩:Tb)) (r:=λN=>(aA r)) (λN=>by exact tc (Bm h) N) Y ⟨⟨au,λ_ _ q=>One.h _ _ q⟩,⟨au,λ_ _ q=>One.h _ _ q⟩,fm,fm,fm,aq⟩ Tc
end
section
open Go.Fw Go.Fw.Z Go.RowKit
set_option maxHeartbeats 4000000 in
theorem j0{x0:Lr}{r:Bool×Int×(List (List Qr))×(List Int)×(List (List Qr))}(h:dW x0=some r):RA ah 56 [.agg (KX x0)] false [] 79 [.s (aA r.1),.s (ay r.2.1),.r (TR 23 1 (eS 4 eQ) r.2.2.1),.r (TR 3 1 bD r.2.2.2.1),.r (TR 23 1 (eS 4 eQ) r.2.2.2.2)]:=by
 obtain⟨bk,bn,bt,bB⟩:=x0;refine Pp Tryz.func56 Y (af Y) (λdw M vs hvs=>?_);unfold dW at h;refine sr<|bx Y<|ag Y<|dn<|sr<|fa Y Y<|lV Y Y Y<|bI (cs:=[_,_,_,_,_]) (cs':=[aA true,ay bk,.v (.slice none 0 0),.v (.slice none 0 0),.v (.slice none 0 0)]) (.one Y (.one Y (.nil))) ⟨au,au,au,au,au,aq⟩<|bx Y<|an (s:=.ptr _ _) Y<|dn<|bR (BO 12 2 304 23 1 Y Y Y T)<|bR (BO 12 3 305 3 1 Y Y Y T) ?_;refine bR (BO 12 4 306 23 1 Y Y Y T)<|qq<|sr<|fa Y Y<|lV Y Y Y<|lE h λdH gD h=>ln Y gD<|mv Y<|dn<|bE h λe6 vA jo=>?_;refine bK (λ(yn:(List (List Qr)))=>AS.cj 105 [(1,.ptr 1 0),(3,.ptr 12 0)] [(12,⟨79,[aj true,ai bk,.row 308,.row 305,.row 306]⟩),(1,⟨25,[ai bk,.sv (slc 1 (List.map (eS 4 eQ) bn)),.sv (slc 1 (List.map (eS 4 eQ) bt)),.sv (slc 4 (List.map eQ bB))]⟩)] [(308,TR 23 1 (eS 4 eQ) yn),(305,TR 3 1 bD []),(306,TR 23 1 (eS 4 eQ) [])]) (λyn=>yn=e6) ?_ (λyn vB=>?_);refine aY ?_
 refine bL vA (λs6=>AS.cj 105 [(1,.ptr 1 0),(3,.ptr 12 0),(14,.sv (slc 1 (List.map (eS 4 eQ) bn))),(15,ai dH),(16,ai s6.1)] [(12,⟨79,[aj true,ai bk,.row 308,.row 305,.row 306]⟩),(1,⟨25,[ai bk,.sv (slc 1 (List.map (eS 4 eQ) bn)),.sv (slc 1 (List.map (eS 4 eQ) bt)),.sv (slc 4 (List.map eQ bB))]⟩)] [(308,TR 23 1 (eS 4 eQ) s6.2),(305,TR 3 1 bD []),(306,TR 23 1 (eS 4 eQ) [])]) (cD (λi=>bif Nat.beq i 308 then 304 else i) Y Y Y Y Y ⟨.ptr,.ptr,.sv au,.sv au,.sv au,aq⟩ ⟨⟨_,Y,⟨.sv au,.sv au,.row Y,.row Y,.row Y,aq⟩⟩,⟨_,Y,⟨.sv au,.sv au,.sv au,.sv au,aq⟩⟩,aq⟩ ⟨⟨_,Y,cg.refl _⟩,⟨_,Y,cg.refl _⟩,⟨_,Y,cg.refl _⟩,aq⟩ (λi hi=>by rw[bV (show i≠308 by omega)];rfl)) (λs6 y6 G6 h vC qy=>?_);obtain⟨Tj,MT⟩:=s6
 try dsimp only
 refine sr<|lE h λdX jO h=>ls _ Y Y jO<|dn<|qq ?_;cases dX;refine cF<|bN<|aW.x<|aW.x<|bF.x<|aW.n ?_;obtain rfl:=O (F h);exact⟨MT,qy _ Y,wR []⟩;refine cT<|bw<|aW.n<|qq<|aY<|sr<|bE (V h) λeX jK h=>ix Y Y jK<|lr Y Y<|ag Y<|dn<|aZ mixed<|mo (s:=.ptr _ _) Y<|mo (s:=.ptr _ _) Y<|RT.cC .none Y T<|fa Y Y<|RT.eA .none (s:=.row _) Y Y Y T<|mv Y<|fa Y Y<|lV Y Y Y<|bE h λkT uO h=>cl (Ks uO) ⟨Y,Y,aq⟩<|bl (l:=[kT]) (e:=(eS 4 eQ)) (.one Y (.nil)) Y Y Y Y Y Y ?_;refine bE h λoF vD h=>aR (k:=[kT]) (e:=(eS 4 eQ)) Y Y Y vD<|RT.cC .none Y T<|fa Y Y<|RT.uK (cells:=[_,_,_,_,_]) .none Y Y Y Y T Y ?_;refine RT.done ⟨by kernel_rfl,?_⟩;refine bF.n<|aW.n<|aX<|lE h λoD xn h=>ad _ Y Y xn<|mv Y<|RT.done ?_;obtain rfl:=O h;exact aW.n ⟨(oD,oF),vC _ Y,cD (λi=>bif Nat.beq i 308 then 30 else i) Y Y Y Y Y ⟨.ptr,.ptr,.sv au,.sv au,.sv au,aq⟩ ⟨⟨_,Y,⟨.sv au,.sv au,.row Y,.row Y,.row Y,aq⟩⟩,⟨_,Y,⟨.sv au,.sv au,.sv au,.sv au,aq⟩⟩,aq⟩ ⟨⟨_,Y,cg.refl _⟩,⟨_,Y,cg.refl _⟩,⟨_,Y,cg.refl _⟩,aq⟩ (λi hi=>by rw[bV (show i≠308 by omega)];rfl)⟩;subst vB
 try dsimp only
 refine aW.n<|qq<|sr<|fa Y Y<|lV Y Y Y<|lE jo λpg yI jo=>ln Y yI<|mv Y<|dn<|bE jo λe30 aod aoe=>?_;refine bK (λ(UD:(List Int)×(List (List Qr)))=>AS.cj 105 [(3,.ptr 12 0)] [(12,⟨79,[aj true,ai bk,.row 308,.row 312,.row 313]⟩)] [(308,TR 23 1 (eS 4 eQ) yn),(312,TR 3 1 bD UD.1),(313,TR 23 1 (eS 4 eQ) UD.2)]) (λUD=>UD=e30) ?_ (λUD aof=>?_);refine aY ?_;refine bL aod (λs30=>AS.cj 105 [(1,.ptr 1 0),(3,.ptr 12 0),(36,ai pg),(37,ai s30.1)] [(12,⟨79,[aj true,ai bk,.row 308,.row 312,.row 313]⟩),(1,⟨25,[ai bk,.sv (slc 1 (List.map (eS 4 eQ) bn)),.sv (slc 1 (List.map (eS 4 eQ) bt)),.sv (slc 4 (List.map eQ bB))]⟩)] [(308,TR 23 1 (eS 4 eQ) yn),(312,TR 3 1 bD s30.2.1),(313,TR 23 1 (eS 4 eQ) s30.2.2)]) (cD (λi=>bif Nat.beq i 312 then 305 else bif Nat.beq i 313 then 306 else i) Y Y Y Y Y ⟨.ptr,.ptr,.sv au,.sv au,aq⟩ ⟨⟨_,Y,⟨.sv au,.sv au,.row Y,.row Y,.row Y,aq⟩⟩,⟨_,Y,⟨.sv au,.sv au,.sv au,.sv au,aq⟩⟩,aq⟩ ⟨⟨_,Y,cg.refl _⟩,⟨_,Y,cg.refl _⟩,⟨_,Y,cg.refl _⟩,aq⟩ (λi hi=>by rw[bV (show i≠312 by omega)];rw[bV (show i≠313 by omega)];rfl)) (λs30 y30 G30 h aog aoh=>?_);obtain⟨wS,BS,BT⟩:=s30
 try dsimp only
 refine sr<|lE h λqX Av h=>ls _ Y Y Av<|dn<|qq ?_;cases qX;refine cF<|bN<|aW.x<|aW.x<|bF.x<|aW.n ?_;obtain rfl:=O (F h);exact⟨(BS,BT),aoh _ Y,wR []⟩;refine cT<|bw<|aW.n<|qq<|aY<|sr<|mv Y<|ag Y<|dn<|sr<|fa Y Y<|lV Y Y Y<|fa Y Y<|lV Y Y Y<|lE (V h) λsn Aw h=>ln Y Aw<|lE h λzu Ij h=>ad _ Y Y Ij<|lE h λvg h46 h=>ad _ Y Y h46<|bE h λsF zH h=>RT.tL (n:=4) (e:=eQ) .none Y Y T Y T (by rfl) (by decide) (by exact⟨au,aC,au,aC,aq⟩) zH ?_;refine an (s:=.row _) Y<|dn<|qq<|sr<|fa Y Y<|lV Y Y Y<|mv Y<|dn<|bE h λe38 ae4 kX=>?_;refine bK (λ(Da:(List Qr))=>AS.cj 105 [(1,.ptr 1 0),(3,.ptr 12 0),(6,ai wS),(7,.row 47),(36,ai pg),(37,ai wS)] [(12,⟨79,[aj true,ai bk,.row 308,.row 312,.row 313]⟩),(1,⟨25,[ai bk,.sv (slc 1 (List.map (eS 4 eQ) bn)),.sv (slc 1 (List.map (eS 4 eQ) bt)),.sv (slc 4 (List.map eQ bB))]⟩)] [(47,TR 43 4 eQ Da),(308,TR 23 1 (eS 4 eQ) yn),(312,TR 3 1 bD BS),(313,TR 23 1 (eS 4 eQ) BT)]) (λDa=>Da=e38) ?_ (λDa ae5=>?_);refine aY ?_
 refine bL ae4 (λSX=>AS.cj 105 [(1,.ptr 1 0),(3,.ptr 12 0),(6,ai wS),(7,.row 47),(36,ai pg),(37,ai wS),(49,ai bk),(50,ai SX.1)] [(12,⟨79,[aj true,ai bk,.row 308,.row 312,.row 313]⟩),(1,⟨25,[ai bk,.sv (slc 1 (List.map (eS 4 eQ) bn)),.sv (slc 1 (List.map (eS 4 eQ) bt)),.sv (slc 4 (List.map eQ bB))]⟩)] [(47,TR 43 4 eQ SX.2),(308,TR 23 1 (eS 4 eQ) yn),(312,TR 3 1 bD BS),(313,TR 23 1 (eS 4 eQ) BT)]) (wR []) (λSX y38 G38 h ae6 ae7=>?_);obtain⟨IT,IU⟩:=SX
 try dsimp only
 refine sr<|lE h λBP Ik h=>ls _ Y Y Ik<|dn<|qq ?_;cases BP;refine cF<|bN<|aW.x<|aW.x<|bF.x<|aW.n ?_;obtain rfl:=O (F h);exact⟨IU,ae7 _ Y,wR []⟩;refine cT<|bw<|aW.n<|qq<|aY<|sr<|mv Y<|ag Y<|dn<|aX<|mo (s:=.row _) Y<|mv Y<|fa Y Y<|lV Y Y Y<|mv Y<|mv Y ?_;obtain⟨⟨⟨Lu,Lw⟩,⟨Lx,Ly⟩⟩,h59,h⟩:=bS (V h);refine cl (Uy h59) ⟨Y,Y,Y,aq⟩<|bE h λDt N2 h=>iR Y Y Y N2<|bE h λZz ajC h=>sA ⟨⟨Lu,Lw⟩,⟨Lx,Ly⟩⟩ Y Y Y ajC<|RT.done<|bF.n<|aW.n<|aX<|lE h λQ1 h61 h=>ad _ Y Y h61<|mv Y<|RT.done ?_;obtain rfl:=O h;exact aW.n ⟨(Q1,Zz),ae6 _ Y,wR []⟩;subst ae5
 try dsimp only
 refine aW.n<|qq<|aZ mixed<|mo (s:=.row _) Y<|fa Y Y<|lV Y Y Y<|mv Y<|lE kX λQ4 h66 kX=>ad _ Y Y h66 ?_;obtain⟨⟨⟨Lz,LA⟩,⟨LB,LC⟩⟩,h67,kX⟩:=bS kX;refine cl (nH h67) ⟨Y,aq⟩<|bE kX λQ5 h68 kX=>iR Y Y Y h68<|bE kX λl42 Ws kX=>sA ⟨⟨Lz,LA⟩,⟨LB,LC⟩⟩ Y Y Y Ws ?_;refine RT.done ⟨by kernel_rfl,?_⟩;refine aW.n<|sr<|mo (s:=.row _) Y<|mo (s:=.row _) Y<|lE kX λHo Xi kX=>lL Y Y Xi<|lE kX λUp h72 kX=>sb _ Y Y h72<|fa Y Y<|lV Y Y Y<|mv Y ?_;obtain⟨⟨⟨acX,acY⟩,⟨acZ,ac0⟩⟩,h76,kX⟩:=bS kX;refine ix Y Y h76<|RT.gy (cs:=[_,_,_,_]) .none Y T Y Y ?_;obtain⟨⟨⟨W6,W7⟩,⟨W8,W9⟩⟩,UE,kX⟩:=bS kX;refine cl (xL UE) ⟨Y,aq⟩<|bE kX λF3 Uu kX=>iR Y Y Y Uu<|bE kX λl44 ajE kX=>sA ⟨⟨W6,W7⟩,⟨W8,W9⟩⟩ Y Y Y ajE<|dn<|qq<|bR (cV (i:=47) (E1:=43) (n:=4) (e:=eQ) (l:=l44) Y)<|aX<|mo (s:=.ptr _ _) Y<|mo (s:=.ptr _ _) Y<|RT.cC .none Y T<|fa Y Y<|RT.eA .none (s:=.row _) Y Y Y T<|mv Y<|bl (l:=[l44]) (e:=(eS 4 eQ)) (.one Y (.nil)) Y Y Y Y Y Y ?_
 refine bE kX λIe h87 kX=>aR (k:=[l44]) (e:=(eS 4 eQ)) Y Y Y h87<|RT.cC .none Y T<|fa Y Y<|RT.uK (cells:=[_,_,_,_,_]) .none Y Y Y Y T Y<|dn<|aZ mixed<|mo (s:=.ptr _ _) Y<|mo (s:=.ptr _ _) Y<|RT.cC .none Y T<|fa Y Y<|RT.eA .none (s:=.row _) Y Y Y T<|fa Y Y<|lV Y Y Y<|mv Y<|lE kX λZG h98 kX=>ad _ Y Y h98 ?_;refine bl (l:=[ZG]) (e:=bD) (.one Y (.nil)) Y Y Y Y Y Y<|bE kX λafQ aoi kX=>aR (k:=[ZG]) (e:=bD) Y Y Y aoi<|RT.cC .none Y T<|fa Y Y<|RT.uK (cells:=[_,_,_,_,_]) .none Y Y Y Y T Y ?_;refine RT.done ⟨by kernel_rfl,?_⟩;refine bF.n<|aW.n<|aX<|lE kX λKi Ww kX=>ad _ Y Y Ww<|mv Y<|RT.done ?_;obtain rfl:=O kX;exact aW.n ⟨(Ki,afQ,Ie),aog _ Y,cD (λi=>bif Nat.beq i 312 then 100 else bif Nat.beq i 313 then 87 else i) Y Y Y Y Y ⟨.ptr,.ptr,.sv au,.sv au,aq⟩ ⟨⟨_,Y,⟨.sv au,.sv au,.row Y,.row Y,.row Y,aq⟩⟩,⟨_,Y,⟨.sv au,.sv au,.sv au,.sv au,aq⟩⟩,aq⟩ ⟨⟨_,Y,cg.refl _⟩,⟨_,Y,cg.refl _⟩,⟨_,Y,cg.refl _⟩,aq⟩ (λi hi=>by rw[bV (show i≠312 by omega)];rw[bV (show i≠313 by omega)];rfl)⟩;subst aof;obtain⟨Tk,Tl⟩:=UD
 try dsimp only
 refine aW.n<|sr<|mo (s:=.ptr _ _) Y<|an (s:=.ptr _ _) Y<|dn<|bf ?_;obtain rfl:=O aoe;exact⟨.inr Y,12,[308,312,313],.tmp Y,Y,⟨Y,Y,Y,aq⟩,by decide⟩
theorem IX{x0:Lr}{r:Bool×Int×(List (List Qr))×(List Int)×(List (List Qr))}(h:nq x0=some r):RA ah 12 [.agg (KX x0)] true [ay 0] 79 [.s (aA r.1),.s (ay r.2.1),.r (TR 23 1 (eS 4 eQ) r.2.2.1),.r (TR 3 1 bD r.2.2.2.1),.r (TR 23 1 (eS 4 eQ) r.2.2.2.2)]:=by
 obtain⟨bk,bn,bt,bB⟩:=x0;refine Ge (t1:=2) (t2:=3) Tryz.func12 Y (af Y) Y (λdw M vs hvs=>?_);unfold nq at h;refine sr<|bx Y<|ag Y<|ag Y<|dn<|qq<|sr<|ld Y Y (.k4 Y Y Y Y)<|bE h λx5 h5 h=>cl (xO h5) ⟨Y,aq⟩<|lE h λx6 h6 h=>nt Y _ h6<|dn ?_;cases x6;refine fs<|sr<|ld Y Y (.k4 Y Y Y Y) ?_;obtain⟨⟨r5,r6,C2,C3,ajz⟩,h8,h⟩:=bS (F h);refine RT.MM .none (j0 h8) [304,305,306] (by decide) Y ⟨⟨Y,T⟩,⟨Y,T⟩,⟨Y,T⟩,aq⟩ Y ⟨Y,aq⟩ T Y Y<|an (s:=.ptr _ _) Y<|ag Y<|dn<|bf ?_;obtain rfl:=O h;exact⟨.inr Y,8,[304,305,306],Y,Y,Y,⟨Y,Y,Y,aq⟩,by decide⟩;refine cT<|sr<|ag Y<|ag Y<|dn<|bf<|aW.r ?_;replace h:=V h;cases h
theorem MZ{x0:List Qr}{O7:Qr}{r:List Qr}(h:ue x0 O7=some r):Pure ah 106 [slc 4 (List.map eQ x0),ref (eQ O7)] (slc 4 (List.map eQ r)):=by
 obtain⟨⟨O8,O9⟩,⟨Pa,Pb⟩⟩:=O7;refine bj Tryz.func106 Y (af Y) (λdw M vs hvs=>?_);unfold ue at h;refine sr<|aI Y (aC (n:=4) (e:=eQ))<|dn<|sr<|RT.gy (cs:=[_,_,_,_]) .none Y T Y Y<|mv Y<|bE h λx6 h6 h=>cl (MK h6) ⟨Y,Y,aq⟩<|ag Y<|dn<|bf ?_;obtain rfl:=O h;exact R1 Y
theorem Kw{o0:Bool}{o1:Int}{o2:List (List Qr)}{o3:List Int}{o4:List (List Qr)}{x0:List Qr}{O7:Int}{c_2:Int}{r:List Qr}(h:oK o0 o1 o2 o3 o4 x0 O7 c_2=some r):Ta ah 107 (λβ=>[.sv (slc 4 (List.map eQ x0)),.sv (ref [ay O7]),.sv (ref [.v (.pointer (some ⟨β,0,none⟩))]),.sv (ref [ay c_2])]) 79 [.s (aA o0),.s (ay o1),.r (TR 23 1 (eS 4 eQ) o2),.r (TR 3 1 bD o3),.r (TR 23 1 (eS 4 eQ) o4)] (λ_ M' _ v=>SV.h (slc 4 (List.map eQ r)) M' v):=by
 refine MS [1001,1002,1003] Tryz.func107 Y (λ_=>(af Y)) (λ_=>Y) (by decide) Y Y ⟨⟨_,Y⟩,⟨_,Y⟩,aq,aq,aq,aq⟩ (λdw M β us=>?_);unfold oK at h;refine sr<|aI Y (aC (n:=4) (e:=eQ))<|dn<|qq<|sr<|mv Y<|lr Y Y ?_;obtain⟨⟨⟨r5,r6⟩,⟨C2,C3⟩⟩,h8,h⟩:=bS h;refine ix Y Y h8<|RT.gy (cs:=[_,_,_,_]) .none Y T Y Y<|bE h λdI gC h=>cl (kz gC) ⟨Y,aq⟩<|lE h λfz lq h=>eq _ Y Y (ve (p:=dI) (q:=0) lq)<|dn ?_;cases fz;refine fs<|qq<|aZ mixed<|mv Y<|lr Y Y ?_;obtain⟨⟨⟨jQ,jR⟩,⟨xJ,xK⟩⟩,gD,h⟩:=bS (F h);refine ix Y Y gD<|RT.gy (cs:=[_,_,_,_]) .none Y T Y Y ?_;obtain⟨⟨⟨q9,rf⟩,⟨Ah,Ai⟩⟩,jO,h⟩:=bS h;refine cl (OX jO) ⟨Y,aq⟩<|RT.Fv (k:=1000) .none Y Y Y T<|RT.cC .none Y T<|fa Y Y<|RT.eA .none (s:=.row _) Y Y Y T<|lr Y Y<|bE h λjg qP h=>iR Y Y Y qP<|bE h λgX oY h=>lR (e:=(eS 4 eQ)) Y Y oY Y<|mv Y<|bE h λjH rW h=>cl (Fs rW) ⟨Y,Y,Y,aq⟩<|ag Y ?_;refine RT.done ⟨by kernel_rfl,?_⟩;refine aW.n<|bf ?_;obtain rfl:=O h;exact⟨.inr Y,lz (.tmp Y (.nil)) au,Y,⟨Y,Y,Y,aq⟩⟩;refine cT<|sr<|mv Y<|ag Y<|dn<|bf<|aW.r ?_;obtain rfl:=O (V h);exact⟨.inr Y,lz (.tmp Y (.nil)) au,Y,⟨Y,Y,Y,aq⟩⟩
set_option maxHeartbeats 4000000 in
theorem gp{o0:Bool}{o1:Int}{o2:List (List Qr)}{o3:List Int}{o4:List (List Qr)}{x1:Int}{x2:Int}{r:(List (List Qr))×(List Int)×(List (List Qr))}(h:cX o0 o1 o2 o3 o4 x1 x2=some r):aav ah 60 [.ptr 1000 0,ai x1,ai x2] 79 [.s (aA o0),.s (ay o1),.r (TR 23 1 (eS 4 eQ) o2),.r (TR 3 1 bD o3),.r (TR 23 1 (eS 4 eQ) o4)] (.any) [.s (aA o0),.s (ay o1),.r (TR 23 1 (eS 4 eQ) r.1),.r (TR 3 1 bD r.2.1),.r (TR 23 1 (eS 4 eQ) r.2.2)]:=by
 refine IE [1001,1002,1003] Tryz.func60 Y (af Y) Y (by decide) Y (λdw M β us=>?_);unfold cX at h;refine sr<|RT.EY .none (s:=.ptr _ _) Y T Y Y<|RT.EY .none (s:=.sv _) Y T Y Y<|RT.EY .none (s:=.sv _) Y T Y Y<|dn<|aaC (i:=3) Y Y<|bR (iU (i:=3) Y [.v (.pointer (some ⟨β,0,none⟩))] (.cons Y (.nil)) .any 0 [(3,.sv (ref [.v (.pointer (some ⟨β,0,none⟩))]))] (λ_ _ _=>trivial) (xo.h (l:=[.v (.pointer (some ⟨β,0,none⟩))])) ⟨@FT.ptr _ _ _ _ _ 3 0 Y,aq⟩)<|bR (iU (i:=4) Y [ay x1] (.cons Y (.nil)) .any 0 [(4,.sv (ref [ay x1]))] (λ_ _ _=>trivial) (xo.h (l:=[ay x1])) ⟨@FT.ptr _ _ _ _ _ 4 0 Y,aq⟩) ?_;refine bR (iU (i:=5) Y [ay x2] (.cons Y (.nil)) .any 0 [(5,.sv (ref [ay x2]))] (λ_ _ _=>trivial) (xo.h (l:=[ay x2])) ⟨@FT.ptr _ _ _ _ _ 5 0 Y,aq⟩)<|qq<|aZ mixed ?_;obtain⟨⟨⟨AU,AW⟩,⟨ac1,ac2⟩⟩,iF,h⟩:=bS h;refine cl (nH iF) ⟨Y,aq⟩<|RT.Fv (k:=1000) .none Y Y Y T<|RT.cC .none Y T<|fa Y Y<|RT.eA .none (s:=.row _) Y Y Y T<|lr Y Y<|bE h λjl mz h=>iR Y Y Y mz<|bE h λij oG h=>lR (e:=(eS 4 eQ)) Y Y oG Y<|lr Y Y ?_;obtain⟨⟨⟨wH,wI⟩,⟨wJ,wK⟩⟩,oH,h⟩:=bS h;refine ix Y Y oH<|RT.gy (cs:=[_,_,_,_]) .none Y T Y Y ?_;obtain⟨⟨⟨⟨Fy,Fz⟩,⟨FA,FB⟩⟩,Ux⟩,oY,h⟩:=bS h
 refine cl (OV oY) ⟨Y,Y,aq⟩<|mv Y<|ex Y Y<|ex Y Y<|al (cs:=[aA false,ax,aA false,ax]) (by exact⟨au,aC,au,aC,aq⟩) Y<|so Y Y Y<|ag Y ?_;refine RT.done ⟨by kernel_rfl,?_⟩;refine aW.n ?_;refine bR (iU (i:=6) Y [aA Fy,slc 1 (List.map bh Fz),aA FA,slc 1 (List.map bh FB)] (.k4 Y Y Y Y) .any 0 [(6,.sv (ref [aA Fy,slc 1 (List.map bh Fz),aA FA,slc 1 (List.map bh FB)]))] (λ_ _ _=>trivial) (xo.h (l:=[aA Fy,slc 1 (List.map bh Fz),aA FA,slc 1 (List.map bh FB)])) ⟨@FT.ptr _ _ _ _ _ 6 0 Y,aq⟩)<|sr<|RT.Fa (caps:=[_]) .none ⟨Y,aq⟩ T<|bI (cs:=[_]) (cs':=[o5 106 [ref [aA Fy,slc 1 (List.map bh Fz),aA FA,slc 1 (List.map bh FB)]]]) (.one Y (.nil)) ⟨au,aq⟩ ?_;refine RT.alloc .none T Y Y<|so Y Y Y<|dn<|qq<|aZ mixed<|RT.Fv (k:=1000) .none Y Y Y T<|RT.cC .none Y T<|fa Y Y<|RT.eA .none (s:=.row _) Y Y Y T<|lr Y Y<|fa Y Y<|lV Y Y Y<|RT.Fv (k:=1000) .none Y Y Y T<|RT.cC .none Y T<|fa Y Y<|RT.eA .none (s:=.row _) Y Y Y T<|lr Y Y<|bE h λyE GH h=>iR Y Y Y GH ?_;refine bE h λnF yl h=>lR (e:=(eS 4 eQ)) Y Y yl Y<|bE h λvf ET h=>RT.aiD (args:=[_]) (caps:=[_]) .none (MZ ET) Y ⟨Y,aq⟩ T<|bE h λsn Aw h=>iR Y Y Y Aw<|bE h λl2 aoj h=>sR vf Y Y Y Y aoj ?_;refine RT.done ⟨by kernel_rfl,?_⟩
 refine aW.n<|sr<|RT.Fa (caps:=[_,_,_]) .none ⟨Y,Y,Y,aq⟩ T<|bI (cs:=[_]) (cs':=[o5 107 [ref [ay x2],ref [.v (.pointer (some ⟨β,0,none⟩))],ref [ay x1]]]) (.one Y (.nil)) ⟨au,aq⟩<|RT.alloc .none T Y Y<|so Y Y Y<|dn<|sr<|RT.Fv (k:=1000) .none Y Y Y T<|RT.cC .none Y T<|fa Y Y<|RT.eA .none (s:=.row _) Y Y Y T<|lE h λBP Ik h=>lL Y Y Ik ?_;refine mv Y<|dn<|bE h λUo Mw tX=>?_;refine bK (λ(yW:(List (List Qr)))=>AS.cj 71 [] [(1000,⟨79,[aj o0,ai o1,.row 1001,.row 1002,.row 1003]⟩)] [(1001,TR 23 1 (eS 4 eQ) o2),(1002,TR 3 1 bD o3),(1003,TR 23 1 (eS 4 eQ) yW)]) (λyW=>yW=Uo) ?_ (λyW Mx=>?_);refine aY ?_;refine bL Mw (λz9=>AS.cj 71 [(3,.sv (ref [.v (.pointer (some ⟨β,0,none⟩))])),(4,.sv (ref [ay x1])),(9,.ptr 9 0),(50,.row 1003),(51,ai BP),(52,ai z9.1)] [(1000,⟨79,[aj o0,ai o1,.row 1001,.row 1002,.row 1003]⟩),(9,⟨124,[.sv (o5 107 [ref [ay x2],ref [.v (.pointer (some ⟨β,0,none⟩))],ref [ay x1]])]⟩)] [(1003,TR 23 1 (eS 4 eQ) z9.2),(1001,TR 23 1 (eS 4 eQ) o2),(1002,TR 3 1 bD o3)]) (wR []) (λz9 y12 G12 h My Mz=>?_);obtain⟨xP,jZ⟩:=z9
 try dsimp only
 refine sr<|lE h λKv Re h=>ls _ Y Y Re<|dn<|qq ?_;cases Kv;refine cF<|bN<|aW.x<|aW.x<|bF.x<|aW.n ?_;obtain rfl:=O (F h);exact⟨jZ,Mz _ Y,wR []⟩;refine cT<|bw<|aW.n<|qq<|aY<|sr<|mv Y<|bE (V h) λAA OL h=>iR Y Y Y OL<|bE h λJZ Ms h=>lR (e:=(eS 4 eQ)) Y Y Ms Y<|ag Y<|ag Y<|dn<|sr<|mv Y<|lr Y Y<|lE h λUk h59 h=>ne _ Y Y (JV (p:=xP) (q:=x1) h59)<|dn ?_;refine bJ h (λj15=>AS.cj 71 [(3,.sv (ref [.v (.pointer (some ⟨β,0,none⟩))])),(4,.sv (ref [ay x1])),(9,.ptr 9 0),(50,.row 1003),(51,ai BP),(52,ai xP)] [(1000,⟨79,[aj o0,ai o1,.row 1001,.row 1002,.row 1003]⟩),(9,⟨124,[.sv (o5 107 [ref [ay x2],ref [.v (.pointer (some ⟨β,0,none⟩))],ref [ay x1]])]⟩)] [(1003,TR 23 1 (eS 4 eQ) j15),(1001,TR 23 1 (eS 4 eQ) o2),(1002,TR 3 1 bD o3)]) (λh=>?_) (λBi h=>?_);cases Uk;exact fs<|⟨jZ,(F h),wR []⟩;refine cT<|aZ mixed<|RT.Fv (k:=1000) .none Y Y Y T<|RT.cC .none Y T<|fa Y Y<|RT.eA .none (s:=.row _) Y Y Y T<|mv Y<|fa Y Y<|lV Y Y Y<|mv Y<|bE (V h) λQ5 h68 h=>RT.aaD (args:=[.sv (slc 4 (List.map eQ JZ))]) (caps:=λβ=>[ref [ay x2],ref [.v (.pointer (some ⟨β,0,none⟩))],ref [ay x1]]) .none (Kw h68) 1000 [1001,1002,1003] Y Y ⟨Y,Y,Y,aq⟩ (by decide) Y Y (.cons Y (.nil)) T ?_
 refine bE h λWe h69 h=>iR Y Y Y h69<|bE h λl17 ajG h=>sR Q5 Y Y Y Y ajG ?_;refine RT.done ⟨by kernel_rfl,?_⟩;exact aW.n<|⟨l17,h,wR []⟩
 try dsimp only
 refine bF.n<|aW.n<|aX<|lE h λJ0 h70 h=>ad _ Y Y h70<|mv Y<|RT.done ?_;obtain rfl:=O h;exact aW.n ⟨(J0,Bi),My _ Y,wR []⟩;subst Mx
 try dsimp only
 obtain rfl:=O tX;exact⟨.inl Y,lz .nil (λ_ _ _=>trivial),[1001,1002,1003],Y,⟨Y,Y,Y,aq⟩,by decide⟩
set_option maxHeartbeats 4000000 in
theorem pB{o0:Bool}{o1:Int}{o2:List (List Qr)}{o3:List Int}{o4:List (List Qr)}{x1:Int}{x2:Int}{r:Int×(List (List Qr))×(List Int)×(List (List Qr))}(h:dA o0 o1 o2 o3 o4 x1 x2=some r):aav ah 14 [.ptr 1000 0,ai x1,ai x2] 79 [.s (aA o0),.s (ay o1),.r (TR 23 1 (eS 4 eQ) o2),.r (TR 3 1 bD o3),.r (TR 23 1 (eS 4 eQ) o4)] (ay r.1) [.s (aA o0),.s (ay o1),.r (TR 23 1 (eS 4 eQ) r.2.1),.r (TR 3 1 bD r.2.2.1),.r (TR 23 1 (eS 4 eQ) r.2.2.2)]:=by
 refine IE [1001,1002,1003] Tryz.func14 Y (af Y) Y (by decide) Y (λdw M β us=>?_);unfold dA at h;refine sr<|ag Y<|dn<|qq<|sr<|mo (s:=.ptr _ _) Y<|bE h λdI gC h=>RT.sL .none (IW gC) 1000 [1001,1002,1003] Y ⟨Y,Y,Y,aq⟩ (by decide) Y Y (.cons Y (.nil)) T<|dn ?_;cases dI;refine fs<|qq<|qq ?_;refine bJ (F h) (λS9=>AS.cj 68 [(0,.ptr 1000 0),(1,ai x1),(2,ai x2),(31,aj S9)] [(1000,⟨79,[aj o0,ai o1,.row 1001,.row 1002,.row 1003]⟩)] [(1001,TR 23 1 (eS 4 eQ) o2),(1002,TR 3 1 bD o3),(1003,TR 23 1 (eS 4 eQ) o4)]) (λh=>?_) (λXb h=>?_);refine aX<|mv Y<|lE h λc9 fC h=>ls _ Y Y fC<|mv Y<|bE h λXc uf h=>?_;cases c9;refine gm Y<|RT.move (.some Y Y) (s:=.ptr _ _) Y T<|RT.cC (.some Y Y) Y T<|RT.fieldAddr (.some Y Y) Y T Y<|RT.eA (.some Y Y) (s:=.row _) Y Y Y T<|lE (F uf) λjl mz uf=>RT.Oo (.some Y Y) Y Y T mz<|lE uf λij oG uf=>RT.geq (.some Y Y) _ Y Y T oG ?_;obtain rfl:=O uf;refine pF Y<|mv Y<|bE h λaok IY h=>?_;cases ij;refine gm Y<|lE (F IY) λgX oY IY=>RT.lss (.some Y Y) _ Y Y T oY ?_;obtain rfl:=O IY;refine pF Y<|mv Y<|bE h λaol yL h=>?_;cases gX
 refine gm Y<|RT.move (.some Y Y) (s:=.ptr _ _) Y T<|bE (F yL) λgI m7 yL=>RT.sL (.some Y Y) (MX m7) 1000 [1001,1002,1003] Y ⟨Y,Y,Y,aq⟩ (by decide) Y Y (.cons Y (.nil)) T<|lE yL λoF vD yL=>RT.geq (.some Y Y) _ Y Y T vD ?_;obtain rfl:=O yL;exact pF Y<|dn<|⟨oF,h,wR []⟩;obtain rfl:=O (V yL);exact ww<|ww<|ww<|ww<|pT Y<|dn<|⟨true,h,wR []⟩;obtain rfl:=O (V IY);refine ww<|ww<|pT Y<|mv Y<|bE h λaom r7 h=>?_;obtain rfl:=O (V r7);exact ww<|ww<|ww<|ww<|pT Y<|dn<|⟨true,h,wR []⟩;obtain rfl:=O (V uf);refine ww<|ww<|ww<|ww<|ww<|ww<|ww<|pT Y<|mv Y<|bE h λaon C1 h=>?_;obtain rfl:=O (V C1);refine ww<|ww<|pT Y<|mv Y<|bE h λaoo kY h=>?_;obtain rfl:=O (V kY);exact ww<|ww<|ww<|ww<|pT Y<|dn<|⟨true,h,wR []⟩
 try dsimp only
 refine aW.n ?_;cases Xb;refine fs<|qq<|sr<|mo (s:=.ptr _ _) Y<|RT.cC .none Y T<|fa Y Y<|RT.eA .none (s:=.row _) Y Y Y T<|lE (F h) λpg yI h=>lL Y Y yI<|mv Y<|dn<|bE h λD8 wU ko=>?_;refine bK (λ(yX:Unit)=>AS.cj 68 [(0,.ptr 1000 0),(1,ai x1),(2,ai x2)] [(1000,⟨79,[aj o0,ai o1,.row 1001,.row 1002,.row 1003]⟩)] [(1001,TR 23 1 (eS 4 eQ) o2),(1002,TR 3 1 bD o3),(1003,TR 23 1 (eS 4 eQ) o4)]) (λyX=>.inl yX=D8) ?_ (λyX uS=>?_);refine aY ?_;refine bL wU (λpA=>AS.cj 68 [(0,.ptr 1000 0),(1,ai x1),(2,ai x2),(35,.row 1002),(36,ai pg),(37,ai pA)] [(1000,⟨79,[aj o0,ai o1,.row 1001,.row 1002,.row 1003]⟩)] [(1002,TR 3 1 bD o3),(1001,TR 23 1 (eS 4 eQ) o2),(1003,TR 23 1 (eS 4 eQ) o4)]) (wR []) (λMU ZH ZI h yo vH=>?_)
 try dsimp only
 refine sr<|lE h λqX Av h=>ls _ Y Y Av<|dn<|qq ?_;cases qX;refine cF<|bN<|aW.x<|aW.x<|bF.x<|aW.n ?_;obtain rfl:=O (F h);exact⟨(),vH _ Y,wR []⟩;refine cT<|bw<|aW.n<|qq<|aY<|sr<|bE (V h) λvW DT h=>iR Y Y Y DT<|bE h λnk vm h=>lR Y Y vm Y<|ag Y<|dn<|sr<|mv Y<|mv Y<|lE h λvf ET h=>eq _ Y Y (ve (p:=nk) (q:=x2) ET)<|dn ?_;cases vf;refine cF<|bw<|bF.n<|aW.n<|aX<|lE (F h) λsn Aw h=>ad _ Y Y Aw<|mv Y<|RT.done ?_;obtain rfl:=O h;exact aW.n ⟨sn,yo _ Y,wR []⟩;refine cT<|sr<|ag Y<|dn<|bf<|bF.r<|aW.r ?_;obtain rfl:=O (V h);have Xj:=vH _ Y;subst Xj;refine aW.r<|bF.r<|aW.r<|aW.r ?_;obtain rfl:=O ko;exact⟨.inr Y,lz (.tmp Y (.nil)) au,[1001,1002,1003],Y,⟨Y,Y,Y,aq⟩,by decide⟩;subst uS
 try dsimp only
 refine aW.n<|qq<|sr<|mo (s:=.ptr _ _) Y<|RT.cC .none Y T<|fa Y Y<|RT.eA .none (s:=.row _) Y Y Y T<|mv Y<|bE ko λAy Kk ko=>iR Y Y Y Kk<|bE ko λBP Ik ko=>lR (e:=(eS 4 eQ)) Y Y Ik Y<|mv Y ?_;obtain⟨⟨⟨ac3,ac4⟩,⟨ac5,ac6⟩⟩,Re,ko⟩:=bS ko;refine ix Y Y Re<|RT.gy (cs:=[_,_,_,_]) .none Y T Y Y<|bE ko λAA OL ko=>cl (kz OL) ⟨Y,aq⟩<|lE ko λJZ Ms ko=>eq _ Y Y (ve (p:=AA) (q:=0) Ms)<|dn ?_;cases JZ;refine fs<|sr<|mo (s:=.ptr _ _) Y<|mv Y<|mv Y ?_;obtain⟨⟨ZF,l21,l22⟩,N2,ko⟩:=bS (F ko);refine RT.Lp .none (gp N2) 1000 [1001,1002,1003] [304,305,306] Y ⟨Y,Y,Y,aq⟩ (by decide) (by decide) Y ⟨⟨Y,T⟩,⟨Y,T⟩,⟨Y,T⟩,aq⟩ Y Y (.k3 Y Y Y) T<|dn<|sr<|mo (s:=.ptr _ _) Y<|RT.cC .none Y T<|fa Y Y<|RT.eA .none (s:=.row _) Y Y Y T<|mv Y<|mv Y<|bE ko λx67 h67 ko=>iR Y Y Y h67<|bE ko λl24 ajH ko=>sR x2 Y Y Y Y ajH ?_;refine dn<|sr<|ag Y<|dn<|bf ?_;obtain rfl:=O ko;exact⟨.inr Y,lz (.tmp Y (.nil)) au,[304,305,306],Y,⟨Y,Y,Y,aq⟩,by decide⟩;refine cT<|sr<|ag Y<|dn<|bf<|aW.r ?_;obtain rfl:=O (V ko);exact⟨.inr Y,lz (.tmp Y (.nil)) au,[1001,1002,1003],Y,⟨Y,Y,Y,aq⟩,by decide⟩;refine cT<|sr<|ag Y<|dn<|bf<|aW.r ?_;obtain rfl:=O (V h);exact⟨.inr Y,lz (.tmp Y (.nil)) au,[1001,1002,1003],Y,⟨Y,Y,Y,aq⟩,by decide⟩
 refine cT<|sr<|ag Y<|dn<|bf<|aW.r ?_;obtain rfl:=O (V h);exact⟨.inr Y,lz (.tmp Y (.nil)) au,[1001,1002,1003],Y,⟨Y,Y,Y,aq⟩,by decide⟩
end
section
open Go.Fw
noncomputable def ee(x0:List Int):Option (List Int):=(some (x0.length:Int)).bind λx5=>(bX (λ(Ec:Int)=>(show Option ((Int)⊕(Int))from cE (λ(RH:Bool)=>(bif RH then(some (IntKind.i64.wrap (Ec-1))).bind λdX=>some (.inl dX)else some (.inr Ec))) λGC=>(some (decide ((0:Int)<Ec))).bind λx7=>(bif x7 then(some (IntKind.i64.wrap (Ec-1))).bind λfz=>(cL x0 fz).bind λc9=>(some (decide ((c9:Int)=0))).bind λei=>some ei else some false).bind λXk=>GC Xk)) x5).bind λRI=>(GA x0 0 RI).bind λij=>some ij
noncomputable def cP(x0:List Nat):Option (List Int):=(bX (λ(s6:Int×(List Int))=>match s6 with|⟨qQ,gL⟩=>(show Option ((Int×(List Int))⊕((List Int)))from(some (x0.length:Int)).bind λx7=>(some (decide ((qQ:Int)<x7))).bind λx8=>(bif x8 then(cL x0 qQ).bind λei=>(some (ei%65536)).bind λfB=>(some (IntKind.i64.wrap (fB:Int))).bind λdX=>(cL x0 qQ).bind λij=>(some (ij/65536%4294967296)).bind λiA=>(some (IntKind.i64.wrap (iA:Int))).bind λjg=>(nD 8 gL [dX,jg]).bind λjG=>(some (IntKind.i64.wrap (qQ+1))).bind λdI=>some (.inl (dI,jG))else some (.inr gL)))) (0,[])).bind λdj=>(ee dj).bind λiO=>some iO
noncomputable def ga(x0:List Int)(x1:Int):Option (Int):=(some (x0.length:Int)).bind λx7=>(some (decide ((x1:Int)<x7))).bind λx8=>(bif x8 then(cL x0 x1).bind λfz=>some fz else some 0)
noncomputable def ef(x0:Bool)(x1:List Int):Option (Zr):=(ee x1).bind λx8=>(bX (λ(s6:Int×(List Nat))=>match s6 with|⟨mA,gL⟩=>(show Option ((Int×(List Nat))⊕((List Nat)))from(some (x8.length:Int)).bind λfz=>(some (decide ((mA:Int)<fz))).bind λc9=>(bif c9 then(ga x8 mA).bind λeX=>(some ((eX%4294967296).toNat)).bind λjl=>(some (IntKind.i64.wrap (mA+1))).bind λiA=>(ga x8 iA).bind λjg=>(some ((jg%4294967296).toNat)).bind λgX=>(some ((gX*65536)%4294967296)).bind λjG=>(some ((jl+jG)%4294967296)).bind λjH=>(nD 4 gL [jH]).bind λkT=>(some (IntKind.i64.wrap (mA+2))).bind λei=>some (.inl (ei,kT))else some (.inr gL)))) (0,[])).bind λdj=>cE (λ(Xl:Bool)=>some ⟨Xl,dj⟩) λK9=>(bif x0 then(some (dj.length:Int)).bind λiP=>(some (decide ((0:Int)<iP))).bind λoD=>some oD else some false).bind λXm=>K9 Xm
noncomputable def k7(x0:Zr):Option (Zr):=match x0 with|⟨bk,bn⟩=>(cP bn).bind λx7=>(ef bk x7).bind λ⟨r5,r6⟩=>some ⟨r5,r6⟩
noncomputable def oL(x0:Zr)(x1:Zr):Option (Bool):=match x0 with|⟨bk,bn⟩=>match x1 with|⟨cu,cm⟩=>cE (λ(Xn:Bool)=>(bif Xn then some false else(bX (λ(GD:Int)=>(show Option ((Int)⊕((Unit)⊕(Bool)))from(some (bn.length:Int)).bind λjg=>(some (decide ((GD:Int)<jg))).bind λgX=>(bif gX then(cL bn GD).bind λoF=>(cL cm GD).bind λku=>(some (decide ((oF:Nat)≠ku))).bind λuG=>(bif uG then some (.inr (.inr false))else(some (IntKind.i64.wrap (GD+1))).bind λjH=>some (.inl jH))else some (.inr (.inl ()))))) 0).bind λe9=>match e9 with|.inr v9=>some v9|.inl _=>some true)) λK3=>(some (!(bk==cu))).bind λdI=>(bif dI then some true else(some (bn.length:Int)).bind λei=>(some (cm.length:Int)).bind λdX=>(some (decide ((ei:Int)≠dX))).bind λeX=>some eX).bind λXo=>K3 Xo
noncomputable def oM(x0:Int):Option (Zr):=(some ((x0%18446744073709551616).toNat)).bind λx5=>(some (decide ((x0:Int)<0))).bind λx7=>cE (λ(OE:Nat)=>(some (decide ((x0:Int)<0))).bind λfz=>(some (OE%4294967296)).bind λeD=>(some (eD%4294967296)).bind λei=>(some (OE/4294967296%18446744073709551616)).bind λfB=>(some (fB%4294967296)).bind λdX=>(k7 ⟨fz,[ei,dX]⟩).bind λ⟨Ab,Ad⟩=>some ⟨Ab,Ad⟩) λK2=>(bif x7 then(some (we 18446744073709551616 0 x5)).bind λx9=>K2 x9 else K2 x5)
noncomputable def mE(x0:List Int)(x1:List Int):Option (Int):=(some (x0.length:Int)).bind λx7=>(some (x1.length:Int)).bind λx9=>(some (max (x7:Int) x9)).bind λdI=>(some (IntKind.i64.wrap (dI-1))).bind λfz=>(bX (λ(iD:Int)=>(show Option ((Int)⊕((Unit)⊕(Int)))from(some (decide ((0:Int)<=iD))).bind λeD=>(bif eD then(ga x0 iD).bind λeX=>(ga x1 iD).bind λfL=>(some (decide ((eX:Int)<fL))).bind λiA=>(bif iA then some (.inr (.inr (-1)))else(ga x0 iD).bind λjG=>(ga x1 iD).bind λkT=>(some (decide ((kT:Int)<jG))).bind λgI=>(bif gI then some (.inr (.inr 1))else(some (IntKind.i64.wrap (iD-1))).bind λdH=>some (.inl dH)))else some (.inr (.inl ()))))) fz).bind λe6=>match e6 with|.inr v6=>some v6|.inl _=>some 0
noncomputable def kD(x0:List Int)(x1:List Int):Option (List Int):=(bX (λ(pA:Int×Int×(List Int))=>match pA with|⟨GS,RJ,IZ⟩=>(show Option ((Int×Int×(List Int))⊕((List Int)))from cE (λ(RK:Bool)=>(bif RK then(ga x0 RJ).bind λiO=>(ga x1 RJ).bind λoF=>(some (IntKind.i64.wrap (iO+oF))).bind λnV=>(some (IntKind.i64.wrap (nV+GS))).bind λoD=>(some (Int.tmod oD 65536)).bind λpg=>(nD 8 IZ [pg]).bind λqX=>(some (IntKind.i64.wrap (Int.tdiv oD 65536))).bind λnk=>(some (IntKind.i64.wrap (RJ+1))).bind λgX=>some (.inl (nk,gX,qX))else some (.inr IZ))) λK22=>(some (x0.length:Int)).bind λfz=>(some (decide ((RJ:Int)<fz))).bind λc9=>(bif c9 then some true else(some (x1.length:Int)).bind λfB=>(some (decide ((RJ:Int)<fB))).bind λdX=>some dX).bind λRC=>(bif RC then some true else(some (decide ((0:Int)<GS))).bind λfL=>some fL).bind λafV=>K22 afV)) (0,0,[])).bind λzO=>(ee zO).bind λnF=>some nF
noncomputable def jz(x0:List Int)(x1:List Int):Option (List Int):=(bX (λ(s8:Int×Int×(List Int))=>match s8 with|⟨OA,UF,ye⟩=>(show Option ((Int×Int×(List Int))⊕((List Int)))from(some (x0.length:Int)).bind λfz=>(some (decide ((UF:Int)<fz))).bind λc9=>(bif c9 then(ga x0 UF).bind λdX=>(ga x1 UF).bind λij=>(some (IntKind.i64.wrap (dX-ij))).bind λfL=>(some (IntKind.i64.wrap (fL-OA))).bind λjg=>(some (decide ((jg:Int)<0))).bind λjG=>cE (λ(S9:Int×Int)=>match S9 with|⟨afW,aaH⟩=>(nD 8 ye [aaH]).bind λnV=>(some (IntKind.i64.wrap (UF+1))).bind λei=>some (.inl (afW,ei,nV))) λWU=>(bif jG then(some (IntKind.i64.wrap (jg+65536))).bind λiO=>WU (1,iO)else WU (0,jg))else some (.inr ye)))) (0,0,[])).bind λyf=>(ee yf).bind λoD=>some oD
noncomputable def gE(x0:List Int):Option (Int):=(some (x0.length:Int)).bind λx6=>(some (IntKind.i64.wrap (x6-1))).bind λx7=>(bX (λ(s6:Int×Int)=>match s6 with|⟨uc,qQ⟩=>(show Option ((Int×Int)⊕(Int))from(some (decide ((0:Int)<=qQ))).bind λx9=>(bif x9 then(some (IntKind.i64.wrap (uc*65536))).bind λeD=>(cL x0 qQ).bind λfB=>(some (IntKind.i64.wrap (eD+fB))).bind λeX=>(some (IntKind.i64.wrap (qQ-1))).bind λfz=>some (.inl (eX,fz))else some (.inr uc)))) (0,x7)).bind λyS=>some yS
noncomputable def mR(x0:Int):Option (List Int):=(some (Int.tmod x0 65536)).bind λx4=>(some (IntKind.i64.wrap (Int.tdiv x0 65536))).bind λx6=>(some (Int.tmod x6 65536)).bind λx7=>(some (IntKind.i64.wrap (Int.tdiv x0 65536))).bind λx9=>(some (IntKind.i64.wrap (Int.tdiv x9 65536))).bind λdI=>(ee [x4,x7,dI]).bind λc9=>some c9
noncomputable def gG(x0:List Int)(x1:Int):Option (List Int):=(bX (λ(uH:Int×Int×(List Int))=>match uH with|⟨Kx,Xp,og⟩=>(show Option ((Int×Int×(List Int))⊕((List Int)))from cE (λ(De:Bool)=>(bif De then(ga x0 Xp).bind λfL=>(some (IntKind.i64.wrap (fL*x1))).bind λjg=>(some (IntKind.i64.wrap (jg+Kx))).bind λjG=>(some (Int.tmod jG 65536)).bind λkT=>(nD 8 og [kT]).bind λoF=>(some (IntKind.i64.wrap (Int.tdiv jG 65536))).bind λiP=>(some (IntKind.i64.wrap (Xp+1))).bind λeX=>some (.inl (iP,eX,oF))else some (.inr og))) λGC=>(some (x0.length:Int)).bind λfz=>(some (decide ((Xp:Int)<fz))).bind λc9=>(bif c9 then some true else(some (decide ((0:Int)<Kx))).bind λdH=>some dH).bind λI0=>GC I0)) (0,0,[])).bind λjU=>(ee jU).bind λsY=>some sY
noncomputable def ug(x0:List Int)(x1:List Int):Option (List Int):=(some (x0.length:Int)).bind λx9=>(some (x1.length:Int)).bind λfz=>(some (IntKind.i64.wrap (x9+fz))).bind λc9=>(some (decide ((c9:Int)<=3))).bind λeD=>(bif eD then(gE x0).bind λdH=>(gE x1).bind λdX=>(some (IntKind.i64.wrap (dH*dX))).bind λeX=>(mR eX).bind λjl=>some jl else(some (x0.length:Int)).bind λfL=>(some (IntKind.i64.wrap (fL-1))).bind λiA=>(bX (λ(pA:(List Int)×Int)=>match pA with|⟨qh,GS⟩=>(show Option (((List Int)×Int)⊕((List Int)))from(some (decide ((0:Int)<=GS))).bind λgX=>(bif gX then(nD 8 [0] qh).bind λgI=>(bX (λ(AB:(List Int)×Int)=>match AB with|⟨I1,sy⟩=>(show Option (((List Int)×Int)⊕((List Int)))from(cL x0 GS).bind λoD=>(some (decide ((sy:Int)<oD))).bind λku=>(bif ku then(cL x0 GS).bind λnF=>(some (IntKind.i64.wrap (nF-sy))).bind λzu=>(some (min (1024:Int) zu)).bind λvg=>(gG x1 vg).bind λsF=>(kD I1 sF).bind λsj=>(some (IntKind.i64.wrap (sy+1024))).bind λuG=>some (.inl (sj,uG))else some (.inr I1)))) (gI,0)).bind λEd=>(some (IntKind.i64.wrap (GS-1))).bind λjH=>some (.inl (Ed,jH))else some (.inr qh)))) ([],iA)).bind λyV=>(ee yV).bind λAy=>some Ay)
noncomputable def qD(x0:List Int)(x1:List Int):Option ((List Int)×(List Int)):=cE (λ(Xq:Bool)=>(bif Xq then(gE x0).bind λjg=>(gE x1).bind λjG=>(At jg jG).bind λjH=>(mR jH).bind λiO=>(gE x0).bind λgI=>(gE x1).bind λnV=>(Ka gI nV).bind λiP=>(mR iP).bind λoD=>some (iO,oD)else(some (x0.length:Int)).bind λku=>(G5 8 ku (0:Int)).bind λpg=>(some (x1.length:Int)).bind λqX=>(some (decide ((qX:Int)=1))).bind λvW=>(bif vW then(some (x0.length:Int)).bind λyE=>(some (IntKind.i64.wrap (yE-1))).bind λnF=>(bX (λ(QC:Int×Int×(List Int))=>match QC with|⟨Tm,PA,I2⟩=>(show Option ((Int×Int×(List Int))⊕(Int×(List Int)))from(some (decide ((0:Int)<=PA))).bind λsn=>(bif sn then(some (IntKind.i64.wrap (Tm*65536))).bind λsj=>(cL x0 PA).bind λBP=>(some (IntKind.i64.wrap (sj+BP))).bind λKv=>(cL x1 0).bind λAu=>(At Kv Au).bind λDt=>(cL x1 0).bind λx63=>(Ka Kv x63).bind λN1=>(kW I2 PA).bind λQ4=>(stM I2 Q4 Dt).bind λZF=>(some (IntKind.i64.wrap (PA-1))).bind λvg=>some (.inl (N1,vg,ZF))else some (.inr (Tm,I2))))) (0,nF,pg)).bind λe18=>match e18 with|⟨Xr,RL⟩=>(ee RL).bind λQ5=>(ee [Xr]).bind λHo=>some (Q5,Ho)else(some (x0.length:Int)).bind λx73=>(some (IntKind.i64.wrap (x73-1))).bind λx74=>(bX (λ(s44:(List Int)×Int×(List Int))=>match s44 with|⟨PB,zP,zQ⟩=>(show Option (((List Int)×Int×(List Int))⊕((List Int)×(List Int)))from(some (decide ((0:Int)<=zP))).bind λx76=>(bif x76 then(cL x0 zP).bind λx81=>(nD 8 [x81] PB).bind λx85=>(ee x85).bind λQ7=>(some (Q7.length:Int)).bind λx88=>(some (x1.length:Int)).bind λVo=>(some (decide ((x88:Int)<Vo))).bind λx91=>cE (λ(Xs:Int)=>(bX (λ(s54:Int×Int)=>match s54 with|⟨rB,wV⟩=>(show Option ((Int×Int)⊕(Int))from(some (IntKind.i64.wrap (wV-rB))).bind λLD=>(some (decide ((1:Int)<LD))).bind λx95=>(bif x95 then(some (IntKind.i64.wrap (rB+wV))).bind λZG=>(some (IntKind.i64.wrap (Int.tdiv ZG 2))).bind λx99=>(gG x1 x99).bind λKh=>(mE Kh Q7).bind λKj=>(some (decide ((Kj:Int)<=0))).bind λUq=>cE (λ(j56:Int×Int)=>match j56 with|⟨RM,RN⟩=>some (.inl (RM,RN))) λK56=>(bif Uq then K56 (x99,wV)else K56 (rB,x99))else some (.inr rB)))) (0,Xs)).bind λBo=>(gG x1 Bo).bind λQ8=>(jz Q7 Q8).bind λXt=>(kW zQ zP).bind λaaI=>(stM zQ aaI Bo).bind λl58=>(some (IntKind.i64.wrap (zP-1))).bind λJ2=>some (.inl (Xt,J2,l58))) λK46=>(bif x91 then K46 1 else K46 65536)else some (.inr (PB,zQ))))) ([],x74,pg)).bind λe44=>match e44 with|⟨ac8,RO⟩=>(ee RO).bind λCj=>some (Cj,ac8)))) λK3=>(some (x0.length:Int)).bind λdH=>(some (decide ((dH:Int)<=3))).bind λfB=>(bif fB then(some (x1.length:Int)).bind λjl=>(some (decide ((jl:Int)<=3))).bind λij=>some ij else some false).bind λXu=>K3 Xu
noncomputable def fV(x0:Zr):Option (Int):=match x0 with|⟨bk,bn⟩=>(cP bn).bind λx5=>(some (x5.length:Int)).bind λx6=>(some (decide ((x6:Int)=0))).bind λx7=>(bif x7 then some 0 else(bif bk then some (-1)else some 1))
noncomputable def uh(x0:Zr)(x1:Zr):Option (Int):=match x0 with|⟨bk,bn⟩=>match x1 with|⟨cu,cm⟩=>(fV ⟨bk,bn⟩).bind λx7=>(fV ⟨cu,cm⟩).bind λx9=>(some (decide ((x7:Int)≠x9))).bind λdI=>(bif dI then(fV ⟨bk,bn⟩).bind λc9=>(fV ⟨cu,cm⟩).bind λei=>(some (decide ((c9:Int)<ei))).bind λdH=>(bif dH then some (-1)else some 1)else(cP bn).bind λeX=>(cP cm).bind λfL=>(mE eX fL).bind λiA=>(fV ⟨bk,bn⟩).bind λgX=>(some (decide ((gX:Int)<0))).bind λjG=>(bif jG then(some (IntKind.i64.wrap (0-iA))).bind λiO=>some iO else some iA))
noncomputable def qE(x0:Zr):Option (Zr):=match x0 with|⟨bk,bn⟩=>(some (!bk)).bind λx5=>(cP bn).bind λx8=>(ef x5 x8).bind λ⟨PC,PD⟩=>some ⟨PC,PD⟩
noncomputable def uj(x0:Zr):Option (Zr):=match x0 with|⟨bk,bn⟩=>(cP bn).bind λx5=>(ef false x5).bind λ⟨I3,I4⟩=>some ⟨I3,I4⟩
noncomputable def uo(x0:Zr)(x1:Zr):Option (Zr):=match x0 with|⟨bk,bn⟩=>match x1 with|⟨cu,cm⟩=>(cP bn).bind λx9=>(cP cm).bind λc9=>(some (bk==cu)).bind λdX=>(bif dX then(kD x9 c9).bind λiA=>(ef bk iA).bind λ⟨Am,An⟩=>some ⟨Am,An⟩else(mE x9 c9).bind λjH=>(some (decide ((0:Int)<=jH))).bind λiO=>(bif iO then(jz x9 c9).bind λiP=>(ef bk iP).bind λ⟨Cx,Cy⟩=>some ⟨Cx,Cy⟩else(jz c9 x9).bind λqX=>(ef cu qX).bind λ⟨D6,D7⟩=>some ⟨D6,D7⟩))
noncomputable def kE(x0:Zr)(x1:Zr):Option (Zr):=match x0 with|⟨bk,bn⟩=>match x1 with|⟨cu,cm⟩=>(some (!(bk==cu))).bind λx9=>(cP bn).bind λc9=>(cP cm).bind λdH=>(ug c9 dH).bind λfB=>(ef x9 fB).bind λ⟨q9,rf⟩=>some ⟨q9,rf⟩
noncomputable def qF(x0:Zr)(x1:Zr):Option (Zr×Zr×Int):=match x0 with|⟨bk,bn⟩=>match x1 with|⟨cu,cm⟩=>(cP bn).bind λeD=>(cP cm).bind λfB=>(some (fB.length:Int)).bind λeX=>(some (decide ((eX:Int)=0))).bind λjl=>(bif jl then some (⟨false,[]⟩,⟨false,[]⟩,7)else(qD eD fB).bind λ⟨Ii,Mr⟩=>cE (λ(j3:Bool×Bool)=>match j3 with|⟨Xv,CW⟩=>cE (λ(j5:(List Int)×(List Int))=>match j5 with|⟨Wm,OI⟩=>(some (!(CW==cu))).bind λzu=>(ef zu Wm).bind λ⟨F4,F5⟩=>(ef false OI).bind λ⟨OJ,OK⟩=>some (⟨F4,F5⟩,⟨OJ,OK⟩,0)) λK5=>(bif Xv then(kD Ii [1]).bind λuG=>(jz fB Mr).bind λnk=>K5 (uG,nk)else K5 (Ii,Mr))) λK3=>(bif bk then(some (Mr.length:Int)).bind λiP=>(some (decide ((0:Int)<iP))).bind λoD=>some oD else some false).bind λac9=>K3 (ac9,bk))
noncomputable def ur(x0:Zr)(x1:Zr):Option (Zr):=match x0 with|⟨bk,bn⟩=>match x1 with|⟨cu,cm⟩=>(cP bn).bind λfz=>(cP cm).bind λei=>(bX (λ(s6:(List Int)×(List Int))=>match s6 with|⟨iD,mA⟩=>(show Option (((List Int)×(List Int))⊕((List Int)))from(some (mA.length:Int)).bind λfB=>(some (decide ((0:Int)<fB))).bind λdX=>(bif dX then(qD iD mA).bind λ⟨aor,afZ⟩=>some (.inl (mA,afZ))else some (.inr iD)))) (fz,ei)).bind λwC=>(ef false wC).bind λ⟨SY,OD⟩=>some ⟨SY,OD⟩
end
section
open Go.Fw Go.Fw.Z Go.RowKit
theorem fR{x0:List Int}{r:List Int}(h:ee x0=some r):Pure ah 176 [slc 1 (List.map bD x0)] (slc 1 (List.map bD r)):=by
 refine bj Tryz.func176 Y (af Y) (λdw M vs hvs=>?_);unfold ee at h;refine sr<|aI Y (aC (n:=1) (e:=bD))<|dn<|sr<|mv Y<|lE h λx5 h5 h=>ln Y h5<|ag Y<|dn<|qq<|bE h λFi yg pq=>?_;refine bK (λ(RI:Int)=>AS.cj 21 [(0,.sv (slc 1 (List.map bD x0))),(3,ai RI)] [] []) (λRI=>RI=Fi) ?_ (λRI yh=>?_);refine aY ?_;refine bL yg (λuH=>AS.cj 21 [(0,.sv (slc 1 (List.map bD x0))),(3,ai uH)] [] []) (wR []) (λEc ZA ZB h yj uN=>?_)
 try dsimp only
 refine qq<|qq ?_;refine bJ h (λGF=>AS.cj 21 [(0,.sv (slc 1 (List.map bD x0))),(3,ai Ec),(15,aj GF)] [] []) (λh=>?_) (λRH h=>?_);refine aX<|mv Y<|lE h λx7 h7 h=>gt _ Y Y h7<|mv Y<|bE h λXk dD h=>?_;cases x7;obtain rfl:=O (F dD);exact ww<|ww<|ww<|ww<|ww<|ww<|pF Y<|dn<|⟨false,h,wR []⟩;refine gm Y<|gm Y<|lE (V dD) λfz lq dD=>RT.sub (.some Y Y) _ Y Y T lq<|bE dD λc9 fC dD=>RT.Ug (.some Y Y) Y Y T fC<|gr Y Y<|lE dD λei jx dD=>Uh _ Y Y (ve (p:=c9) (q:=0) jx) ?_;obtain rfl:=O dD;exact pT Y<|dn<|⟨ei,h,wR []⟩
 try dsimp only
 refine aW.n ?_;cases RH;refine cF<|bN<|aW.x<|aW.x<|bF.x<|aW.n ?_;obtain rfl:=O (F h);exact⟨Ec,uN _ Y,wR []⟩;refine cT<|bw<|aW.n<|aY<|aX<|mv Y<|lE (V h) λdX jO h=>sb _ Y Y jO<|ag Y<|RT.done<|bF.n ?_;obtain rfl:=O h;exact aW.n ⟨dX,yj _ Y,wR []⟩;subst yh
 try dsimp only
 refine aW.n<|sr<|mv Y<|mv Y<|bE pq λij oG pq=>RT.H8 .none 0 RI Y Y ⟨_,Y⟩ T oG<|ag Y<|dn<|bf ?_;obtain rfl:=O pq;exact R1 Y
theorem dz{x0:List Nat}{r:List Int}(h:cP x0=some r):Pure ah 146 [slc 1 (List.map bh x0)] (slc 1 (List.map bD r)):=by
 refine bj Tryz.func146 Y (af Y) (λdw M vs hvs=>?_);unfold cP at h;refine sr<|aI Y (aC (n:=1) (e:=bD))<|dn<|sr<|ag Y<|dn<|bR (c8 3 304 3 1 Y Y T)<|qq<|sr<|ag Y<|dn<|bE h λe6 vA jo=>?_;refine bK (λ(dj:(List Int))=>AS.cj 28 [(3,.row 306)] [] [(306,TR 3 1 bD dj)]) (λdj=>dj=e6) ?_ (λdj vB=>?_);refine aY ?_;refine bL vA (λs6=>AS.cj 28 [(0,.sv (slc 1 (List.map bh x0))),(3,.row 306),(4,ai s6.1)] [] [(306,TR 3 1 bD s6.2)]) (cD (λi=>bif Nat.beq i 306 then 304 else i) Y Y Y Y Y ⟨.sv au,.row Y,.sv au,aq⟩ trivial ⟨⟨_,Y,cg.refl _⟩,aq⟩ (λi hi=>by rw[bV (show i≠306 by omega)];rfl)) (λs6 y6 G6 h vC qy=>?_);obtain⟨qQ,gL⟩:=s6
 try dsimp only
 refine qq<|sr<|mv Y<|mv Y<|lE h λx7 h7 h=>ln Y h7<|lE h λx8 h8 h=>ls _ Y Y h8<|dn ?_;cases x8;refine cF<|bN<|aW.x<|aW.x<|bF.x<|aW.n ?_;obtain rfl:=O (F h);exact⟨gL,qy _ Y,wR []⟩;refine cT<|bw<|aW.n<|qq<|aY<|aZ mixed<|mo (s:=.row _) Y<|mv Y<|mv Y<|bE (V h) λei jx h=>ix Y Y jx<|lr Y Y<|lE h λfB lu h=>RT.rem .none _ Y Y T (by decide) (ab6 (a:=ei) (b:=65536) lu)<|lE h λdX jO h=>cv _ Y jO<|mv Y<|mv Y<|bE h λij oG h=>ix Y Y oG<|lr Y Y<|lE h λiA oH h=>RT.quo .none _ Y Y T (by decide) (UK.ait (a:=ij) (b:=65536) oH) ?_;refine lE h λjg qP h=>cv _ Y qP<|bl (l:=[dX,jg]) (e:=bD) (.one Y (.one Y (.nil))) Y Y Y Y Y Y<|bE h λjG nP h=>aR (k:=[dX,jg]) (e:=bD) Y Y Y nP<|an (s:=.row _) Y ?_;refine RT.done ⟨by kernel_rfl,?_⟩;refine bF.n<|aW.n<|aX<|mv Y<|lE h λdI gC h=>ad _ Y Y gC<|ag Y<|RT.done ?_;obtain rfl:=O h;exact aW.n ⟨(dI,jG),vC _ Y,cD (λi=>bif Nat.beq i 306 then 25 else i) Y Y Y Y Y ⟨.sv au,.row Y,.sv au,aq⟩ trivial ⟨⟨_,Y,cg.refl _⟩,aq⟩ (λi hi=>by rw[bV (show i≠306 by omega)];rfl)⟩;subst vB
 try dsimp only
 refine aW.n<|qq<|bR (cV (i:=306) (E1:=3) (n:=1) (e:=bD) (l:=dj) Y)<|aX<|mv Y<|bE jo λiO pN jo=>cl (fR pN) ⟨Y,aq⟩<|ag Y<|dn<|bf ?_;obtain rfl:=O jo;exact R1 Y
theorem iK{x0:List Int}{x1:Int}{r:Int}(h:ga x0 x1=some r):Pure ah 179 [slc 1 (List.map bD x0),ay x1] (ay r):=by
 refine bj Tryz.func179 Y (af Y) (λdw M vs hvs=>?_);unfold ga at h;refine sr<|ag Y<|dn<|qq<|sr<|mv Y<|mv Y<|lE h λx7 h7 h=>ln Y h7<|lE h λx8 h8 h=>ls _ Y Y h8<|dn ?_;cases x8;refine fs<|sr<|ag Y<|dn<|bf ?_;obtain rfl:=O (F h);exact R1 Y;refine cT<|sr<|mv Y<|mv Y<|bE (V h) λfz lq h=>ix Y Y lq<|lr Y Y<|ag Y<|dn<|bf<|aW.r ?_;obtain rfl:=O h;exact R1 Y
theorem jA{x0:Bool}{x1:List Int}{r:Zr}(h:ef x0 x1=some r):Pure ah 152 [aA x0,slc 1 (List.map bD x1)] (.agg (eZ r)):=by
 refine bj Tryz.func152 Y (af Y) (λdw M vs hvs=>?_);unfold ef at h;refine sr<|al (cs:=[aA false,ax]) (by exact⟨au,aC,aq⟩) Y<|dn<|sr<|mv Y<|bE h λx8 h8 h=>cl (fR h8) ⟨Y,aq⟩<|ag Y<|dn<|sr<|ag Y<|dn<|bR (c8 5 304 130 1 Y Y T)<|qq<|sr<|ag Y<|dn<|bE h λe6 vA jo=>?_;refine bK (λ(dj:(List Nat))=>AS.cj 37 [(0,aj x0),(4,.ptr 4 0),(5,.row 306)] [(4,⟨41,[aj false,.sv ax]⟩)] [(306,TR 130 1 bh dj)]) (λdj=>dj=e6) ?_ (λdj vB=>?_);refine aY ?_;refine bL vA (λs6=>AS.cj 37 [(0,aj x0),(1,.sv (slc 1 (List.map bD x8))),(4,.ptr 4 0),(5,.row 306),(6,ai s6.1)] [(4,⟨41,[aj false,.sv ax]⟩)] [(306,TR 130 1 bh s6.2)]) (cD (λi=>bif Nat.beq i 306 then 304 else i) Y Y Y Y Y ⟨.sv au,.sv au,.ptr,.row Y,.sv au,aq⟩ ⟨⟨_,Y,⟨.sv au,.sv au,aq⟩⟩,aq⟩ ⟨⟨_,Y,cg.refl _⟩,aq⟩ (λi hi=>by rw[bV (show i≠306 by omega)];rfl)) (λs6 y6 G6 h vC qy=>?_);obtain⟨mA,gL⟩:=s6
 try dsimp only
 refine qq<|sr<|mv Y<|mv Y<|lE h λfz lq h=>ln Y lq<|lE h λc9 fC h=>ls _ Y Y fC<|dn ?_;cases c9;refine cF<|bN<|aW.x<|aW.x<|bF.x<|aW.n ?_;obtain rfl:=O (F h);exact⟨gL,qy _ Y,wR []⟩;refine cT<|bw<|aW.n<|qq<|aY<|aX<|mo (s:=.row _) Y<|mv Y<|mv Y<|bE (V h) λeX jK h=>cl (iK jK) ⟨Y,Y,aq⟩<|lE h λjl mz h=>cv _ Y (UK.conv mz)<|mv Y<|mv Y<|lE h λiA oH h=>ad _ Y Y oH<|bE h λjg qP h=>cl (iK qP) ⟨Y,Y,aq⟩<|lE h λgX oY h=>cv _ Y (UK.conv oY)<|lE h λjG nP h=>RT.mul .none _ Y Y T (UK.mul (a:=gX) (b:=65536) nP) ?_;refine lE h λjH rW h=>ad _ Y Y (UK.add (a:=jl) (b:=jG) rW)<|bl (l:=[jH]) (e:=bh) (.one Y (.nil)) Y Y Y Y Y Y<|bE h λkT uO h=>aR (k:=[jH]) (e:=bh) Y Y Y uO<|an (s:=.row _) Y<|RT.done<|bF.n<|aW.n<|aX<|mv Y<|lE h λei jx h=>ad _ Y Y jx<|ag Y<|RT.done ?_;obtain rfl:=O h;exact aW.n ⟨(ei,kT),vC _ Y,cD (λi=>bif Nat.beq i 306 then 28 else i) Y Y Y Y Y ⟨.sv au,.sv au,.ptr,.row Y,.sv au,aq⟩ ⟨⟨_,Y,⟨.sv au,.sv au,aq⟩⟩,aq⟩ ⟨⟨_,Y,cg.refl _⟩,aq⟩ (λi hi=>by rw[bV (show i≠306 by omega)];rfl)⟩;subst vB
 try dsimp only
 refine aW.n<|qq ?_;refine bJ jo (λj9=>AS.cj 37 [(4,.ptr 4 0)] [(4,⟨41,[aj j9,.sv (slc 1 (List.map bh dj))]⟩)] []) (λjo=>?_) (λXl jo=>?_);refine bR (cV (i:=306) (E1:=130) (n:=1) (e:=bh) (l:=dj) Y)<|aX<|mv Y<|mv Y<|bE jo λXm Df jo=>?_;cases x0;obtain rfl:=O (F Df);exact ww<|ww<|ww<|pF Y<|mv Y<|bI (cs:=[_,_]) (cs':=[aA false,slc 1 (List.map bh dj)]) (.one Y (.one Y (.nil))) ⟨au,au,aq⟩<|so Y Y Y<|dn<|⟨false,jo,wR []⟩;refine gm Y<|lE (V Df) λiP pW Df=>gn Y pW<|lE Df λoD xn Df=>gg _ Y Y xn ?_;obtain rfl:=O Df;exact pT Y<|mv Y<|bI (cs:=[_,_]) (cs':=[aA oD,slc 1 (List.map bh dj)]) (.one Y (.one Y (.nil))) ⟨au,au,aq⟩<|so Y Y Y<|dn<|⟨oD,jo,wR []⟩
 try dsimp only
 refine aW.n<|bf ?_;obtain rfl:=O jo;exact RZ (.agg Y Y (.k2 Y Y) Y (.nil))
theorem Bp{x0:Zr}{r:Zr}(h:k7 x0=some r):Pure ah 113 [.agg (eZ x0)] (.agg (eZ r)):=by
 obtain⟨bk,bn⟩:=x0;refine bj Tryz.func113 Y (af Y) (λdw M vs hvs=>?_);unfold k7 at h;refine sr<|bx Y<|al (cs:=[aA false,ax]) (by exact⟨au,aC,aq⟩) Y<|dn<|qq<|aZ mixed<|fa Y Y<|lV Y Y Y<|fa Y Y<|lV Y Y Y<|bE h λx7 h7 h=>cl (dz h7) ⟨Y,aq⟩ ?_;obtain⟨⟨r5,r6⟩,h8,h⟩:=bS h;refine cl (jA h8) ⟨Y,Y,aq⟩<|so Y Y Y ?_;refine RT.done ⟨by kernel_rfl,?_⟩;refine aW.n<|bf ?_;obtain rfl:=O h;exact RZ (.agg Y Y (.k2 Y Y) Y (.nil))
theorem CC{x0:Zr}{x1:Zr}{r:Bool}(h:oL x0 x1=some r):Pure ah 122 [.agg (eZ x0),.agg (eZ x1)] (aA r):=by
 obtain⟨bk,bn⟩:=x0;obtain⟨cu,cm⟩:=x1;refine bj Tryz.func122 Y (af Y) (λdw M vs hvs=>?_);unfold oL at h;refine sr<|bx Y<|bx Y<|ag Y<|dn<|qq<|qq ?_;refine bJ h (λj3=>AS.cj 38 [(2,.ptr 2 0),(3,.ptr 3 0),(19,aj j3)] [(3,⟨41,[aj cu,.sv (slc 1 (List.map bh cm))]⟩),(2,⟨41,[aj bk,.sv (slc 1 (List.map bh bn))]⟩)] []) (λh=>?_) (λXn h=>?_);refine aX<|fa Y Y<|lV Y Y Y<|fa Y Y<|lV Y Y Y<|lE h λdI gC h=>RT.T6 .none _ Y Y T gC<|mv Y<|bE h λXo Df h=>?_;cases dI;refine RT.fieldAddr (.some Y Y) Y T Y<|RT.yx (.some Y Y) Y Y Y T<|lE (F Df) λei jx Df=>gn Y jx<|RT.fieldAddr (.some Y Y) Y T Y<|RT.yx (.some Y Y) Y Y Y T<|lE Df λdX jO Df=>gn Y jO<|lE Df λeX jK Df=>gq _ Y Y (JV (p:=ei) (q:=dX) jK) ?_;obtain rfl:=O Df;exact pF Y<|dn<|⟨eX,h,wR []⟩;obtain rfl:=O (V Df);exact ww<|ww<|ww<|ww<|ww<|ww<|ww<|pT Y<|dn<|⟨true,h,wR []⟩
 try dsimp only
 refine aW.n ?_;cases Xn;refine fs<|qq<|sr<|ag Y<|dn<|bE (F h) λe9 hl9 ho9=>?_;refine bK (λ(xe9:Unit)=>AS.cj 38 [] [] []) (λxe9=>.inl xe9=e9) ?_ (λxe9 hx9=>?_);refine aY ?_;refine bL hl9 (λs9=>AS.cj 38 [(2,.ptr 2 0),(3,.ptr 3 0),(5,ai s9)] [(3,⟨41,[aj cu,.sv (slc 1 (List.map bh cm))]⟩),(2,⟨41,[aj bk,.sv (slc 1 (List.map bh bn))]⟩)] []) (wR []) (λGD y9 G9 h hG9 hE9=>?_)
 try dsimp only
 refine qq<|sr<|mv Y<|fa Y Y<|lV Y Y Y<|lE h λjg qP h=>ln Y qP<|lE h λgX oY h=>ls _ Y Y oY<|dn ?_;cases gX;refine cF<|bN<|aW.x<|aW.x<|bF.x<|aW.n ?_;obtain rfl:=O (F h);exact⟨(),hE9 _ Y,wR []⟩;refine cT<|bw<|aW.n<|qq<|aY<|qq<|aZ mixed<|fa Y Y<|lV Y Y Y<|mv Y<|bE (V h) λoF vD h=>ix Y Y vD<|lr Y Y<|fa Y Y<|lV Y Y Y<|mv Y<|bE h λku vE h=>ix Y Y vE<|lr Y Y<|lE h λuG DS h=>ne _ Y Y (neN (p:=oF) (q:=ku) DS) ?_;refine RT.done ⟨by kernel_rfl,?_⟩;refine aW.n ?_;cases uG;refine cF<|bw<|bF.n<|aW.n<|aX<|mv Y<|lE (F h) λjH rW h=>ad _ Y Y rW<|ag Y<|RT.done ?_;obtain rfl:=O h;exact aW.n ⟨jH,hG9 _ Y,wR []⟩;refine cT<|sr<|ag Y<|dn<|bf<|bF.r<|aW.r ?_;obtain rfl:=O (V h);have he9:=hE9 _ Y;subst he9;refine aW.r<|bF.r<|aW.r<|aW.r ?_;obtain rfl:=O ho9;exact R1 Y;subst hx9
 try dsimp only
 refine aW.n<|sr<|ag Y<|dn<|bf ?_;obtain rfl:=O ho9;exact R1 Y;refine cT<|sr<|ag Y<|dn<|bf<|aW.r ?_;obtain rfl:=O (V h);exact R1 Y
theorem CD{x0:Int}{r:Zr}(h:oM x0=some r):Pure ah 63 [ay x0] (.agg (eZ r)):=by
 refine bj Tryz.func63 Y (af Y) (λdw M vs hvs=>?_);unfold oM at h;refine sr<|al (cs:=[aA false,ax]) (by exact⟨au,aC,aq⟩) Y<|dn<|sr<|mv Y<|lE h λx5 h5 h=>cv _ Y (UK.conv h5)<|ag Y<|dn<|qq<|sr<|mv Y<|lE h λx7 h7 h=>ls _ Y Y h7<|dn ?_;refine bJ h (λj2=>AS.cj 21 [(0,ai x0),(2,.ptr 2 0),(3,.sv (.v (.int .u64 ((j2:Nat):Int))))] [(2,⟨41,[aj false,.sv ax]⟩)] []) (λh=>?_) (λOE h=>?_);cases x7;exact fs<|⟨x5,(F h),wR []⟩;exact cT<|aX<|mv Y<|lE (V h) λx9 h9 h=>RT.neg .none _ Y T (UK.neg h9)<|ag Y<|dn<|⟨x9,h,wR []⟩
 try dsimp only
 refine aW.n<|sr<|mv Y<|lE h λfz lq h=>ls _ Y Y lq<|mv Y<|lE h λeD iF h=>RT.rem .none _ Y Y T (by decide) (ab6 (a:=OE) (b:=4294967296) iF)<|lE h λei jx h=>cv _ Y (UK.nat jx)<|mv Y<|lE h λfB lu h=>RT.quo .none _ Y Y T (by decide) (UK.ait (a:=OE) (b:=4294967296) lu)<|lE h λdX jO h=>cv _ Y (UK.nat jO)<|bl (l:=[ei,dX]) (e:=bh) (.one Y (.one Y (.nil))) Y Y Y Y Y Y<|bI (cs:=[_,_]) (cs':=[aA fz,slc 1 (List.map bh [ei,dX])]) (.one Y (.one Y (.nil))) ⟨au,au,aq⟩ ?_;obtain⟨⟨Ab,Ad⟩,oG,h⟩:=bS h;refine cl (Bp oG) ⟨Y,aq⟩<|so Y Y Y<|dn<|bf ?_;obtain rfl:=O h;exact RZ (.agg Y Y (.k2 Y Y) Y (.nil))
end
section
open Go.Fw Go.Fw.Z Go.RowKit
theorem zR{x0:List Int}{x1:List Int}{r:Int}(h:mE x0 x1=some r):Pure ah 199 [slc 1 (List.map bD x0),slc 1 (List.map bD x1)] (ay r):=by
 refine bj Tryz.func199 Y (af Y) (λdw M vs hvs=>?_);unfold mE at h;refine sr<|ag Y<|dn<|qq<|sr<|mv Y<|lE h λx7 h7 h=>ln Y h7<|mv Y<|lE h λx9 h9 h=>ln Y h9<|lE h λdI gC h=>RT.max .none _ Y Y T (Ol (p:=x7) (q:=x9) gC)<|lE h λfz lq h=>sb _ Y Y lq<|ag Y<|dn<|bE h λe6 vA jo=>?_;refine bK (λ(uI:Unit)=>AS.cj 30 [] [] []) (λuI=>.inl uI=e6) ?_ (λuI vB=>?_);refine aY ?_;refine bL vA (λs6=>AS.cj 30 [(0,.sv (slc 1 (List.map bD x0))),(1,.sv (slc 1 (List.map bD x1))),(5,ai s6)] [] []) (wR []) (λiD y6 G6 h vC qy=>?_)
 try dsimp only
 refine qq<|sr<|mv Y<|lE h λeD iF h=>ge _ Y Y iF<|dn ?_;cases eD;refine cF<|bN<|aW.x<|aW.x<|bF.x<|aW.n ?_;obtain rfl:=O (F h);exact⟨(),qy _ Y,wR []⟩;refine cT<|bw<|aW.n<|qq<|aY<|qq<|sr<|mv Y<|mv Y<|bE (V h) λeX jK h=>cl (iK jK) ⟨Y,Y,aq⟩<|mv Y<|mv Y<|bE h λfL ke h=>cl (iK ke) ⟨Y,Y,aq⟩<|lE h λiA oH h=>ls _ Y Y oH<|dn ?_;cases iA;refine fs<|sr<|mv Y<|mv Y<|bE (F h) λjG nP h=>cl (iK nP) ⟨Y,Y,aq⟩<|mv Y<|mv Y<|bE h λkT uO h=>cl (iK uO) ⟨Y,Y,aq⟩<|lE h λgI m7 h=>gt _ Y Y m7<|dn ?_;cases gI;refine cF<|bw<|bF.n<|aW.n<|aX<|mv Y<|lE (F h) λdH gD h=>sb _ Y Y gD<|ag Y<|RT.done ?_;obtain rfl:=O h;exact aW.n ⟨dH,vC _ Y,wR []⟩;refine cT<|sr<|ag Y<|dn<|bf<|bF.r<|aW.r ?_;obtain rfl:=O (V h);have GG:=qy _ Y;subst GG;refine aW.r<|bF.r<|aW.r<|aW.r ?_;obtain rfl:=O jo;exact R1 Y;refine cT<|sr<|ag Y<|dn<|bf<|aW.r<|bF.r<|aW.r ?_;obtain rfl:=O (V h);have GG:=qy _ Y;subst GG;refine aW.r<|bF.r<|aW.r<|aW.r ?_;obtain rfl:=O jo;exact R1 Y;subst vB
 try dsimp only
 refine aW.n<|sr<|ag Y<|dn<|bf ?_;obtain rfl:=O jo;exact R1 Y
theorem zS{x0:List Int}{x1:List Int}{r:List Int}(h:kD x0 x1=some r):Pure ah 197 [slc 1 (List.map bD x0),slc 1 (List.map bD x1)] (slc 1 (List.map bD r)):=by
 refine bj Tryz.func197 Y (af Y) (λdw M vs hvs=>?_);unfold kD at h;refine sr<|aI Y (aC (n:=1) (e:=bD))<|dn<|sr<|ag Y<|dn<|bR (c8 5 304 3 1 Y Y T)<|sr<|ag Y<|dn<|qq<|sr<|ag Y<|dn<|bE h λD8 wU ko=>?_;refine bK (λ(zO:(List Int))=>AS.cj 43 [(5,.row 306)] [] [(306,TR 3 1 bD zO)]) (λzO=>zO=D8) ?_ (λzO uS=>?_);refine aY ?_;refine bL wU (λpA=>AS.cj 43 [(0,.sv (slc 1 (List.map bD x0))),(1,.sv (slc 1 (List.map bD x1))),(5,.row 306),(6,ai pA.1),(7,ai pA.2.1)] [] [(306,TR 3 1 bD pA.2.2)]) (cD (λi=>bif Nat.beq i 306 then 304 else i) Y Y Y Y Y ⟨.sv au,.sv au,.row Y,.sv au,.sv au,aq⟩ trivial ⟨⟨_,Y,cg.refl _⟩,aq⟩ (λi hi=>by rw[bV (show i≠306 by omega)];rfl)) (λpA ZH ZI h yo vH=>?_);obtain⟨GS,RJ,IZ⟩:=pA
 try dsimp only
 refine qq<|qq ?_;refine bJ h (λj22=>AS.cj 43 [(0,.sv (slc 1 (List.map bD x0))),(1,.sv (slc 1 (List.map bD x1))),(5,.row 306),(6,ai GS),(7,ai RJ),(22,aj j22)] [] [(306,TR 3 1 bD IZ)]) (λh=>?_) (λRK h=>?_);refine aX<|mv Y<|mv Y<|lE h λfz lq h=>ln Y lq<|lE h λc9 fC h=>ls _ Y Y fC<|mv Y<|bE h λRC jq h=>?_;cases c9;refine gm Y<|gm Y<|lE (F jq) λfB lu jq=>gn Y lu<|lE jq λdX jO jq=>RT.lss (.some Y Y) _ Y Y T jO ?_;obtain rfl:=O jq;refine pF Y<|mv Y<|bE h λXw kn h=>?_;cases dX;refine gm Y<|lE (F kn) λfL ke kn=>gg _ Y Y ke ?_;obtain rfl:=O kn;exact pF Y<|dn<|⟨fL,h,wR []⟩;obtain rfl:=O (V kn);exact ww<|ww<|pT Y<|dn<|⟨true,h,wR []⟩;obtain rfl:=O (V jq);refine ww<|ww<|ww<|ww<|pT Y<|mv Y<|bE h λaot uf h=>?_;obtain rfl:=O (V uf);exact ww<|ww<|pT Y<|dn<|⟨true,h,wR []⟩
 try dsimp only
 refine aW.n ?_;cases RK;refine cF<|bN<|aW.x<|aW.x<|bF.x<|aW.n ?_;obtain rfl:=O (F h);exact⟨IZ,vH _ Y,wR []⟩;refine cT<|bw<|aW.n<|qq<|aY<|sr<|mv Y<|mv Y<|bE (V h) λiO pN h=>cl (iK pN) ⟨Y,Y,aq⟩<|mv Y<|mv Y<|bE h λoF vD h=>cl (iK vD) ⟨Y,Y,aq⟩<|lE h λnV yy h=>ad _ Y Y yy<|mv Y<|lE h λoD xn h=>ad _ Y Y xn<|ag Y<|dn<|sr<|mo (s:=.row _) Y<|mv Y<|lE h λpg yI h=>?_;refine RT.rem .none _ Y Y T (by decide) yI<|bl (l:=[pg]) (e:=bD) (.one Y (.nil)) Y Y Y Y Y Y<|bE h λqX Av h=>aR (k:=[pg]) (e:=bD) Y Y Y Av<|an (s:=.row _) Y<|dn<|aX<|mv Y<|lE h λnk vm h=>RT.quo .none _ Y Y T (by decide) vm<|ag Y<|RT.done<|bF.n<|aW.n<|aX<|mv Y<|lE h λgX oY h=>ad _ Y Y oY<|ag Y<|RT.done ?_;obtain rfl:=O h;exact aW.n ⟨(nk,gX,qX),yo _ Y,cD (λi=>bif Nat.beq i 306 then 38 else i) Y Y Y Y Y ⟨.sv au,.sv au,.row Y,.sv au,.sv au,aq⟩ trivial ⟨⟨_,Y,cg.refl _⟩,aq⟩ (λi hi=>by rw[bV (show i≠306 by omega)];rfl)⟩;subst uS
 try dsimp only
 refine aW.n<|qq<|bR (cV (i:=306) (E1:=3) (n:=1) (e:=bD) (l:=zO) Y)<|aX<|mv Y<|bE ko λnF yl ko=>cl (fR yl) ⟨Y,aq⟩<|ag Y<|dn<|bf ?_;obtain rfl:=O ko;exact R1 Y
theorem vI{x0:List Int}{x1:List Int}{r:List Int}(h:jz x0 x1=some r):Pure ah 198 [slc 1 (List.map bD x0),slc 1 (List.map bD x1)] (slc 1 (List.map bD r)):=by
 refine bj Tryz.func198 Y (af Y) (λdw M vs hvs=>?_);unfold jz at h;refine sr<|aI Y (aC (n:=1) (e:=bD))<|dn<|sr<|ag Y<|dn<|bR (c8 5 304 3 1 Y Y T)<|sr<|ag Y<|dn<|qq<|sr<|ag Y<|dn<|bE h λe8 Kl Cd=>?_;refine bK (λ(yf:(List Int))=>AS.cj 34 [(5,.row 306)] [] [(306,TR 3 1 bD yf)]) (λyf=>yf=e8) ?_ (λyf Mt=>?_);refine aY ?_;refine bL Kl (λs8=>AS.cj 34 [(0,.sv (slc 1 (List.map bD x0))),(1,.sv (slc 1 (List.map bD x1))),(5,.row 306),(6,ai s8.1),(7,ai s8.2.1)] [] [(306,TR 3 1 bD s8.2.2)]) (cD (λi=>bif Nat.beq i 306 then 304 else i) Y Y Y Y Y ⟨.sv au,.sv au,.row Y,.sv au,.sv au,aq⟩ trivial ⟨⟨_,Y,cg.refl _⟩,aq⟩ (λi hi=>by rw[bV (show i≠306 by omega)];rfl)) (λs8 y8 G8 h Mu Mv=>?_);obtain⟨OA,UF,ye⟩:=s8
 try dsimp only
 refine qq<|sr<|mv Y<|mv Y<|lE h λfz lq h=>ln Y lq<|lE h λc9 fC h=>ls _ Y Y fC<|dn ?_;cases c9;refine cF<|bN<|aW.x<|aW.x<|bF.x<|aW.n ?_;obtain rfl:=O (F h);exact⟨ye,Mv _ Y,wR []⟩;refine cT<|bw<|aW.n<|qq<|aY<|sr<|mv Y<|mv Y<|bE (V h) λdX jO h=>cl (iK jO) ⟨Y,Y,aq⟩<|mv Y<|mv Y<|bE h λij oG h=>cl (iK oG) ⟨Y,Y,aq⟩<|lE h λfL ke h=>sb _ Y Y ke<|mv Y<|lE h λjg qP h=>sb _ Y Y qP<|ag Y<|dn<|sr<|ag Y<|dn<|qq<|sr<|mv Y<|lE h λjG nP h=>?_;refine ls _ Y Y nP<|dn ?_;refine bJ h (λS9=>AS.cj 34 [(0,.sv (slc 1 (List.map bD x0))),(1,.sv (slc 1 (List.map bD x1))),(5,.row 306),(6,ai S9.1),(7,ai UF),(8,ai S9.2)] [] [(306,TR 3 1 bD ye)]) (λh=>?_) (λS9 h=>?_);cases jG;exact fs<|⟨(0,jg),(F h),wR []⟩;exact cT<|sr<|mv Y<|lE (V h) λiO pN h=>ad _ Y Y pN<|ag Y<|dn<|aX<|ag Y<|dn<|⟨(1,iO),h,wR []⟩;obtain⟨afW,aaH⟩:=S9
 try dsimp only
 refine aW.n<|aX<|mo (s:=.row _) Y<|mv Y<|bl (l:=[aaH]) (e:=bD) (.one Y (.nil)) Y Y Y Y Y Y<|bE h λnV yy h=>aR (k:=[aaH]) (e:=bD) Y Y Y yy<|an (s:=.row _) Y<|RT.done<|bF.n<|aW.n<|aX<|mv Y<|lE h λei jx h=>ad _ Y Y jx<|ag Y<|RT.done ?_;obtain rfl:=O h;exact aW.n ⟨(afW,ei,nV),Mu _ Y,cD (λi=>bif Nat.beq i 306 then 31 else i) Y Y Y Y Y ⟨.sv au,.sv au,.row Y,.sv au,.sv au,aq⟩ trivial ⟨⟨_,Y,cg.refl _⟩,aq⟩ (λi hi=>by rw[bV (show i≠306 by omega)];rfl)⟩;subst Mt
 try dsimp only
 refine aW.n<|qq<|bR (cV (i:=306) (E1:=3) (n:=1) (e:=bD) (l:=yf) Y)<|aX<|mv Y<|bE Cd λoD xn Cd=>cl (fR xn) ⟨Y,aq⟩<|ag Y<|dn<|bf ?_;obtain rfl:=O Cd;exact R1 Y
theorem l7{x0:List Int}{r:Int}(h:gE x0=some r):Pure ah 208 [slc 1 (List.map bD x0)] (ay r):=by
 refine bj Tryz.func208 Y (af Y) (λdw M vs hvs=>?_);unfold gE at h;refine sr<|ag Y<|dn<|sr<|ag Y<|dn<|qq<|sr<|mv Y<|lE h λx6 h6 h=>ln Y h6<|lE h λx7 h7 h=>sb _ Y Y h7<|ag Y<|dn<|bE h λe6 vA jo=>?_;refine bK (λ(yS:Int)=>AS.cj 20 [(3,ai yS)] [] []) (λyS=>yS=e6) ?_ (λyS vB=>?_);refine aY ?_;refine bL vA (λs6=>AS.cj 20 [(0,.sv (slc 1 (List.map bD x0))),(3,ai s6.1),(4,ai s6.2)] [] []) (wR []) (λs6 y6 G6 h vC qy=>?_);obtain⟨uc,qQ⟩:=s6
 try dsimp only
 refine qq<|sr<|mv Y<|lE h λx9 h9 h=>ge _ Y Y h9<|dn ?_;cases x9;refine cF<|bN<|aW.x<|aW.x<|bF.x<|aW.n ?_;obtain rfl:=O (F h);exact⟨uc,qy _ Y,wR []⟩;refine cT<|bw<|aW.n<|qq<|aY<|aX<|mv Y<|lE (V h) λeD iF h=>RT.mul .none _ Y Y T iF<|mv Y<|mv Y<|bE h λfB lu h=>ix Y Y lu<|lr Y Y<|lE h λeX jK h=>ad _ Y Y jK<|ag Y<|RT.done<|bF.n<|aW.n<|aX<|mv Y<|lE h λfz lq h=>sb _ Y Y lq<|ag Y<|RT.done ?_;obtain rfl:=O h;exact aW.n ⟨(eX,fz),vC _ Y,wR []⟩;subst vB
 try dsimp only
 refine aW.n<|sr<|mv Y<|ag Y<|dn<|bf ?_;obtain rfl:=O jo;exact R1 Y
theorem yp{x0:Int}{r:List Int}(h:mR x0=some r):Pure ah 207 [ay x0] (slc 1 (List.map bD r)):=by
 refine bj Tryz.func207 Y (af Y) (λdw M vs hvs=>?_);unfold mR at h;refine sr<|aI Y (aC (n:=1) (e:=bD))<|dn<|sr<|mv Y<|lE h λx4 h4 h=>RT.rem .none _ Y Y T (by decide) h4<|mv Y<|lE h λx6 h6 h=>RT.quo .none _ Y Y T (by decide) h6<|lE h λx7 h7 h=>RT.rem .none _ Y Y T (by decide) h7<|mv Y<|lE h λx9 h9 h=>RT.quo .none _ Y Y T (by decide) h9<|lE h λdI gC h=>RT.quo .none _ Y Y T (by decide) gC<|bl (l:=[x4,x7,dI]) (e:=bD) (.one Y (.one Y (.one Y (.nil)))) Y Y Y Y Y Y ?_;refine bE h λc9 fC h=>cl (fR fC) ⟨Y,aq⟩<|ag Y<|dn<|bf ?_;obtain rfl:=O h;exact R1 Y
theorem wW{x0:List Int}{x1:Int}{r:List Int}(h:gG x0 x1=some r):Pure ah 209 [slc 1 (List.map bD x0),ay x1] (slc 1 (List.map bD r)):=by
 refine bj Tryz.func209 Y (af Y) (λdw M vs hvs=>?_);unfold gG at h;refine sr<|aI Y (aC (n:=1) (e:=bD))<|dn<|sr<|ag Y<|dn<|bR (c8 5 304 3 1 Y Y T)<|sr<|ag Y<|dn<|qq<|sr<|ag Y<|dn<|bE h λFi yg pq=>?_;refine bK (λ(jU:(List Int))=>AS.cj 35 [(5,.row 306)] [] [(306,TR 3 1 bD jU)]) (λjU=>jU=Fi) ?_ (λjU yh=>?_);refine aY ?_;refine bL yg (λuH=>AS.cj 35 [(0,.sv (slc 1 (List.map bD x0))),(1,ai x1),(5,.row 306),(6,ai uH.1),(7,ai uH.2.1)] [] [(306,TR 3 1 bD uH.2.2)]) (cD (λi=>bif Nat.beq i 306 then 304 else i) Y Y Y Y Y ⟨.sv au,.sv au,.row Y,.sv au,.sv au,aq⟩ trivial ⟨⟨_,Y,cg.refl _⟩,aq⟩ (λi hi=>by rw[bV (show i≠306 by omega)];rfl)) (λuH ZA ZB h yj uN=>?_);obtain⟨Kx,Xp,og⟩:=uH
 try dsimp only
 refine qq<|qq ?_;refine bJ h (λGF=>AS.cj 35 [(0,.sv (slc 1 (List.map bD x0))),(1,ai x1),(5,.row 306),(6,ai Kx),(7,ai Xp),(16,aj GF)] [] [(306,TR 3 1 bD og)]) (λh=>?_) (λDe h=>?_);refine aX<|mv Y<|mv Y<|lE h λfz lq h=>ln Y lq<|lE h λc9 fC h=>ls _ Y Y fC<|mv Y<|bE h λI0 dD h=>?_;cases c9;refine gm Y<|lE (F dD) λdH gD dD=>gg _ Y Y gD ?_;obtain rfl:=O dD;exact pF Y<|dn<|⟨dH,h,wR []⟩;obtain rfl:=O (V dD);exact ww<|ww<|pT Y<|dn<|⟨true,h,wR []⟩
 try dsimp only
 refine aW.n ?_;cases De;refine cF<|bN<|aW.x<|aW.x<|bF.x<|aW.n ?_;obtain rfl:=O (F h);exact⟨og,uN _ Y,wR []⟩;refine cT<|bw<|aW.n<|qq<|aY<|sr<|mv Y<|mv Y<|bE (V h) λfL ke h=>cl (iK ke) ⟨Y,Y,aq⟩<|mv Y<|lE h λjg qP h=>RT.mul .none _ Y Y T qP<|mv Y<|lE h λjG nP h=>ad _ Y Y nP<|ag Y<|dn<|sr<|mo (s:=.row _) Y<|mv Y<|lE h λkT uO h=>RT.rem .none _ Y Y T (by decide) uO<|bl (l:=[kT]) (e:=bD) (.one Y (.nil)) Y Y Y Y Y Y ?_;refine bE h λoF vD h=>aR (k:=[kT]) (e:=bD) Y Y Y vD<|an (s:=.row _) Y<|dn<|aX<|mv Y<|lE h λiP pW h=>RT.quo .none _ Y Y T (by decide) pW<|ag Y<|RT.done<|bF.n<|aW.n<|aX<|mv Y<|lE h λeX jK h=>ad _ Y Y jK<|ag Y<|RT.done ?_;obtain rfl:=O h;exact aW.n ⟨(iP,eX,oF),yj _ Y,cD (λi=>bif Nat.beq i 306 then 30 else i) Y Y Y Y Y ⟨.sv au,.sv au,.row Y,.sv au,.sv au,aq⟩ trivial ⟨⟨_,Y,cg.refl _⟩,aq⟩ (λi hi=>by rw[bV (show i≠306 by omega)];rfl)⟩;subst yh
 try dsimp only
 refine aW.n<|qq<|bR (cV (i:=306) (E1:=3) (n:=1) (e:=bD) (l:=jU) Y)<|aX<|mv Y<|bE pq λsY xp pq=>cl (fR xp) ⟨Y,aq⟩<|ag Y<|dn<|bf ?_;obtain rfl:=O pq;exact R1 Y
theorem M1{x0:List Int}{x1:List Int}{r:List Int}(h:ug x0 x1=some r):Pure ah 200 [slc 1 (List.map bD x0),slc 1 (List.map bD x1)] (slc 1 (List.map bD r)):=by
 refine bj Tryz.func200 Y (af Y) (λdw M vs hvs=>?_);unfold ug at h;refine sr<|aI Y (aC (n:=1) (e:=bD))<|dn<|qq<|sr<|mv Y<|lE h λx9 h9 h=>ln Y h9<|mv Y<|lE h λfz lq h=>ln Y lq<|lE h λc9 fC h=>ad _ Y Y fC<|lE h λeD iF h=>RT.leq .none _ Y Y T iF<|dn ?_;cases eD;refine fs<|sr<|aI Y (aC (n:=1) (e:=bD))<|dn<|qq<|sr<|mv Y<|lE (F h) λfL ke h=>ln Y ke<|lE h λiA oH h=>sb _ Y Y oH<|ag Y<|dn<|bE h λD8 wU ko=>?_;refine bK (λ(yV:(List Int))=>AS.cj 51 [(5,.sv (slc 1 (List.map bD yV)))] [] []) (λyV=>yV=D8) ?_ (λyV uS=>?_);refine aY ?_;refine bL wU (λpA=>AS.cj 51 [(0,.sv (slc 1 (List.map bD x0))),(1,.sv (slc 1 (List.map bD x1))),(5,.sv (slc 1 (List.map bD pA.1))),(6,ai pA.2)] [] []) (wR []) (λpA ZH ZI h yo vH=>?_);obtain⟨qh,GS⟩:=pA
 try dsimp only
 refine qq<|sr<|mv Y<|lE h λgX oY h=>ge _ Y Y oY<|dn ?_;cases gX;refine cF<|bN<|aW.x<|aW.x<|bF.x<|aW.n ?_;obtain rfl:=O (F h);exact⟨qh,vH _ Y,wR []⟩;refine cT<|bw<|aW.n<|qq<|aY<|sr<|RT.Mh (l:=[0]) (e:=bD) .none (.one Y (.nil)) T Y T Y Y Y Y Y Y<|mv Y<|bE (V h) λgI m7 h=>RT.Z6 (k:=qh) (e:=bD) .none Y Y Y T Y T m7<|ag Y<|dn<|sr<|ag Y<|dn<|bE h λe22 M3 o8=>?_;refine bK (λ(Ed:(List Int))=>AS.cj 51 [(0,.sv (slc 1 (List.map bD x0))),(1,.sv (slc 1 (List.map bD x1))),(5,.sv (slc 1 (List.map bD Ed))),(6,ai GS)] [] []) (λEd=>Ed=e22) ?_ (λEd M4=>?_);refine aY ?_;refine bL M3 (λAB=>AS.cj 51 [(0,.sv (slc 1 (List.map bD x0))),(1,.sv (slc 1 (List.map bD x1))),(5,.sv (slc 1 (List.map bD AB.1))),(6,ai GS),(7,ai AB.2)] [] []) (wR []) (λAB y22 G22 h M5 M6=>?_);obtain⟨I1,sy⟩:=AB
 try dsimp only
 refine qq<|sr<|mv Y<|mv Y<|mv Y<|bE h λoD xn h=>ix Y Y xn<|lr Y Y<|lE h λku vE h=>ls _ Y Y vE<|dn ?_;cases ku;refine cF<|bN<|aW.x<|aW.x<|bF.x<|aW.n ?_;obtain rfl:=O (F h);exact⟨I1,M6 _ Y,wR []⟩;refine cT<|bw<|aW.n<|qq<|aY<|aX<|mv Y<|mv Y<|mv Y<|mv Y<|bE (V h) λnF yl h=>ix Y Y yl<|lr Y Y<|mv Y<|lE h λzu Ij h=>sb _ Y Y Ij<|lE h λvg h46 h=>RT.min .none _ Y Y T (V1 (p:=1024) (q:=zu) h46)<|bE h λsF zH h=>cl (wW zH) ⟨Y,Y,aq⟩<|bE h λsj h48 h=>cl (zS h48) ⟨Y,Y,aq⟩<|ag Y ?_;refine RT.done<|bF.n<|aW.n<|aX<|mv Y<|lE h λuG DS h=>ad _ Y Y DS<|ag Y<|RT.done ?_;obtain rfl:=O h;exact aW.n ⟨(sj,uG),M5 _ Y,wR []⟩;subst M4
 try dsimp only
 refine bF.n<|aW.n<|aX<|mv Y<|lE o8 λjH rW o8=>sb _ Y Y rW<|ag Y<|RT.done ?_;obtain rfl:=O o8;exact aW.n ⟨(Ed,jH),yo _ Y,wR []⟩;subst uS
 try dsimp only
 refine aW.n<|sr<|mv Y<|bE ko λAy Kk ko=>cl (fR Kk) ⟨Y,aq⟩<|ag Y<|dn<|bf ?_;obtain rfl:=O ko;exact R1 Y;refine cT<|sr<|mv Y<|bE (V h) λdH gD h=>cl (l7 gD) ⟨Y,aq⟩<|mv Y<|bE h λdX jO h=>cl (l7 jO) ⟨Y,aq⟩<|lE h λeX jK h=>RT.mul .none _ Y Y T jK<|bE h λjl mz h=>cl (yp mz) ⟨Y,aq⟩<|ag Y<|dn<|bf<|aW.r ?_;obtain rfl:=O h;exact R1 Y
set_option maxHeartbeats 4000000 in
theorem Ee{x0:List Int}{x1:List Int}{r:(List Int)×(List Int)}(h:qD x0 x1=some r):Pure ah 196 [slc 1 (List.map bD x0),slc 1 (List.map bD x1)] (.Ca [slc 1 (List.map bD r.1),slc 1 (List.map bD r.2)]):=by
 refine bj Tryz.func196 Y (af Y) (λdw M vs hvs=>?_);unfold qD at h;refine sr<|aI Y (aC (n:=1) (e:=bD))<|aI Y (aC (n:=1) (e:=bD))<|dn<|qq<|qq ?_;refine bJ h (λj3=>AS.cj 120 [(0,.sv (slc 1 (List.map bD x0))),(1,.sv (slc 1 (List.map bD x1))),(21,aj j3)] [] []) (λh=>?_) (λXq h=>?_);refine aX<|mv Y<|lE h λdH gD h=>ln Y gD<|lE h λfB lu h=>RT.leq .none _ Y Y T lu<|mv Y<|bE h λXu PE h=>?_;cases fB;obtain rfl:=O (F PE);exact ww<|ww<|ww<|pF Y<|dn<|⟨false,h,wR []⟩;refine gm Y<|lE (V PE) λjl mz PE=>gn Y mz<|lE PE λij oG PE=>RT.leq (.some Y Y) _ Y Y T oG ?_;obtain rfl:=O PE;exact pT Y<|dn<|⟨ij,h,wR []⟩
 try dsimp only
 refine aW.n ?_;cases Xq;refine fs<|sr<|mv Y<|lE (F h) λku vE h=>ln Y vE<|bE h λpg yI h=>RT.tL (n:=1) (e:=bD) .none Y Y T Y T (by rfl) (by decide) (by exact⟨au,aq⟩) yI<|an (s:=.row _) Y<|dn<|qq<|sr<|mv Y<|lE h λqX Av h=>ln Y Av<|lE h λvW DT h=>eq _ Y Y (ve (p:=qX) (q:=1) DT)<|dn ?_;cases vW;refine fs<|sr<|aI Y (aC (n:=1) (e:=bD))<|dn<|qq<|sr<|mv Y<|lE (F h) λx73 h73 h=>ln Y h73<|lE h λx74 h74 h=>sb _ Y Y h74<|ag Y<|dn<|bE h λe44 aov af1=>?_;refine bK (λ(UG:(List Int)×(List Int))=>AS.cj 120 [(6,.row 36),(9,.sv (slc 1 (List.map bD UG.1)))] [] [(36,TR 3 1 bD UG.2)]) (λUG=>UG=e44) ?_ (λUG aow=>?_);refine aY ?_;refine bL aov (λs44=>AS.cj 120 [(0,.sv (slc 1 (List.map bD x0))),(1,.sv (slc 1 (List.map bD x1))),(6,.row 36),(9,.sv (slc 1 (List.map bD s44.1))),(10,ai s44.2.1)] [] [(36,TR 3 1 bD s44.2.2)]) (wR []) (λs44 y44 G44 h aox aoy=>?_);obtain⟨PB,zP,zQ⟩:=s44
 try dsimp only
 refine qq<|sr<|mv Y<|lE h λx76 h76 h=>ge _ Y Y h76<|dn ?_;cases x76;refine cF<|bN<|aW.x<|aW.x<|bF.x<|aW.n ?_;obtain rfl:=O (F h);exact⟨(PB,zQ),aoy _ Y,wR []⟩;refine cT<|bw<|aW.n<|qq<|aY<|sr<|mv Y<|mv Y<|bE (V h) λx81 h81 h=>ix Y Y h81<|lr Y Y<|RT.Mh (l:=[x81]) (e:=bD) .none (.one Y (.nil)) T Y T Y Y Y Y Y Y<|mv Y<|bE h λx85 h85 h=>RT.Z6 (k:=PB) (e:=bD) .none Y Y Y T Y T h85<|bE h λQ7 h86 h=>cl (fR h86) ⟨Y,aq⟩<|ag Y<|dn<|sr<|ag Y<|ag Y ?_;refine dn<|qq<|sr<|mv Y<|lE h λx88 h88 h=>ln Y h88<|mv Y<|lE h λVo h90 h=>ln Y h90<|lE h λx91 h91 h=>ls _ Y Y h91<|dn ?_;refine bJ h (λj46=>AS.cj 120 [(0,.sv (slc 1 (List.map bD x0))),(1,.sv (slc 1 (List.map bD x1))),(6,.row 36),(9,.sv (slc 1 (List.map bD Q7))),(10,ai zP),(11,ai 0),(12,ai j46)] [] [(36,TR 3 1 bD zQ)]) (λh=>?_) (λXs h=>?_);cases x91;exact fs<|⟨65536,(F h),wR []⟩;exact cT<|aX<|ag Y<|dn<|⟨1,(V h),wR []⟩
 try dsimp only
 refine aW.n<|qq<|bE h λe54 aoz I5=>?_;refine bK (λ(Bo:Int)=>AS.cj 120 [(0,.sv (slc 1 (List.map bD x0))),(1,.sv (slc 1 (List.map bD x1))),(6,.row 36),(9,.sv (slc 1 (List.map bD Q7))),(10,ai zP),(11,ai Bo)] [] [(36,TR 3 1 bD zQ)]) (λBo=>Bo=e54) ?_ (λBo aoA=>?_);refine aY ?_;refine bL aoz (λs54=>AS.cj 120 [(0,.sv (slc 1 (List.map bD x0))),(1,.sv (slc 1 (List.map bD x1))),(6,.row 36),(9,.sv (slc 1 (List.map bD Q7))),(10,ai zP),(11,ai s54.1),(12,ai s54.2)] [] [(36,TR 3 1 bD zQ)]) (wR []) (λs54 y54 G54 h aoB aoC=>?_);obtain⟨rB,wV⟩:=s54
 try dsimp only
 refine qq<|sr<|mv Y<|mv Y<|lE h λLD Xx h=>sb _ Y Y Xx<|lE h λx95 h95 h=>gt _ Y Y h95<|dn ?_;cases x95;refine cF<|bN<|aW.x<|aW.x<|bF.x<|aW.n ?_;obtain rfl:=O (F h);exact⟨rB,aoC _ Y,wR []⟩;refine cT<|bw<|aW.n<|aY<|sr<|mv Y<|mv Y<|lE (V h) λZG h98 h=>ad _ Y Y h98<|lE h λx99 h99 h=>RT.quo .none _ Y Y T (by decide) h99<|ag Y<|dn<|sr<|mv Y<|mv Y<|bE h λKh Wv h=>cl (wW Wv) ⟨Y,Y,aq⟩<|mv Y<|bE h λKj Wx h=>cl (zR Wx) ⟨Y,Y,aq⟩<|lE h λUq afg h=>RT.leq .none _ Y Y T afg<|dn ?_;refine bJ h (λj56=>AS.cj 120 [(0,.sv (slc 1 (List.map bD x0))),(1,.sv (slc 1 (List.map bD x1))),(6,.row 36),(9,.sv (slc 1 (List.map bD Q7))),(10,ai zP),(11,ai j56.1),(12,ai j56.2)] [] [(36,TR 3 1 bD zQ)]) (λh=>?_) (λj56 h=>?_);cases Uq;exact cF<|aX<|mv Y<|ag Y<|dn<|⟨(rB,x99),(F h),wR []⟩;exact cT<|aX<|mv Y<|ag Y<|dn<|⟨(x99,wV),(V h),wR []⟩;obtain⟨RM,RN⟩:=j56
 try dsimp only
 refine bF.n ?_;obtain rfl:=O h;exact aW.n ⟨(RM,RN),aoB _ Y,wR []⟩;subst aoA
 try dsimp only
 refine aW.n<|aX<|mo (s:=.row _) Y<|mv Y<|mv Y<|mv Y<|mv Y<|mv Y<|bE I5 λQ8 afh I5=>cl (wW afh) ⟨Y,Y,aq⟩<|bE I5 λXt aoD I5=>cl (vI aoD) ⟨Y,Y,aq⟩<|bE I5 λaaI aoE I5=>iR Y Y Y aoE<|bE I5 λl58 ajK I5=>sR Bo Y Y Y Y ajK<|ag Y<|RT.done<|bF.n<|aW.n<|aX<|mv Y<|lE I5 λJ2 UE I5=>?_;refine sb _ Y Y UE<|ag Y<|RT.done ?_;obtain rfl:=O I5;exact aW.n ⟨(Xt,J2,l58),aox _ Y,wR []⟩;subst aow;obtain⟨ac8,RO⟩:=UG
 try dsimp only
 refine aW.n<|qq<|bR (cV (i:=36) (E1:=3) (n:=1) (e:=bD) (l:=RO) Y)<|aX<|mv Y<|bE af1 λCj RQ af1=>cl (fR RQ) ⟨Y,aq⟩<|mv Y<|ag Y<|ag Y<|dn<|bf ?_;obtain rfl:=O af1;exact R2 Y Y;refine cT<|sr<|ag Y<|dn<|qq<|sr<|mv Y<|lE (V h) λyE GH h=>ln Y GH<|lE h λnF yl h=>sb _ Y Y yl<|ag Y<|dn<|bE h λe18 Xd sN=>?_;refine bK (λ(Ky:Int×(List Int))=>AS.cj 120 [(6,.row 36),(7,ai Ky.1)] [] [(36,TR 3 1 bD Ky.2)]) (λKy=>Ky=e18) ?_ (λKy Xe=>?_);refine aY ?_;refine bL Xd (λQC=>AS.cj 120 [(0,.sv (slc 1 (List.map bD x0))),(1,.sv (slc 1 (List.map bD x1))),(6,.row 36),(7,ai QC.1),(8,ai QC.2.1)] [] [(36,TR 3 1 bD QC.2.2)]) (wR []) (λQC y18 G18 h Xf RG=>?_);obtain⟨Tm,PA,I2⟩:=QC
 try dsimp only
 refine qq<|sr<|mv Y<|lE h λsn Aw h=>ge _ Y Y Aw<|dn ?_;cases sn;refine cF<|bN<|aW.x<|aW.x<|bF.x<|aW.n ?_;obtain rfl:=O (F h);exact⟨(Tm,I2),RG _ Y,wR []⟩;refine cT<|bw<|aW.n<|qq<|aY<|sr<|mv Y<|lE (V h) λsj h48 h=>RT.mul .none _ Y Y T h48<|mv Y<|mv Y<|bE h λBP Ik h=>ix Y Y Ik<|lr Y Y<|lE h λKv Re h=>ad _ Y Y Re<|ag Y<|dn<|aZ mixed<|mo (s:=.row _) Y<|mv Y<|mv Y<|mv Y<|bE h λAu Rd h=>ix Y Y Rd<|lr Y Y<|bE h λDt N2 h=>?_;refine RT.quo .none _ Y Y T (nzI N2) (V3 N2)<|mv Y<|mv Y<|bE h λx63 h63 h=>ix Y Y h63<|lr Y Y<|bE h λN1 Vp h=>RT.rem .none _ Y Y T (aeD Vp) (aeE Vp)<|bE h λQ4 h66 h=>iR Y Y Y h66<|bE h λZF Xg h=>sR Dt Y Y Y Y Xg<|ag Y ?_;refine RT.done ⟨by kernel_rfl,?_⟩;refine bF.n<|aW.n<|aX<|mv Y<|lE h λvg h46 h=>sb _ Y Y h46<|ag Y<|RT.done ?_;obtain rfl:=O h;exact aW.n ⟨(N1,vg,ZF),Xf _ Y,wR []⟩;subst Xe;obtain⟨Xr,RL⟩:=Ky
 try dsimp only
 refine aW.n<|qq<|bR (cV (i:=36) (E1:=3) (n:=1) (e:=bD) (l:=RL) Y)<|aX<|mv Y<|bE sN λQ5 h68 sN=>cl (fR h68) ⟨Y,aq⟩<|mv Y<|bl (l:=[Xr]) (e:=bD) (.one Y (.nil)) Y Y Y Y Y Y<|bE sN λHo Xi sN=>cl (fR Xi) ⟨Y,aq⟩<|ag Y<|ag Y<|dn<|bf<|aW.r ?_;obtain rfl:=O sN;exact R2 Y Y;refine cT<|sr<|mv Y<|bE (V h) λjg qP h=>cl (l7 qP) ⟨Y,aq⟩<|mv Y<|bE h λjG nP h=>cl (l7 nP) ⟨Y,aq⟩<|bE h λjH rW h=>RT.quo .none _ Y Y T (nzI rW) (V3 rW)<|bE h λiO pN h=>cl (yp pN) ⟨Y,aq⟩<|mv Y<|bE h λgI m7 h=>cl (l7 m7) ⟨Y,aq⟩<|mv Y<|bE h λnV yy h=>cl (l7 yy) ⟨Y,aq⟩ ?_;refine bE h λiP pW h=>RT.rem .none _ Y Y T (aeD pW) (aeE pW)<|bE h λoD xn h=>cl (yp xn) ⟨Y,aq⟩<|ag Y<|ag Y<|dn<|bf<|aW.r ?_;obtain rfl:=O h;exact R2 Y Y
end
section
open Go.Fw Go.Fw.Z Go.RowKit
theorem jB{x0:Zr}{r:Int}(h:fV x0=some r):Pure ah 109 [.agg (eZ x0)] (ay r):=by
 obtain⟨bk,bn⟩:=x0;refine bj Tryz.func109 Y (af Y) (λdw M vs hvs=>?_);unfold fV at h;refine sr<|bx Y<|ag Y<|dn<|qq<|sr<|fa Y Y<|lV Y Y Y<|bE h λx5 h5 h=>cl (dz h5) ⟨Y,aq⟩<|lE h λx6 h6 h=>ln Y h6<|lE h λx7 h7 h=>eq _ Y Y (ve (p:=x6) (q:=0) h7)<|dn ?_;cases x7;refine fs<|qq<|sr<|fa Y Y<|lV Y Y Y<|dn ?_;replace h:=F h;cases bk;refine fs<|sr<|ag Y<|dn<|bf ?_;obtain rfl:=O (F h);exact R1 Y;refine cT<|sr<|ag Y<|dn<|bf<|aW.r ?_;obtain rfl:=O (V h);exact R1 Y;refine cT<|sr<|ag Y<|dn<|bf<|aW.r ?_;obtain rfl:=O (V h);exact R1 Y
theorem M7{x0:Zr}{x1:Zr}{r:Int}(h:uh x0 x1=some r):Pure ah 172 [.agg (eZ x0),.agg (eZ x1)] (ay r):=by
 obtain⟨bk,bn⟩:=x0;obtain⟨cu,cm⟩:=x1;refine bj Tryz.func172 Y (af Y) (λdw M vs hvs=>?_);unfold uh at h;refine sr<|bx Y<|bx Y<|ag Y<|dn<|qq<|qq<|aZ mixed<|ld Y Y (.k2 Y Y)<|bE h λx7 h7 h=>cl (jB h7) ⟨Y,aq⟩<|ld Y Y (.k2 Y Y)<|bE h λx9 h9 h=>cl (jB h9) ⟨Y,aq⟩<|lE h λdI gC h=>ne _ Y Y (JV (p:=x7) (q:=x9) gC) ?_;refine RT.done ⟨by kernel_rfl,?_⟩;refine aW.n ?_;cases dI;refine fs<|qq<|aZ mixed<|fa Y Y<|lV Y Y Y<|bE (F h) λeX jK h=>cl (dz jK) ⟨Y,aq⟩<|fa Y Y<|lV Y Y Y<|bE h λfL ke h=>cl (dz ke) ⟨Y,aq⟩<|bE h λiA oH h=>cl (zR oH) ⟨Y,Y,aq⟩<|ag Y ?_;refine RT.done ⟨by kernel_rfl,?_⟩;refine aW.n<|qq<|sr<|ld Y Y (.k2 Y Y)<|bE h λgX oY h=>cl (jB oY) ⟨Y,aq⟩<|lE h λjG nP h=>ls _ Y Y nP<|dn ?_;cases jG;refine fs<|sr<|mv Y<|ag Y<|dn<|bf ?_;obtain rfl:=O (F h);exact R1 Y;refine cT<|sr<|mv Y<|lE (V h) λiO pN h=>RT.neg .none _ Y T pN<|ag Y<|dn<|bf<|aW.r ?_;obtain rfl:=O h;exact R1 Y;refine cT<|qq<|qq<|aZ mixed<|ld Y Y (.k2 Y Y)<|bE (V h) λc9 fC h=>cl (jB fC) ⟨Y,aq⟩<|ld Y Y (.k2 Y Y)<|bE h λei jx h=>cl (jB jx) ⟨Y,aq⟩<|lE h λdH gD h=>ls _ Y Y gD ?_;refine RT.done ⟨by kernel_rfl,?_⟩;refine aW.n ?_;cases dH;refine fs<|sr<|ag Y<|dn<|bf<|aW.r ?_;obtain rfl:=O (F h);exact R1 Y
 refine cT<|sr<|ag Y<|dn<|bf<|aW.r<|aW.r ?_;obtain rfl:=O (V h);exact R1 Y
theorem Ef{x0:Zr}{r:Zr}(h:qE x0=some r):Pure ah 147 [.agg (eZ x0)] (.agg (eZ r)):=by
 obtain⟨bk,bn⟩:=x0;refine bj Tryz.func147 Y (af Y) (λdw M vs hvs=>?_);unfold qE at h;refine sr<|bx Y<|al (cs:=[aA false,ax]) (by exact⟨au,aC,aq⟩) Y<|dn<|qq<|aZ mixed<|fa Y Y<|lV Y Y Y<|lE h λx5 h5 h=>nt Y _ h5<|fa Y Y<|lV Y Y Y<|bE h λx8 h8 h=>cl (dz h8) ⟨Y,aq⟩ ?_;obtain⟨⟨PC,PD⟩,h9,h⟩:=bS h;refine cl (jA h9) ⟨Y,Y,aq⟩<|so Y Y Y ?_;refine RT.done ⟨by kernel_rfl,?_⟩;refine aW.n<|bf ?_;obtain rfl:=O h;exact RZ (.agg Y Y (.k2 Y Y) Y (.nil))
theorem M8{x0:Zr}{r:Zr}(h:uj x0=some r):Pure ah 174 [.agg (eZ x0)] (.agg (eZ r)):=by
 obtain⟨bk,bn⟩:=x0;refine bj Tryz.func174 Y (af Y) (λdw M vs hvs=>?_);unfold uj at h;refine sr<|bx Y<|al (cs:=[aA false,ax]) (by exact⟨au,aC,aq⟩) Y<|dn<|sr<|fa Y Y<|lV Y Y Y<|bE h λx5 h5 h=>cl (dz h5) ⟨Y,aq⟩ ?_;obtain⟨⟨I3,I4⟩,h6,h⟩:=bS h;refine cl (jA h6) ⟨Y,Y,aq⟩<|so Y Y Y<|dn<|bf ?_;obtain rfl:=O h;exact RZ (.agg Y Y (.k2 Y Y) Y (.nil))
theorem M9{x0:Zr}{x1:Zr}{r:Zr}(h:uo x0 x1=some r):Pure ah 182 [.agg (eZ x0),.agg (eZ x1)] (.agg (eZ r)):=by
 obtain⟨bk,bn⟩:=x0;obtain⟨cu,cm⟩:=x1;refine bj Tryz.func182 Y (af Y) (λdw M vs hvs=>?_);unfold uo at h;refine sr<|bx Y<|bx Y<|al (cs:=[aA false,ax]) (by exact⟨au,aC,aq⟩) Y<|dn<|qq<|aZ mixed<|fa Y Y<|lV Y Y Y<|bE h λx9 h9 h=>cl (dz h9) ⟨Y,aq⟩<|fa Y Y<|lV Y Y Y<|bE h λc9 fC h=>cl (dz fC) ⟨Y,aq⟩<|ag Y<|ag Y ?_;refine RT.done ⟨by kernel_rfl,?_⟩;refine aW.n<|qq<|sr<|fa Y Y<|lV Y Y Y<|fa Y Y<|lV Y Y Y<|lE h λdX jO h=>RT.ZQ .none _ Y Y T jO<|dn ?_;cases dX;refine fs<|qq<|sr<|mv Y<|mv Y<|bE (F h) λjH rW h=>cl (zR rW) ⟨Y,Y,aq⟩<|lE h λiO pN h=>ge _ Y Y pN<|dn ?_;cases iO;refine fs<|qq<|aZ mixed<|fa Y Y<|lV Y Y Y<|mv Y<|mv Y<|bE (F h) λqX Av h=>cl (vI Av) ⟨Y,Y,aq⟩ ?_;obtain⟨⟨D6,D7⟩,DT,h⟩:=bS h;refine cl (jA DT) ⟨Y,Y,aq⟩<|so Y Y Y ?_;refine RT.done ⟨by kernel_rfl,?_⟩;refine aW.n<|bf ?_;obtain rfl:=O h;exact RZ (.agg Y Y (.k2 Y Y) Y (.nil));refine cT<|qq<|aZ mixed<|fa Y Y<|lV Y Y Y<|mv Y<|mv Y<|bE (V h) λiP pW h=>cl (vI pW) ⟨Y,Y,aq⟩ ?_;obtain⟨⟨Cx,Cy⟩,xn,h⟩:=bS h;refine cl (jA xn) ⟨Y,Y,aq⟩<|so Y Y Y ?_;refine RT.done ⟨by kernel_rfl,?_⟩;refine aW.n<|bf<|aW.r ?_;obtain rfl:=O h;exact RZ (.agg Y Y (.k2 Y Y) Y (.nil))
 refine cT<|qq<|aZ mixed<|fa Y Y<|lV Y Y Y<|mv Y<|mv Y<|bE (V h) λiA oH h=>cl (zS oH) ⟨Y,Y,aq⟩ ?_;obtain⟨⟨Am,An⟩,qP,h⟩:=bS h;refine cl (jA qP) ⟨Y,Y,aq⟩<|so Y Y Y ?_;refine RT.done ⟨by kernel_rfl,?_⟩;refine aW.n<|bf<|aW.r ?_;obtain rfl:=O h;exact RZ (.agg Y Y (.k2 Y Y) Y (.nil))
theorem rC{x0:Zr}{x1:Zr}{r:Zr}(h:kE x0 x1=some r):Pure ah 181 [.agg (eZ x0),.agg (eZ x1)] (.agg (eZ r)):=by
 obtain⟨bk,bn⟩:=x0;obtain⟨cu,cm⟩:=x1;refine bj Tryz.func181 Y (af Y) (λdw M vs hvs=>?_);unfold kE at h;refine sr<|bx Y<|bx Y<|al (cs:=[aA false,ax]) (by exact⟨au,aC,aq⟩) Y<|dn<|qq<|aZ mixed<|fa Y Y<|lV Y Y Y<|fa Y Y<|lV Y Y Y<|lE h λx9 h9 h=>RT.T6 .none _ Y Y T h9<|fa Y Y<|lV Y Y Y<|bE h λc9 fC h=>cl (dz fC) ⟨Y,aq⟩<|fa Y Y ?_;refine lV Y Y Y<|bE h λdH gD h=>cl (dz gD) ⟨Y,aq⟩<|bE h λfB lu h=>cl (M1 lu) ⟨Y,Y,aq⟩ ?_;obtain⟨⟨q9,rf⟩,jO,h⟩:=bS h;refine cl (jA jO) ⟨Y,Y,aq⟩<|so Y Y Y ?_;refine RT.done ⟨by kernel_rfl,?_⟩;refine aW.n<|bf ?_;obtain rfl:=O h;exact RZ (.agg Y Y (.k2 Y Y) Y (.nil))
theorem Eg{x0:Zr}{x1:Zr}{r:Zr×Zr×Int}(h:qF x0 x1=some r):Pure ah 171 [.agg (eZ x0),.agg (eZ x1)] (.Ca [.agg (eZ r.1),.agg (eZ r.2.1),ay r.2.2]):=by
 obtain⟨bk,bn⟩:=x0;obtain⟨cu,cm⟩:=x1;refine bj Tryz.func171 Y (af Y) (λdw M vs hvs=>?_);unfold qF at h;refine sr<|bx Y<|bx Y<|al (cs:=[aA false,ax]) (by exact⟨au,aC,aq⟩) Y<|al (cs:=[aA false,ax]) (by exact⟨au,aC,aq⟩) Y<|ag Y<|dn<|qq<|aZ mixed<|fa Y Y<|lV Y Y Y<|bE h λeD iF h=>cl (dz iF) ⟨Y,aq⟩<|fa Y Y ?_;refine lV Y Y Y<|bE h λfB lu h=>cl (dz lu) ⟨Y,aq⟩<|ag Y<|ag Y ?_;refine RT.done ⟨by kernel_rfl,?_⟩;refine aW.n<|qq<|sr<|mv Y<|lE h λeX jK h=>ln Y jK<|lE h λjl mz h=>eq _ Y Y (ve (p:=eX) (q:=0) mz)<|dn ?_;cases jl;refine fs<|sr<|mv Y<|mv Y ?_;obtain⟨⟨Ii,Mr⟩,nP,h⟩:=bS (F h);refine cl (Ee nP) ⟨Y,Y,aq⟩<|mv Y<|ex Y Y<|ex Y Y<|ag Y<|ag Y<|dn<|qq<|qq ?_;refine bJ h (λj3=>AS.cj 50 [(2,.ptr 2 0),(3,.ptr 3 0),(4,.ptr 4 0),(5,.ptr 5 0),(8,.sv (slc 1 (List.map bD fB))),(9,.sv (slc 1 (List.map bD Ii))),(10,.sv (slc 1 (List.map bD Mr))),(34,aj j3.1)] [(5,⟨41,[aj false,.sv ax]⟩),(4,⟨41,[aj false,.sv ax]⟩),(3,⟨41,[aj cu,.sv (slc 1 (List.map bh cm))]⟩),(2,⟨41,[aj j3.2,.sv (slc 1 (List.map bh bn))]⟩)] []) (λh=>?_) (λj3 h=>?_);refine aX<|fa Y Y<|lV Y Y Y<|mv Y<|bE h λac9 MB h=>?_;cases bk;obtain rfl:=O (F MB);exact ww<|ww<|ww<|pF Y<|dn<|⟨(false,false),h,wR []⟩
 refine gm Y<|lE (V MB) λiP pW MB=>gn Y pW<|lE MB λoD xn MB=>gg _ Y Y xn ?_;obtain rfl:=O MB;exact pT Y<|dn<|⟨(oD,true),h,wR []⟩;obtain⟨Xv,CW⟩:=j3
 try dsimp only
 refine aW.n ?_;refine bJ h (λj5=>AS.cj 50 [(2,.ptr 2 0),(3,.ptr 3 0),(4,.ptr 4 0),(5,.ptr 5 0),(9,.sv (slc 1 (List.map bD j5.1))),(10,.sv (slc 1 (List.map bD j5.2)))] [(5,⟨41,[aj false,.sv ax]⟩),(4,⟨41,[aj false,.sv ax]⟩),(3,⟨41,[aj cu,.sv (slc 1 (List.map bh cm))]⟩),(2,⟨41,[aj CW,.sv (slc 1 (List.map bh bn))]⟩)] []) (λh=>?_) (λj5 h=>?_);cases Xv;exact fs<|⟨(Ii,Mr),(F h),wR []⟩;exact cT<|sr<|mv Y<|bl (l:=[1]) (e:=bD) (.one Y (.nil)) Y Y Y Y Y Y<|bE (V h) λuG DS h=>cl (zS DS) ⟨Y,Y,aq⟩<|ag Y<|dn<|aX<|mv Y<|mv Y<|bE h λnk vm h=>cl (vI vm) ⟨Y,Y,aq⟩<|ag Y<|dn<|⟨(uG,nk),h,wR []⟩;obtain⟨Wm,OI⟩:=j5
 try dsimp only
 refine aW.n<|sr<|fa Y Y<|lV Y Y Y<|fa Y Y<|lV Y Y Y<|lE h λzu Ij h=>RT.T6 .none _ Y Y T Ij<|mv Y ?_;obtain⟨⟨F4,F5⟩,zH,h⟩:=bS h;refine cl (jA zH) ⟨Y,Y,aq⟩<|mv Y ?_;obtain⟨⟨OJ,OK⟩,Rc,h⟩:=bS h;refine cl (jA Rc) ⟨Y,Y,aq⟩<|so Y Y Y<|so Y Y Y<|ag Y<|dn<|bf ?_;obtain rfl:=O h;exact RZ (.agg Y Y (.k2 Y Y) Y (.agg Y Y (.k2 Y Y) Y (.tmp Y (.nil))));refine cT<|sr<|bI (cs:=[_,_]) (cs':=[aA false,ax]) (.nil) ⟨au,aC,aq⟩<|bI (cs:=[_,_]) (cs':=[aA false,ax]) (.nil) ⟨au,aC,aq⟩<|so Y Y Y<|so Y Y Y<|ag Y<|dn<|bf<|aW.r ?_;obtain rfl:=O (V h);exact RZ (.agg Y Y (.k2 Y Y) Y (.agg Y Y (.k2 Y Y) Y (.tmp Y (.nil))))
theorem Na{x0:Zr}{x1:Zr}{r:Zr}(h:ur x0 x1=some r):Pure ah 170 [.agg (eZ x0),.agg (eZ x1)] (.agg (eZ r)):=by
 obtain⟨bk,bn⟩:=x0;obtain⟨cu,cm⟩:=x1;refine bj Tryz.func170 Y (af Y) (λdw M vs hvs=>?_);unfold ur at h;refine sr<|bx Y<|bx Y<|al (cs:=[aA false,ax]) (by exact⟨au,aC,aq⟩) Y<|dn<|qq<|aZ mixed<|fa Y Y<|lV Y Y Y<|bE h λfz lq h=>cl (dz lq) ⟨Y,aq⟩<|fa Y Y<|lV Y Y Y<|bE h λei jx h=>cl (dz jx) ⟨Y,aq⟩<|ag Y<|ag Y ?_;refine RT.done ⟨by kernel_rfl,?_⟩;refine aW.n<|qq<|bE h λe6 vA jo=>?_;refine bK (λ(wC:(List Int))=>AS.cj 28 [(4,.ptr 4 0),(5,.sv (slc 1 (List.map bD wC)))] [(4,⟨41,[aj false,.sv ax]⟩)] []) (λwC=>wC=e6) ?_ (λwC vB=>?_);refine aY ?_;refine bL vA (λs6=>AS.cj 28 [(4,.ptr 4 0),(5,.sv (slc 1 (List.map bD s6.1))),(6,.sv (slc 1 (List.map bD s6.2)))] [(4,⟨41,[aj false,.sv ax]⟩)] []) (wR []) (λs6 y6 G6 h vC qy=>?_);obtain⟨iD,mA⟩:=s6
 try dsimp only
 refine qq<|sr<|mv Y<|lE h λfB lu h=>ln Y lu<|lE h λdX jO h=>gt _ Y Y jO<|dn ?_;cases dX;refine cF<|bN<|aW.x<|aW.x<|bF.x<|aW.n ?_;obtain rfl:=O (F h);exact⟨iD,qy _ Y,wR []⟩;refine cT<|bw<|aW.n<|aY<|sr<|mv Y<|mv Y ?_;obtain⟨⟨aor,afZ⟩,ke,h⟩:=bS (V h);refine cl (Ee ke) ⟨Y,Y,aq⟩<|mv Y<|ex Y Y<|ex Y Y<|ag Y<|ag Y<|dn<|aX<|mv Y<|mv Y<|ag Y<|ag Y<|RT.done<|bF.n ?_;obtain rfl:=O h;exact aW.n ⟨(mA,afZ),vC _ Y,wR []⟩;subst vB
 try dsimp only
 refine aW.n<|sr<|mv Y ?_;obtain⟨⟨SY,OD⟩,pN,jo⟩:=bS jo;refine cl (jA pN) ⟨Y,Y,aq⟩<|so Y Y Y<|dn<|bf ?_;obtain rfl:=O jo;exact RZ (.agg Y Y (.k2 Y Y) Y (.nil))
end
end Go.Proofs.YtningmnklfpfjaaGreat
