/- A part of the proof: the framework, the plain functions, the followed functions, the plain laws. -/
import Derived.Test.YtningmnklfpfjaaGreatPSP2
set_option linter.unusedVariables false
set_option linter.unusedSimpArgs false
set_option linter.unusedSectionVars false
namespace Go.Proofs.YtningmnklfpfjaaGreat
section
open Go.Fw Go.Fw.Z Go.RowKit
abbrev OH:List (Value×Value):=[(.int .u8 43,.agg #[.func (.func 187) #[] #[]]),(.int .u8 45,.agg #[.func (.func 189) #[] #[]]),(.int .u8 42,.agg #[.func (.func 191) #[] #[]]),(.int .u8 47,.agg #[.func (.func 192) #[] #[]])]
theorem iT:Pure ah 167 [] (NP OH):=by
 refine bD Tryz.func167 Y (af Y) (λeI M vs hvs=>?_);refine bM<|aW<|RT.DJ .none Y T<|RT.done<|aV.n<|bM<|Rv (af Y) Y Y Y (λS' h0=>?_);exact bf (R1 h0)
theorem th{x0:Zr}{x1:Zr}{x2:Zr}{x3:Zr}(N:Nat){r:Zr×Zr}(h:ig x0 x1 x2 x3=some r):cP ah 187 N [.agg (eZ x0),.agg (eZ x1),.agg (eZ x2),.agg (eZ x3)] (.yB [.agg ((fZ N) r.1),.agg ((fZ N) r.2)]):=by
 obtain⟨bu,bw⟩:=x0;obtain⟨cV,cS⟩:=x1;obtain⟨iS,jM⟩:=x2;obtain⟨y4,y5⟩:=x3;refine bB Tryz.func187 Y (af Y) (λeI M vs hN hvs=>?_);unfold ig at h;refine sr<|bx Y<|bx Y<|bx Y<|bx Y<|al (cs:=[az false,nw N ax]) (by exact⟨au,bk,aq⟩) Y<|al (cs:=[az false,nw N ax]) (by exact⟨au,bk,aq⟩) Y<|dn<|qq<|bh mixed<|ld Y Y (.k2 Y Y)<|ld Y Y (.k2 Y Y) ?_;obtain⟨⟨iI,iA⟩,iz,h⟩:=bS h;refine RT.bL .none (eK N iz) hN Y ⟨Y,Y,aq⟩ T<|ld Y Y (.k2 Y Y)<|ld Y Y (.k2 Y Y) ?_;obtain⟨⟨lO,lP⟩,jB,h⟩:=bS h;refine RT.bL .none (eK N jB) hN Y ⟨Y,Y,aq⟩ T ?_;obtain⟨⟨pH,pI⟩,n8,h⟩:=bS h;refine RT.bL .none ((E5 N n8).w (args':=[_,_]) ⟨(SV.ee (show cj [az iI,nw N (slc 1 (List.map aY iA))] _ from⟨au,ep,aq⟩)),(SV.ee (show cj [az lO,nw N (slc 1 (List.map aY lP))] _ from⟨au,ep,aq⟩)),aq⟩) hN Y ⟨Y,Y,aq⟩ T<|ld Y Y (.k2 Y Y)<|ld Y Y (.k2 Y Y) ?_;obtain⟨⟨nX,nY⟩,n7,h⟩:=bS h;refine RT.bL .none (eK N n7) hN Y ⟨Y,Y,aq⟩ T<|so Y Y Y<|so Y Y Y ?_;refine RT.done ⟨by kernel_rfl,?_⟩;refine aV.n<|bf ?_;obtain rfl:=O h;exact RZ (.agg Y Y (.k2 Y Y) Y (.agg Y Y (.k2 Y Y) Y (.nil)))
theorem tj{x0:Zr}{x1:Zr}{x2:Zr}{x3:Zr}(N:Nat){r:Zr×Zr}(h:ij x0 x1 x2 x3=some r):cP ah 189 N [.agg (eZ x0),.agg (eZ x1),.agg (eZ x2),.agg (eZ x3)] (.yB [.agg ((fZ N) r.1),.agg ((fZ N) r.2)]):=by
 obtain⟨bu,bw⟩:=x0;obtain⟨cV,cS⟩:=x1;obtain⟨iS,jM⟩:=x2;obtain⟨y4,y5⟩:=x3;refine bB Tryz.func189 Y (af Y) (λeI M vs hN hvs=>?_);unfold ij at h;refine sr<|bx Y<|bx Y<|bx Y<|bx Y<|al (cs:=[az false,nw N ax]) (by exact⟨au,bk,aq⟩) Y<|al (cs:=[az false,nw N ax]) (by exact⟨au,bk,aq⟩) Y<|dn<|qq<|bh mixed<|ld Y Y (.k2 Y Y)<|ld Y Y (.k2 Y Y) ?_;obtain⟨⟨iI,iA⟩,iz,h⟩:=bS h;refine RT.bL .none (eK N iz) hN Y ⟨Y,Y,aq⟩ T<|ld Y Y (.k2 Y Y)<|ld Y Y (.k2 Y Y) ?_;obtain⟨⟨lO,lP⟩,jB,h⟩:=bS h;refine RT.bL .none (eK N jB) hN Y ⟨Y,Y,aq⟩ T ?_;obtain⟨⟨pH,pI⟩,n8,h⟩:=bS h;refine RT.bL .none ((E6 N n8).w (args':=[_,_]) ⟨(SV.ee (show cj [az iI,nw N (slc 1 (List.map aY iA))] _ from⟨au,ep,aq⟩)),(SV.ee (show cj [az lO,nw N (slc 1 (List.map aY lP))] _ from⟨au,ep,aq⟩)),aq⟩) hN Y ⟨Y,Y,aq⟩ T<|ld Y Y (.k2 Y Y)<|ld Y Y (.k2 Y Y) ?_;obtain⟨⟨nX,nY⟩,n7,h⟩:=bS h;refine RT.bL .none (eK N n7) hN Y ⟨Y,Y,aq⟩ T<|so Y Y Y<|so Y Y Y ?_;refine RT.done ⟨by kernel_rfl,?_⟩;refine aV.n<|bf ?_;obtain rfl:=O h;exact RZ (.agg Y Y (.k2 Y Y) Y (.agg Y Y (.k2 Y Y) Y (.nil)))
theorem tq{x0:Zr}{x1:Zr}{x2:Zr}{x3:Zr}(N:Nat){r:Zr×Zr}(h:ik x0 x1 x2 x3=some r):cP ah 191 N [.agg (eZ x0),.agg (eZ x1),.agg (eZ x2),.agg (eZ x3)] (.yB [.agg ((fZ N) r.1),.agg ((fZ N) r.2)]):=by
 obtain⟨bu,bw⟩:=x0;obtain⟨cV,cS⟩:=x1;obtain⟨iS,jM⟩:=x2;obtain⟨y4,y5⟩:=x3;refine bB Tryz.func191 Y (af Y) (λeI M vs hN hvs=>?_);unfold ik at h;refine sr<|bx Y<|bx Y<|bx Y<|bx Y<|al (cs:=[az false,nw N ax]) (by exact⟨au,bk,aq⟩) Y<|al (cs:=[az false,nw N ax]) (by exact⟨au,bk,aq⟩) Y<|dn<|qq<|bh mixed<|ld Y Y (.k2 Y Y)<|ld Y Y (.k2 Y Y) ?_;obtain⟨⟨iI,iA⟩,iz,h⟩:=bS h;refine RT.bL .none (eK N iz) hN Y ⟨Y,Y,aq⟩ T<|ld Y Y (.k2 Y Y)<|ld Y Y (.k2 Y Y) ?_;obtain⟨⟨lO,lP⟩,jB,h⟩:=bS h;refine RT.bL .none (eK N jB) hN Y ⟨Y,Y,aq⟩ T<|so Y Y Y<|so Y Y Y ?_;refine RT.done ⟨by kernel_rfl,?_⟩;refine aV.n<|bf ?_;obtain rfl:=O h;exact RZ (.agg Y Y (.k2 Y Y) Y (.agg Y Y (.k2 Y Y) Y (.nil)))
theorem tu{x0:Zr}{x1:Zr}{x2:Zr}{x3:Zr}(N:Nat){r:Zr×Zr}(h:iq x0 x1 x2 x3=some r):cP ah 192 N [.agg (eZ x0),.agg (eZ x1),.agg (eZ x2),.agg (eZ x3)] (.yB [.agg ((fZ N) r.1),.agg ((fZ N) r.2)]):=by
 obtain⟨bu,bw⟩:=x0;obtain⟨cV,cS⟩:=x1;obtain⟨iS,jM⟩:=x2;obtain⟨y4,y5⟩:=x3;refine bB Tryz.func192 Y (af Y) (λeI M vs hN hvs=>?_);unfold iq at h;refine sr<|bx Y<|bx Y<|bx Y<|bx Y<|al (cs:=[az false,nw N ax]) (by exact⟨au,bk,aq⟩) Y<|al (cs:=[az false,nw N ax]) (by exact⟨au,bk,aq⟩) Y<|dn<|qq<|bh mixed<|ld Y Y (.k2 Y Y)<|ld Y Y (.k2 Y Y) ?_;obtain⟨⟨iI,iA⟩,iz,h⟩:=bS h;refine RT.bL .none (eK N iz) hN Y ⟨Y,Y,aq⟩ T<|ld Y Y (.k2 Y Y)<|ld Y Y (.k2 Y Y) ?_;obtain⟨⟨lO,lP⟩,jB,h⟩:=bS h;refine RT.bL .none (eK N jB) hN Y ⟨Y,Y,aq⟩ T<|so Y Y Y<|so Y Y Y ?_;refine RT.done ⟨by kernel_rfl,?_⟩;refine aV.n<|bf ?_;obtain rfl:=O h;exact RZ (.agg Y Y (.k2 Y Y) Y (.agg Y Y (.k2 Y Y) Y (.nil)))
theorem dV{x0:Qr}{r:Zr×Zr}(h:dj x0=some r):Pure ah 127 [.agg (eQ x0)] (.yB [.agg (eZ r.1),.agg (eZ r.2)]):=by
 obtain⟨⟨bu,bw⟩,⟨bF,bJ⟩⟩:=x0;refine bD Tryz.func127 Y (af Y) (λeI M vs hvs=>?_);unfold dj at h;refine sr<|bx Y<|al (cs:=[az false,ax]) (by exact⟨au,aB,aq⟩) Y<|al (cs:=[az false,ax]) (by exact⟨au,aB,aq⟩) Y<|dn<|qq<|sr<|fa Y Y<|ld Y Y (.k2 Y Y)<|bE h λx6 h6 h=>cl (fz h6) ⟨Y,aq⟩<|dn<|bj<|sr<|lE h λx8 h8 h=>eq _ Y Y (xg (p:=x6) (q:=0) h8) ?_;refine ag Y<|dn ?_;cases x8;refine cF<|sr<|lE (F h) λjv lK h=>eq _ Y Y (xg (p:=x6) (q:=(-1)) lK)<|ag Y<|dn ?_;cases jv;refine cF<|bC<|bG.n<|aV.n<|qq<|bh mixed<|fa Y Y<|ld Y Y (.k2 Y Y)<|fa Y Y<|ld Y Y (.k2 Y Y)<|so Y Y Y<|so Y Y Y ?_;refine RT.done ⟨by kernel_rfl,?_⟩;refine aV.n<|bf ?_;obtain rfl:=O (F h);exact RZ (.agg Y Y (.k2 Y Y) Y (.agg Y Y (.k2 Y Y) Y (.nil)));refine cT<|qq<|bh mixed<|fa Y Y<|ld Y Y (.k2 Y Y) ?_;obtain⟨⟨pH,pI⟩,n8,h⟩:=bS (V h);refine cl (xP n8) ⟨Y,aq⟩<|fa Y Y<|ld Y Y (.k2 Y Y) ?_;obtain⟨⟨nX,nY⟩,n7,h⟩:=bS h;refine cl (xP n7) ⟨Y,aq⟩<|so Y Y Y<|so Y Y Y ?_;refine RT.done ⟨by kernel_rfl,?_⟩;refine aV.n<|bf<|bG.r<|aV.r ?_;obtain rfl:=O h;exact RZ (.agg Y Y (.k2 Y Y) Y (.agg Y Y (.k2 Y Y) Y (.nil)));refine cT<|qq<|bh mixed<|fa Y Y<|ld Y Y (.k2 Y Y) ?_;obtain⟨⟨TE,TF⟩,qH,h⟩:=bS (V h);refine cl (wH qH) ⟨Y,aq⟩<|so Y Y Y<|so Y Y Y ?_
 refine RT.done ⟨by kernel_rfl,?_⟩;refine aV.n<|bf<|bG.r<|aV.r ?_;obtain rfl:=O h;exact RZ (.agg Y Y (.k2 Y Y) Y (.agg Y Y (.k2 Y Y) Y (.nil)))
theorem jQ{x0:Zr}{x1:Zr}(N:Nat){r:Qr}(h:fB x0 x1=some r):cP ah 140 N [.agg (eZ x0),.agg (eZ x1)] (.agg ((fQ N) r)):=by
 obtain⟨bu,bw⟩:=x0;obtain⟨cV,cS⟩:=x1;refine bB Tryz.func140 Y (af Y) (λeI M vs hN hvs=>?_);unfold fB at h;refine sr<|bx Y<|bx Y<|al (cs:=[az false,nw N ax,az false,nw N ax]) (by exact⟨au,bk,au,bk,aq⟩) Y<|dn<|qq<|sr<|ld Y Y (.k2 Y Y)<|bE h λx9 h9 h=>cl (fz h9) ⟨Y,aq⟩<|lE h λeY iO h=>ls _ Y Y iO<|dn ?_;refine bH h (λj2=>AS.cL 46 [(2,.ptr 2 0),(3,.ptr 3 0),(4,.ptr 4 0)] [(4,⟨43,[aj false,.sv (nw N ax),aj false,.sv (nw N ax)]⟩),(3,⟨41,[aj j2.1,.sv (slc 1 (List.map aY j2.2.1))]⟩),(2,⟨41,[aj j2.2.2.1,.sv (slc 1 (List.map aY j2.2.2.2))]⟩)] []) (λh=>?_) (λj2 h=>?_);cases eY;exact fs<|⟨(cV,cS,bu,bw),(F h),wR []⟩;refine cT<|bh mixed<|ld Y Y (.k2 Y Y) ?_;obtain⟨⟨iI,iA⟩,iz,h⟩:=bS (V h);refine RT.bL .none (oa N iz) hN Y ⟨Y,aq⟩ T<|ld Y Y (.k2 Y Y) ?_;obtain⟨⟨Ov,Ow⟩,lB,h⟩:=bS h;refine RT.bL .none (oa N lB) hN Y ⟨Y,aq⟩ T<|so Y Y Y<|so Y Y Y ?_;refine RT.done ⟨by kernel_rfl,?_⟩;exact aV.n<|⟨(Ov,Ow,iI,iA),h,dD id Y Y Y Y Y ⟨.ptr,.ptr,.ptr,aq⟩ ⟨⟨_,Y,⟨.sv au,.sv au,.sv au,.sv au,aq⟩⟩,⟨_,Y,⟨.sv au,.sv ep,aq⟩⟩,⟨_,Y,⟨.sv au,.sv ep,aq⟩⟩,aq⟩ trivial (λ_ _=>Y)⟩;obtain⟨JF,JG,JH,JI⟩:=j2
 try dsimp only
 refine aV.n<|sr<|ld Y Y (.k2 Y Y)<|ld Y Y (.k2 Y Y) ?_;obtain⟨⟨vu,vv⟩,nL,h⟩:=bS h;refine RT.bL .none (E8 N nL) hN Y ⟨Y,Y,aq⟩ T<|al (cs:=[az false,nw N ax]) (by exact⟨au,bk,aq⟩) Y<|so Y Y Y<|dn<|sr<|ld Y Y (.k2 Y Y)<|ld Y Y (.k2 Y Y) ?_;obtain⟨⟨⟨BS,BT⟩,⟨We,Wf⟩,afC⟩,o6,h⟩:=bS h;refine RT.bL .none ((rZ N o6).w (args':=[_,_]) ⟨au,(SV.ee (show cj [az vu,nw N (slc 1 (List.map aY vv))] _ from⟨au,ep,aq⟩)),aq⟩) hN Y ⟨Y,Y,aq⟩ T<|mv Y<|ex Y Y<|ex Y Y<|ex Y Y<|so Y Y Y<|dn<|sr<|ld Y Y (.k2 Y Y)<|ld Y Y (.k2 Y Y) ?_;obtain⟨⟨⟨y7,y9⟩,⟨Wg,Wh⟩,afD⟩,wE,h⟩:=bS h;refine RT.bL .none ((rZ N wE).w (args':=[_,_]) ⟨au,(SV.ee (show cj [az vu,nw N (slc 1 (List.map aY vv))] _ from⟨au,ep,aq⟩)),aq⟩) hN Y ⟨Y,Y,aq⟩ T<|mv Y<|ex Y Y<|ex Y Y<|ex Y Y<|so Y Y Y<|dn<|qq<|sr<|ld Y Y (.k2 Y Y) ?_;obtain⟨⟨Wi,Wj⟩,uS,h⟩:=bS h;refine cl ((gC uS).w (args':=[_]) ⟨(SV.ee (show cj [az y7,nw N (slc 1 (List.map aY y9))] _ from⟨au,ep,aq⟩)),aq⟩) ⟨Y,aq⟩<|mv Y<|ex Y Y<|ex Y Y<|ag Y<|ag Y<|dn<|qq ?_
 refine bH h (λj5=>AS.cL 46 [(2,.ptr 2 0),(3,.ptr 3 0),(4,.ptr 4 0),(41,aj j5)] [(4,⟨43,[aj false,.sv (nw N ax),aj false,.sv (nw N ax)]⟩),(3,⟨41,[aj y7,.sv (nw N (slc 1 (List.map aY y9)))]⟩),(2,⟨41,[aj BS,.sv (nw N (slc 1 (List.map aY BT)))]⟩)] []) (λh=>?_) (λOu h=>?_);refine aW<|mv Y<|mv Y<|bE h λTG OI h=>?_;cases Wj;obtain rfl:=O (F OI);exact ww<|ww<|pF Y<|dn<|⟨false,h,wR []⟩;refine gm Y<|lE (V OI) λmX sx OI=>ZA _ Y Y (xg (p:=Wi) (q:=1) sx) ?_;obtain rfl:=O OI;exact pT Y<|dn<|⟨mX,h,wR []⟩
 try dsimp only
 refine aV.n ?_;refine bH h (λj7=>AS.cL 46 [(2,.ptr 2 0),(3,.ptr 3 0),(4,.ptr 4 0)] [(4,⟨43,[aj false,.sv (nw N ax),aj false,.sv (nw N ax)]⟩),(3,⟨41,[aj j7.1,.sv (nw N (slc 1 (List.map aY j7.2)))]⟩),(2,⟨41,[aj BS,.sv (nw N (slc 1 (List.map aY BT)))]⟩)] []) (λh=>?_) (λj7 h=>?_);cases Ou;exact fs<|⟨(y7,y9),(F h),wR []⟩;exact cT<|aW<|bI (cs:=[_,_]) (cs':=[az false,nw N ax]) (.nil) ⟨au,bk,aq⟩<|so Y Y Y<|dn<|⟨(false,[]),(V h),wR []⟩;obtain⟨JJ,JK⟩:=j7
 try dsimp only
 refine aV.n<|sr<|ld Y Y (.k2 Y Y)<|ld Y Y (.k2 Y Y)<|bI (cs:=[_,_,_,_]) (cs':=[az BS,nw N (slc 1 (List.map aY BT)),az JJ,nw N (slc 1 (List.map aY JK))]) (.agg Y (.agg Y (.nil))) ⟨au,au,au,au,aq⟩<|so Y Y Y<|dn<|bf ?_;obtain rfl:=O h;exact RZ (.agg Y Y (.k4 Y Y Y Y) Y (.nil))
theorem fD{x0:Qr}{r:Int×Int×Bool}(h:dS x0=some r):Pure ah 134 [.agg (eQ x0)] (.yB [ay r.1,ay r.2.1,az r.2.2]):=by
 obtain⟨⟨bu,bw⟩,⟨bF,bJ⟩⟩:=x0;refine bD Tryz.func134 Y (af Y) (λeI M vs hvs=>?_);unfold dS at h;refine sr<|bx Y<|ag Y<|ag Y<|ag Y<|dn<|sr<|fa Y Y<|ld Y Y (.k2 Y Y) ?_;obtain⟨⟨E9,aac⟩,iO,h⟩:=bS h;refine cl (gC iO) ⟨Y,aq⟩<|mv Y<|ex Y Y<|ex Y Y<|ag Y<|ag Y<|dn<|sr<|fa Y Y<|ld Y Y (.k2 Y Y) ?_;obtain⟨⟨Dm,aad⟩,n8,h⟩:=bS h;refine cl (gC n8) ⟨Y,aq⟩<|mv Y<|ex Y Y<|ex Y Y<|ag Y<|ag Y<|dn<|qq<|qq ?_;refine bH h (λj21=>AS.cL 53 [(2,ai E9),(3,ai Dm),(40,aj j21)] [] []) (λh=>?_) (λJM h=>?_);refine aW<|mv Y<|lE h λja o5 h=>nt Y _ o5<|mv Y<|bE h λOz sn h=>?_;cases ja;refine gm Y<|lE (F sn) λku sZ sn=>IY Y _ sZ ?_;obtain rfl:=O sn;refine pF Y<|mv Y<|bE h λafF ze h=>?_;cases ku;refine gm Y<|lE (F ze) λnn vr ze=>RT.leq (.some Y Y) _ Y Y T vr ?_;obtain rfl:=O ze;refine pF Y<|mv Y<|bE h λafG zf h=>?_;cases nn;refine gm Y<|lE (F zf) λrE CX zf=>RT.geq (.some Y Y) _ Y Y T CX ?_;obtain rfl:=O zf;refine pF Y<|mv Y<|bE h λafH o9 h=>?_;cases rE;refine gm Y<|lE (F o9) λot yX o9=>RT.leq (.some Y Y) _ Y Y T yX ?_;obtain rfl:=O o9;refine pF Y<|mv Y<|bE h λafI zg h=>?_;cases ot;refine gm Y<|lE (F zg) λvm G5 zg=>RT.geq (.some Y Y) _ Y Y T G5 ?_;obtain rfl:=O zg;exact pF Y<|dn<|⟨vm,h,wR []⟩;obtain rfl:=O (V zg)
 exact ww<|ww<|pT Y<|dn<|⟨true,h,wR []⟩;obtain rfl:=O (V o9);refine ww<|ww<|pT Y<|mv Y<|bE h λafJ OJ h=>?_;obtain rfl:=O (V OJ);exact ww<|ww<|pT Y<|dn<|⟨true,h,wR []⟩;obtain rfl:=O (V zf);refine ww<|ww<|pT Y<|mv Y<|bE h λafK Wt h=>?_;obtain rfl:=O (V Wt);refine ww<|ww<|pT Y<|mv Y<|bE h λafL Wu h=>?_;obtain rfl:=O (V Wu);exact ww<|ww<|pT Y<|dn<|⟨true,h,wR []⟩;obtain rfl:=O (V ze);refine ww<|ww<|pT Y<|mv Y<|bE h λafM Wv h=>?_;obtain rfl:=O (V Wv);refine ww<|ww<|pT Y<|mv Y<|bE h λafN Ww h=>?_;obtain rfl:=O (V Ww);refine ww<|ww<|pT Y<|mv Y<|bE h λafO Wx h=>?_;obtain rfl:=O (V Wx);exact ww<|ww<|pT Y<|dn<|⟨true,h,wR []⟩;obtain rfl:=O (V sn);refine ww<|ww<|pT Y<|mv Y<|bE h λafP Wy h=>?_;obtain rfl:=O (V Wy);refine ww<|ww<|pT Y<|mv Y<|bE h λafQ Wz h=>?_;obtain rfl:=O (V Wz);refine ww<|ww<|pT Y<|mv Y<|bE h λafR WA h=>?_;obtain rfl:=O (V WA);refine ww<|ww<|pT Y<|mv Y<|bE h λafS afT h=>?_;obtain rfl:=O (V afT);exact ww<|ww<|pT Y<|dn<|⟨true,h,wR []⟩
 try dsimp only
 refine aV.n ?_;cases JM;refine fs<|qq<|bj<|sr<|mv Y<|lE (F h) λsS DW h=>eq _ Y Y (xg (p:=Dm) (q:=0) DW)<|ag Y<|dn ?_;refine bH h (λTH=>AS.cL 53 [(2,ai TH.1),(3,ai TH.2)] [] []) (λh=>?_) (λTH h=>?_);cases sS;refine cF<|sr<|mv Y<|lE (F h) λxj h46 h=>ls _ Y Y h46<|ag Y<|dn ?_;refine bH h (λTJ=>AS.cL 53 [(2,ai TJ.1),(3,ai TJ.2)] [] []) (λh=>?_) (λTJ h=>?_);cases xj;exact fs<|⟨(E9,Dm),(F h),wR []⟩;exact cT<|aW<|mv Y<|lE (V h) λsu h48 h=>RT.neg .none _ Y T h48<|mv Y<|lE h λsi EZ h=>RT.neg .none _ Y T EZ<|ag Y<|ag Y<|dn<|⟨(su,si),h,wR []⟩;obtain⟨Ox,Oy⟩:=TJ
 try dsimp only
 exact aV.n<|⟨(Ox,Oy),h,wR []⟩;exact cT<|aW<|ag Y<|dn<|⟨(E9,1),(V h),wR []⟩;obtain⟨G7,TI⟩:=TH
 try dsimp only
 refine bG.n<|aV.n<|sr<|mv Y<|mv Y<|ag Y<|ag Y<|ag Y<|dn<|bf ?_;obtain rfl:=O h;exact RZ (.tmp Y (.tmp Y (.tmp Y (.nil))));refine cT<|sr<|ag Y<|ag Y<|ag Y<|dn<|bf<|aV.r ?_;obtain rfl:=O (V h);exact RZ (.tmp Y (.tmp Y (.tmp Y (.nil))))
theorem kD{x0:Int}{x1:Int}(N:Nat){r:Qr}(h:fC x0 x1=some r):cP ah 135 N [ay x0,ay x1] (.agg ((fQ N) r)):=by
 refine bB Tryz.func135 Y (af Y) (λeI M vs hN hvs=>?_);unfold fC at h;refine sr<|al (cs:=[az false,nw N ax,az false,nw N ax]) (by exact⟨au,bk,au,bk,aq⟩) Y<|dn<|sr<|mv Y<|mv Y<|ag Y<|ag Y<|dn<|qq<|bE h λe6 Di nx=>?_;refine bU (λ(Fa:Int)=>AS.cL 36 [(0,ai x0),(1,ai x1),(4,.ptr 4 0),(5,ai Fa)] [(4,⟨43,[aj false,.sv (nw N ax),aj false,.sv (nw N ax)]⟩)] []) (λFa=>Fa=e6) ?_ (λFa Dj=>?_);refine bj ?_;refine bV Di (λs6=>AS.cL 36 [(0,ai x0),(1,ai x1),(4,.ptr 4 0),(5,ai s6.1),(6,ai s6.2)] [(4,⟨43,[aj false,.sv (nw N ax),aj false,.sv (nw N ax)]⟩)] []) (wR []) (λs6 y6 G6 h Dk yW=>?_);obtain⟨r9,Mm⟩:=s6
 try dsimp only
 refine qq<|sr<|mv Y<|lE h λeY iO h=>ne _ Y Y (IX (p:=Mm) (q:=0) iO)<|dn ?_;cases eY;refine cF<|b9<|aV.x<|aV.x<|bG.x<|aV.n ?_;obtain rfl:=O (F h);exact⟨r9,yW _ Y,wR []⟩;refine cT<|bC<|aV.n<|bj<|bh mixed<|mv Y<|mv Y<|mv Y<|bE (V h) λga lB h=>RT.rem .none _ Y Y T (aeg lB) (aeh lB)<|ag Y<|ag Y ?_;refine RT.done ⟨by kernel_rfl,?_⟩;refine bG.n ?_;obtain rfl:=O h;exact aV.n ⟨(Mm,ga),Dk _ Y,wR []⟩;subst Dj
 try dsimp only
 refine aV.n<|qq<|sr<|mv Y<|lE nx λjD n8 nx=>ls _ Y Y n8<|dn ?_;refine bH nx (λj8=>AS.cL 36 [(0,ai x0),(1,ai x1),(4,.ptr 4 0),(5,ai j8)] [(4,⟨43,[aj false,.sv (nw N ax),aj false,.sv (nw N ax)]⟩)] []) (λnx=>?_) (λMn nx=>?_);cases jD;exact fs<|⟨Fa,(F nx),wR []⟩;exact cT<|aW<|mv Y<|lE (V nx) λgX lM nx=>RT.neg .none _ Y T lM<|ag Y<|dn<|⟨gX,nx,wR []⟩
 try dsimp only
 refine aV.n<|qq<|sr<|mv Y<|mv Y<|lE nx λiv o6 nx=>eq _ Y Y (xg (p:=Mn) (q:=x1) o6)<|dn ?_;cases iv;refine fs<|qq<|bh mixed<|mv Y<|mv Y<|bE (F nx) λjq nW nx=>RT.quo .none _ Y Y T (nzI nW) (Vx nW) ?_;obtain⟨⟨vn,vo⟩,BP,nx⟩:=bS nx;refine RT.bL .none (eu N BP) hN Y ⟨Y,aq⟩ T<|mv Y<|mv Y<|bE nx λuG AY nx=>RT.quo .none _ Y Y T (nzI AY) (Vx AY) ?_;obtain⟨⟨OA,OB⟩,uS,nx⟩:=bS nx;refine RT.bL .none (eu N uS) hN Y ⟨Y,aq⟩ T<|bI (cs:=[_,_,_,_]) (cs':=[az vn,nw N (slc 1 (List.map aY vo)),az OA,nw N (slc 1 (List.map aY OB))]) (.agg Y (.agg Y (.nil))) ⟨au,au,au,au,aq⟩<|so Y Y Y ?_;refine RT.done ⟨by kernel_rfl,?_⟩;refine aV.n<|bf ?_;obtain rfl:=O nx;exact RZ (.agg Y Y (.k4 Y Y Y Y) Y (.nil));refine cT<|sr<|mv Y<|mv Y<|bE (V nx) λjE qp nx=>RT.quo .none _ Y Y T (nzI qp) (Vx qp) ?_;obtain⟨⟨mA,lJ⟩,wD,nx⟩:=bS nx;refine RT.bL .none (eu N wD) hN Y ⟨Y,aq⟩ T<|bI (cs:=[_,_,_,_]) (cs':=[az mA,nw N (slc 1 (List.map aY lJ)),az false,nw N ax]) (.agg Y (.nil)) ⟨au,au,au,bk,aq⟩<|so Y Y Y<|dn<|bf<|aV.r ?_;obtain rfl:=O nx;exact RZ (.agg Y Y (.k4 Y Y Y Y) Y (.nil))
theorem Dp{x0:Int}{x1:Int}{r:Qr}(h:fC x0 x1=some r):Pure ah 135 [ay x0,ay x1] (.agg (eQ r)):=fj (λN=>kD N h) (λN=>(SV.ee (qI _ _)))
theorem Ff{x0:Int}{r:Int}(h:pM x0=some r):Pure ah 128 [ay x0] (ay r):=by
 refine bD Tryz.func128 Y (af Y) (λeI M vs hvs=>?_);unfold pM at h;refine sr<|ag Y<|dn<|qq<|bj<|sr<|mv Y<|lE h λx5 h5 h=>ls _ Y Y h5<|ag Y<|dn ?_;cases x5;refine cF<|sr<|mv Y<|lE (F h) λx8 h8 h=>gt _ Y Y h8<|ag Y<|dn ?_;cases x8;refine cF<|bC<|bG.n<|aV.n<|sr<|ag Y<|dn<|bf ?_;obtain rfl:=O (F h);exact R1 Y;refine cT<|sr<|ag Y<|dn<|bf<|bG.r<|aV.r ?_;obtain rfl:=O (V h);exact R1 Y;refine cT<|sr<|ag Y<|dn<|bf<|bG.r<|aV.r ?_;obtain rfl:=O (V h);exact R1 Y
theorem Au{x1:Qr}{x2:Qr}(N:Nat){r:Qr}(h:jN x1 x2=some r):cP ah 136 N [.v (.int .u8 ((43:Nat):Int)),.agg (eQ x1),.agg (eQ x2)] (.agg ((fQ N) r)):=by
 obtain⟨⟨cV,cS⟩,⟨jc,jd⟩⟩:=x1;obtain⟨⟨iS,jM⟩,⟨BU,BV⟩⟩:=x2;refine bB Tryz.func136 Y (af Y) (λeI M vs hN hvs=>?_);unfold jN at h;refine sr<|bx Y<|bx Y<|al (cs:=[az false,nw N ax,az false,nw N ax]) (by exact⟨au,bk,au,bk,aq⟩) Y<|dn<|sr<|ld Y Y (.k4 Y Y Y Y) ?_;obtain⟨⟨⟨kx,kz⟩,⟨kQ,kR⟩⟩,lK,h⟩:=bS h;refine cl (dV lK) ⟨Y,aq⟩<|mv Y<|ex Y Y<|ex Y Y<|al (cs:=[az false,nw N ax]) (by exact⟨au,bk,aq⟩) Y<|al (cs:=[az false,nw N ax]) (by exact⟨au,bk,aq⟩) Y<|so Y Y Y<|so Y Y Y<|dn<|sr<|ld Y Y (.k4 Y Y Y Y) ?_;obtain⟨⟨⟨kA,kC⟩,⟨kS,kT⟩⟩,lM,h⟩:=bS h;refine cl (dV lM) ⟨Y,aq⟩<|mv Y<|ex Y Y<|ex Y Y<|al (cs:=[az false,nw N ax]) (by exact⟨au,bk,aq⟩) Y<|al (cs:=[az false,nw N ax]) (by exact⟨au,bk,aq⟩) Y<|so Y Y Y<|so Y Y Y<|dn<|qq<|bh mixed<|cl iT trivial<|mv Y ?_;refine RT.look .none [.func (.func 187) #[] #[]] Y Y Y T<|fl Y Y<|ld Y Y (.k2 Y Y)<|ld Y Y (.k2 Y Y)<|ld Y Y (.k2 Y Y)<|ld Y Y (.k2 Y Y) ?_;obtain⟨⟨⟨kU,kV⟩,⟨kW,kX⟩⟩,nW,h⟩:=bS h;refine RT.bL .none (th N nW) hN Y ⟨Y,Y,Y,Y,aq⟩ T<|ex Y Y<|ex Y Y ?_;obtain⟨⟨⟨qE,pG⟩,⟨td,tf⟩⟩,qo,h⟩:=bS h
 refine RT.bL .none ((jQ N qo).w (args':=[_,_]) ⟨(SV.ee (show cj [az kU,nw N (slc 1 (List.map aY kV))] _ from⟨au,ep,aq⟩)),(SV.ee (show cj [az kW,nw N (slc 1 (List.map aY kX))] _ from⟨au,ep,aq⟩)),aq⟩) hN Y ⟨Y,Y,aq⟩ T<|so Y Y Y ?_;refine RT.done ⟨by kernel_rfl,?_⟩;refine aV.n<|bf ?_;obtain rfl:=O h;exact RZ (.agg Y Y (.k4 Y Y Y Y) Y (.nil))
theorem Av{x1:Qr}{x2:Qr}(N:Nat){r:Qr}(h:jO x1 x2=some r):cP ah 136 N [.v (.int .u8 ((45:Nat):Int)),.agg (eQ x1),.agg (eQ x2)] (.agg ((fQ N) r)):=by
 obtain⟨⟨cV,cS⟩,⟨jc,jd⟩⟩:=x1;obtain⟨⟨iS,jM⟩,⟨BU,BV⟩⟩:=x2;refine bB Tryz.func136 Y (af Y) (λeI M vs hN hvs=>?_);unfold jO at h;refine sr<|bx Y<|bx Y<|al (cs:=[az false,nw N ax,az false,nw N ax]) (by exact⟨au,bk,au,bk,aq⟩) Y<|dn<|sr<|ld Y Y (.k4 Y Y Y Y) ?_;obtain⟨⟨⟨kx,kz⟩,⟨kQ,kR⟩⟩,lK,h⟩:=bS h;refine cl (dV lK) ⟨Y,aq⟩<|mv Y<|ex Y Y<|ex Y Y<|al (cs:=[az false,nw N ax]) (by exact⟨au,bk,aq⟩) Y<|al (cs:=[az false,nw N ax]) (by exact⟨au,bk,aq⟩) Y<|so Y Y Y<|so Y Y Y<|dn<|sr<|ld Y Y (.k4 Y Y Y Y) ?_;obtain⟨⟨⟨kA,kC⟩,⟨kS,kT⟩⟩,lM,h⟩:=bS h;refine cl (dV lM) ⟨Y,aq⟩<|mv Y<|ex Y Y<|ex Y Y<|al (cs:=[az false,nw N ax]) (by exact⟨au,bk,aq⟩) Y<|al (cs:=[az false,nw N ax]) (by exact⟨au,bk,aq⟩) Y<|so Y Y Y<|so Y Y Y<|dn<|qq<|bh mixed<|cl iT trivial<|mv Y ?_;refine RT.look .none [.func (.func 189) #[] #[]] Y Y Y T<|fl Y Y<|ld Y Y (.k2 Y Y)<|ld Y Y (.k2 Y Y)<|ld Y Y (.k2 Y Y)<|ld Y Y (.k2 Y Y) ?_;obtain⟨⟨⟨kU,kV⟩,⟨kW,kX⟩⟩,nW,h⟩:=bS h;refine RT.bL .none (tj N nW) hN Y ⟨Y,Y,Y,Y,aq⟩ T<|ex Y Y<|ex Y Y ?_;obtain⟨⟨⟨qE,pG⟩,⟨td,tf⟩⟩,qo,h⟩:=bS h
 refine RT.bL .none ((jQ N qo).w (args':=[_,_]) ⟨(SV.ee (show cj [az kU,nw N (slc 1 (List.map aY kV))] _ from⟨au,ep,aq⟩)),(SV.ee (show cj [az kW,nw N (slc 1 (List.map aY kX))] _ from⟨au,ep,aq⟩)),aq⟩) hN Y ⟨Y,Y,aq⟩ T<|so Y Y Y ?_;refine RT.done ⟨by kernel_rfl,?_⟩;refine aV.n<|bf ?_;obtain rfl:=O h;exact RZ (.agg Y Y (.k4 Y Y Y Y) Y (.nil))
theorem Aw{x1:Qr}{x2:Qr}(N:Nat){r:Qr}(h:jP x1 x2=some r):cP ah 136 N [.v (.int .u8 ((42:Nat):Int)),.agg (eQ x1),.agg (eQ x2)] (.agg ((fQ N) r)):=by
 obtain⟨⟨cV,cS⟩,⟨jc,jd⟩⟩:=x1;obtain⟨⟨iS,jM⟩,⟨BU,BV⟩⟩:=x2;refine bB Tryz.func136 Y (af Y) (λeI M vs hN hvs=>?_);unfold jP at h;refine sr<|bx Y<|bx Y<|al (cs:=[az false,nw N ax,az false,nw N ax]) (by exact⟨au,bk,au,bk,aq⟩) Y<|dn<|sr<|ld Y Y (.k4 Y Y Y Y) ?_;obtain⟨⟨⟨kx,kz⟩,⟨kQ,kR⟩⟩,lK,h⟩:=bS h;refine cl (dV lK) ⟨Y,aq⟩<|mv Y<|ex Y Y<|ex Y Y<|al (cs:=[az false,nw N ax]) (by exact⟨au,bk,aq⟩) Y<|al (cs:=[az false,nw N ax]) (by exact⟨au,bk,aq⟩) Y<|so Y Y Y<|so Y Y Y<|dn<|sr<|ld Y Y (.k4 Y Y Y Y) ?_;obtain⟨⟨⟨kA,kC⟩,⟨kS,kT⟩⟩,lM,h⟩:=bS h;refine cl (dV lM) ⟨Y,aq⟩<|mv Y<|ex Y Y<|ex Y Y<|al (cs:=[az false,nw N ax]) (by exact⟨au,bk,aq⟩) Y<|al (cs:=[az false,nw N ax]) (by exact⟨au,bk,aq⟩) Y<|so Y Y Y<|so Y Y Y<|dn<|qq<|bh mixed<|cl iT trivial<|mv Y ?_;refine RT.look .none [.func (.func 191) #[] #[]] Y Y Y T<|fl Y Y<|ld Y Y (.k2 Y Y)<|ld Y Y (.k2 Y Y)<|ld Y Y (.k2 Y Y)<|ld Y Y (.k2 Y Y) ?_;obtain⟨⟨⟨kU,kV⟩,⟨kW,kX⟩⟩,nW,h⟩:=bS h;refine RT.bL .none (tq N nW) hN Y ⟨Y,Y,Y,Y,aq⟩ T<|ex Y Y<|ex Y Y ?_;obtain⟨⟨⟨qE,pG⟩,⟨td,tf⟩⟩,qo,h⟩:=bS h
 refine RT.bL .none ((jQ N qo).w (args':=[_,_]) ⟨(SV.ee (show cj [az kU,nw N (slc 1 (List.map aY kV))] _ from⟨au,ep,aq⟩)),(SV.ee (show cj [az kW,nw N (slc 1 (List.map aY kX))] _ from⟨au,ep,aq⟩)),aq⟩) hN Y ⟨Y,Y,aq⟩ T<|so Y Y Y ?_;refine RT.done ⟨by kernel_rfl,?_⟩;refine aV.n<|bf ?_;obtain rfl:=O h;exact RZ (.agg Y Y (.k4 Y Y Y Y) Y (.nil))
theorem Ax{x1:Qr}{x2:Qr}(N:Nat){r:Qr}(h:iB x1 x2=some r):cP ah 136 N [.v (.int .u8 ((47:Nat):Int)),.agg (eQ x1),.agg (eQ x2)] (.agg ((fQ N) r)):=by
 obtain⟨⟨cV,cS⟩,⟨jc,jd⟩⟩:=x1;obtain⟨⟨iS,jM⟩,⟨BU,BV⟩⟩:=x2;refine bB Tryz.func136 Y (af Y) (λeI M vs hN hvs=>?_);unfold iB at h;refine sr<|bx Y<|bx Y<|al (cs:=[az false,nw N ax,az false,nw N ax]) (by exact⟨au,bk,au,bk,aq⟩) Y<|dn<|sr<|ld Y Y (.k4 Y Y Y Y) ?_;obtain⟨⟨⟨kx,kz⟩,⟨kQ,kR⟩⟩,lK,h⟩:=bS h;refine cl (dV lK) ⟨Y,aq⟩<|mv Y<|ex Y Y<|ex Y Y<|al (cs:=[az false,nw N ax]) (by exact⟨au,bk,aq⟩) Y<|al (cs:=[az false,nw N ax]) (by exact⟨au,bk,aq⟩) Y<|so Y Y Y<|so Y Y Y<|dn<|sr<|ld Y Y (.k4 Y Y Y Y) ?_;obtain⟨⟨⟨kA,kC⟩,⟨kS,kT⟩⟩,lM,h⟩:=bS h;refine cl (dV lM) ⟨Y,aq⟩<|mv Y<|ex Y Y<|ex Y Y<|al (cs:=[az false,nw N ax]) (by exact⟨au,bk,aq⟩) Y<|al (cs:=[az false,nw N ax]) (by exact⟨au,bk,aq⟩) Y<|so Y Y Y<|so Y Y Y<|dn<|qq<|bh mixed<|cl iT trivial<|mv Y ?_;refine RT.look .none [.func (.func 192) #[] #[]] Y Y Y T<|fl Y Y<|ld Y Y (.k2 Y Y)<|ld Y Y (.k2 Y Y)<|ld Y Y (.k2 Y Y)<|ld Y Y (.k2 Y Y) ?_;obtain⟨⟨⟨kU,kV⟩,⟨kW,kX⟩⟩,nW,h⟩:=bS h;refine RT.bL .none (tu N nW) hN Y ⟨Y,Y,Y,Y,aq⟩ T<|ex Y Y<|ex Y Y ?_;obtain⟨⟨⟨qE,pG⟩,⟨td,tf⟩⟩,qo,h⟩:=bS h
 refine RT.bL .none ((jQ N qo).w (args':=[_,_]) ⟨(SV.ee (show cj [az kU,nw N (slc 1 (List.map aY kV))] _ from⟨au,ep,aq⟩)),(SV.ee (show cj [az kW,nw N (slc 1 (List.map aY kX))] _ from⟨au,ep,aq⟩)),aq⟩) hN Y ⟨Y,Y,aq⟩ T<|so Y Y Y ?_;refine RT.done ⟨by kernel_rfl,?_⟩;refine aV.n<|bf ?_;obtain rfl:=O h;exact RZ (.agg Y Y (.k4 Y Y Y Y) Y (.nil))
theorem Ay{x1:Qr}{x2:Qr}{r:Qr}(h:iB x1 x2=some r):Pure ah 136 [.v (.int .u8 ((47:Nat):Int)),.agg (eQ x1),.agg (eQ x2)] (.agg (eQ r)):=fj (λN=>Ax N h) (λN=>(SV.ee (qI _ _)))
end
section
open Go.Fw Go.Fw.Z Go.RowKit
theorem xQ{x0:Int}(N:Nat){r:Qr}(h:cY x0=some r):cP ah 41 N [ay x0] (.agg ((fQ N) r)):=by
 refine bB Tryz.func41 Y (af Y) (λeI M vs hN hvs=>?_);unfold cY at h;refine sr<|al (cs:=[az false,nw N ax,az false,nw N ax]) (by exact⟨au,bk,au,bk,aq⟩) Y<|dn<|sr<|mv Y ?_;obtain⟨⟨Wp,Wq⟩,h4,h⟩:=bS h;refine RT.bL .none (eu N h4) hN Y ⟨Y,aq⟩ T<|bI (cs:=[_,_,_,_]) (cs':=[az Wp,nw N (slc 1 (List.map aY Wq)),az false,nw N ax]) (.agg Y (.nil)) ⟨au,au,au,bk,aq⟩<|so Y Y Y<|dn<|bf ?_;obtain rfl:=O h;exact RZ (.agg Y Y (.k4 Y Y Y Y) Y (.nil))
theorem jw{x0:Int}{r:Qr}(h:cY x0=some r):Pure ah 41 [ay x0] (.agg (eQ r)):=fj (λN=>xQ N h) (λN=>(SV.ee (qI _ _)))
theorem jx{x0:Qr}(N:Nat){r:Qr}(h:cZ x0=some r):cP ah 93 N [.agg (eQ x0)] (.agg ((fQ N) r)):=by
 obtain⟨⟨bu,bw⟩,⟨bF,bJ⟩⟩:=x0;refine bB Tryz.func93 Y (af Y) (λeI M vs hN hvs=>?_);unfold cZ at h;refine sr<|bx Y<|al (cs:=[az false,nw N ax,az false,nw N ax]) (by exact⟨au,bk,au,bk,aq⟩) Y<|dn<|qq<|sr<|ld Y Y (.k4 Y Y Y Y) ?_;obtain⟨⟨x8a,x8b,x8c⟩,h8,h⟩:=bS h;refine cl (fD h8) ⟨Y,aq⟩<|mv Y<|ex Y Y<|ex Y Y<|ex Y Y<|ag Y<|ag Y<|ag Y<|dn<|sr<|mv Y<|dn ?_;cases x8c;refine fs<|sr<|ld Y Y (.k4 Y Y Y Y) ?_;obtain⟨⟨⟨OC,OD⟩,⟨OE,OF⟩⟩,nL,h⟩:=bS (F h);refine cl (dV nL) ⟨Y,aq⟩<|ex Y Y<|ex Y Y ?_;obtain⟨⟨⟨TK,TL⟩,⟨TM,TN⟩⟩,o5,h⟩:=bS h;refine RT.bL .none (jQ N o5) hN Y ⟨Y,Y,aq⟩ T<|so Y Y Y<|dn<|bf ?_;obtain rfl:=O h;exact RZ (.agg Y Y (.k4 Y Y Y Y) Y (.nil));refine cT<|sr<|mv Y<|mv Y ?_;obtain⟨⟨⟨lO,lP⟩,⟨G9,He⟩⟩,jB,h⟩:=bS (V h);refine RT.bL .none (kD N jB) hN Y ⟨Y,Y,aq⟩ T<|so Y Y Y<|dn<|bf<|aV.r ?_;obtain rfl:=O h;exact RZ (.agg Y Y (.k4 Y Y Y Y) Y (.nil))
theorem pN{x0:Qr}{r:Qr}(h:cZ x0=some r):Pure ah 93 [.agg (eQ x0)] (.agg (eQ r)):=fj (λN=>jx N h) (λN=>(SV.ee (qI _ _)))
theorem jX{x0:Qr}{r:Int}(h:eV x0=some r):Pure ah 59 [.agg (eQ x0)] (ay r):=by
 obtain⟨⟨bu,bw⟩,⟨bF,bJ⟩⟩:=x0;refine bD Tryz.func59 Y (af Y) (λeI M vs hvs=>?_);unfold eV at h;refine sr<|bx Y<|ag Y<|dn<|qq<|sr<|fa Y Y<|ld Y Y (.k2 Y Y)<|bE h λx5 h5 h=>cl (fz h5) ⟨Y,aq⟩<|lE h λx6 h6 h=>ls _ Y Y h6<|dn ?_;cases x6;refine fs<|sr<|fa Y Y<|ld Y Y (.k2 Y Y)<|bE (F h) λjv lK h=>cl (fz lK) ⟨Y,aq⟩<|ag Y<|dn<|bf ?_;obtain rfl:=O h;exact R1 Y;refine cT<|sr<|fa Y Y<|ld Y Y (.k2 Y Y)<|bE (V h) λx9 h9 h=>cl (fz h9) ⟨Y,aq⟩<|lE h λeY iO h=>RT.neg .none _ Y T iO<|ag Y<|dn<|bf<|aV.r ?_;obtain rfl:=O h;exact R1 Y
theorem Ho{x0:Qr}{x1:Qr}(N:Nat){r:Qr}(h:oE x0 x1=some r):cP ah 132 N [.agg (eQ x0),.agg (eQ x1)] (.agg ((fQ N) r)):=by
 obtain⟨⟨bu,bw⟩,⟨bF,bJ⟩⟩:=x0;obtain⟨⟨cV,cS⟩,⟨jc,jd⟩⟩:=x1;refine bB Tryz.func132 Y (af Y) (λeI M vs hN hvs=>?_);unfold oE at h;refine sr<|bx Y<|bx Y<|al (cs:=[az false,nw N ax,az false,nw N ax]) (by exact⟨au,bk,au,bk,aq⟩) Y<|dn<|sr<|ld Y Y (.k4 Y Y Y Y) ?_;obtain⟨⟨BW,za,BX⟩,lK,h⟩:=bS h;refine cl (fD lK) ⟨Y,aq⟩<|mv Y<|ex Y Y<|ex Y Y<|ex Y Y<|ag Y<|ag Y<|ag Y<|dn<|sr<|ld Y Y (.k4 Y Y Y Y) ?_;obtain⟨⟨BY,zb,BZ⟩,n7,h⟩:=bS h;refine cl (fD n7) ⟨Y,aq⟩<|mv Y<|ex Y Y<|ex Y Y<|ex Y Y<|ag Y<|ag Y<|ag Y<|dn<|qq<|qq ?_;refine bH h (λj3=>AS.cL 41 [(2,.ptr 2 0),(3,.ptr 3 0),(4,.ptr 4 0),(5,ai BW),(6,ai za),(8,ai BY),(9,ai zb),(26,aj j3)] [(4,⟨43,[aj false,.sv (nw N ax),aj false,.sv (nw N ax)]⟩),(3,⟨43,[aj cV,.sv (slc 1 (List.map aY cS)),aj jc,.sv (slc 1 (List.map aY jd))]⟩),(2,⟨43,[aj bu,.sv (slc 1 (List.map aY bw)),aj bF,.sv (slc 1 (List.map aY bJ))]⟩)] []) (λh=>?_) (λtg h=>?_);refine aW<|mv Y<|mv Y<|bE h λz4 rY h=>?_;cases BX;obtain rfl:=O (F rY);exact ww<|pF Y<|dn<|⟨false,h,wR []⟩;refine gm Y ?_;obtain rfl:=O (V rY);exact pT Y<|dn<|⟨BZ,h,wR []⟩
 try dsimp only
 refine aV.n ?_;cases tg;refine fs<|sr<|ld Y Y (.k4 Y Y Y Y)<|ld Y Y (.k4 Y Y Y Y) ?_;obtain⟨⟨⟨zZ,z3⟩,⟨Hj,Hl⟩⟩,sx,h⟩:=bS (F h);refine RT.bL .none (Au N sx) hN Y ⟨Y,Y,Y,aq⟩ T<|so Y Y Y<|dn<|bf ?_;obtain rfl:=O h;exact RZ (.agg Y Y (.k4 Y Y Y Y) Y (.nil));refine cT<|sr<|mv Y<|mv Y<|lE (V h) λjq nW h=>RT.mul .none _ Y Y T nW<|mv Y<|mv Y<|lE h λkp qo h=>RT.mul .none _ Y Y T qo<|lE h λuG AY h=>ad _ Y Y AY<|mv Y<|mv Y<|lE h λqa xN h=>RT.mul .none _ Y Y T xN ?_;obtain⟨⟨⟨Hf,Hg⟩,⟨Hh,Hi⟩⟩,E4,h⟩:=bS h;refine RT.bL .none (kD N E4) hN Y ⟨Y,Y,aq⟩ T<|so Y Y Y<|dn<|bf<|aV.r ?_;obtain rfl:=O h;exact RZ (.agg Y Y (.k4 Y Y Y Y) Y (.nil))
theorem Hp{x0:Qr}{x1:Qr}(N:Nat){r:Qr}(h:oF x0 x1=some r):cP ah 94 N [.agg (eQ x0),.agg (eQ x1)] (.agg ((fQ N) r)):=by
 obtain⟨⟨bu,bw⟩,⟨bF,bJ⟩⟩:=x0;obtain⟨⟨cV,cS⟩,⟨jc,jd⟩⟩:=x1;refine bB Tryz.func94 Y (af Y) (λeI M vs hN hvs=>?_);unfold oF at h;refine sr<|bx Y<|bx Y<|al (cs:=[az false,nw N ax,az false,nw N ax]) (by exact⟨au,bk,au,bk,aq⟩) Y<|dn<|sr<|ld Y Y (.k4 Y Y Y Y) ?_;obtain⟨⟨BW,za,BX⟩,lK,h⟩:=bS h;refine cl (fD lK) ⟨Y,aq⟩<|mv Y<|ex Y Y<|ex Y Y<|ex Y Y<|ag Y<|ag Y<|ag Y<|dn<|sr<|ld Y Y (.k4 Y Y Y Y) ?_;obtain⟨⟨BY,zb,BZ⟩,n7,h⟩:=bS h;refine cl (fD n7) ⟨Y,aq⟩<|mv Y<|ex Y Y<|ex Y Y<|ex Y Y<|ag Y<|ag Y<|ag Y<|dn<|qq<|qq ?_;refine bH h (λj3=>AS.cL 41 [(2,.ptr 2 0),(3,.ptr 3 0),(4,.ptr 4 0),(5,ai BW),(6,ai za),(8,ai BY),(9,ai zb),(26,aj j3)] [(4,⟨43,[aj false,.sv (nw N ax),aj false,.sv (nw N ax)]⟩),(3,⟨43,[aj cV,.sv (slc 1 (List.map aY cS)),aj jc,.sv (slc 1 (List.map aY jd))]⟩),(2,⟨43,[aj bu,.sv (slc 1 (List.map aY bw)),aj bF,.sv (slc 1 (List.map aY bJ))]⟩)] []) (λh=>?_) (λtg h=>?_);refine aW<|mv Y<|mv Y<|bE h λz4 rY h=>?_;cases BX;obtain rfl:=O (F rY);exact ww<|pF Y<|dn<|⟨false,h,wR []⟩;refine gm Y ?_;obtain rfl:=O (V rY);exact pT Y<|dn<|⟨BZ,h,wR []⟩
 try dsimp only
 refine aV.n ?_;cases tg;refine fs<|sr<|ld Y Y (.k4 Y Y Y Y)<|ld Y Y (.k4 Y Y Y Y) ?_;obtain⟨⟨⟨zZ,z3⟩,⟨Hj,Hl⟩⟩,sx,h⟩:=bS (F h);refine RT.bL .none (Av N sx) hN Y ⟨Y,Y,Y,aq⟩ T<|so Y Y Y<|dn<|bf ?_;obtain rfl:=O h;exact RZ (.agg Y Y (.k4 Y Y Y Y) Y (.nil));refine cT<|sr<|mv Y<|mv Y<|lE (V h) λjq nW h=>RT.mul .none _ Y Y T nW<|mv Y<|mv Y<|lE h λkp qo h=>RT.mul .none _ Y Y T qo<|lE h λuG AY h=>sb _ Y Y AY<|mv Y<|mv Y<|lE h λqa xN h=>RT.mul .none _ Y Y T xN ?_;obtain⟨⟨⟨Hf,Hg⟩,⟨Hh,Hi⟩⟩,E4,h⟩:=bS h;refine RT.bL .none (kD N E4) hN Y ⟨Y,Y,aq⟩ T<|so Y Y Y<|dn<|bf<|aV.r ?_;obtain rfl:=O h;exact RZ (.agg Y Y (.k4 Y Y Y Y) Y (.nil))
theorem z5{x0:Qr}{x1:Qr}(N:Nat){r:Qr}(h:mI x0 x1=some r):cP ah 89 N [.agg (eQ x0),.agg (eQ x1)] (.agg ((fQ N) r)):=by
 obtain⟨⟨bu,bw⟩,⟨bF,bJ⟩⟩:=x0;obtain⟨⟨cV,cS⟩,⟨jc,jd⟩⟩:=x1;refine bB Tryz.func89 Y (af Y) (λeI M vs hN hvs=>?_);unfold mI at h;refine sr<|bx Y<|bx Y<|al (cs:=[az false,nw N ax,az false,nw N ax]) (by exact⟨au,bk,au,bk,aq⟩) Y<|dn<|sr<|ld Y Y (.k4 Y Y Y Y) ?_;obtain⟨⟨BW,za,BX⟩,lK,h⟩:=bS h;refine cl (fD lK) ⟨Y,aq⟩<|mv Y<|ex Y Y<|ex Y Y<|ex Y Y<|ag Y<|ag Y<|ag Y<|dn<|sr<|ld Y Y (.k4 Y Y Y Y) ?_;obtain⟨⟨BY,zb,BZ⟩,n7,h⟩:=bS h;refine cl (fD n7) ⟨Y,aq⟩<|mv Y<|ex Y Y<|ex Y Y<|ex Y Y<|ag Y<|ag Y<|ag Y<|dn<|qq<|qq ?_;refine bH h (λj3=>AS.cL 37 [(2,.ptr 2 0),(3,.ptr 3 0),(4,.ptr 4 0),(5,ai BW),(6,ai za),(8,ai BY),(9,ai zb),(26,aj j3)] [(4,⟨43,[aj false,.sv (nw N ax),aj false,.sv (nw N ax)]⟩),(3,⟨43,[aj cV,.sv (slc 1 (List.map aY cS)),aj jc,.sv (slc 1 (List.map aY jd))]⟩),(2,⟨43,[aj bu,.sv (slc 1 (List.map aY bw)),aj bF,.sv (slc 1 (List.map aY bJ))]⟩)] []) (λh=>?_) (λtg h=>?_);refine aW<|mv Y<|mv Y<|bE h λz4 rY h=>?_;cases BX;obtain rfl:=O (F rY);exact ww<|pF Y<|dn<|⟨false,h,wR []⟩;refine gm Y ?_;obtain rfl:=O (V rY);exact pT Y<|dn<|⟨BZ,h,wR []⟩
 try dsimp only
 refine aV.n ?_;cases tg;refine fs<|sr<|ld Y Y (.k4 Y Y Y Y)<|ld Y Y (.k4 Y Y Y Y) ?_;obtain⟨⟨⟨zX,zY⟩,⟨TT,TU⟩⟩,xN,h⟩:=bS (F h);refine RT.bL .none (Aw N xN) hN Y ⟨Y,Y,Y,aq⟩ T<|so Y Y Y<|dn<|bf ?_;obtain rfl:=O h;exact RZ (.agg Y Y (.k4 Y Y Y Y) Y (.nil));refine cT<|sr<|mv Y<|mv Y<|lE (V h) λjq nW h=>RT.mul .none _ Y Y T nW<|mv Y<|mv Y<|lE h λkp qo h=>RT.mul .none _ Y Y T qo ?_;obtain⟨⟨⟨TO,TP⟩,⟨TQ,TS⟩⟩,AY,h⟩:=bS h;refine RT.bL .none (kD N AY) hN Y ⟨Y,Y,aq⟩ T<|so Y Y Y<|dn<|bf<|aV.r ?_;obtain rfl:=O h;exact RZ (.agg Y Y (.k4 Y Y Y Y) Y (.nil))
theorem Hq{x0:Qr}{x1:Qr}{r:Qr×Int}(h:oG x0 x1=some r):Pure ah 105 [.agg (eQ x0),.agg (eQ x1)] (.yB [.agg (eQ r.1),ay r.2]):=by
 obtain⟨⟨bu,bw⟩,⟨bF,bJ⟩⟩:=x0;obtain⟨⟨cV,cS⟩,⟨jc,jd⟩⟩:=x1;refine bD Tryz.func105 Y (af Y) (λeI M vs hvs=>?_);unfold oG at h;refine sr<|bx Y<|bx Y<|al (cs:=[az false,ax,az false,ax]) (by exact⟨au,aB,au,aB,aq⟩) Y<|ag Y<|dn<|qq<|sr<|ld Y Y (.k4 Y Y Y Y)<|bE h λjv lK h=>cl (jX lK) ⟨Y,aq⟩<|lE h λga lB h=>eq _ Y Y (xg (p:=jv) (q:=0) lB)<|RT.done ?_;refine aV.n ?_;cases ga;refine fs<|sr<|ld Y Y (.k4 Y Y Y Y) ?_;obtain⟨⟨OG,RM,Wr⟩,lM,h⟩:=bS (F h);refine cl (fD lM) ⟨Y,aq⟩<|mv Y<|ex Y Y<|ex Y Y<|ex Y Y<|ag Y<|ag Y<|ag Y<|dn<|sr<|ld Y Y (.k4 Y Y Y Y) ?_;obtain⟨⟨Mo,Mp,Ws⟩,qp,h⟩:=bS h;refine cl (fD qp) ⟨Y,aq⟩<|mv Y<|ex Y Y<|ex Y Y<|ex Y Y<|ag Y<|ag Y<|ag Y<|dn<|qq<|qq ?_;refine bH h (λj3=>AS.cL 48 [(2,.ptr 2 0),(3,.ptr 3 0),(4,.ptr 4 0),(6,ai OG),(7,ai RM),(9,ai Mo),(10,ai Mp),(31,aj j3)] [(4,⟨43,[aj false,.sv ax,aj false,.sv ax]⟩),(3,⟨43,[aj cV,.sv (slc 1 (List.map aY cS)),aj jc,.sv (slc 1 (List.map aY jd))]⟩),(2,⟨43,[aj bu,.sv (slc 1 (List.map aY bw)),aj bF,.sv (slc 1 (List.map aY bJ))]⟩)] []) (λh=>?_) (λB0 h=>?_);refine aW<|mv Y<|mv Y<|bE h λTZ WB h=>?_;cases Wr;obtain rfl:=O (F WB);exact ww<|pF Y<|dn<|⟨false,h,wR []⟩;refine gm Y ?_;obtain rfl:=O (V WB);exact pT Y<|dn<|⟨Ws,h,wR []⟩
 try dsimp only
 refine aV.n ?_;cases B0;refine fs<|sr<|ld Y Y (.k4 Y Y Y Y)<|ld Y Y (.k4 Y Y Y Y) ?_;obtain⟨⟨⟨GS,GU⟩,⟨TX,TY⟩⟩,BR,h⟩:=bS (F h);refine cl (Ay BR) ⟨Y,Y,Y,aq⟩<|so Y Y Y<|ag Y<|dn<|bf ?_;obtain rfl:=O h;exact RZ (.agg Y Y (.k4 Y Y Y Y) Y (.tmp Y (.nil)));refine cT<|qq<|sr<|mv Y<|lE (V h) λuG AY h=>ls _ Y Y AY<|dn ?_;refine bH h (λj6=>AS.cL 48 [(4,.ptr 4 0),(6,ai j6.1),(7,ai RM),(9,ai j6.2),(10,ai Mp)] [(4,⟨43,[aj false,.sv ax,aj false,.sv ax]⟩)] []) (λh=>?_) (λj6 h=>?_);cases uG;exact fs<|⟨(OG,Mo),(F h),wR []⟩;exact cT<|aW<|mv Y<|lE (V h) λot yX h=>RT.neg .none _ Y T yX<|mv Y<|lE h λuE E4 h=>RT.neg .none _ Y T E4<|ag Y<|ag Y<|dn<|⟨(ot,uE),h,wR []⟩;obtain⟨aae,aaf⟩:=j6
 try dsimp only
 refine aV.n<|sr<|mv Y<|mv Y<|lE h λmX sx h=>RT.mul .none _ Y Y T sx<|mv Y<|mv Y<|lE h λsS DW h=>RT.mul .none _ Y Y T DW ?_;obtain⟨⟨⟨GY,GZ⟩,⟨TV,TW⟩⟩,G4,h⟩:=bS h;refine cl (Dp G4) ⟨Y,Y,aq⟩<|so Y Y Y<|ag Y<|dn<|bf<|aV.r ?_;obtain rfl:=O h;exact RZ (.agg Y Y (.k4 Y Y Y Y) Y (.tmp Y (.nil)));refine cT<|sr<|bI (cs:=[_,_,_,_]) (cs':=[az false,ax,az false,ax]) (.nil) ⟨au,aB,au,aB,aq⟩<|so Y Y Y<|ag Y<|dn<|bf<|aV.r ?_;obtain rfl:=O (V h);exact RZ (.agg Y Y (.k4 Y Y Y Y) Y (.tmp Y (.nil)))
theorem Hr{x0:Qr}(N:Nat){r:Qr}(h:mJ x0=some r):cP ah 108 N [.agg (eQ x0)] (.agg ((fQ N) r)):=by
 obtain⟨⟨bu,bw⟩,⟨bF,bJ⟩⟩:=x0;refine bB Tryz.func108 Y (af Y) (λeI M vs hN hvs=>?_);unfold mJ at h;refine sr<|bx Y<|al (cs:=[az false,nw N ax,az false,nw N ax]) (by exact⟨au,bk,au,bk,aq⟩) Y<|dn<|sr<|ld Y Y (.k4 Y Y Y Y) ?_;obtain⟨⟨⟨B3,Fb⟩,⟨Dn,Fe⟩⟩,h5,h⟩:=bS h;refine RT.bL .none (jx N h5) hN Y ⟨Y,aq⟩ T<|al (cs:=[az false,nw N ax,az false,nw N ax]) (by exact⟨au,bk,au,bk,aq⟩) Y<|so Y Y Y<|dn<|qq<|bh mixed<|fa Y Y<|ld Y Y (.k2 Y Y) ?_;obtain⟨⟨wI,wJ⟩,h8,h⟩:=bS h;refine RT.bL .none ((oa N h8).w (args':=[_]) ⟨(SV.ee (show cj [az B3,nw N (slc 1 (List.map aY Fb))] _ from⟨au,ep,aq⟩)),aq⟩) hN Y ⟨Y,aq⟩ T<|fa Y Y<|ld Y Y (.k2 Y Y)<|bI (cs:=[_,_,_,_]) (cs':=[az wI,nw N (slc 1 (List.map aY wJ)),az Dn,nw N (slc 1 (List.map aY Fe))]) (.agg Y (.agg Y (.nil))) ⟨au,au,au,au,aq⟩<|so Y Y Y ?_;refine RT.done ⟨by kernel_rfl,?_⟩;refine aV.n<|bf ?_;obtain rfl:=O h;exact RZ (.agg Y Y (.k4 Y Y Y Y) Y (.nil))
theorem Hs{x0:Qr}{r:Qr}(h:mJ x0=some r):Pure ah 108 [.agg (eQ x0)] (.agg (eQ r)):=fj (λN=>Hr N h) (λN=>(SV.ee (qI _ _)))
theorem Ht{x0:Qr}{x1:Qr}{r:Int}(h:oH x0 x1=some r):Pure ah 86 [.agg (eQ x0),.agg (eQ x1)] (ay r):=by
 obtain⟨⟨bu,bw⟩,⟨bF,bJ⟩⟩:=x0;obtain⟨⟨cV,cS⟩,⟨jc,jd⟩⟩:=x1;refine bD Tryz.func86 Y (af Y) (λeI M vs hvs=>?_);unfold oH at h;refine sr<|bx Y<|bx Y<|ag Y<|dn<|sr<|ld Y Y (.k4 Y Y Y Y) ?_;obtain⟨⟨⟨kx,kz⟩,⟨kQ,kR⟩⟩,lK,h⟩:=bS h;refine cl (dV lK) ⟨Y,aq⟩<|mv Y<|ex Y Y<|ex Y Y<|al (cs:=[az false,ax]) (by exact⟨au,aB,aq⟩) Y<|al (cs:=[az false,ax]) (by exact⟨au,aB,aq⟩) Y<|so Y Y Y<|so Y Y Y<|dn<|sr<|ld Y Y (.k4 Y Y Y Y) ?_;obtain⟨⟨⟨kA,kC⟩,⟨kS,kT⟩⟩,lM,h⟩:=bS h;refine cl (dV lM) ⟨Y,aq⟩<|mv Y<|ex Y Y<|ex Y Y<|al (cs:=[az false,ax]) (by exact⟨au,aB,aq⟩) Y<|al (cs:=[az false,ax]) (by exact⟨au,aB,aq⟩) Y<|so Y Y Y<|so Y Y Y<|dn<|qq<|qq<|bh mixed<|ld Y Y (.k2 Y Y)<|bE h λkq qJ h=>?_;refine cl (fz qJ) ⟨Y,aq⟩<|ld Y Y (.k2 Y Y)<|bE h λjE qp h=>cl (fz qp) ⟨Y,aq⟩<|ag Y<|ag Y ?_;refine RT.done ⟨by kernel_rfl,?_⟩;refine aV.n<|qq ?_;refine bH h (λj3=>AS.cL 43 [(5,.ptr 5 0),(6,.ptr 6 0),(7,.ptr 7 0),(8,.ptr 8 0),(9,ai kq),(10,ai jE),(31,aj j3)] [(8,⟨41,[aj kS,.sv (slc 1 (List.map aY kT))]⟩),(7,⟨41,[aj kA,.sv (slc 1 (List.map aY kC))]⟩),(6,⟨41,[aj kQ,.sv (slc 1 (List.map aY kR))]⟩),(5,⟨41,[aj kx,.sv (slc 1 (List.map aY kz))]⟩)] []) (λh=>?_) (λB0 h=>?_)
 refine aW<|mv Y<|mv Y<|lE h λnn vr h=>ne _ Y Y (IX (p:=kq) (q:=jE) vr)<|mv Y<|bE h λT4 rY h=>?_;cases nn;refine gm Y<|lE (F rY) λvk BP rY=>ZA _ Y Y (xg (p:=kq) (q:=0) BP) ?_;obtain rfl:=O rY;exact pF Y<|dn<|⟨vk,h,wR []⟩;obtain rfl:=O (V rY);exact ww<|ww<|pT Y<|dn<|⟨true,h,wR []⟩
 try dsimp only
 refine aV.n ?_;cases B0;refine fs<|qq<|bh mixed<|ld Y Y (.k2 Y Y)<|ld Y Y (.k2 Y Y) ?_;obtain⟨⟨T0,T1⟩,Jy,h⟩:=bS (F h);refine cl (xO Jy) ⟨Y,Y,aq⟩<|ld Y Y (.k2 Y Y)<|ld Y Y (.k2 Y Y) ?_;obtain⟨⟨T2,T3⟩,G0,h⟩:=bS h;refine cl (xO G0) ⟨Y,Y,aq⟩<|bE h λqm BQ h=>cl (E7 BQ) ⟨Y,Y,aq⟩<|ag Y ?_;refine RT.done ⟨by kernel_rfl,?_⟩;refine aV.n<|bf ?_;obtain rfl:=O h;exact R1 Y;refine cT<|sr<|mv Y<|mv Y<|lE (V h) λoq uS h=>sb _ Y Y uS<|bE h λot yX h=>cl (Ff yX) ⟨Y,aq⟩<|ag Y<|dn<|bf<|aV.r ?_;obtain rfl:=O h;exact R1 Y
end
section
open Go.Fw
noncomputable def mY(x0:List Qr)(x1:List Qr):Option (List Qr):=(some (x0.length:Int)).bind λjC=>(some (x1.length:Int)).bind λjv=>(some (max (jC:Int) jv)).bind λga=>(NF (α:=Qr) 64 ga).bind λe9=>(nJ (λ(k:Nat) (mK:(List Qr))=>(show Option ((List Qr))from(some (x0.getD k (⟨⟨false,[]⟩,⟨false,[]⟩⟩:Qr))).bind λ⟨⟨Hu,Hv⟩,⟨Hw,Hx⟩⟩=>(some (x1.getD k (⟨⟨false,[]⟩,⟨false,[]⟩⟩:Qr))).bind λ⟨⟨Hy,Hz⟩,⟨HA,HB⟩⟩=>(oF ⟨⟨Hu,Hv⟩,⟨Hw,Hx⟩⟩ ⟨⟨Hy,Hz⟩,⟨HA,HB⟩⟩).bind λ⟨⟨mA,lJ⟩,⟨tw,tD⟩⟩=>(yM 64 mK [⟨⟨mA,lJ⟩,⟨tw,tD⟩⟩]).bind λnn=>some nn)) (max x0.length x1.length) e9).bind λmK=>some mK
noncomputable def lQ(x0:Qr)(x1:Qr)(HC:Qr):Option (Qr):=match x0 with|⟨⟨bu,bw⟩,⟨bF,bJ⟩⟩=>match x1 with|⟨⟨cV,cS⟩,⟨jc,jd⟩⟩=>match HC with|⟨⟨HD,HE⟩,⟨HF,HG⟩⟩=>(mI ⟨⟨HD,HE⟩,⟨HF,HG⟩⟩ ⟨⟨bu,bw⟩,⟨bF,bJ⟩⟩).bind λ⟨⟨wI,wJ⟩,⟨B4,B5⟩⟩=>(oE ⟨⟨wI,wJ⟩,⟨B4,B5⟩⟩ ⟨⟨cV,cS⟩,⟨jc,jd⟩⟩).bind λ⟨⟨GW,GX⟩,⟨T5,T6⟩⟩=>some ⟨⟨GW,GX⟩,⟨T5,T6⟩⟩
noncomputable def jY(x0:List Qr)(x1:List Qr)(OK:Qr):Option (List Qr):=match OK with|⟨⟨JN,JO⟩,⟨JP,JQ⟩⟩=>(some (x0.length:Int)).bind λjC=>(some (x1.length:Int)).bind λjv=>(some (max (jC:Int) jv)).bind λga=>(NF (α:=Qr) 64 ga).bind λe9=>(nJ (λ(k:Nat) (mK:(List Qr))=>(show Option ((List Qr))from(some (x0.getD k (⟨⟨false,[]⟩,⟨false,[]⟩⟩:Qr))).bind λ⟨⟨Hu,Hv⟩,⟨Hw,Hx⟩⟩=>(some (x1.getD k (⟨⟨false,[]⟩,⟨false,[]⟩⟩:Qr))).bind λ⟨⟨Hy,Hz⟩,⟨HA,HB⟩⟩=>(lQ ⟨⟨Hu,Hv⟩,⟨Hw,Hx⟩⟩ ⟨⟨Hy,Hz⟩,⟨HA,HB⟩⟩ ⟨⟨JN,JO⟩,⟨JP,JQ⟩⟩).bind λ⟨⟨mA,lJ⟩,⟨tw,tD⟩⟩=>(yM 64 mK [⟨⟨mA,lJ⟩,⟨tw,tD⟩⟩]).bind λnn=>some nn)) (max x0.length x1.length) e9).bind λmK=>some mK
noncomputable def qK(x0:List Qr)(x1:List Qr):Option (List Qr):=(mY x0 x1).bind λx7=>some x7
noncomputable def lj(x0:Qr)(x1:List Qr):Option (List Qr):=match x0 with|⟨⟨bu,bw⟩,⟨bF,bJ⟩⟩=>(some (x1.length:Int)).bind λx9=>(CV 64 x9 (⟨⟨false,[]⟩,⟨false,[]⟩⟩:Qr)).bind λeY=>(some (x1.length:Int)).bind λeX=>(cy (λ(s8:Int×(List Qr))=>match s8 with|⟨HH,HI⟩=>(show Option ((Int×(List Qr))⊕((List Qr)))from(some (decide ((HH:Int)<eX))).bind λga=>(bif ga then(cU x1 HH).bind λ⟨⟨pH,pI⟩,⟨T7,T8⟩⟩=>(mI ⟨⟨bu,bw⟩,⟨bF,bJ⟩⟩ ⟨⟨pH,pI⟩,⟨T7,T8⟩⟩).bind λ⟨⟨xR,xS⟩,⟨xT,xU⟩⟩=>(ko HI HH).bind λku=>(stM HI ku ⟨⟨xR,xS⟩,⟨xT,xU⟩⟩).bind λAq=>(some (IntKind.i64.wrap (HH+1))).bind λjE=>some (.inl (jE,Aq))else some (.inr HI)))) (0,eY)).bind λB6=>some B6
noncomputable def fV(x0:Qr)(x1:List Qr)(x2:List Qr):Option (List Qr):=match x0 with|⟨⟨bu,bw⟩,⟨bF,bJ⟩⟩=>(jY x1 x2 ⟨⟨bu,bw⟩,⟨bF,bJ⟩⟩).bind λeY=>some eY
noncomputable def ji(x0:List Qr)(x1:List Qr):Option (Int):=(nK (λ(k:Nat) (s3:Unit)=>(show Option ((Unit)⊕(Int))from(some (x0.getD k (⟨⟨false,[]⟩,⟨false,[]⟩⟩:Qr))).bind λ⟨⟨T9,Ua⟩,⟨Ub,Ud⟩⟩=>(some (x1.getD k (⟨⟨false,[]⟩,⟨false,[]⟩⟩:Qr))).bind λ⟨⟨Ue,Uf⟩,⟨Ug,Uh⟩⟩=>(oH ⟨⟨T9,Ua⟩,⟨Ub,Ud⟩⟩ ⟨⟨Ue,Uf⟩,⟨Ug,Uh⟩⟩).bind λe9=>(some (decide ((e9:Int)≠0))).bind λgW=>(bif gW then some (.inr e9)else some (.inl ())))) (max x0.length x1.length) ()).bind λe3=>match e3 with|.inr v3=>some v3|.inl _=>some 0
noncomputable def oI(x0:List Qr):Option (Int):=(ji x0 []).bind λx4=>some x4
noncomputable def dA(x0:List Qr)(x1:List Qr):Option (Bool):=(ji x0 x1).bind λx7=>(some (decide ((x7:Int)=0))).bind λx8=>some x8
noncomputable def gP(x0:List Qr)(x1:Int):Option (List Qr):=(some (decide ((x1:Int)<1))).bind λx8=>(bif x8 then some []else(some (min (x1:Int) 65536)).bind λeY=>(CV 64 eY (⟨⟨false,[]⟩,⟨false,[]⟩⟩:Qr)).bind λjC=>(some (x0.length:Int)).bind λjv=>(some (jC.length:Int)).bind λe9=>(some (min (jv:Int) e9)).bind λjD=>(cy (λ(s8:Int×(List Qr))=>match s8 with|⟨HJ,HK⟩=>(show Option ((Int×(List Qr))⊕((List Qr)))from(some (decide ((HJ:Int)<jD))).bind λgX=>(bif gX then(cU x0 HJ).bind λ⟨⟨vw,vz⟩,⟨vA,vB⟩⟩=>(cZ ⟨⟨vw,vz⟩,⟨vA,vB⟩⟩).bind λ⟨⟨OL,OM⟩,⟨ON,OO⟩⟩=>(ko HK HJ).bind λnn=>(stM HK nn ⟨⟨OL,OM⟩,⟨ON,OO⟩⟩).bind λAq=>(some (IntKind.i64.wrap (HJ+1))).bind λoY=>some (.inl (oY,Aq))else some (.inr HK)))) (0,jC)).bind λB7=>some B7)
noncomputable def c6(x0:List Int):Option (List Qr):=(some (x0.length:Int)).bind λx7=>(CV 64 x7 (⟨⟨false,[]⟩,⟨false,[]⟩⟩:Qr)).bind λx8=>(some (x0.length:Int)).bind λeY=>(cy (λ(s8:Int×(List Qr))=>match s8 with|⟨tF,B8⟩=>(show Option ((Int×(List Qr))⊕((List Qr)))from(some (decide ((tF:Int)<eY))).bind λeX=>(bif eX then(cU x0 tF).bind λga=>(cY ga).bind λ⟨⟨nX,nY⟩,⟨B9,Ca⟩⟩=>(ko B8 tF).bind λja=>(stM B8 ja ⟨⟨nX,nY⟩,⟨B9,Ca⟩⟩).bind λAq=>(some (IntKind.i64.wrap (tF+1))).bind λiv=>some (.inl (iv,Aq))else some (.inr B8)))) (0,x8)).bind λwK=>some wK
end
section
open Go.Fw Go.Fw.Z Go.RowKit
theorem rJ(a b:List Qr):Pure ah 133 [(slc 4 (List.map eQ a)),(slc 4 (List.map eQ b))] (jA 165 [ref [(slc 4 (List.map eQ a))],ref [(slc 4 (List.map eQ b))]]):=by
 refine bD Tryz.func133 Y (af Y) (λeI M vs hvs=>?_);refine sr<|RT.vT .none (s:=.sv _) Y T Y Y<|RT.vT .none (s:=.sv _) Y T Y Y<|ag Y<|dn<|sr<|RT.makeFunc .none (.box Y (.box Y (.nil))) T<|an (s:=.gI _ _) Y<|dn<|cI (gN (i:=2) Y [(slc 4 (List.map eQ a))] (.cons Y .nil) .any 0 [(4,.gI 165 [.val (ref [(slc 4 (List.map eQ a))]),.box 3])] (λ_ _ _=>trivial) (qy.h (l:=[(slc 4 (List.map eQ a))])) ⟨@FT.gI _ _ _ _ _ 4 165 [.box 2,.box 3] Y,aq⟩) ?_;exact cI (gN (i:=3) Y [(slc 4 (List.map eQ b))] (.cons Y .nil) .any 0 [(4,.gI 165 [.val (ref [(slc 4 (List.map eQ a))]),.val (ref [(slc 4 (List.map eQ b))])])] (λ_ _ _=>trivial) (qy.h (l:=[(slc 4 (List.map eQ b))])) ⟨@FT.gI _ _ _ _ _ 4 165 [.val (ref [(slc 4 (List.map eQ a))]),.box 3] Y,aq⟩)<|cI (EA 4 (jA 165 [ref [(slc 4 (List.map eQ a))],ref [(slc 4 (List.map eQ b))]]) (λ_ _ h=>EB h))<|bf<|⟨.inr Y,Ey (.tmp Y (.nil)) Y⟩
theorem rK(a b:List Qr):Iter ah 165 [ref [(slc 4 (List.map eQ a))],ref [(slc 4 (List.map eQ b))]] (max a.length b.length) (λk=>[.agg (eQ (a.getD k (⟨⟨false,[]⟩,⟨false,[]⟩⟩:Qr))),.agg (eQ (b.getD k (⟨⟨false,[]⟩,⟨false,[]⟩⟩:Qr)))]):=by
 refine rD Tryz.func165 Y Y (af Y) (λeI M O l J hJ xh hr=>?_);obtain⟨nU,xh⟩:=xh;have hla:a.length<=9223372036854775807:=by cases nU with|nil=>exact xh.elim|cons _ nU=>exact uC xh.1
 have hlb:b.length<=9223372036854775807:=by cases nU with|nil=>exact xh.elim|cons _ nU=>cases nU with|nil=>exact xh.2.elim|cons _ _=>exact uC xh.2.1
 refine bM ?_;refine aW ?_;refine RT.dN .none Y Y (tl Y) ?_;refine RT.len .none Y (tl Y) ?_;refine RT.dN .none Y Y (tl Y) ?_;refine RT.len .none Y (tl Y) ?_;refine RT.max .none (((max a.length b.length:Nat):Int)) Y Y (tl Y) (by simp only[List.length_map];split<;>omega) ?_;refine RT.mv .none Y (tl Y) ?_;refine RT.done ?_;refine aV.n ?_;refine bj ?_
 refine xm (I:=λx:{i:Nat//i<=max a.length b.length}=>AS.cL 37 [(0,.sv (.v (.func (.yield l) #[] #[]))),(1,.sv (ref [(slc 4 (List.map eQ a))])),(2,.sv (ref [(slc 4 (List.map eQ b))])),(11,ai ((max a.length b.length:Nat):Int)),(12,ai ((x.1:Nat):Int))] [] [] (x.1)) (μ:=λx=>max a.length b.length-x.1) ⟨0,by omega⟩ (by(try dsimp only);exact dD id Y Y Y Y Y ⟨.sv (by first|exact au|exact SV.aZ (by omega)|exact SV.aZ (by push_cast;omega)|exact SV.aZ (by dsimp only;omega)|exact SV.imp_eq (by simp)),.sv (by first|exact au|exact SV.aZ (by omega)|exact SV.aZ (by push_cast;omega)|exact SV.aZ (by dsimp only;omega)|exact SV.imp_eq (by simp)),.sv (by first|exact au|exact SV.aZ (by omega)|exact SV.aZ (by push_cast;omega)|exact SV.aZ (by dsimp only;omega)|exact SV.imp_eq (by simp)),.sv (by first|exact au|exact SV.aZ (by omega)|exact SV.aZ (by push_cast;omega)|exact SV.aZ (by dsimp only;omega)|exact SV.imp_eq (by simp)),.sv (by first|exact au|exact SV.aZ (by omega)|exact SV.aZ (by push_cast;omega)|exact SV.aZ (by dsimp only;omega)|exact SV.imp_eq (by simp)),aq⟩ trivial trivial (λ_ _=>Y)) ?_;rintro⟨i,Tq⟩
 try dsimp only
 rcases BE a b i Tq with⟨hi,yH,AO⟩|⟨hi,yH,AO⟩|⟨hi,yH,AO⟩|hi
 ·
  refine bM ?_;refine aW ?_;refine RT.lss .none (true) Y Y (tl Y) (by simp;omega) ?_;refine RT.done ?_;refine aV.n ?_;refine bM ?_;refine dr Y ?_;refine bC ?_;refine aV.n ?_;refine bM ?_;refine bj ?_;refine bM ?_;refine aW ?_;refine RT.mv .none Y (tl Y) ?_;refine RT.DJ .none Y (tl Y) ?_;refine RT.done ?_;refine aV.n ?_;refine bM ?_;refine aW ?_;refine RT.wc .none (cs:=eQ ⟨⟨false,[]⟩,⟨false,[]⟩⟩) (by exact⟨au,aB,au,aB,aq⟩) Y (tl Y) Y Y ?_;refine RT.wc .none (cs:=eQ ⟨⟨false,[]⟩,⟨false,[]⟩⟩) (by exact⟨au,aB,au,aB,aq⟩) Y (tl Y) Y Y ?_;refine RT.done ?_;refine aV.n ?_;refine bM ?_;refine bM ?_;refine aW ?_;refine RT.mv .none Y (tl Y) ?_;refine RT.dN .none Y Y (tl Y) ?_;refine RT.len .none Y (tl Y) ?_;refine RT.lss .none (true) Y Y (tl Y) (by simp only[List.length_map];simp;omega) ?_;refine RT.done ?_;refine aV.n ?_;refine dr Y ?_;refine aW ?_;refine RT.dN .none Y Y (tl Y) ?_;refine RT.mv .none Y (tl Y) ?_
  refine RT.Tl .none [az ((a.getD i (⟨⟨false,[]⟩,⟨false,[]⟩⟩:Qr)).num.neg),slc 1 ((a.getD i (⟨⟨false,[]⟩,⟨false,[]⟩⟩:Qr)).num.w.map aY),az ((a.getD i (⟨⟨false,[]⟩,⟨false,[]⟩⟩:Qr)).den.neg),slc 1 ((a.getD i (⟨⟨false,[]⟩,⟨false,[]⟩⟩:Qr)).den.w.map aY)] (Int.natCast_nonneg i) (by rw[Int.toNat_natCast,List.getElem?_map,jh yH];rfl) Y Y (tl Y) ?_;refine RT.kn .none Y (tl Y) (cs:=[az ((a.getD i (⟨⟨false,[]⟩,⟨false,[]⟩⟩:Qr)).num.neg),slc 1 ((a.getD i (⟨⟨false,[]⟩,⟨false,[]⟩⟩:Qr)).num.w.map aY),az ((a.getD i (⟨⟨false,[]⟩,⟨false,[]⟩⟩:Qr)).den.neg),slc 1 ((a.getD i (⟨⟨false,[]⟩,⟨false,[]⟩⟩:Qr)).den.w.map aY)]) Y Y ?_;refine RT.store .none Y Y Y Y Y ?_;refine RT.done ?_;refine aV.n ?_;refine bM ?_;refine bM ?_;refine aW ?_;refine RT.mv .none Y (tl Y) ?_;refine RT.dN .none Y Y (tl Y) ?_;refine RT.len .none Y (tl Y) ?_;refine RT.lss .none (true) Y Y (tl Y) (by simp only[List.length_map];simp;omega) ?_;refine RT.done ?_;refine aV.n ?_;refine dr Y ?_;refine aW ?_;refine RT.dN .none Y Y (tl Y) ?_;refine RT.mv .none Y (tl Y) ?_
  refine RT.Tl .none [az ((b.getD i (⟨⟨false,[]⟩,⟨false,[]⟩⟩:Qr)).num.neg),slc 1 ((b.getD i (⟨⟨false,[]⟩,⟨false,[]⟩⟩:Qr)).num.w.map aY),az ((b.getD i (⟨⟨false,[]⟩,⟨false,[]⟩⟩:Qr)).den.neg),slc 1 ((b.getD i (⟨⟨false,[]⟩,⟨false,[]⟩⟩:Qr)).den.w.map aY)] (Int.natCast_nonneg i) (by rw[Int.toNat_natCast,List.getElem?_map,jh AO];rfl) Y Y (tl Y) ?_;refine RT.kn .none Y (tl Y) (cs:=[az ((b.getD i (⟨⟨false,[]⟩,⟨false,[]⟩⟩:Qr)).num.neg),slc 1 ((b.getD i (⟨⟨false,[]⟩,⟨false,[]⟩⟩:Qr)).num.w.map aY),az ((b.getD i (⟨⟨false,[]⟩,⟨false,[]⟩⟩:Qr)).den.neg),slc 1 ((b.getD i (⟨⟨false,[]⟩,⟨false,[]⟩⟩:Qr)).den.w.map aY)]) Y Y ?_;refine RT.store .none Y Y Y Y Y ?_;refine RT.done ?_;refine aV.n ?_;refine bM ?_;refine aW ?_;refine RT.mv .none Y (tl Y) ?_;refine RT.load .none Y Y (.k4 Y Y Y Y) Y (tl Y) ?_;refine RT.load .none Y Y (.k4 Y Y Y Y) Y (tl Y) ?_;refine RT.yield .none hr Y (λ_ h=>h) Y (i) Y Y hi (by exact⟨Y,Y,aq⟩) (tl Y) (λyb=>?_);cases yb
  ·
   refine RT.not .none Y (tl Y) true Y ?_;refine RT.done ?_;refine aV.n ?_;refine dr Y ?_;refine bf ?_;refine bG.r ?_;refine aV.r ?_;refine aV.r ?_;refine bG.r ?_;exact⟨.inr rfl,(λh=>by cases h)⟩
  refine RT.not .none Y (tl Y) false Y ?_;refine RT.done ?_;refine aV.n ?_;refine e5 Y ?_;refine bC ?_;refine bG.n ?_;refine aV.n ?_;refine aW ?_;refine RT.add .none (((i:Nat):Int)+1) Y Y (tl Y) (mE (by omega)) ?_;refine RT.mv .none Y (tl Y) ?_;refine RT.done ?_;refine aV.n ?_;refine⟨⟨i+1,by omega⟩,(by dsimp only;omega),?_⟩
  try dsimp only
  exact dD id Y Y Y Y Y ⟨.sv (by first|exact au|exact SV.aZ (by omega)|exact SV.aZ (by push_cast;omega)|exact SV.aZ (by dsimp only;omega)|exact SV.imp_eq (by simp)),.sv (by first|exact au|exact SV.aZ (by omega)|exact SV.aZ (by push_cast;omega)|exact SV.aZ (by dsimp only;omega)|exact SV.imp_eq (by simp)),.sv (by first|exact au|exact SV.aZ (by omega)|exact SV.aZ (by push_cast;omega)|exact SV.aZ (by dsimp only;omega)|exact SV.imp_eq (by simp)),.sv (by first|exact au|exact SV.aZ (by omega)|exact SV.aZ (by push_cast;omega)|exact SV.aZ (by dsimp only;omega)|exact SV.imp_eq (by simp)),.sv (by first|exact au|exact SV.aZ (by omega)|exact SV.aZ (by push_cast;omega)|exact SV.aZ (by dsimp only;omega)|exact SV.imp_eq (by simp)),aq⟩ trivial trivial (λ_ _=>Y)
 ·
  refine bM ?_;refine aW ?_;refine RT.lss .none (true) Y Y (tl Y) (by simp;omega) ?_;refine RT.done ?_;refine aV.n ?_;refine bM ?_;refine dr Y ?_;refine bC ?_;refine aV.n ?_;refine bM ?_;refine bj ?_;refine bM ?_;refine aW ?_;refine RT.mv .none Y (tl Y) ?_;refine RT.DJ .none Y (tl Y) ?_;refine RT.done ?_;refine aV.n ?_;refine bM ?_;refine aW ?_;refine RT.wc .none (cs:=eQ ⟨⟨false,[]⟩,⟨false,[]⟩⟩) (by exact⟨au,aB,au,aB,aq⟩) Y (tl Y) Y Y ?_;refine RT.wc .none (cs:=eQ ⟨⟨false,[]⟩,⟨false,[]⟩⟩) (by exact⟨au,aB,au,aB,aq⟩) Y (tl Y) Y Y ?_;refine RT.done ?_;refine aV.n ?_;refine bM ?_;refine bM ?_;refine aW ?_;refine RT.mv .none Y (tl Y) ?_;refine RT.dN .none Y Y (tl Y) ?_;refine RT.len .none Y (tl Y) ?_;refine RT.lss .none (true) Y Y (tl Y) (by simp only[List.length_map];simp;omega) ?_;refine RT.done ?_;refine aV.n ?_;refine dr Y ?_;refine aW ?_;refine RT.dN .none Y Y (tl Y) ?_;refine RT.mv .none Y (tl Y) ?_
  refine RT.Tl .none [az ((a.getD i (⟨⟨false,[]⟩,⟨false,[]⟩⟩:Qr)).num.neg),slc 1 ((a.getD i (⟨⟨false,[]⟩,⟨false,[]⟩⟩:Qr)).num.w.map aY),az ((a.getD i (⟨⟨false,[]⟩,⟨false,[]⟩⟩:Qr)).den.neg),slc 1 ((a.getD i (⟨⟨false,[]⟩,⟨false,[]⟩⟩:Qr)).den.w.map aY)] (Int.natCast_nonneg i) (by rw[Int.toNat_natCast,List.getElem?_map,jh yH];rfl) Y Y (tl Y) ?_;refine RT.kn .none Y (tl Y) (cs:=[az ((a.getD i (⟨⟨false,[]⟩,⟨false,[]⟩⟩:Qr)).num.neg),slc 1 ((a.getD i (⟨⟨false,[]⟩,⟨false,[]⟩⟩:Qr)).num.w.map aY),az ((a.getD i (⟨⟨false,[]⟩,⟨false,[]⟩⟩:Qr)).den.neg),slc 1 ((a.getD i (⟨⟨false,[]⟩,⟨false,[]⟩⟩:Qr)).den.w.map aY)]) Y Y ?_;refine RT.store .none Y Y Y Y Y ?_;refine RT.done ?_;refine aV.n ?_;refine bM ?_;refine bM ?_;refine aW ?_;refine RT.mv .none Y (tl Y) ?_;refine RT.dN .none Y Y (tl Y) ?_;refine RT.len .none Y (tl Y) ?_;refine RT.lss .none (false) Y Y (tl Y) (by simp only[List.length_map];simp;omega) ?_;refine RT.done ?_;refine aV.n ?_;refine e5 Y ?_;refine bC ?_;refine aV.n ?_;refine bM ?_;refine aW ?_;refine RT.mv .none Y (tl Y) ?_;refine RT.load .none Y Y (.k4 Y Y Y Y) Y (tl Y) ?_;refine RT.load .none Y Y (.k4 Y Y Y Y) Y (tl Y) ?_
  refine RT.yield .none hr Y (λ_ h=>h) Y (i) Y Y hi (by exact⟨Y,(by show AV.sv _=AV.sv _;rw[iH AO]),aq⟩) (tl Y) (λyb=>?_);cases yb
  ·
   refine RT.not .none Y (tl Y) true Y ?_;refine RT.done ?_;refine aV.n ?_;refine dr Y ?_;refine bf ?_;refine bG.r ?_;refine aV.r ?_;refine aV.r ?_;refine bG.r ?_;exact⟨.inr rfl,(λh=>by cases h)⟩
  refine RT.not .none Y (tl Y) false Y ?_;refine RT.done ?_;refine aV.n ?_;refine e5 Y ?_;refine bC ?_;refine bG.n ?_;refine aV.n ?_;refine aW ?_;refine RT.add .none (((i:Nat):Int)+1) Y Y (tl Y) (mE (by omega)) ?_;refine RT.mv .none Y (tl Y) ?_;refine RT.done ?_;refine aV.n ?_;refine⟨⟨i+1,by omega⟩,(by dsimp only;omega),?_⟩
  try dsimp only
  exact dD id Y Y Y Y Y ⟨.sv (by first|exact au|exact SV.aZ (by omega)|exact SV.aZ (by push_cast;omega)|exact SV.aZ (by dsimp only;omega)|exact SV.imp_eq (by simp)),.sv (by first|exact au|exact SV.aZ (by omega)|exact SV.aZ (by push_cast;omega)|exact SV.aZ (by dsimp only;omega)|exact SV.imp_eq (by simp)),.sv (by first|exact au|exact SV.aZ (by omega)|exact SV.aZ (by push_cast;omega)|exact SV.aZ (by dsimp only;omega)|exact SV.imp_eq (by simp)),.sv (by first|exact au|exact SV.aZ (by omega)|exact SV.aZ (by push_cast;omega)|exact SV.aZ (by dsimp only;omega)|exact SV.imp_eq (by simp)),.sv (by first|exact au|exact SV.aZ (by omega)|exact SV.aZ (by push_cast;omega)|exact SV.aZ (by dsimp only;omega)|exact SV.imp_eq (by simp)),aq⟩ trivial trivial (λ_ _=>Y)
 ·
  refine bM ?_;refine aW ?_;refine RT.lss .none (true) Y Y (tl Y) (by simp;omega) ?_;refine RT.done ?_;refine aV.n ?_;refine bM ?_;refine dr Y ?_;refine bC ?_;refine aV.n ?_;refine bM ?_;refine bj ?_;refine bM ?_;refine aW ?_;refine RT.mv .none Y (tl Y) ?_;refine RT.DJ .none Y (tl Y) ?_;refine RT.done ?_;refine aV.n ?_;refine bM ?_;refine aW ?_;refine RT.wc .none (cs:=eQ ⟨⟨false,[]⟩,⟨false,[]⟩⟩) (by exact⟨au,aB,au,aB,aq⟩) Y (tl Y) Y Y ?_;refine RT.wc .none (cs:=eQ ⟨⟨false,[]⟩,⟨false,[]⟩⟩) (by exact⟨au,aB,au,aB,aq⟩) Y (tl Y) Y Y ?_;refine RT.done ?_;refine aV.n ?_;refine bM ?_;refine bM ?_;refine aW ?_;refine RT.mv .none Y (tl Y) ?_;refine RT.dN .none Y Y (tl Y) ?_;refine RT.len .none Y (tl Y) ?_;refine RT.lss .none (false) Y Y (tl Y) (by simp only[List.length_map];simp;omega) ?_;refine RT.done ?_;refine aV.n ?_;refine e5 Y ?_;refine bC ?_;refine aV.n ?_;refine bM ?_;refine bM ?_;refine aW ?_;refine RT.mv .none Y (tl Y) ?_;refine RT.dN .none Y Y (tl Y) ?_;refine RT.len .none Y (tl Y) ?_;refine RT.lss .none (true) Y Y (tl Y) (by simp only[List.length_map];simp;omega) ?_;refine RT.done ?_;refine aV.n ?_;refine dr Y ?_;refine aW ?_;refine RT.dN .none Y Y (tl Y) ?_
  refine RT.mv .none Y (tl Y) ?_;refine RT.Tl .none [az ((b.getD i (⟨⟨false,[]⟩,⟨false,[]⟩⟩:Qr)).num.neg),slc 1 ((b.getD i (⟨⟨false,[]⟩,⟨false,[]⟩⟩:Qr)).num.w.map aY),az ((b.getD i (⟨⟨false,[]⟩,⟨false,[]⟩⟩:Qr)).den.neg),slc 1 ((b.getD i (⟨⟨false,[]⟩,⟨false,[]⟩⟩:Qr)).den.w.map aY)] (Int.natCast_nonneg i) (by rw[Int.toNat_natCast,List.getElem?_map,jh AO];rfl) Y Y (tl Y) ?_;refine RT.kn .none Y (tl Y) (cs:=[az ((b.getD i (⟨⟨false,[]⟩,⟨false,[]⟩⟩:Qr)).num.neg),slc 1 ((b.getD i (⟨⟨false,[]⟩,⟨false,[]⟩⟩:Qr)).num.w.map aY),az ((b.getD i (⟨⟨false,[]⟩,⟨false,[]⟩⟩:Qr)).den.neg),slc 1 ((b.getD i (⟨⟨false,[]⟩,⟨false,[]⟩⟩:Qr)).den.w.map aY)]) Y Y ?_;refine RT.store .none Y Y Y Y Y ?_;refine RT.done ?_;refine aV.n ?_;refine bM ?_;refine aW ?_;refine RT.mv .none Y (tl Y) ?_;refine RT.load .none Y Y (.k4 Y Y Y Y) Y (tl Y) ?_;refine RT.load .none Y Y (.k4 Y Y Y Y) Y (tl Y) ?_;refine RT.yield .none hr Y (λ_ h=>h) Y (i) Y Y hi (by exact⟨(by show AV.sv _=AV.sv _;rw[iH yH]),Y,aq⟩) (tl Y) (λyb=>?_);cases yb
  ·
   refine RT.not .none Y (tl Y) true Y ?_;refine RT.done ?_;refine aV.n ?_;refine dr Y ?_;refine bf ?_;refine bG.r ?_;refine aV.r ?_;refine aV.r ?_;refine bG.r ?_;exact⟨.inr rfl,(λh=>by cases h)⟩
  refine RT.not .none Y (tl Y) false Y ?_;refine RT.done ?_;refine aV.n ?_;refine e5 Y ?_;refine bC ?_;refine bG.n ?_;refine aV.n ?_;refine aW ?_;refine RT.add .none (((i:Nat):Int)+1) Y Y (tl Y) (mE (by omega)) ?_;refine RT.mv .none Y (tl Y) ?_;refine RT.done ?_;refine aV.n ?_;refine⟨⟨i+1,by omega⟩,(by dsimp only;omega),?_⟩
  try dsimp only
  exact dD id Y Y Y Y Y ⟨.sv (by first|exact au|exact SV.aZ (by omega)|exact SV.aZ (by push_cast;omega)|exact SV.aZ (by dsimp only;omega)|exact SV.imp_eq (by simp)),.sv (by first|exact au|exact SV.aZ (by omega)|exact SV.aZ (by push_cast;omega)|exact SV.aZ (by dsimp only;omega)|exact SV.imp_eq (by simp)),.sv (by first|exact au|exact SV.aZ (by omega)|exact SV.aZ (by push_cast;omega)|exact SV.aZ (by dsimp only;omega)|exact SV.imp_eq (by simp)),.sv (by first|exact au|exact SV.aZ (by omega)|exact SV.aZ (by push_cast;omega)|exact SV.aZ (by dsimp only;omega)|exact SV.imp_eq (by simp)),.sv (by first|exact au|exact SV.aZ (by omega)|exact SV.aZ (by push_cast;omega)|exact SV.aZ (by dsimp only;omega)|exact SV.imp_eq (by simp)),aq⟩ trivial trivial (λ_ _=>Y)
 subst hi;refine bM ?_;refine aW ?_;refine RT.lss .none (false) Y Y (tl Y) (by simp) ?_;refine RT.done ?_;refine aV.n ?_;refine bM ?_;refine e5 Y ?_;refine b9 ?_;refine aV.x ?_;refine aV.x ?_;refine bG.x ?_;exact⟨.inl Y,(λ_=>Y)⟩
end
section
open Go.Fw Go.Fw.Z Go.RowKit
theorem Cb{x0:List Qr}{x1:List Qr}(N:Nat){r:List Qr}(h:mY x0 x1=some r):cP ah 95 N [slc 4 (List.map eQ x0),slc 4 (List.map eQ x1),.v (.func (.func 94) #[] #[])] (nw N (slc 4 (List.map (fQ N) r))):=by
 refine bB Tryz.func95 Y (af Y) (λeI M vs hN hvs=>?_);unfold mY at h;refine sr<|RT.vT .none (s:=.sv _) Y T Y Y<|aI Y (bk (N:=N) (n:=4) (e:=(fQ N)))<|dn<|sr<|mv Y<|lE h λjC qH h=>ln Y qH<|mv Y<|lE h λjv lK h=>ln Y lK<|lE h λga lB h=>RT.max .none _ Y Y T (NK (p:=jC) (q:=jv) lB)<|bE h λe9 jB h=>RT.DN (e:=(fQ N)) .none Y Y T Y T jB<|RT.alloc .none T Y Y<|RT.nI (cells:=[_]) .none Y Y Y Y T Y<|dn<|qq<|sr ?_;refine mv Y<|mv Y<|cl (rJ x0 x1) ⟨Y,Y,aq⟩<|dn<|bj<|bE h λmK hl5 ho5=>?_;obtain⟨Ui,hs5,ht5,hn5⟩:=om hl5;refine lI (rK x0 x1) (λ_ _ _ _ _=>trivial) Y (λk=>AS.cL 29 [(5,.ptr 5 0),(7,.ptr 7 0),(18,.sv (jA 165 [ref [slc 4 (List.map eQ x0)],ref [slc 4 (List.map eQ x1)]]))] [(7,⟨23,[.row 302]⟩),(5,⟨106,[.sv (.v (.func (.func 94) #[] #[]))]⟩)] [(302,TR 43 4 (fQ N) (Ui k))]) [7,5] Y (λ_=>⟨Y,Y⟩) (sK Y) (λ_=>Y) (sL Y) (by(try dsimp only);rw[hs5];(try dsimp only);exact dD (λi=>bif Nat.beq i 302 then 15 else i) Y Y Y Y Y ⟨.ptr,.ptr,.sv au,aq⟩ ⟨⟨_,Y,⟨.row Y,aq⟩⟩,⟨_,Y,⟨.sv au,aq⟩⟩,aq⟩ ⟨⟨_,Y,cj.refl _⟩,aq⟩ (λi hi=>by rw[cg (show i≠302 by omega)];rfl)) (λk hk D hD=>?_) ?_;have h:=ht5 k hk;obtain⟨mK,RK⟩:∃q,Ui k=q:=⟨_,Y⟩;rw[RK]at h⊢;dsimp only[AS.QO,sJ]
 try dsimp only at h
 obtain⟨⟨⟨Hu,Hv⟩,⟨Hw,Hx⟩⟩,WC,h⟩:=bS h;rw[Option.some.inj WC];obtain⟨⟨⟨Hy,Hz⟩,⟨HA,HB⟩⟩,Og,h⟩:=bS h;rw[Option.some.inj Og];refine sr<|al (cs:=[az false,nw N ax,az false,nw N ax]) (by exact⟨au,bk,au,bk,aq⟩) Y<|so Y Y Y<|dn<|aW<|al (cs:=[az false,nw N ax,az false,nw N ax]) (by exact⟨au,bk,au,bk,aq⟩) Y<|so Y Y Y<|RT.done ?_;refine aV.n ⟨Y,?_⟩;dsimp only[AS.Da];refine bj<|bh mixed<|RT.eU .none (s:=.row _) Y Y Y T<|lV Y Y Y<|ld Y Y (.k4 Y Y Y Y)<|ld Y Y (.k4 Y Y Y Y) ?_;obtain⟨⟨⟨mA,lJ⟩,⟨tw,tD⟩⟩,wD,h⟩:=bS h;refine RT.bL .none (Hp N wD) (Nat.le_trans hN hD) Y ⟨Y,Y,aq⟩ T<|bl (l:=[⟨⟨mA,lJ⟩,⟨tw,tD⟩⟩]) (e:=(fQ N)) (.agg Y (.nil)) Y Y Y Y Y Y<|bE h λnn vr h=>aR (k:=[⟨⟨mA,lJ⟩,⟨tw,tD⟩⟩]) (e:=(fQ N)) Y Y Y vr<|RT.nI (cells:=[_]) .none Y Y Y Y T Y ?_;refine RT.done ⟨by kernel_rfl,?_⟩;refine bG.n ?_;replace h:=Option.some.inj h;refine⟨aq,Y,Y,?_⟩
 try dsimp only
 rw[<-h]
 try dsimp only
 exact dD (λi=>bif Nat.beq i 302 then 27 else i) Y Y Y Y Y ⟨.ptr,.ptr,.sv au,aq⟩ ⟨⟨_,Y,⟨.row Y,aq⟩⟩,⟨_,Y,⟨.sv au,aq⟩⟩,aq⟩ ⟨⟨_,Y,cj.refl _⟩,aq⟩ (λi hi=>by rw[cg (show i≠302 by omega)];rfl);rw[hn5]
 try dsimp only
 refine bG.n<|aV.n<|sr<|RT.eU .none (s:=.row _) Y Y Y T<|an (s:=.row _) Y<|dn<|ic (i:=302) (E1:=43) (n:=4) (e:=(fQ N)) (l:=mK) hN (λ_ h=>h) Y<|bf ?_;obtain rfl:=O ho5;exact R1 Y
theorem wL{x0:Qr}{x1:Qr}{HC:Qr}(N:Nat){r:Qr}(h:lQ x0 x1 HC=some r):cP ah 141 N [.agg (eQ x0),.agg (eQ x1),ref (eQ HC)] (.agg ((fQ N) r)):=by
 obtain⟨⟨bu,bw⟩,⟨bF,bJ⟩⟩:=x0;obtain⟨⟨cV,cS⟩,⟨jc,jd⟩⟩:=x1;obtain⟨⟨HD,HE⟩,⟨HF,HG⟩⟩:=HC;refine bB Tryz.func141 Y (af Y) (λeI M vs hN hvs=>?_);unfold lQ at h;refine sr<|bx Y<|bx Y<|al (cs:=[az false,nw N ax,az false,nw N ax]) (by exact⟨au,bk,au,bk,aq⟩) Y<|dn<|qq<|bh mixed<|RT.kn (cs:=[_,_,_,_]) .none Y T Y Y<|ld Y Y (.k4 Y Y Y Y) ?_;obtain⟨⟨⟨wI,wJ⟩,⟨B4,B5⟩⟩,h8,h⟩:=bS h;refine RT.bL .none (z5 N h8) hN Y ⟨Y,Y,aq⟩ T<|ld Y Y (.k4 Y Y Y Y) ?_;obtain⟨⟨⟨GW,GX⟩,⟨T5,T6⟩⟩,iO,h⟩:=bS h;refine RT.bL .none ((Ho N iO).w (args':=[_,_]) ⟨(SV.ee (show cj [az wI,nw N (slc 1 (List.map aY wJ)),az B4,nw N (slc 1 (List.map aY B5))] _ from⟨au,ep,au,ep,aq⟩)),au,aq⟩) hN Y ⟨Y,Y,aq⟩ T<|so Y Y Y ?_;refine RT.done ⟨by kernel_rfl,?_⟩;refine aV.n<|bf ?_;obtain rfl:=O h;exact RZ (.agg Y Y (.k4 Y Y Y Y) Y (.nil))
theorem xV{x0:List Qr}{x1:List Qr}{OK:Qr}(N:Nat){r:List Qr}(h:jY x0 x1 OK=some r):cP ah 95 N [slc 4 (List.map eQ x0),slc 4 (List.map eQ x1),jA 141 [ref (eQ OK)]] (nw N (slc 4 (List.map (fQ N) r))):=by
 obtain⟨⟨JN,JO⟩,⟨JP,JQ⟩⟩:=OK;refine bB Tryz.func95 Y (af Y) (λeI M vs hN hvs=>?_);unfold jY at h;refine sr<|RT.vT .none (s:=.sv _) Y T Y Y<|aI Y (bk (N:=N) (n:=4) (e:=(fQ N)))<|dn<|sr<|mv Y<|lE h λjC qH h=>ln Y qH<|mv Y<|lE h λjv lK h=>ln Y lK<|lE h λga lB h=>RT.max .none _ Y Y T (NK (p:=jC) (q:=jv) lB)<|bE h λe9 jB h=>RT.DN (e:=(fQ N)) .none Y Y T Y T jB<|RT.alloc .none T Y Y<|RT.nI (cells:=[_]) .none Y Y Y Y T Y<|dn<|qq<|sr ?_;refine mv Y<|mv Y<|cl (rJ x0 x1) ⟨Y,Y,aq⟩<|dn<|bj<|bE h λmK hl5 ho5=>?_;obtain⟨Ui,hs5,ht5,hn5⟩:=om hl5;refine lI (rK x0 x1) (λ_ _ _ _ _=>trivial) Y (λk=>AS.cL 29 [(5,.ptr 5 0),(7,.ptr 7 0),(18,.sv (jA 165 [ref [slc 4 (List.map eQ x0)],ref [slc 4 (List.map eQ x1)]]))] [(7,⟨23,[.row 302]⟩),(5,⟨106,[.sv (jA 141 [ref [az JN,slc 1 (List.map aY JO),az JP,slc 1 (List.map aY JQ)]])]⟩)] [(302,TR 43 4 (fQ N) (Ui k))]) [7,5] Y (λ_=>⟨Y,Y⟩) (sK Y) (λ_=>Y) (sL Y) (by(try dsimp only);rw[hs5];(try dsimp only);exact dD (λi=>bif Nat.beq i 302 then 15 else i) Y Y Y Y Y ⟨.ptr,.ptr,.sv au,aq⟩ ⟨⟨_,Y,⟨.row Y,aq⟩⟩,⟨_,Y,⟨.sv au,aq⟩⟩,aq⟩ ⟨⟨_,Y,cj.refl _⟩,aq⟩ (λi hi=>by rw[cg (show i≠302 by omega)];rfl)) (λk hk D hD=>?_) ?_;have h:=ht5 k hk;obtain⟨mK,RK⟩:∃q,Ui k=q:=⟨_,Y⟩;rw[RK]at h⊢
 dsimp only[AS.QO,sJ]
 try dsimp only at h
 obtain⟨⟨⟨Hu,Hv⟩,⟨Hw,Hx⟩⟩,WC,h⟩:=bS h;rw[Option.some.inj WC];obtain⟨⟨⟨Hy,Hz⟩,⟨HA,HB⟩⟩,Og,h⟩:=bS h;rw[Option.some.inj Og];refine sr<|al (cs:=[az false,nw N ax,az false,nw N ax]) (by exact⟨au,bk,au,bk,aq⟩) Y<|so Y Y Y<|dn<|aW<|al (cs:=[az false,nw N ax,az false,nw N ax]) (by exact⟨au,bk,au,bk,aq⟩) Y<|so Y Y Y<|RT.done ?_;refine aV.n ⟨Y,?_⟩;dsimp only[AS.Da];refine bj<|bh mixed<|RT.eU .none (s:=.row _) Y Y Y T<|lV Y Y Y<|ld Y Y (.k4 Y Y Y Y)<|ld Y Y (.k4 Y Y Y Y) ?_;obtain⟨⟨⟨mA,lJ⟩,⟨tw,tD⟩⟩,wD,h⟩:=bS h;refine RT.VF (args:=[_,_]) (caps:=[_]) .none (wL N wD) (Nat.le_trans hN hD) Y ⟨Y,Y,aq⟩ T<|bl (l:=[⟨⟨mA,lJ⟩,⟨tw,tD⟩⟩]) (e:=(fQ N)) (.agg Y (.nil)) Y Y Y Y Y Y<|bE h λnn vr h=>aR (k:=[⟨⟨mA,lJ⟩,⟨tw,tD⟩⟩]) (e:=(fQ N)) Y Y Y vr<|RT.nI (cells:=[_]) .none Y Y Y Y T Y ?_;refine RT.done ⟨by kernel_rfl,?_⟩;refine bG.n ?_;replace h:=Option.some.inj h;refine⟨aq,Y,Y,?_⟩
 try dsimp only
 rw[<-h]
 try dsimp only
 exact dD (λi=>bif Nat.beq i 302 then 27 else i) Y Y Y Y Y ⟨.ptr,.ptr,.sv au,aq⟩ ⟨⟨_,Y,⟨.row Y,aq⟩⟩,⟨_,Y,⟨.sv au,aq⟩⟩,aq⟩ ⟨⟨_,Y,cj.refl _⟩,aq⟩ (λi hi=>by rw[cg (show i≠302 by omega)];rfl);rw[hn5]
 try dsimp only
 refine bG.n<|aV.n<|sr<|RT.eU .none (s:=.row _) Y Y Y T<|an (s:=.row _) Y<|dn<|ic (i:=302) (E1:=43) (n:=4) (e:=(fQ N)) (l:=mK) hN (λ_ h=>h) Y<|bf ?_;obtain rfl:=O ho5;exact R1 Y
theorem JR{x0:List Qr}{x1:List Qr}(N:Nat){r:List Qr}(h:qK x0 x1=some r):cP ah 50 N [slc 4 (List.map eQ x0),slc 4 (List.map eQ x1)] (nw N (slc 4 (List.map (fQ N) r))):=by
 refine bB Tryz.func50 Y (af Y) (λeI M vs hN hvs=>?_);unfold qK at h;refine sr<|aI Y (bk (N:=N) (n:=4) (e:=(fQ N)))<|dn<|sr<|mv Y<|mv Y<|bE h λx7 h7 h=>RT.bL .none (Cb N h7) hN Y ⟨Y,Y,Y,aq⟩ T<|ag Y<|dn<|bf ?_;obtain rfl:=O h;exact R1 Y
theorem Fg{x0:Qr}{x1:List Qr}(N:Nat){r:List Qr}(h:lj x0 x1=some r):cP ah 40 N [.agg (eQ x0),slc 4 (List.map eQ x1)] (nw N (slc 4 (List.map (fQ N) r))):=by
 obtain⟨⟨bu,bw⟩,⟨bF,bJ⟩⟩:=x0;refine bB Tryz.func40 Y (af Y) (λeI M vs hN hvs=>?_);unfold lj at h;refine sr<|bx Y<|aI Y (bk (N:=N) (n:=4) (e:=(fQ N)))<|dn<|sr<|mv Y<|lE h λx9 h9 h=>ln Y h9<|bE h λeY iO h=>RT.oA (n:=4) (e:=(fQ N)) .none Y Y T Y T (by rfl) (by decide) (by exact⟨au,bk,au,bk,aq⟩) iO<|an (s:=.row _) Y<|dn<|qq<|sr<|mv Y<|lE h λeX iz h=>ln Y iz<|mv Y<|dn<|bE h λe8 JA At=>?_;refine bU (λ(B6:(List Qr))=>AS.cL 26 [(5,.row 10)] [] [(10,TR 43 4 (fQ N) B6)]) (λB6=>B6=e8) ?_ (λB6 JB=>?_);refine bj ?_;refine bV JA (λs8=>AS.cL 26 [(2,.ptr 2 0),(5,.row 10),(11,.sv (slc 4 (List.map eQ x1))),(12,ai eX),(13,ai s8.1)] [(2,⟨43,[aj bu,.sv (slc 1 (List.map aY bw)),aj bF,.sv (slc 1 (List.map aY bJ))]⟩)] [(10,TR 43 4 (fQ N) s8.2)]) (wR []) (λs8 y8 G8 h JC JD=>?_);obtain⟨HH,HI⟩:=s8
 try dsimp only
 refine sr<|lE h λga lB h=>ls _ Y Y lB<|dn<|qq ?_;cases ga;refine cF<|b9<|aV.x<|aV.x<|bG.x<|aV.n ?_;obtain rfl:=O (F h);exact⟨HI,JD _ Y,wR []⟩;refine cT<|bC<|aV.n<|qq<|bj<|sr<|mv Y ?_;obtain⟨⟨⟨pH,pI⟩,⟨T7,T8⟩⟩,n8,h⟩:=bS (V h);refine ix Y Y n8<|RT.kn (cs:=[_,_,_,_]) .none Y T Y Y<|al (cs:=[az false,nw N ax,az false,nw N ax]) (by exact⟨au,bk,au,bk,aq⟩) Y<|ag Y<|so Y Y Y<|dn<|aW<|mo (s:=.row _) Y<|mv Y<|ld Y Y (.k4 Y Y Y Y)<|ld Y Y (.k4 Y Y Y Y) ?_;obtain⟨⟨⟨xR,xS⟩,⟨xT,xU⟩⟩,qJ,h⟩:=bS h;refine RT.bL .none (z5 N qJ) hN Y ⟨Y,Y,aq⟩ T<|bE h λku sZ h=>iR Y Y Y sZ<|bE h λAq s9 h=>sA ⟨⟨xR,xS⟩,⟨xT,xU⟩⟩ Y Y Y s9<|RT.done<|bG.n<|aV.n<|aW<|lE h λjE qp h=>ad _ Y Y qp<|mv Y<|RT.done ?_;obtain rfl:=O h;exact aV.n ⟨(jE,Aq),JC _ Y,wR []⟩;subst JB
 try dsimp only
 refine aV.n<|sr<|mo (s:=.row _) Y<|an (s:=.row _) Y<|dn<|ic (i:=10) (E1:=43) (n:=4) (e:=(fQ N)) (l:=B6) hN (λ_ h=>h) Y<|bf ?_;obtain rfl:=O At;exact R1 Y
theorem Fh{x0:Qr}{x1:List Qr}{r:List Qr}(h:lj x0 x1=some r):Pure ah 40 [.agg (eQ x0),slc 4 (List.map eQ x1)] (slc 4 (List.map eQ r)):=fj (λN=>Fg N h) (λN=>NV)
theorem qL{x0:Qr}{x1:List Qr}{x2:List Qr}(N:Nat){r:List Qr}(h:fV x0 x1 x2=some r):cP ah 96 N [.agg (eQ x0),slc 4 (List.map eQ x1),slc 4 (List.map eQ x2)] (nw N (slc 4 (List.map (fQ N) r))):=by
 obtain⟨⟨bu,bw⟩,⟨bF,bJ⟩⟩:=x0;refine bB Tryz.func96 Y (af Y) (λeI M vs hN hvs=>?_);unfold fV at h;refine sr<|bx Y<|aI Y (bk (N:=N) (n:=4) (e:=(fQ N)))<|dn ?_;refine cI (gN (i:=3) Y [az bu,slc 1 (List.map aY bw),az bF,slc 1 (List.map aY bJ)] (.k4 Y Y Y Y) .any 0 [(3,.sv (ref [az bu,slc 1 (List.map aY bw),az bF,slc 1 (List.map aY bJ)]))] (λ_ _ _=>trivial) (qy.h (l:=[az bu,slc 1 (List.map aY bw),az bF,slc 1 (List.map aY bJ)])) ⟨@FT.ptr _ _ _ _ _ 3 0 Y,aq⟩)<|sr<|mv Y<|mv Y<|RT.yQ (caps:=[_]) .none ⟨Y,aq⟩ T<|bE h λeY iO h=>?_;refine RT.bL .none (xV N iO) hN Y ⟨Y,Y,Y,aq⟩ T<|ag Y<|dn<|bf ?_;obtain rfl:=O h;exact R1 Y
theorem zh{x0:Qr}{x1:List Qr}{x2:List Qr}{r:List Qr}(h:fV x0 x1 x2=some r):Pure ah 96 [.agg (eQ x0),slc 4 (List.map eQ x1),slc 4 (List.map eQ x2)] (slc 4 (List.map eQ r)):=fj (λN=>qL N h) (λN=>NV)
theorem tG{x0:List Qr}{x1:List Qr}{r:Int}(h:ji x0 x1=some r):Pure ah 88 [slc 4 (List.map eQ x0),slc 4 (List.map eQ x1)] (ay r):=by
 refine bD Tryz.func88 Y (af Y) (λeI M vs hvs=>?_);unfold ji at h;refine sr<|al (cs:=[ay 0]) (by exact⟨au,aq⟩) Y<|dn<|qq<|sr<|mv Y<|mv Y<|cl (rJ x0 x1) ⟨Y,Y,aq⟩<|dn<|bj<|bE h λe3 Rl OP=>?_;obtain⟨m3,st3,hs3,ht3,hn3⟩:=yO Rl;refine mW (rK x0 x1) (λ_ _ _ _ _=>trivial) Y (λk=>AS.cL 19 [(4,.ptr 4 0),(10,.sv (jA 165 [ref [slc 4 (List.map eQ x0)],ref [slc 4 (List.map eQ x1)]]))] [(4,⟨3,[ai 0]⟩)] []) [4] Y (λ_=>⟨Y,Y⟩) (sK Y) (λ_=>Y) (sL Y) (by(try dsimp only);(try dsimp only);exact dD id Y Y Y Y Y ⟨.ptr,.sv au,aq⟩ ⟨⟨_,Y,⟨.sv au,aq⟩⟩,aq⟩ trivial (λ_ _=>Y)) m3 (λk hk hkm D hD=>?_) (λhdn=>?_);obtain⟨y3,h,hG3,hE3⟩:=ht3 k hk hkm;dsimp only[AS.QO,sJ]
 try dsimp only at h
 obtain⟨⟨⟨T9,Ua⟩,⟨Ub,Ud⟩⟩,WD,h⟩:=bS h;rw[Option.some.inj WD];obtain⟨⟨⟨Ue,Uf⟩,⟨Ug,Uh⟩⟩,afU,h⟩:=bS h;rw[Option.some.inj afU];refine sr<|al (cs:=[az false,ax,az false,ax]) (by exact⟨au,aB,au,aB,aq⟩) Y<|so Y Y Y<|dn<|aW<|al (cs:=[az false,ax,az false,ax]) (by exact⟨au,aB,au,aB,aq⟩) Y<|so Y Y Y<|RT.done ?_;refine aV.n ⟨Y,?_⟩;dsimp only[AS.Da];refine bj<|sr<|ld Y Y (.k4 Y Y Y Y)<|ld Y Y (.k4 Y Y Y Y)<|bE h λe9 jB h=>cl (Ht jB) ⟨Y,Y,aq⟩<|ag Y<|dn<|sr<|mv Y<|lE h λgW nL h=>ne _ Y Y (IX (p:=e9) (q:=0) nL)<|dn ?_;cases gW;refine cF<|bC<|bG.n ?_;obtain rfl:=O (F h);obtain⟨hm3,hq3⟩:=hG3 _ Y;exact⟨hm3,Y,Y,wR []⟩;refine cT<|sr<|mv Y<|RT.pX (cells:=[_]) .none (s:=.sv _) Y Y Y T Y<|dn<|bf<|bG.r ?_;obtain rfl:=O (V h);have he3:=hE3 _ Y;subst he3;refine⟨Y,Y,?_⟩;refine bG.r<|aV.r ?_;obtain rfl:=O OP;exact RZ (.one Y Y Y (.nil));have hd3:=hn3 hdn;subst hd3;obtain⟨ee3,OQ⟩:∃q,st3 (max x0.length x1.length)=q:=⟨_,Y⟩;rw[OQ]at OP
 try dsimp only
 refine bG.n<|aV.n<|sr<|RT.pX (cells:=[_]) .none (s:=.sv _) Y Y Y T Y<|dn<|bf ?_;obtain rfl:=O OP;exact RZ (.one Y Y Y (.nil))
theorem HL{x0:List Qr}{r:Int}(h:oI x0=some r):Pure ah 91 [slc 4 (List.map eQ x0)] (ay r):=by
 refine bD Tryz.func91 Y (af Y) (λeI M vs hvs=>?_);unfold oI at h;refine sr<|ag Y<|dn<|sr<|mv Y<|bE h λx4 h4 h=>cl ((tG h4).w (args':=[_,_]) ⟨au,aB,aq⟩) ⟨Y,Y,aq⟩<|ag Y<|dn<|bf ?_;obtain rfl:=O h;exact R1 Y
theorem fE{x0:List Qr}{x1:List Qr}{r:Bool}(h:dA x0 x1=some r):Pure ah 37 [slc 4 (List.map eQ x0),slc 4 (List.map eQ x1)] (az r):=by
 refine bD Tryz.func37 Y (af Y) (λeI M vs hvs=>?_);unfold dA at h;refine sr<|ag Y<|dn<|sr<|mv Y<|mv Y<|bE h λx7 h7 h=>cl (tG h7) ⟨Y,Y,aq⟩<|lE h λx8 h8 h=>eq _ Y Y (xg (p:=x7) (q:=0) h8)<|ag Y<|dn<|bf ?_;obtain rfl:=O h;exact R1 Y
theorem vC{x0:List Qr}{x1:Int}(N:Nat){r:List Qr}(h:gP x0 x1=some r):cP ah 47 N [slc 4 (List.map eQ x0),ay x1] (nw N (slc 4 (List.map (fQ N) r))):=by
 refine bB Tryz.func47 Y (af Y) (λeI M vs hN hvs=>?_);unfold gP at h;refine sr<|aI Y (bk (N:=N) (n:=4) (e:=(fQ N)))<|dn<|qq<|sr<|mv Y<|lE h λx8 h8 h=>ls _ Y Y h8<|dn ?_;cases x8;refine fs<|sr<|mv Y<|lE (F h) λeY iO h=>RT.min .none _ Y Y T (Vw (p:=x1) (q:=65536) iO)<|bE h λjC qH h=>RT.oA (n:=4) (e:=(fQ N)) .none Y Y T Y T (by rfl) (by decide) (by exact⟨au,bk,au,bk,aq⟩) qH<|an (s:=.row _) Y<|dn<|qq<|sr<|mv Y<|lE h λjv lK h=>ln Y lK<|mo (s:=.row _) Y<|lE h λe9 jB h=>lL Y Y jB<|lE h λjD n8 h=>?_;refine RT.min .none _ Y Y T (Vw (p:=jv) (q:=e9) n8)<|mv Y<|dn<|bE h λe8 JA At=>?_;refine bU (λ(B7:(List Qr))=>AS.cL 30 [(5,.row 11)] [] [(11,TR 43 4 (fQ N) B7)]) (λB7=>B7=e8) ?_ (λB7 JB=>?_);refine bj ?_;refine bV JA (λs8=>AS.cL 30 [(0,.sv (slc 4 (List.map eQ x0))),(5,.row 11),(16,ai jD),(17,ai s8.1)] [] [(11,TR 43 4 (fQ N) s8.2)]) (wR []) (λs8 y8 G8 h JC JD=>?_);obtain⟨HJ,HK⟩:=s8
 try dsimp only
 refine sr<|lE h λgX lM h=>ls _ Y Y lM<|dn<|qq ?_;cases gX;refine cF<|b9<|aV.x<|aV.x<|bG.x<|aV.n ?_;obtain rfl:=O (F h);exact⟨HK,JD _ Y,wR []⟩;refine cT<|bC<|aV.n<|qq<|bj<|sr<|mv Y<|ag Y<|dn<|aW<|mo (s:=.row _) Y<|mv Y<|mv Y<|mv Y ?_;obtain⟨⟨⟨vw,vz⟩,⟨vA,vB⟩⟩,qp,h⟩:=bS (V h);refine ix Y Y qp<|RT.kn (cs:=[_,_,_,_]) .none Y T Y Y ?_;obtain⟨⟨⟨OL,OM⟩,⟨ON,OO⟩⟩,vp,h⟩:=bS h;refine RT.bL .none (jx N vp) hN Y ⟨Y,aq⟩ T<|bE h λnn vr h=>iR Y Y Y vr<|bE h λAq s9 h=>sA ⟨⟨OL,OM⟩,⟨ON,OO⟩⟩ Y Y Y s9<|RT.done<|bG.n<|aV.n<|aW<|lE h λoY wE h=>ad _ Y Y wE<|mv Y<|RT.done ?_;obtain rfl:=O h;exact aV.n ⟨(oY,Aq),JC _ Y,wR []⟩;subst JB
 try dsimp only
 refine aV.n<|sr<|mo (s:=.row _) Y<|an (s:=.row _) Y<|dn<|ic (i:=11) (E1:=43) (n:=4) (e:=(fQ N)) (l:=B7) hN (λ_ h=>h) Y<|bf ?_;obtain rfl:=O At;exact R1 Y;refine cT<|sr<|aI Y (bk (N:=N) (n:=4) (e:=(fQ N)))<|dn<|bf<|aV.r ?_;obtain rfl:=O (V h);exact R1 Y
theorem vD{x0:List Qr}{x1:Int}{r:List Qr}(h:gP x0 x1=some r):Pure ah 47 [slc 4 (List.map eQ x0),ay x1] (slc 4 (List.map eQ r)):=fj (λN=>vC N h) (λN=>NV)
theorem ef{x0:List Int}{r:List Qr}(h:c6 x0=some r):Pure ah 54 [slc 1 (List.map bT x0)] (slc 4 (List.map eQ r)):=by
 refine bD Tryz.func54 Y (af Y) (λeI M vs hvs=>?_);unfold c6 at h;refine sr<|aI Y (aB (n:=4) (e:=eQ))<|dn<|sr<|mv Y<|lE h λx7 h7 h=>ln Y h7<|bE h λx8 h8 h=>RT.oA (n:=4) (e:=eQ) .none Y Y T Y T (by rfl) (by decide) (by exact⟨au,aB,au,aB,aq⟩) h8<|an (s:=.row _) Y<|dn<|qq<|sr<|mv Y<|lE h λeY iO h=>ln Y iO<|mv Y<|dn<|bE h λe8 JA At=>?_;refine bU (λ(wK:(List Qr))=>AS.cL 23 [(3,.row 8)] [] [(8,TR 43 4 eQ wK)]) (λwK=>wK=e8) ?_ (λwK JB=>?_);refine bj ?_;refine bV JA (λs8=>AS.cL 23 [(3,.row 8),(9,.sv (slc 1 (List.map bT x0))),(10,ai eY),(11,ai s8.1)] [] [(8,TR 43 4 eQ s8.2)]) (wR []) (λs8 y8 G8 h JC JD=>?_);obtain⟨tF,B8⟩:=s8
 try dsimp only
 refine sr<|lE h λeX iz h=>ls _ Y Y iz<|dn<|qq ?_;cases eX;refine cF<|b9<|aV.x<|aV.x<|bG.x<|aV.n ?_;obtain rfl:=O (F h);exact⟨B8,JD _ Y,wR []⟩;refine cT<|bC<|aV.n<|qq<|bj<|sr<|mv Y<|bE (V h) λga lB h=>ix Y Y lB<|lr Y Y<|ag Y<|ag Y<|dn<|aW<|mo (s:=.row _) Y<|mv Y<|mv Y ?_;obtain⟨⟨⟨nX,nY⟩,⟨B9,Ca⟩⟩,n7,h⟩:=bS h;refine cl (jw n7) ⟨Y,aq⟩<|bE h λja o5 h=>iR Y Y Y o5<|bE h λAq s9 h=>sA ⟨⟨nX,nY⟩,⟨B9,Ca⟩⟩ Y Y Y s9<|RT.done<|bG.n<|aV.n<|aW<|lE h λiv o6 h=>ad _ Y Y o6<|mv Y<|RT.done ?_;obtain rfl:=O h;exact aV.n ⟨(iv,Aq),JC _ Y,wR []⟩;subst JB
 try dsimp only
 refine aV.n<|sr<|mo (s:=.row _) Y<|an (s:=.row _) Y<|dn<|cI (oh (i:=8) (E1:=43) (n:=4) (e:=eQ) (l:=wK) Y)<|bf ?_;obtain rfl:=O At;exact R1 Y
end
section
open Go.Fw
noncomputable def mL(x0:List (List Qr))(x1:Int):Option (List Qr):=cK (λ(OR:Bool)=>(bif OR then some []else(cU x0 x1).bind λe9=>some e9)) λK3=>(some (decide ((x1:Int)<0))).bind λx6=>(bif x6 then some true else(some (x0.length:Int)).bind λeY=>(some (decide ((eY:Int)<=x1))).bind λjC=>some jC).bind λUj=>K3 Uj
noncomputable def mM(x0:List (List Qr)):Option (Int):=(some (x0.length:Int)).bind λx7=>(cy (λ(s6:Int×Int)=>match s6 with|⟨qc,RN⟩=>(show Option ((Int×Int)⊕(Int))from(some (decide ((RN:Int)<x7))).bind λx9=>(bif x9 then(cU x0 RN).bind λeY=>(some (eY.length:Int)).bind λga=>(some (max (qc:Int) ga)).bind λe9=>(some (IntKind.i64.wrap (RN+1))).bind λjD=>some (.inl (e9,jD))else some (.inr qc)))) (0,0)).bind λzj=>some zj
noncomputable def tJ(x0:List (List Qr))(x1:Int)(x2:Int):Option (Qr):=(mL x0 x1).bind λeY=>cK (λ(OS:Bool)=>(bif OS then some ⟨⟨false,[]⟩,⟨false,[]⟩⟩else(cU eY x2).bind λ⟨⟨xR,xS⟩,⟨xT,xU⟩⟩=>(cZ ⟨⟨xR,xS⟩,⟨xT,xU⟩⟩).bind λ⟨⟨vw,vz⟩,⟨vA,vB⟩⟩=>some ⟨⟨vw,vz⟩,⟨vA,vB⟩⟩)) λK3=>(some (decide ((x2:Int)<0))).bind λeX=>(bif eX then some true else(some (eY.length:Int)).bind λjD=>(some (decide ((jD:Int)<=x2))).bind λgW=>some gW).bind λUk=>K3 Uk
noncomputable def eW(x0:List (List Qr))(x1:List (List Qr)):Option (Bool):=(nK (λ(k:Nat) (s3:Unit)=>(show Option ((Unit)⊕(Bool))from(some (x0.getD k [])).bind λp10=>(some (x1.getD k [])).bind λp11=>(dA p10 p11).bind λga=>(some (!ga)).bind λe9=>(bif e9 then some (.inr false)else some (.inl ())))) (max x0.length x1.length) ()).bind λe3=>match e3 with|.inr v3=>some v3|.inl _=>some true
noncomputable def iC(x0:List (List Int)):Option (List (List Qr)):=(some (x0.length:Int)).bind λx7=>(CV 24 x7 ([]:List Qr)).bind λx8=>(some (x0.length:Int)).bind λeY=>(cy (λ(s8:Int×(List (List Qr)))=>match s8 with|⟨tF,B8⟩=>(show Option ((Int×(List (List Qr)))⊕((List (List Qr))))from(some (decide ((tF:Int)<eY))).bind λeX=>(bif eX then(cU x0 tF).bind λga=>(c6 ga).bind λmm=>(ko B8 tF).bind λja=>(stM B8 ja mm).bind λAq=>(some (IntKind.i64.wrap (tF+1))).bind λiv=>some (.inl (iv,Aq))else some (.inr B8)))) (0,x8)).bind λwK=>some wK
end
section
open Go.Fw Go.Fw.Z Go.RowKit
theorem wM{x0:List (List Qr)}{x1:Int}{r:List Qr}(h:mL x0 x1=some r):Pure ah 139 [slc 1 (List.map (eS 4 eQ) x0),.v (.int .i64 x1)] (slc 4 (List.map eQ r)):=by
 refine bD Tryz.func139 Y (af Y) (λeI M vs hvs=>?_);unfold mL at h;refine sr<|aI Y (aB (n:=4) (e:=eQ))<|dn<|qq<|qq ?_;refine bH h (λj3=>AS.cL 17 [(0,.sv (slc 1 (List.map (eS 4 eQ) x0))),(1,.sv (.v (.int .i64 x1))),(12,.sv (.v (.bool j3)))] [] []) (λh=>?_) (λOR h=>?_);refine aW<|mv Y<|lE h λx6 h6 h=>ls _ Y Y h6<|mv Y<|bE h λUj rY h=>?_;cases x6;refine gm Y<|gm Y<|lE (F rY) λeY iO rY=>gn Y iO<|lE rY λjC qH rY=>RT.geq (.some Y Y) _ Y Y T qH ?_;obtain rfl:=O rY;exact pF Y<|dn<|⟨jC,h,wR []⟩;obtain rfl:=O (V rY);exact ww<|ww<|ww<|ww<|pT Y<|dn<|⟨true,h,wR []⟩
 try dsimp only
 refine aV.n ?_;cases OR;refine fs<|sr<|mv Y<|mv Y<|bE (F h) λe9 jB h=>ix Y Y jB<|lr Y Y<|ag Y<|dn<|bf ?_;obtain rfl:=O h;exact R1 Y;refine cT<|sr<|aI Y (aB (n:=4) (e:=eQ))<|dn<|bf<|aV.r ?_;obtain rfl:=O (V h);exact R1 Y
theorem Cc(a:List (List Qr))(i:Nat):mL a (i:Int)=some (a.getD i []):=by
 unfold mL;unfold cK;by_cases h:i<a.length;simp[cU,h,show ¬((i:Int)<0) by omega,show ¬((a.length:Int)<=(i:Int)) by omega,List.getD];simp[h,show ¬((i:Int)<0) by omega,show((a.length:Int)<=(i:Int)) by omega,iH (Nat.not_lt.1 h)]
theorem Az(a b:List (List Qr)):Pure ah 92 [(slc 1 (List.map (eS 4 eQ) a)),(slc 1 (List.map (eS 4 eQ) b))] (jA 138 [ref [(slc 1 (List.map (eS 4 eQ) a))],ref [(slc 1 (List.map (eS 4 eQ) b))]]):=by
 refine bD Tryz.func92 Y (af Y) (λeI M vs hvs=>?_);refine sr<|RT.vT .none (s:=.sv _) Y T Y Y<|RT.vT .none (s:=.sv _) Y T Y Y<|ag Y<|dn<|sr<|RT.makeFunc .none (.box Y (.box Y (.nil))) T<|an (s:=.gI _ _) Y<|dn<|cI (gN (i:=2) Y [(slc 1 (List.map (eS 4 eQ) a))] (.cons Y .nil) .any 0 [(4,.gI 138 [.val (ref [(slc 1 (List.map (eS 4 eQ) a))]),.box 3])] (λ_ _ _=>trivial) (qy.h (l:=[(slc 1 (List.map (eS 4 eQ) a))])) ⟨@FT.gI _ _ _ _ _ 4 138 [.box 2,.box 3] Y,aq⟩) ?_;exact cI (gN (i:=3) Y [(slc 1 (List.map (eS 4 eQ) b))] (.cons Y .nil) .any 0 [(4,.gI 138 [.val (ref [(slc 1 (List.map (eS 4 eQ) a))]),.val (ref [(slc 1 (List.map (eS 4 eQ) b))])])] (λ_ _ _=>trivial) (qy.h (l:=[(slc 1 (List.map (eS 4 eQ) b))])) ⟨@FT.gI _ _ _ _ _ 4 138 [.val (ref [(slc 1 (List.map (eS 4 eQ) a))]),.box 3] Y,aq⟩)<|cI (EA 4 (jA 138 [ref [(slc 1 (List.map (eS 4 eQ) a))],ref [(slc 1 (List.map (eS 4 eQ) b))]]) (λ_ _ h=>EB h))<|bf<|⟨.inr Y,Ey (.tmp Y (.nil)) Y⟩
theorem AA(a b:List (List Qr)):Iter ah 138 [ref [(slc 1 (List.map (eS 4 eQ) a))],ref [(slc 1 (List.map (eS 4 eQ) b))]] (max a.length b.length) (λk=>[(slc 4 (List.map eQ (a.getD k []))),(slc 4 (List.map eQ (b.getD k [])))]):=by
 refine rD Tryz.func138 Y Y (af Y) (λeI M O l J hJ xh hr=>?_);obtain⟨nU,xh⟩:=xh;have hla:a.length<=9223372036854775807:=by cases nU with|nil=>exact xh.elim|cons _ nU=>exact uC xh.1
 have hlb:b.length<=9223372036854775807:=by cases nU with|nil=>exact xh.elim|cons _ nU=>cases nU with|nil=>exact xh.2.elim|cons _ _=>exact uC xh.2.1
 refine bM ?_;refine aW ?_;refine RT.dN .none Y Y (tl Y) ?_;refine RT.len .none Y (tl Y) ?_;refine RT.dN .none Y Y (tl Y) ?_;refine RT.len .none Y (tl Y) ?_;refine RT.max .none (((max a.length b.length:Nat):Int)) Y Y (tl Y) (by simp only[List.length_map];split<;>omega) ?_;refine RT.mv .none Y (tl Y) ?_;refine RT.done ?_;refine aV.n ?_;refine bj ?_
 refine xm (I:=λx:{i:Nat//i<=max a.length b.length}=>AS.cL 23 [(0,.sv (.v (.func (.yield l) #[] #[]))),(1,.sv (ref [(slc 1 (List.map (eS 4 eQ) a))])),(2,.sv (ref [(slc 1 (List.map (eS 4 eQ) b))])),(9,.sv (.v (.int .i64 ((max a.length b.length:Nat):Int)))),(10,.sv (.v (.int .i64 ((x.1:Nat):Int))))] [] [] (x.1)) (μ:=λx=>max a.length b.length-x.1) ⟨0,by omega⟩ (by(try dsimp only);exact dD id rfl rfl rfl rfl rfl ⟨.sv (by first|exact au|exact SV.aZ (by omega)|exact SV.aZ (by push_cast;omega)|exact SV.aZ (by dsimp only;omega)|exact SV.imp_eq (by simp)),.sv (by first|exact au|exact SV.aZ (by omega)|exact SV.aZ (by push_cast;omega)|exact SV.aZ (by dsimp only;omega)|exact SV.imp_eq (by simp)),.sv (by first|exact au|exact SV.aZ (by omega)|exact SV.aZ (by push_cast;omega)|exact SV.aZ (by dsimp only;omega)|exact SV.imp_eq (by simp)),.sv (by first|exact au|exact SV.aZ (by omega)|exact SV.aZ (by push_cast;omega)|exact SV.aZ (by dsimp only;omega)|exact SV.imp_eq (by simp)),.sv (by first|exact au|exact SV.aZ (by omega)|exact SV.aZ (by push_cast;omega)|exact SV.aZ (by dsimp only;omega)|exact SV.imp_eq (by simp)),aq⟩ trivial trivial (λ_ _=>rfl)) ?_;rintro⟨i,Tq⟩
 try dsimp only
 rcases Nat.lt_or_eq_of_le Tq with hi|hi
 ·
  refine bM ?_;refine aW ?_;refine RT.lss .none (true) Y Y (tl Y) (by simp;omega) ?_;refine RT.done ?_;refine aV.n ?_;refine bM ?_;refine dr Y ?_;refine bC ?_;refine aV.n ?_;refine bM ?_;refine bj ?_;refine bM ?_;refine aW ?_;refine RT.mv .none Y (tl Y) ?_;refine RT.DJ .none Y (tl Y) ?_;refine RT.done ?_;refine aV.n ?_;refine bM ?_;refine BH 7 mixed ?_;refine RT.mv .none Y (tl Y) ?_;refine RT.dN .none Y Y (tl Y) ?_;refine RT.mv .none Y (tl Y) ?_;refine RT.call .none (wM (Cc a i)) Y ⟨Y,Y,aq⟩ (tl Y) ?_;refine RT.dN .none Y Y (tl Y) ?_;refine RT.mv .none Y (tl Y) ?_;refine RT.call .none (wM (Cc b i)) Y ⟨Y,Y,aq⟩ (tl Y) ?_;refine RT.done ⟨by kernel_rfl,?_⟩;refine RT.yield .none hr Y (λ_ h=>h) Y (i) Y Y hi (by exact⟨Y,Y,aq⟩) (tl Y) (λyb=>?_);cases yb
  ·
   refine RT.not .none Y (tl Y) true Y ?_;refine RT.done ?_;refine aV.n ?_;refine dr Y ?_;refine bf ?_;refine bG.r ?_;refine aV.r ?_;refine aV.r ?_;refine bG.r ?_;exact⟨.inr rfl,(λh=>by cases h)⟩
  refine RT.not .none Y (tl Y) false Y ?_;refine RT.done ?_;refine aV.n ?_;refine e5 Y ?_;refine bC ?_;refine bG.n ?_;refine aV.n ?_;refine aW ?_;refine RT.add .none (((i:Nat):Int)+1) Y Y (tl Y) (mE (by omega)) ?_;refine RT.mv .none Y (tl Y) ?_;refine RT.done ?_;refine aV.n ?_;refine⟨⟨i+1,by omega⟩,(by dsimp only;omega),?_⟩
  try dsimp only
  exact dD id rfl rfl rfl rfl rfl ⟨.sv (by first|exact au|exact SV.aZ (by omega)|exact SV.aZ (by push_cast;omega)|exact SV.aZ (by dsimp only;omega)|exact SV.imp_eq (by simp)),.sv (by first|exact au|exact SV.aZ (by omega)|exact SV.aZ (by push_cast;omega)|exact SV.aZ (by dsimp only;omega)|exact SV.imp_eq (by simp)),.sv (by first|exact au|exact SV.aZ (by omega)|exact SV.aZ (by push_cast;omega)|exact SV.aZ (by dsimp only;omega)|exact SV.imp_eq (by simp)),.sv (by first|exact au|exact SV.aZ (by omega)|exact SV.aZ (by push_cast;omega)|exact SV.aZ (by dsimp only;omega)|exact SV.imp_eq (by simp)),.sv (by first|exact au|exact SV.aZ (by omega)|exact SV.aZ (by push_cast;omega)|exact SV.aZ (by dsimp only;omega)|exact SV.imp_eq (by simp)),aq⟩ trivial trivial (λ_ _=>rfl)
 subst hi;refine bM ?_;refine aW ?_;refine RT.lss .none (false) Y Y (tl Y) (by simp) ?_;refine RT.done ?_;refine aV.n ?_;refine bM ?_;refine e5 Y ?_;refine b9 ?_;refine aV.x ?_;refine aV.x ?_;refine bG.x ?_;exact⟨.inl rfl,(λ_=>rfl)⟩
theorem z6{x0:List (List Qr)}{r:Int}(h:mM x0=some r):Pure ah 84 [slc 1 (List.map (eS 4 eQ) x0)] (.v (.int .i64 r)):=by
 refine bD Tryz.func84 Y (af Y) (λeI M vs hvs=>?_);unfold mM at h;refine sr<|ag Y<|dn<|sr<|ag Y<|dn<|qq<|sr<|mv Y<|lE h λx7 h7 h=>ln Y h7<|mv Y<|dn<|bE h λe6 Di nx=>?_;refine bU (λ(zj:Int)=>AS.cL 18 [(3,.sv (.v (.int .i64 zj)))] [] []) (λzj=>zj=e6) ?_ (λzj Dj=>?_);refine bj ?_;refine bV Di (λs6=>AS.cL 18 [(3,.sv (.v (.int .i64 s6.1))),(6,.sv (slc 1 (List.map (eS 4 eQ) x0))),(7,.sv (.v (.int .i64 x7))),(8,.sv (.v (.int .i64 s6.2)))] [] []) (wR []) (λs6 y6 G6 h Dk yW=>?_);obtain⟨qc,RN⟩:=s6
 try dsimp only
 refine sr<|lE h λx9 h9 h=>ls _ Y Y h9<|dn<|qq ?_;cases x9;refine cF<|b9<|aV.x<|aV.x<|bG.x<|aV.n ?_;obtain rfl:=O (F h);exact⟨qc,yW _ Y,wR []⟩;refine cT<|bC<|aV.n<|qq<|bj<|sr<|bE (V h) λeY iO h=>ix Y Y iO<|lr Y Y<|ag Y<|dn<|aW<|mv Y<|mv Y<|lE h λga lB h=>ln Y lB<|lE h λe9 jB h=>RT.max .none _ Y Y T (NK (p:=qc) (q:=ga) jB)<|ag Y<|RT.done<|bG.n<|aV.n<|aW<|lE h λjD n8 h=>ad _ Y Y n8<|mv Y<|RT.done ?_;obtain rfl:=O h;exact aV.n ⟨(e9,jD),Dk _ Y,wR []⟩;subst Dj
 try dsimp only
 refine aV.n<|sr<|mv Y<|ag Y<|dn<|bf ?_;obtain rfl:=O nx;exact R1 Y
theorem Mq{x0:List (List Qr)}{x1:Int}{x2:Int}{r:Qr}(h:tJ x0 x1 x2=some r):Pure ah 103 [slc 1 (List.map (eS 4 eQ) x0),.v (.int .i64 x1),.v (.int .i64 x2)] (.agg (eQ r)):=by
 refine bD Tryz.func103 Y (af Y) (λeI M vs hvs=>?_);unfold tJ at h;refine sr<|al (cs:=[.v (.bool false),slc 1 (List.map aY []),.v (.bool false),slc 1 (List.map aY [])]) (by exact⟨au,aB,au,aB,aq⟩) Y<|dn<|sr<|mv Y<|mv Y<|bE h λeY iO h=>cl (wM iO) ⟨Y,Y,aq⟩<|ag Y<|dn<|qq<|qq ?_;refine bH h (λj3=>AS.cL 25 [(2,.sv (.v (.int .i64 x2))),(6,.ptr 6 0),(7,.sv (slc 4 (List.map eQ eY))),(18,.sv (.v (.bool j3)))] [(6,⟨43,[.sv (.v (.bool false)),.sv (slc 1 (List.map aY [])),.sv (.v (.bool false)),.sv (slc 1 (List.map aY []))]⟩)] []) (λh=>?_) (λOS h=>?_);refine aW<|mv Y<|lE h λeX iz h=>ls _ Y Y iz<|mv Y<|bE h λUk rY h=>?_;cases eX;refine gm Y<|gm Y<|lE (F rY) λjD n8 rY=>gn Y n8<|lE rY λgW nL rY=>RT.geq (.some Y Y) _ Y Y T nL ?_;obtain rfl:=O rY;exact pF Y<|dn<|⟨gW,h,wR []⟩;obtain rfl:=O (V rY);exact ww<|ww<|ww<|ww<|pT Y<|dn<|⟨true,h,wR []⟩
 try dsimp only
 refine aV.n ?_;cases OS;refine fs<|sr<|mv Y<|mv Y ?_;obtain⟨⟨⟨xR,xS⟩,⟨xT,xU⟩⟩,qJ,h⟩:=bS (F h);refine ix Y Y qJ<|RT.kn (cs:=[_,_,_,_]) .none Y T Y Y ?_;obtain⟨⟨⟨vw,vz⟩,⟨vA,vB⟩⟩,qp,h⟩:=bS h;refine cl (pN qp) ⟨Y,aq⟩<|so Y Y Y<|dn<|bf ?_;obtain rfl:=O h;exact RZ (.agg Y Y (.cons Y (.cons Y (.cons Y (.cons Y (.nil))))) Y (.nil));refine cT<|sr<|bI (cs:=[_,_,_,_]) (cs':=[.v (.bool false),slc 1 (List.map aY []),.v (.bool false),slc 1 (List.map aY [])]) (.nil) ⟨au,aB,au,aB,aq⟩<|so Y Y Y<|dn<|bf<|aV.r ?_;obtain rfl:=O (V h);exact RZ (.agg Y Y (.cons Y (.cons Y (.cons Y (.cons Y (.nil))))) Y (.nil))
theorem jZ{x0:List (List Qr)}{x1:List (List Qr)}{r:Bool}(h:eW x0 x1=some r):Pure ah 46 [slc 1 (List.map (eS 4 eQ) x0),slc 1 (List.map (eS 4 eQ) x1)] (.v (.bool r)):=by
 refine bD Tryz.func46 Y (af Y) (λeI M vs hvs=>?_);unfold eW at h;refine sr<|al (cs:=[.v (.bool false)]) (by exact⟨au,aq⟩) Y<|dn<|qq<|sr<|mv Y<|mv Y<|cl (Az x0 x1) ⟨Y,Y,aq⟩<|dn<|bj<|bE h λe3 Rl OP=>?_;obtain⟨m3,st3,hs3,ht3,hn3⟩:=yO Rl;refine mW (AA x0 x1) (λ_ _ _ _ _=>trivial) rfl (λk=>AS.cL 16 [(4,.ptr 4 0),(9,.sv (jA 138 [ref [slc 1 (List.map (eS 4 eQ) x0)],ref [slc 1 (List.map (eS 4 eQ) x1)]]))] [(4,⟨4,[.sv (.v (.bool false))]⟩)] []) [4] rfl (λ_=>⟨rfl,rfl⟩) (sK rfl) (λ_=>rfl) (sL rfl) (by(try dsimp only);(try dsimp only);exact dD id rfl rfl rfl rfl rfl ⟨.ptr,.sv au,aq⟩ ⟨⟨_,rfl,⟨.sv au,aq⟩⟩,aq⟩ trivial (λ_ _=>rfl)) m3 (λk hk hkm D hD=>?_) (λhdn=>?_);obtain⟨y3,h,hG3,hE3⟩:=ht3 k hk hkm;dsimp only[AS.QO,sJ]
 try dsimp only at h
 refine lE h λp10 afW h=>?_;rw[afW];refine lE h λp11 WD h=>?_;rw[WD];refine sr<|ag Y<|dn<|aW<|ag Y<|RT.done ?_;refine aV.n ⟨Y,?_⟩;dsimp only[AS.Da];refine bj<|sr<|mv Y<|mv Y<|bE h λga lB h=>cl (fE lB) ⟨Y,Y,aq⟩<|lE h λe9 jB h=>nt Y _ jB<|dn ?_;cases e9;refine cF<|bC<|bG.n ?_;obtain rfl:=O (F h);obtain⟨hm3,hq3⟩:=hG3 _ Y;exact⟨hm3,Y,Y,wR []⟩;refine cT<|sr<|RT.pX (cells:=[_]) .none (s:=.sv _) Y Y Y T Y<|dn<|bf<|bG.r ?_;obtain rfl:=O (V h);have he3:=hE3 _ Y;subst he3;refine⟨Y,Y,?_⟩;refine bG.r<|aV.r ?_;obtain rfl:=O OP;exact RZ (.one Y Y Y (.nil));have hd3:=hn3 hdn;subst hd3;obtain⟨ee3,OQ⟩:∃q,st3 (max x0.length x1.length)=q:=⟨_,Y⟩;rw[OQ]at OP
 try dsimp only
 refine bG.n<|aV.n<|sr<|RT.pX (cells:=[_]) .none (s:=.sv _) Y Y Y T Y<|dn<|bf ?_;obtain rfl:=O OP;exact RZ (.one Y Y Y (.nil))
theorem r5{x0:List (List Int)}{r:List (List Qr)}(h:iC x0=some r):Pure ah 100 [slc 1 (List.map (eS 1 bT) x0)] (slc 1 (List.map (eS 4 eQ) r)):=by
 refine bD Tryz.func100 Y (af Y) (λeI M vs hvs=>?_);unfold iC at h;refine sr<|aI Y (aB (n:=1) (e:=(eS 4 eQ)))<|dn<|sr<|mv Y<|lE h λx7 h7 h=>ln Y h7<|bE h λx8 h8 h=>RT.oA (n:=1) (e:=(eS 4 eQ)) .none Y Y T Y T (by rfl) (by decide) (by exact⟨aB,aq⟩) h8<|an (s:=.row _) Y<|dn<|qq<|sr<|mv Y<|lE h λeY iO h=>ln Y iO<|mv Y<|dn<|bE h λe8 JA At=>?_;refine bU (λ(wK:(List (List Qr)))=>AS.cL 23 [(3,.row 8)] [] [(8,TR 23 1 (eS 4 eQ) wK)]) (λwK=>wK=e8) ?_ (λwK JB=>?_);refine bj ?_;refine bV JA (λs8=>AS.cL 23 [(3,.row 8),(9,.sv (slc 1 (List.map (eS 1 bT) x0))),(10,.sv (.v (.int .i64 eY))),(11,.sv (.v (.int .i64 s8.1)))] [] [(8,TR 23 1 (eS 4 eQ) s8.2)]) (wR []) (λs8 y8 G8 h JC JD=>?_);obtain⟨tF,B8⟩:=s8
 try dsimp only
 refine sr<|lE h λeX iz h=>ls _ Y Y iz<|dn<|qq ?_;cases eX;refine cF<|b9<|aV.x<|aV.x<|bG.x<|aV.n ?_;obtain rfl:=O (F h);exact⟨B8,JD _ Y,wR []⟩;refine cT<|bC<|aV.n<|qq<|bj<|sr<|mv Y<|bE (V h) λga lB h=>ix Y Y lB<|lr Y Y<|ag Y<|ag Y<|dn<|aW<|mo (s:=.row _) Y<|mv Y<|mv Y<|bE h λmm n7 h=>cl (ef n7) ⟨Y,aq⟩<|bE h λja o5 h=>iR Y Y Y o5<|bE h λAq s9 h=>sR mm Y Y Y Y s9<|RT.done<|bG.n<|aV.n<|aW<|lE h λiv o6 h=>ad _ Y Y o6 ?_;refine mv Y<|RT.done ?_;obtain rfl:=O h;exact aV.n ⟨(iv,Aq),JC _ Y,wR []⟩;subst JB
 try dsimp only
 refine aV.n<|sr<|mo (s:=.row _) Y<|an (s:=.row _) Y<|dn<|cI (oh (i:=8) (E1:=23) (n:=1) (e:=(eS 4 eQ)) (l:=wK) Y)<|bf ?_;obtain rfl:=O At;exact R1 Y
end
end Go.Proofs.YtningmnklfpfjaaGreat
namespace Go.Fw
section
open Go.RowKit
def kE:List (Nat×Row×Value)->(Nat->Value)->Nat->Value
 |[],ν,j=>ν j
 |(k,_,v)::l,ν,j=>if j=k then v else kE l ν j
theorem ny{ν:Nat->Value}:∀{l:List (Nat×Row×Value)} {j:Nat},(∀R v,(j,R,v)∉l)->kE l ν j=ν j
 |[],_,_=>rfl
 |(k,R,v)::l,j,h=>by
  have:j≠k:=λe=>h R v (by rw[e];simp);rw[kE,if_neg this];exact ny (λR v hm=>h R v (List.mem_cons_of_mem _ hm))
theorem iD{ν:Nat->Value}:∀{l:List (Nat×Row×Value)} {j:Nat} {R:Row} {v:Value},(l.map (·.1)).Nodup->(j,R,v)∈l->kE l ν j=v
 |(k,R',v')::l,j,R,v,hn,h=>by
  rw[List.map_cons,List.nodup_cons]at hn;rcases List.mem_cons.1 h with e|e
  ·cases e;rw[kE,if_pos rfl]
  have:j≠k:=λq=>hn.1 (List.mem_map.2 ⟨(j,R,v),e,q⟩);rw[kE,if_neg this];exact iD hn.2 e
def xW(olds:List Nat)(news:List (Nat×Row×Value)):List (Nat×lA):=olds.map (λj=>(j,.dead))++news.map (λn=>(n.1,.live n.2.1))
theorem rL:∀(l k:List (Nat×lA)) (j:Nat),dL (l++k) j=match dL k j with|some R=>some R|none=>dL l j
 |[],k,j=>by cases h:dL k j<;>simp[h,dL]
 |(i,R)::l,k,j=>by
  rw[List.cons_append,dL,dL,rL l k j];cases h:dL k j<;>simp
theorem wN{l:List (Nat×lA)}{j:Nat}(h:∀R,(j,R)∉l):dL l j=none:=by
 induction l with
 |nil=>rfl
 |cons p l ih=>
  obtain⟨i,R⟩:=p;rw[dL,ih (λR hm=>h R (List.mem_cons_of_mem _ hm))];have:j≠i:=λe=>h R (by rw[e];simp);simp[this]
theorem wO{l:List (Nat×lA)}{j:Nat}{R:lA}(h:dL l j=some R):(j,R)∈l:=by
 induction l with
 |nil=>cases h
 |cons p l ih=>
  obtain⟨i,R'⟩:=p;rw[dL]at h;cases e:dL l j with
  |some R2=>rw[e]at h;cases h;exact List.mem_cons_of_mem _ (ih e)
  |none=>
   rw[e]at h;by_cases q:j=i
   ·subst q;simp at h;subst h;simp
   simp[q]at h
theorem Cd{l:List (Nat×lA)}{j:Nat}{R:lA}(h:(j,R)∈l):∃R',dL l j=some R':=by
 induction l with
 |nil=>cases h
 |cons p l ih=>
  obtain⟨i,R'⟩:=p;rw[dL];rcases List.mem_cons.1 h with e|e
  ·cases e;cases q:dL l j with
   |some R2=>exact⟨R2,Y⟩
   |none=>exact⟨R,by simp⟩
  obtain⟨R2,h2⟩:=ih e;exact⟨R2,by rw[h2]⟩
section swap
variable {C:Ctx}{S:AS}
theorem bn.aav{E:Env}{a:Act}{w w':World}(h:bn C S E a w){i:Nat}{T:TypeId}{cells cells':List AV}{us':List Value}{M':Mem}(hB:S.b i=some ⟨T,cells⟩)(olds:List Nat)(news:List (Nat×Row×Value))
  (hold:∀j∈olds,∃R,S.r j=.live R) (hnew:∀k R v,(k,R,v)∈news->S.r k=.un/\k<1000) (hnd:(news.map (·.1)).Nodup)
  (hM:E.M.le M') (hmn:∀b o x,M' b o=some x->E.M b o=some x\/w.heap.size<=b\/∃j∈olds,(E.ν j).ownBlock=some b) (hin:M'.dh w')
  (afX:w'.heap[E.β i]? =some (.cells ⟨us'⟩ T (0,0))) (hnb:∀o,M' (E.β i) o=none) (vV:dx {E with M:=M',ν:=kE news E.ν} cells' us')
  (hcb:∀x∈cells',(∀j,¬x.mb j)/\∀j,x.mr j->∃R v,(j,R,v)∈news)
  (hrow:∀k R v,(k,R,v)∈news->(∃vs:List Value,w'.ownsRow 0 R.E R.sz v R.n vs/\SV.ec M' R.cells vs)/\∀g,v.ownBlock=some g->((∃j∈olds,(E.ν j).ownBlock=some g)\/w.heap.size<=g)/\(∀o,M' g o=none)/\g≠E.β i)
  (aaw:∀k R v k' R' v' g,(k,R,v)∈news->(k',R',v')∈news->v.ownBlock=some g->v'.ownBlock=some g->k=k')
  (hos:w'.os=w.os) (oJ:w'.tape=w.tape) (hout:w'.output=w.output) (hsize:w.heap.size<=w'.heap.size)
  (iX:∀k,k<w.heap.size->k≠E.β i->(∀j∈olds,(E.ν j).ownBlock≠some k)->w'.heap[k]? =w.heap[k]?):
  bn C (AS.cc (xW olds news) (AS.fN [(i,⟨T,cells'⟩)] S)) {E with M:=M',ν:=kE news E.ν} a w':=by
 obtain⟨Mr,afY,RO,QM,Ms,_⟩:=h.bx i _ hB;have aj8:E.β i<w.heap.size:=(Array.getElem?_eq_some_iff.1 Ms).1;obtain⟨n1,n2,n3,n4,n5⟩:=fu (xW olds news) (AS.fN [(i,⟨T,cells'⟩)] S);have tOf:(AS.cc (xW olds news) (AS.fN [(i,⟨T,cells'⟩)] S)).t=S.t:=n2;have Am:∀j,(AS.cc (xW olds news) (AS.fN [(i,⟨T,cells'⟩)] S)).b j=if j=i then some ⟨T,cells'⟩else S.b j:=λj=>by
  rw[n3];by_cases e:j=i
  ·subst e;rw[if_pos rfl];exact AS.cX _ _ _
  rw[if_neg e];exact AS.bX _ _ _ _ e
 have aax:∀k R v,(k,R,v)∈news->dL (news.map (λn=>(n.1,lA.live n.2.1))) k=some (.live R):=λk R v hm=>by
  obtain⟨R',mD⟩:=Cd (l:=news.map (λn=>(n.1,lA.live n.2.1))) (j:=k) (R:=.live R) (List.mem_map.2 ⟨(k,R,v),hm,Y⟩);obtain⟨⟨k2,R2,v2⟩,MX,e⟩:=List.mem_map.1 (wO mD);have e1:k2=k:=congrArg Prod.fst e;have e2:lA.live R2=R':=congrArg Prod.snd e;rw[e1]at MX;have:R2=R:=by
   have key:∀(l:List (Nat×Row×Value)),(l.map (·.1)).Nodup->(k,R2,v2)∈l->(k,R,v)∈l->R2=R:=by
    intro l
    induction l with
    |nil=>intro _ h;cases h
    |cons p l ih=>
     intro hn h1 h2;rw[List.map_cons,List.nodup_cons]at hn;rcases List.mem_cons.1 h1 with e1|e1<;>rcases List.mem_cons.1 h2 with e2|e2
     ·rw[<-e1]at e2;cases e2;rfl
     ·exact absurd (List.mem_map.2 ⟨_,e2,by rw[<-e1]⟩) hn.1
     ·exact absurd (List.mem_map.2 ⟨_,e1,by rw[<-e2]⟩) hn.1
     exact ih hn.2 e1 e2
   exact key news hnd MX hm
  rw[mD,<-e2,this]
 have aay:∀k R v,(k,R,v)∈news->(AS.cc (xW olds news) (AS.fN [(i,⟨T,cells'⟩)] S)).r k=.live R:=λk R v hm=>by
  rw[kJ,xW,rL,aax k R v hm];rfl
 have aaz:∀j,(∀R v,(j,R,v)∉news)->(AS.cc (xW olds news) (AS.fN [(i,⟨T,cells'⟩)] S)).r j=if j∈olds then .dead else S.r j:=λj hn=>by
  have e1:dL (news.map (λn=>(n.1,lA.live n.2.1))) j=none:=wN (λR hm=>by
   obtain⟨⟨k2,R2,v2⟩,MX,e⟩:=List.mem_map.1 hm;cases e;exact hn R2 v2 MX)
  rw[kJ,xW,rL,e1];by_cases ho:j∈olds
  ·rw[if_pos ho];obtain⟨R',mD⟩:=Cd (l:=olds.map (λj=>(j,lA.dead))) (j:=j) (R:=.dead) (List.mem_map.2 ⟨j,ho,Y⟩);obtain⟨j2,_,e⟩:=List.mem_map.1 (wO mD);cases e;rw[mD];rfl
  rw[if_neg ho,wN (λR hm=>by obtain⟨j2,MX,e⟩:=List.mem_map.1 hm;cases e;exact ho MX)];rfl
 have OT:∀j,S.r j≠ .un->∀R v,(j,R,v)∉news:=λj hj R v hm=>hj (hnew j R v hm).1;have rne:∀j,S.r j≠ .un->(AS.cc (xW olds news) (AS.fN [(i,⟨T,cells'⟩)] S)).r j≠ .un:=λj hj=>by
  rw[aaz j (OT j hj)];split
  ·simp
  exact hj
 have zk:∀j∈olds,∀g,(E.ν j).ownBlock=some g->(C.w0.heap.size<=g\/C.uy g)/\(∀o,E.M g o=none)/\¬E.O g/\(∀n B,S.b n=some B->E.β n≠g)/\g<w.heap.size/\∃c e,w.heap[g]? =some (Obj.cells c e (0,0)):=λj hj g hg=>by
  obtain⟨R,hR⟩:=hold j hj;obtain⟨⟨us,q1,_⟩,q2⟩:=h.rx j R hR;obtain⟨q3,q4,q5,q6⟩:=q2 g hg;refine⟨q3,q4,q5,q6,jH h hR hg,?_⟩;rcases q1.2 with⟨q7,_⟩|⟨g',cap,cur,q7,_,q8,_⟩
  ·rw[q7]at hg;cases hg
  rw[q7]at hg;cases hg;exact⟨_,_,q8⟩
 have keep:∀x:AV,(∀j,x.mr j->S.r j≠ .un)->∀v,x.holds E v->x.holds {E with M:=M',ν:=kE news E.ν} v:=λx hx v hv=>
  AV.cO (E:=E) (E':={E with M:=M',ν:=kE news E.ν}) hM (λ_ _=>rfl) (λj hj=>ny (OT j (hx j hj))) hv
 have WE:∀b,b<w.heap.size->(∀o,E.M b o=none)->(∀j∈olds,(E.ν j).ownBlock≠some b)->∀o,M' b o=none:=λb h1 h2 h3 o=>by
  cases e:M' b o with
  |none=>rfl
  |some v=>
   rcases hmn b o v e with q|q|⟨j,q1,q2⟩
   ·rw[h2 o]at q;cases q
   ·omega
   exact absurd q2 (h3 j q1)
 have live:∀j R,(AS.cc (xW olds news) (AS.fN [(i,⟨T,cells'⟩)] S)).r j=.live R->(∃v,(j,R,v)∈news)\/((∀R v,(j,R,v)∉news)/\j∉olds/\S.r j=.live R):=λj R hj=>by
  by_cases hn:∃R v,(j,R,v)∈news
  ·obtain⟨R',v,hm⟩:=hn;rw[aay j R' v hm]at hj;cases hj;exact .inl ⟨v,hm⟩
  have hn:∀R v,(j,R,v)∉news:=λR v hm=>hn ⟨R,v,hm⟩;rw[aaz j hn]at hj;by_cases ho:j∈olds
  ·rw[if_pos ho]at hj;cases hj
  rw[if_neg ho]at hj;exact .inr ⟨hn,ho,hj⟩
 have oth:∀j R,S.r j=.live R->j∉olds->∀g,(E.ν j).ownBlock=some g->∀j'∈olds,(E.ν j').ownBlock≠some g:=λj R hR ho g hg j' hj' e=>by
  obtain⟨R',mD⟩:=hold j' hj';have:=h.fe j j' R R' hR mD g hg e;subst this;exact ho hj'
 exact{
  wf:=by
   refine⟨λs j hj=>?_,λs j hj=>?_,λj B fH x hx m hm=>?_,λj B fH x hx m hm=>?_⟩
   ·rw[tOf]at hj;obtain⟨B,fH⟩:=h.wf.tb s j hj;rw[Am];by_cases e:j=i
    ·exact⟨_,if_pos e⟩
    exact⟨B,by rw[if_neg e];exact fH⟩
   ·rw[tOf]at hj;exact rne j (h.wf.tr s j hj)
   ·rw[Am]at fH⊢;by_cases e:j=i
    ·rw[if_pos e]at fH;cases fH;exact absurd hm ((hcb x hx).1 m)
    rw[if_neg e]at fH;obtain⟨B2,hB2⟩:=h.wf.bb j B fH x hx m hm;by_cases e2:m=i
    ·exact⟨_,if_pos e2⟩
    exact⟨B2,by rw[if_neg e2];exact hB2⟩
   rw[Am]at fH;by_cases e:j=i
   ·rw[if_pos e]at fH;cases fH;obtain⟨R,v,MX⟩:=(hcb x hx).2 m hm;rw[aay m R v MX];simp
   rw[if_neg e]at fH;exact rne m (h.wf.br j B fH x hx m hm)
  marks:=by
   obtain⟨ds,d1,d2,d3⟩:=h.marks;refine⟨ds,d1,d2,λr hr=>?_⟩;obtain⟨p1,p2,p3⟩:=d3 r hr;refine⟨p1,p2,?_⟩;rw[iX r (Array.getElem?_eq_some_iff.1 p3).1 (λe=>by rw[e,Ms]at p3;cases p3) (λj hj e=>by
    obtain⟨_,_,_,_,_,c,e2,q⟩:=zk j hj r e;rw[q]at p3;cases p3)]
   exact p3
  size:=by rw[n1];exact h.size
  os:=hos.trans h.os
  tape:=oJ.trans h.tape
  output:=hout.trans h.output
  grown:=Nat.le_trans h.grown hsize
  frame:=λk hk hown=>by
   rw[iX k (Nat.lt_of_lt_of_le hk h.grown) (λe=>by
    rcases Mr with q|q
    ·omega
    ·exact hown (C.C0 _ (by rw[e];exact q))) (λj hj e=>by
    rcases(zk j hj k e).1 with q|q
    ·omega
    exact hown (C.C0 _ q))]
   exact h.frame k hk hown
  m0:=Mem.le_trans h.m0 hM
  eG:=λb o v e=>by
   rcases hmn b o v e with q|q|⟨j,q1,q2⟩
   ·exact h.eG b o v q
   ·exact .inr (.inl (Nat.le_trans h.grown q))
   rcases(zk j q1 b q2).1 with q|q
   ·exact .inr (.inl q)
   exact .inr (.inr (C.C0 _ q))
  dh:=hin
  tm:=λs=>by rw[tOf];exact keep _ (h.wf.tr s) _ (h.tm s)
  bx:=λj B fH=>by
   rw[Am]at fH;by_cases e:j=i
   ·rw[if_pos e]at fH;cases fH;subst e;exact⟨Mr,hnb,RO,us',afX,vV⟩
   rw[if_neg e]at fH;obtain⟨p1,p2,p3,vs,p4,p5⟩:=h.bx j B fH;have hlt:=(Array.getElem?_eq_some_iff.1 p4).1;have hno:∀j'∈olds,(E.ν j').ownBlock≠some (E.β j):=λj' hj' q=>(zk j' hj' _ q).2.2.2.1 j B fH Y;refine⟨p1,WE _ hlt p2 hno,p3,vs,?_,p5.imp (λx hx v hv=>keep x (h.wf.br j B fH x hx) v hv)⟩;show w'.heap[E.β j]? =_;rw[iX _ hlt (λq=>e (h.inj j i B _ fH hB q)) hno];exact p4
  inj:=λj j' B B' h1 h2 e=>by
   have key:∀n B,(AS.cc (xW olds news) (AS.fN [(i,⟨T,cells'⟩)] S)).b n=some B->∃B',S.b n=some B':=λn B hn=>by
    rw[Am]at hn;by_cases e:n=i
    ·subst e;exact⟨_,hB⟩
    rw[if_neg e]at hn;exact⟨B,hn⟩
   obtain⟨B1,p1⟩:=key j B h1;obtain⟨B2,p2⟩:=key j' B' h2;exact h.inj j j' B1 B2 p1 p2 e
  rx:=λj R hj=>by
   have boxes:∀g,(∀n B,S.b n=some B->E.β n≠g)->∀n B,(AS.cc (xW olds news) (AS.fN [(i,⟨T,cells'⟩)] S)).b n=some B->E.β n≠g:=λg hg n B hn=>by
    rw[Am]at hn;by_cases e:n=i
    ·subst e;exact hg _ _ hB
    rw[if_neg e]at hn;exact hg n B hn
   rcases live j R hj with⟨v,hm⟩|⟨hn,ho,hR⟩
   ·rw[show({E with M:=M',ν:=kE news E.ν}:Env).ν j=v from iD hnd hm];obtain⟨p1,p2⟩:=hrow j R v hm;refine⟨p1,λg hg=>?_⟩;obtain⟨p3,p4,p5⟩:=p2 g hg;rcases p3 with⟨j',q1,q2⟩|p3
    ·obtain⟨o1,o2,o3,o4,_⟩:=zk j' q1 g q2;exact⟨o1,p4,o3,boxes g o4⟩
    refine⟨.inl (Nat.le_trans h.grown p3),p4,λq=>?_,boxes g (λn B hn q=>?_)⟩
    ·have:=(h.kI g q).1;omega
    obtain⟨_,_,_,vs,q4,_⟩:=h.bx n B hn;have:=(Array.getElem?_eq_some_iff.1 q4).1;omega
   rw[show({E with M:=M',ν:=kE news E.ν}:Env).ν j=E.ν j from ny hn];obtain⟨⟨us,p1,p2⟩,p3⟩:=h.rx j R hR;refine⟨⟨us,dB p1 λg hg=>iX g (jH h hR hg) (λe=>(p3 g hg).2.2.2 i _ hB e.symm) (oth j R hR ho g hg),p2.mono hM⟩,λg hg=>?_⟩;obtain⟨p4,p5,p6,p7⟩:=p3 g hg;exact⟨p4,WE g (jH h hR hg) p5 (oth j R hR ho g hg),p6,boxes g p7⟩
  fe:=λj j' R R' h1 h2 g e1 e2=>by
   have mixed:∀j R v j' R' g,(j,R,v)∈news->S.r j'=.live R'->j'∉olds->v.ownBlock=some g->(E.ν j').ownBlock=some g->False:=λj R v j' R' g hm mD ho e1 e2=>by
    rcases((hrow j R v hm).2 g e1).1 with⟨j2,q1,q2⟩|q
    ·exact oth j' R' mD ho g e2 j2 q1 q2
    have:=jH h mD e2;omega
   rcases live j R h1 with⟨v,hm⟩|⟨hn,ho,hR⟩<;>rcases live j' R' h2 with⟨v',hm'⟩|⟨hn',ho',mD⟩
   ·rw[show({E with M:=M',ν:=kE news E.ν}:Env).ν j=v from iD hnd hm]at e1;rw[show({E with M:=M',ν:=kE news E.ν}:Env).ν j'=v' from iD hnd hm']at e2;exact aaw j R v j' R' v' g hm hm' e1 e2
   ·rw[show({E with M:=M',ν:=kE news E.ν}:Env).ν j=v from iD hnd hm]at e1;rw[show({E with M:=M',ν:=kE news E.ν}:Env).ν j'=E.ν j' from ny hn']at e2;exact(mixed j R v j' R' g hm mD ho' e1 e2).elim
   ·rw[show({E with M:=M',ν:=kE news E.ν}:Env).ν j=E.ν j from ny hn]at e1;rw[show({E with M:=M',ν:=kE news E.ν}:Env).ν j'=v' from iD hnd hm']at e2;exact(mixed j' R' v' j R g hm' hR ho e2 e1).elim
   rw[show({E with M:=M',ν:=kE news E.ν}:Env).ν j=E.ν j from ny hn]at e1;rw[show({E with M:=M',ν:=kE news E.ν}:Env).ν j'=E.ν j' from ny hn']at e2;exact h.fe j j' R R' hR mD g e1 e2
  gK:=h.gK
  ek:=λk v e=>by
   rw[show({E with M:=M',ν:=kE news E.ν}:Env).ν k=E.ν k from ny (λR v hm=>by have:=(hnew k R v hm).2;have:=C.LR k _ e;omega)];exact h.ek k v e
  kI:=λb hb=>by
   obtain⟨p1,p2,p3⟩:=h.kI b hb;exact⟨Nat.lt_of_lt_of_le p1 hsize,WE b p1 p2 (λj hj e=>(zk j hj b e).2.2.1 hb),p3⟩
  jj:=by
   have hj:=C.jf S.g S.go E.O E.M M' w w' h.jj hM hin (λb o v e=>by
    rcases hmn b o v e with q|q|⟨j,q1,q2⟩
    ·exact .inl q
    ·exact .inr ⟨.inl (Nat.le_trans h.grown q),λq2=>by have:=(h.kI b q2).1;omega⟩
    ·obtain⟨o1,_,o3,_⟩:=zk j q1 b q2;exact .inr ⟨o1,o3⟩) (λb hb=>by
    have hlt:b<w.heap.size\/w.heap.size<=b:=Nat.lt_or_ge _ _;have hb':b<w.heap.size:=by
     rcases hb with⟨q,_⟩|q
     ·exact Nat.lt_of_lt_of_le q h.grown
     exact(h.kI b q).1
    refine iX b hb' (λe=>?_) (λj hj e=>?_)
    ·subst e;rcases hb with⟨q1,q2⟩|q
     ·rcases Mr with p|p
      ·omega
      exact q2 p
     exact RO q
    obtain⟨o1,_,o3,_⟩:=zk j hj b e;rcases hb with⟨q1,q2⟩|q
    ·rcases o1 with p|p
     ·omega
     exact q2 p
    exact o3 q) hos oJ hout hsize
   rw[n4,n5];exact hj}
end swap
end
section
open Go.RowKit
inductive Oc where
 |s (x:SV)
 |r (R:Row)
def pO(M:Mem)(w:World):List Oc->List Value->Prop
 |[],[]=>True
 |.s x::l,v::vs=>x.h M v/\pO M w l vs
 |.r R::l,v::vs=>(∃us:List Value,w.ownsRow 0 R.E R.sz v R.n us/\SV.ec M R.cells us)/\pO M w l vs
 |_,_=>False
def rowsOf:List Oc->List Row
 |[]=>[]
 |.s _::l=>rowsOf l
 |.r R::l=>R::rowsOf l
def bW:List Oc->List Value->List (Row×Value)
 |.s _::l,_::vs=>bW l vs
 |.r R::l,v::vs=>(R,v)::bW l vs
 |_,_=>[]
def eE(c:List Oc)(us:List Value)(g:Nat):Prop:=∃p∈bW c us,p.2.ownBlock=some g
def ct:List Nat->List Oc->List AV
 |ids,.s x::l=>.sv x::ct ids l
 |i::ids,.r _::l=>.row i::ct ids l
 |[],.r _::l=>.sv .any::ct [] l
 |_,[]=>[]
def KT(l:List (Row×Value)):Prop:=l.Pairwise λp q=>∀g,p.2.ownBlock=some g->q.2.ownBlock≠some g
structure pP (M:Mem) (w:World) (β:Nat) (T:TypeId) (c:List Oc) (us:List Value):Prop where
 hp:w.heap[β]? =some (.cells ⟨us⟩ T (0,0))
 al:pO M w c us
 nb:∀o,M β o=none
 nr:∀g,eE c us g->g≠β/\∀o,M g o=none
 ap:KT (bW c us)
theorem gx{M:Mem}{w:World}:∀{c:List Oc} {us:List Value},pO M w c us->(bW c us).map (·.1)=rowsOf c
 |[],[],_=>rfl
 |.s _::l,_::vs,h=>gx (c:=l) (us:=vs) h.2
 |.r R::l,v::vs,h=>congrArg (R:: ·) (gx (c:=l) (us:=vs) h.2)
 |[],_::_,h=>h.elim
 |.s _::_,[],h=>h.elim
 |.r _::_,[],h=>h.elim
theorem kY{M:Mem}{w:World}:∀{c:List Oc} {us:List Value},pO M w c us->∀p∈bW c us,∃vs:List Value,w.ownsRow 0 p.1.E p.1.sz p.2 p.1.n vs/\SV.ec M p.1.cells vs
 |[],[],_,p,hp=>by cases hp
 |.s _::l,_::vs,h,p,hp=>kY (c:=l) (us:=vs) h.2 p hp
 |.r R::l,v::vs,h,p,hp=>by
  rcases List.mem_cons.1 hp with rfl|hp
  ·exact h.1
  exact kY (c:=l) (us:=vs) h.2 p hp
 |[],_::_,h,_,_=>h.elim
 |.s _::_,[],h,_,_=>h.elim
 |.r _::_,[],h,_,_=>h.elim
theorem jy{α β:Type}:∀{l:List α} {k:List β} {a:α} {b:β},(a,b)∈l.zip k->a∈l/\b∈k
 |_::_,_::_,_,_,h=>by
  rw[List.zip_cons_cons]at h;rcases List.mem_cons.1 h with e|e
  ·cases e;simp
  have:=jy e;exact⟨List.mem_cons_of_mem _ this.1,List.mem_cons_of_mem _ this.2⟩
 |[],_,_,_,h=>by simp at h
 |_::_,[],_,_,h=>by simp at h
theorem xX{α β:Type}:∀{l:List α} {k:List β},l.length=k.length->(l.zip k).map (·.1)=l
 |[],[],_=>rfl
 |_::l,_::k,h=>by rw[List.zip_cons_cons,List.map_cons,xX (by simpa using h)]
 |[],_::_,h=>by simp at h
 |_::_,[],h=>by simp at h
theorem zm:∀{ids:List Nat} {l:List (Row×Value)},ids.Nodup->KT l->∀k R v k' R' v' g,(k,R,v)∈ids.zip l->(k',R',v')∈ids.zip l->v.ownBlock=some g->v'.ownBlock=some g->k=k'
 |i::ids,p::l,hn,ha,k,R,v,k',R',v',g,h1,h2,e1,e2=>by
  rw[List.zip_cons_cons]at h1 h2;rw[List.nodup_cons]at hn;obtain⟨ha1,ha2⟩:=List.pairwise_cons.1 ha;rcases List.mem_cons.1 h1 with q1|q1<;>rcases List.mem_cons.1 h2 with q2|q2
  ·cases q1;cases q2;rfl
  ·cases q1;exact absurd e2 (ha1 (R',v') (jy q2).2 g e1)
  ·cases q2;exact absurd e1 (ha1 (R,v) (jy q1).2 g e2)
  exact zm hn.2 ha2 k R v k' R' v' g q1 q2 e1 e2
 |[],_,_,_,_,_,_,_,_,_,_,h1,_,_,_=>by simp at h1
 |_::_,[],_,_,_,_,_,_,_,_,_,h1,_,_,_=>by simp at h1
theorem oK{E:Env}{w:World}:∀{ids:List Nat} {c:List Oc} {us:List Value},ids.length=(rowsOf c).length->pO E.M w c us->(∀i p,(i,p)∈ids.zip (bW c us)->E.ν i=p.2)->dx E (ct ids c) us
 |ids,[],[],_,_,_=>by cases ids<;>exact trivial
 |ids,.s x::l,v::vs,hl,h,hv=>by
  have ih:=oK (E:=E) (w:=w) (ids:=ids) (c:=l) (us:=vs) hl h.2 hv;cases ids<;>exact⟨h.1,ih⟩
 |i::ids,.r R::l,v::vs,hl,h,hv=>by
  refine⟨(hv i (R,v) (by rw[bW,List.zip_cons_cons];simp)).symm,oK (w:=w) (ids:=ids) (c:=l) (us:=vs) (by simpa[rowsOf]using hl) h.2 (λj p hm=>hv j p ?_)⟩;rw[bW,List.zip_cons_cons];exact List.mem_cons_of_mem _ hm
 |[],.r R::l,_::_,hl,_,_=>by simp[rowsOf]at hl
 |_,[],_::_,_,h,_=>h.elim
 |_,.s _::_,[],_,h,_=>h.elim
 |_,.r _::_,[],_,h,_=>h.elim
theorem oL:∀{ids:List Nat} {c:List Oc} (x:AV),x∈ct ids c->(∀j,¬x.mb j)/\∀j,x.mr j->j∈ids
 |ids,[],x,h=>by cases ids<;>simp[ct]at h
 |ids,.s y::l,x,h=>by
  have h':x∈AV.sv y::ct ids l:=by cases ids<;>exact h
  rcases List.mem_cons.1 h' with rfl|h'
  ·exact⟨λj e=>e,λj e=>e.elim⟩
  exact oL x h'
 |i::ids,.r _::l,x,h=>by
  rcases List.mem_cons.1 (show x∈AV.row i::ct ids l from h)with rfl|h'
  ·exact⟨λj e=>e,λj e=>by cases e;simp⟩
  obtain⟨h1,h2⟩:=oL x h';exact⟨h1,λj e=>List.mem_cons_of_mem _ (h2 j e)⟩
 |[],.r _::l,x,h=>by
  rcases List.mem_cons.1 (show x∈AV.sv .any::ct [] l from h)with rfl|h'
  ·exact⟨λj e=>e,λj e=>e.elim⟩
  exact oL x h'
def Lv(S:AS):List Nat->List Row->Prop
 |[],[]=>True
 |j::js,R::Rs=>S.r j=.live R/\Lv S js Rs
 |_,_=>False
theorem Lv.len{S:AS}:∀{js:List Nat} {Rs:List Row},Lv S js Rs->js.length=Rs.length
 |[],[],_=>rfl
 |_::_,_::_,h=>congrArg (· +1) (Lv.len h.2)
 |[],_::_,h=>h.elim
 |_::_,[],h=>h.elim
theorem Lv.mem{S:AS}:∀{js:List Nat} {Rs:List Row},Lv S js Rs->∀j∈js,∃R,S.r j=.live R
 |j::js,R::Rs,h,k,hk=>by
  rcases List.mem_cons.1 hk with rfl|hk
  ·exact⟨R,h.1⟩
  exact Lv.mem h.2 k hk
 |[],_,_,k,hk=>by cases hk
 |_::_,[],h,_,_=>h.elim
theorem qM{C:Ctx}{S:AS}{E:Env}{a:Act}{w:World}(h:bn C S E a w):∀{js:List Nat} {c:List Oc} {us:List Value},Lv S js (rowsOf c)->dx E (ct js c) us->pO E.M w c us/\bW c us=(rowsOf c).zip (js.map E.ν)
 |[],[],[],_,_=>⟨aq,Y⟩
 |js,.s x::l,v::vs,hL,hv=>by
  have uR:dx E (AV.sv x::ct js l) (v::vs):=by cases js<;>exact hv
  obtain⟨h1,h2⟩:=qM h (js:=js) (c:=l) (us:=vs) hL uR.2;exact⟨⟨uR.1,h1⟩,h2⟩
 |j::js,.r R::l,v::vs,hL,hv=>by
  have hL:S.r j=.live R/\Lv S js (rowsOf l):=hL;have uR:dx E (AV.row j::ct js l) (v::vs):=hv;obtain⟨h1,h2⟩:=qM h (js:=js) (c:=l) (us:=vs) hL.2 uR.2;have e:v=E.ν j:=uR.1;obtain⟨q1,_⟩:=h.rx j R hL.1;rw[<-e]at q1;refine⟨⟨q1,h1⟩,?_⟩;rw[bW,h2,e];rfl
 |[],.r _::_,_,hL,_=>hL.elim
 |_::_,[],_,hL,_=>hL.elim
 |[],[],_::_,_,hv=>by simp[ct]at hv;exact hv.elim
 |js,.s x::l,[],_,hv=>by
  have uR:dx E (AV.sv x::ct js l) []:=by cases js<;>exact hv
  exact uR.elim
 |_::_,.r _::_,[],_,hv=>hv.elim
theorem tK{α β:Type}:∀{l:List α} {k:List β} {b:β},l.length=k.length->b∈k->∃a,(a,b)∈l.zip k
 |a::l,c::k,b,h,hb=>by
  rcases List.mem_cons.1 hb with rfl|hb
  ·exact⟨a,by rw[List.zip_cons_cons];simp⟩
  obtain⟨a',h'⟩:=tK (l:=l) (k:=k) (by simpa using h) hb;exact⟨a',by rw[List.zip_cons_cons];exact List.mem_cons_of_mem _ h'⟩
 |[],[],_,_,hb=>by cases hb
 |[],_::_,_,h,_=>by simp at h
theorem nA{C:Ctx}{S:AS}{E:Env}{a:Act}{w:World}(h:bn C S E a w){i:Nat}{T:TypeId}{js:List Nat}{c:List Oc}(hB:S.b i=some ⟨T,ct js c⟩)(hL:Lv S js (rowsOf c))(hn:js.Nodup):
  ∃us,pP E.M w (E.β i) T c us/\(∀g,eE c us g↔∃j∈js,(E.ν j).ownBlock=some g):=by
 obtain⟨_,q1,_,us,q2,q3⟩:=h.bx i _ hB;obtain⟨p1,p2⟩:=qM h hL q3;have hlen:=hL.len;have Ex:∀g,eE c us g↔∃j∈js,(E.ν j).ownBlock=some g:=λg=>by
  unfold eE;rw[p2];constructor
  ·rintro⟨⟨R,v⟩,hm,hg⟩;obtain⟨j,hj,rfl⟩:=List.mem_map.1 (jy hm).2;exact⟨j,hj,hg⟩
  rintro⟨j,hj,hg⟩;obtain⟨R,hR⟩:=tK (l:=rowsOf c) (k:=js.map E.ν) (by simp[hlen]) (List.mem_map.2 ⟨j,hj,Y⟩);exact⟨(R,E.ν j),hR,hg⟩
 refine⟨us,⟨q2,p1,q1,λg hg=>?_,?_⟩,Ex⟩
 ·obtain⟨j,hj,vW⟩:=(Ex g).1 hg;obtain⟨R,hR⟩:=hL.mem j hj;obtain⟨_,q4⟩:=h.rx j R hR;obtain⟨_,q5,_,q6⟩:=q4 g vW;exact⟨λe=>q6 i _ hB e.symm,q5⟩
 rw[p2];have key:∀(js:List Nat) (Rs:List Row),Lv S js Rs->js.Nodup->KT (Rs.zip (js.map E.ν)):=by
  intro js
  induction js with
  |nil=>intro Rs hL _;cases Rs with|nil=>exact List.Pairwise.nil|cons _ _=>exact hL.elim
  |cons j js ih=>
   intro Rs hL hn;cases Rs with
   |nil=>exact hL.elim
   |cons R Rs=>
    rw[List.nodup_cons]at hn;rw[List.map_cons,List.zip_cons_cons];refine List.pairwise_cons.2 ⟨λp hp g e1 e2=>?_,ih Rs hL.2 hn.2⟩;obtain⟨R',v'⟩:=p;obtain⟨j',hj',rfl⟩:=List.mem_map.1 (jy hp).2;obtain⟨R2,hR2⟩:=hL.2.mem j' hj';have:=h.fe j j' R R2 hL.1 hR2 g e1 e2;subst this;exact hn.1 hj'
 exact key js _ hL hn
def oM(M:Mem)(β:Nat):Env:=⟨λ_=>β,λ_=>.nilIface,λ_=>False,M⟩
def Fc.oy:Fc->Bool
 |.val _=>true
 |.box i=>Nat.beq i 1000
 |.row _=>false
def AV.oy:AV->Bool
 |.sv _=>true
 |.ptr i _=>Nat.beq i 1000
 |.cmp _ js=>js.all Fc.oy
 |_=>false
def Fc.RQ(i:Nat):Fc->Fc
 |.box _=>.box i
 |c=>c
def AV.RQ(i:Nat):AV->AV
 |.ptr _ o=>.ptr i o
 |.cmp t js=>.cmp t (js.map (Fc.RQ i))
 |x=>x
theorem Mt{E:Env}{i:Nat}{x:AV}{v:Value}(hx:x.oy=true)(h:(x.RQ i).holds E v):x.holds (oM E.M (E.β i)) v:=by
 cases x with
 |sv s=>exact h
 |ptr k o=>exact h
 |cmp t js=>
  obtain⟨vs,rfl,h⟩:=h;refine⟨vs,Y,?_⟩;have key:∀(l:List Fc) (vs:List Value),(l.all Fc.oy)=true->Bm E (l.map (Fc.RQ i)) vs->Bm (oM E.M (E.β i)) l vs:=by
   intro l
   induction l with
   |nil=>intro vs _ h;cases vs with|nil=>trivial|cons _ _=>exact h.elim
   |cons c l ih=>
    intro vs ho h;rw[List.all_cons,Bool.and_eq_true]at ho;cases vs with
    |nil=>exact h.elim
    |cons u vs=>
     refine⟨?_,ih vs ho.2 h.2⟩;cases c with
     |val s=>exact h.1
     |box k=>exact h.1
     |row k=>exact(Bool.false_ne_true ho.1).elim
  exact key js vs hx h
 |_=>exact(Bool.false_ne_true hx).elim
theorem xY{E:Env}{i:Nat}:∀{l:List AV} {vs:List Value},(l.all AV.oy)=true->dx E (l.map (AV.RQ i)) vs->dx (oM E.M (E.β i)) l vs
 |[],[],_,_=>trivial
 |x::l,v::vs,h,hv=>by
  rw[List.all_cons,Bool.and_eq_true]at h;exact⟨Mt h.1 hv.1,xY h.2 hv.2⟩
 |[],_::_,_,h=>h.elim
 |_::_,[],_,h=>h.elim
def RR(P:Program)(f:FuncId)(args:List AV)(T:TypeId)(c0:List Oc)(res:SV)(c1:List Oc):Prop:=
 ∀(M:Mem) (w:World) (β:Nat) (vs us:List Value),M.dh w->pP M w β T c0 us->dx (oM M β) args vs->
  Calls P f ⟨vs⟩ w λe w'=>∃v M' us',e=.returned v/\M.le M'/\(∀b o x,M' b o=some x->M b o=some x\/w.heap.size<=b\/eE c0 us b)/\M'.dh w'/\res.h M' v/\
   pP M' w' β T c1 us'/\(∀g,eE c1 us' g->eE c0 us g\/w.heap.size<=g)/\w'.os=w.os/\w'.tape=w.tape/\w'.output=w.output/\w.heap.size<=w'.heap.size/\
   ∀k,k<w.heap.size->k≠β->¬eE c0 us k->w'.heap[k]? =w.heap[k]?
def WG(w:World)(M:Mem)(β:Nat)(c:List Oc)(us:List Value):Ctx:={w0:=w,M0:=M,own:=λk=>k=β\/eE c us k,uy:=λk=>k=β\/eE c us k,gK:=λi=>bif Nat.beq i 1000 then some β else none,ek:=λ_=>none,ro:=none,J:=λ_ _ _ _ _=>True,C0:=λ_ h=>h,LR:=λ_ _ h=>(by cases h),jf:=λ_ _ _ _ _ _ _ _ _ _ _ _ _ _ _ _=>trivial}
theorem xZ{M:Mem}{w:World}:∀{ids:List Nat} {c:List Oc} {us:List Value},pO M w c us->∀{i:Nat} {R:Row},(i,R)∈ids.zip (rowsOf c)->∃v,(i,R,v)∈ids.zip (bW c us)
 |ids,.s x::l,v::vs,h,i,R,hm=>by
  have hm':(i,R)∈ids.zip (rowsOf l):=hm;exact xZ (c:=l) (us:=vs) h.2 hm'
 |k::ids,.r R'::l,v::vs,h,i,R,hm=>by
  have hm':(i,R)∈(k,R')::ids.zip (rowsOf l):=hm;rw[bW,List.zip_cons_cons];rcases List.mem_cons.1 hm' with e|e
  ·cases e;exact⟨v,by simp⟩
  obtain⟨v',h'⟩:=xZ (ids:=ids) (c:=l) (us:=vs) h.2 e;exact⟨v',List.mem_cons_of_mem _ h'⟩
 |[],.r _::_,_::_,_,_,_,hm=>by simp at hm
 |_,[],[],_,_,_,hm=>by simp[rowsOf]at hm
 |_,[],_::_,h,_,_,_=>h.elim
 |_,.s _::_,[],h,_,_,_=>h.elim
 |_,.r _::_,[],h,_,_,_=>h.elim
theorem Fi{n:Nat}{args:List AV}{T:TypeId}{c:List Oc}{M:Mem}{w:World}{β:Nat}{vs us:List Value}(ids:List Nat)(hM:M.dh w)(ho:pP M w β T c us)(hv:dx (oM M β) args vs)(DY:args.all AV.oy=true)(hn:args.length<=n)(yF:ids.Nodup)(M6:ids.length=(rowsOf c).length):
  bn (WG w M β c us) (AS.An n args [(1000,⟨T,ct ids c⟩)] (ids.zip (rowsOf c))) ⟨λ_=>β,kE (ids.zip (bW c us)) (λ_=>.nilIface),λ_=>False,M⟩ {tmps:=⟨vs⟩++Array.replicate (n-(⟨vs⟩:Array Value).size) undef,defers:=[]} w:=by
 have hl:=hv.length;have WH:(bW c us).length=(rowsOf c).length:=by rw[<-gx ho.al,List.length_map]
 have hnd:((ids.zip (bW c us)).map (·.1)).Nodup:=by rw[xX (by omega)];exact yF
 have Ul:∀s,(rC args s).oy=true:=λs=>by
  rcases xu (l:=args) (k:=s)with e|e
  ·rw[e];rfl
  exact List.all_eq_true.1 DY _ e
 have oyB:∀x:AV,x.oy=true->(∀j,x.mb j->j=1000)/\∀j,¬x.mr j:=λx hx=>by
  cases x with
  |sv s=>exact⟨λj e=>e.elim,λj e=>e⟩
  |ptr k o=>exact⟨λj e=>by cases e;exact Nat.eq_of_beq_eq_true hx,λj e=>e⟩
  |cmp t js=>
   refine⟨λj e=>?_,λj e=>?_⟩
   ·exact Nat.eq_of_beq_eq_true (List.all_eq_true.1 hx _ e)
   exact Bool.false_ne_true (List.all_eq_true.1 hx _ e)
  |_=>exact(Bool.false_ne_true hx).elim
 have hall:dx ⟨λ_=>β,kE (ids.zip (bW c us)) (λ_=>.nilIface),λ_=>False,M⟩ args vs:=by
  refine hv.imp (λx hx v hh=>?_);exact AV.cO (E:=oM M β) (E':=⟨λ_=>β,kE (ids.zip (bW c us)) (λ_=>.nilIface),λ_=>False,M⟩) (Mem.le_refl _) (λ_ _=>rfl) (λj hj=>absurd hj ((oyB x (List.all_eq_true.1 DY x hx)).2 j)) hh
 have live:∀j R,(AS.An n args [(1000,⟨T,ct ids c⟩)] (ids.zip (rowsOf c))).r j=.live R->(j,R)∈ids.zip (rowsOf c):=λj R hj=>by
  have hj:(match CU (ids.zip (rowsOf c)) j with|some R=>lA.live R|none=>.un)=.live R:=hj;cases e:CU (ids.zip (rowsOf c)) j with
  |none=>rw[e]at hj;cases hj
  |some R'=>rw[e]at hj;cases hj;exact AM e
 have isLive:∀j∈ids,(AS.An n args [(1000,⟨T,ct ids c⟩)] (ids.zip (rowsOf c))).r j≠ .un:=λj hj=>by
  have key:∀(ids:List Nat) (Rs:List Row),ids.length=Rs.length->j∈ids->∃R,CU (ids.zip Rs) j=some R:=by
   intro ids
   induction ids with
   |nil=>intro _ _ h;cases h
   |cons k ids ih=>
    intro Rs hl hm;cases Rs with
    |nil=>simp at hl
    |cons R Rs=>
     rw[List.zip_cons_cons,CU];by_cases e:j=k
     ·subst e;exact⟨R,by simp⟩
     rw[cg e];rcases List.mem_cons.1 hm with q|q
     ·exact absurd q e
     exact ih Rs (by simpa using hl) q
  obtain⟨R,hR⟩:=key ids _ M6 hj;show(match CU (ids.zip (rowsOf c)) j with|some R=>lA.live R|none=>.un)≠ .un;rw[hR];simp
 have box:∀j B,(AS.An n args [(1000,⟨T,ct ids c⟩)] (ids.zip (rowsOf c))).b j=some B->j=1000/\B=⟨T,ct ids c⟩:=λj B h=>by
  have:=pE h;simpa using this
 have Nz:(AS.An n args [(1000,⟨T,ct ids c⟩)] (ids.zip (rowsOf c))).b 1000=some ⟨T,ct ids c⟩:=rfl
 exact{
  wf:=by
   refine⟨λs j hj=>?_,λs j hj=>?_,λi B hB x hx j hj=>?_,λi B hB x hx j hj=>?_⟩
   ·have:=(oyB _ (Ul s)).1 j hj;subst this;exact⟨_,Nz⟩
   ·exact absurd hj ((oyB _ (Ul s)).2 j)
   ·obtain⟨rfl,rfl⟩:=box i B hB;exact absurd hj ((oL x hx).1 j)
   obtain⟨rfl,rfl⟩:=box i B hB;exact isLive j ((oL x hx).2 j hj)
  marks:=⟨[],Y,List.nodup_nil,by simp⟩
  size:=by simp[AS.An];omega
  os:=rfl
  tape:=rfl
  output:=rfl
  grown:=Nat.le_refl _
  frame:=λ_ _ _=>rfl
  m0:=Mem.le_refl _
  eG:=λ_ _ _ e=>.inl e
  dh:=hM
  tm:=λs=>Jf hall s
  bx:=λi B h=>by
   obtain⟨rfl,rfl⟩:=box i B h;refine⟨.inr (.inl Y),ho.nb,λh=>h,us,ho.hp,?_⟩;exact oK (w:=w) M6 ho.al (λj p hm=>iD (R:=p.1) (v:=p.2) hnd hm)
  inj:=λi j B1 B2 hi hj _=>by rw[(box i B1 hi).1,(box j B2 hj).1]
  rx:=λj R hj=>by
   obtain⟨v,hm⟩:=xZ ho.al (live j R hj);have hν:kE (ids.zip (bW c us)) (λ_=>Value.nilIface) j=v:=iD hnd hm;show(∃vs:List Value,w.ownsRow 0 R.E R.sz (kE (ids.zip (bW c us)) (λ_=>.nilIface) j) R.n vs/\SV.ec M R.cells vs)/\_;rw[hν];refine⟨kY ho.al (R,v) (jy hm).2,λg hg=>?_⟩;have hg:v.ownBlock=some g:=by rw[<-hν];exact hg
   have hb:eE c us g:=⟨(R,v),(jy hm).2,hg⟩;obtain⟨q1,q2⟩:=ho.nr g hb;refine⟨.inr (.inr hb),q2,λh=>h,λk B _ e=>q1 e.symm⟩
  fe:=λj j' R R' h1 h2 g e1 e2=>by
   obtain⟨v,hm⟩:=xZ ho.al (live j R h1);obtain⟨v',hm'⟩:=xZ ho.al (live j' R' h2);have hν:kE (ids.zip (bW c us)) (λ_=>Value.nilIface) j=v:=iD hnd hm;have af3:kE (ids.zip (bW c us)) (λ_=>Value.nilIface) j'=v':=iD hnd hm';exact zm yF ho.ap j R v j' R' v' g hm hm' (by rw[<-hν];exact e1) (by rw[<-af3];exact e2)
  gK:=λi b e=>by
   simp only[WG]at e;cases h:Nat.beq i 1000 with
   |false=>rw[h]at e;cases e
   |true=>rw[h]at e;cases e;rfl
  ek:=λi v e=>by cases e
  kI:=λb e=>e.elim
  jj:=trivial}
theorem Ce{P:Program}{f:FuncId}{fn:Func}{code:Code}{args:List AV}{T:TypeId}{c0 c1:List Oc}{res:SV}(ids:List Nat)(hf:P.funcs[f]? =some fn)(hb:fn.body=some code)(hn:args.length<=fn.ntmps)(DY:args.all AV.oy=true)(yF:ids.Nodup)(M6:ids.length=(rowsOf c0).length)
  (h:∀(w:World) (M:Mem) (β:Nat) (us:List Value),Ok P (WG w M β c0 us) code (AS.An fn.ntmps args [(1000,⟨T,ct ids c0⟩)] (ids.zip (rowsOf c0))) (λe S=>(e=.normal\/e=.ret)/\MZ P S fn.results.toList res/\∃ks:List Nat,S.b 1000=some ⟨T,ct ks c1⟩/\Lv S ks (rowsOf c1)/\ks.Nodup)):RR P f args T c0 res c1:=by
 intro M w β vs us hM ho hv;refine gp Y hf hb (Fi ids hM ho hv DY hn yF M6) (h w M β us) ?_;rintro S' E a w' ⟨hr,ks,hB,hL,hk⟩ hh;obtain⟨v,hv,hx⟩:=(xq.sv hr).run hh;have hβ:E.β 1000=β:=hh.gK 1000 β Y;obtain⟨us',ho',iX⟩:=nA hh hB hL hk;rw[hβ]at ho';refine⟨v,hv,v,E.M,us',Y,hh.m0,λb o x e=>?_,hh.dh,hx,ho',λg hg=>?_,hh.os,hh.tape,hh.output,hh.grown,λk hk hne hno=>hh.frame k hk (λe=>e.elim hne hno)⟩
 ·rcases hh.eG b o x e with q|q|q|q
  ·exact .inl q
  ·exact .inr (.inl q)
  ·rw[show b=β from q,ho'.nb o]at e;cases e
  exact .inr (.inr q)
 obtain⟨j,hj,vW⟩:=(iX g).1 hg;obtain⟨R,hR⟩:=hL.mem j hj;obtain⟨_,q⟩:=hh.rx j R hR;rcases(q g vW).1 with q1|q1|q1
 ·exact .inr q1
 ·exact absurd q1 (ho'.nr g hg).1
 exact .inl q1
end
section
open Go.RowKit
def Un(S:AS):List Nat->Prop
 |[]=>True
 |k::ks=>(S.r k=.un/\k<1000)/\Un S ks
theorem Un.mem{S:AS}:∀{ks:List Nat},Un S ks->∀k∈ks,S.r k=.un/\k<1000
 |k::ks,h,j,hj=>by
  rcases List.mem_cons.1 hj with rfl|hj
  ·exact h.1
  exact Un.mem h.2 j hj
 |[],_,j,hj=>by cases hj
theorem Un.congr{S S':AS}:∀{ks:List Nat},(∀k∈ks,S'.r k=S.r k)->Un S ks->Un S' ks
 |[],_,_=>trivial
 |k::ks,h,hu=>⟨by rw[h k (by simp)];exact hu.1,Un.congr (λj hj=>h j (List.mem_cons_of_mem _ hj)) hu.2⟩
theorem Lv.congr{S S':AS}:∀{js:List Nat} {Rs:List Row},(∀k∈js,S'.r k=S.r k)->Lv S js Rs->Lv S' js Rs
 |[],[],_,_=>trivial
 |j::js,R::Rs,h,hl=>⟨by rw[h j (by simp)];exact hl.1,Lv.congr (λk hk=>h k (List.mem_cons_of_mem _ hk)) hl.2⟩
 |[],_::_,_,h=>h.elim
 |_::_,[],_,h=>h.elim
def ya(js ks:List Nat)(c:List Oc):List (Nat×lA):=js.map (λj=>(j,lA.dead))++(ks.zip (rowsOf c)).map (λp=>(p.1,.live p.2))
theorem HM:∀(ks:List Nat) (l:List (Row×Value)),(ks.zip l).map (λn=>(n.1,lA.live n.2.1))=(ks.zip (l.map (·.1))).map (λp=>(p.1,.live p.2))
 |[],_=>rfl
 |_::_,[]=>rfl
 |k::ks,p::l=>by rw[List.map_cons,List.zip_cons_cons,List.zip_cons_cons,List.map_cons,List.map_cons,HM ks l]
theorem HN{M:Mem}{w:World}{c:List Oc}{us:List Value}(h:pO M w c us)(js ks:List Nat):xW js (ks.zip (bW c us))=ya js ks c:=by
 unfold xW ya;rw[HM,gx h]
section steps
variable {P:Program}{C:Ctx}{ops:Array Oper}{S:AS}{nd:Bool}{K:List Ac->AS->Prop}{rest:List Oper}{acc:List Ac}
variable {gd:Option (Nat×Bool)}{rg:List Nat}{d:Nat}{ty:TypeId}{pos:String}{aft:Array Edge}{x y z:Operand}{T U E0:TypeId}
theorem bn.RU{E:Env}{a:Act}{w w':World}(h:bn C S E a w){i:Nat}{js ks:List Nat}{c0 c1:List Oc}{us us':List Value}{M':Mem}(hB:S.b i=some ⟨T,ct js c0⟩)(hL:Lv S js (rowsOf c0))(hks:ks.Nodup)(C8:ks.length=(rowsOf c1).length)(RV:Un S ks)
  (z7:∀g,eE c0 us g↔∃j∈js,(E.ν j).ownBlock=some g) (hM:E.M.le M') (hn:∀b o x,M' b o=some x->E.M b o=some x\/w.heap.size<=b\/eE c0 us b) (hin:M'.dh w') (ho:pP M' w' (E.β i) T c1 us') (hg:∀g,eE c1 us' g->eE c0 us g\/w.heap.size<=g)
  (hos:w'.os=w.os) (oJ:w'.tape=w.tape) (hout:w'.output=w.output) (hsize:w.heap.size<=w'.heap.size) (iX:∀k,k<w.heap.size->k≠E.β i->¬eE c0 us k->w'.heap[k]? =w.heap[k]?):
  ∃E':Env,E'.M=M'/\E'.β=E.β/\bn C (AS.cc (ya js ks c1) (AS.fN [(i,⟨T,ct ks c1⟩)] S)) E' a w':=by
 have WH:(bW c1 us').length=(rowsOf c1).length:=by rw[<-gx ho.al,List.length_map]
 have hnd:((ks.zip (bW c1 us')).map (·.1)).Nodup:=by rw[xX (by omega)];exact hks
 rw[<-HN ho.al js ks];refine⟨{E with M:=M',ν:=kE (ks.zip (bW c1 us')) E.ν},Y,Y,h.aav hB js (ks.zip (bW c1 us')) (λj hj=>hL.mem j hj) (λk R v hm=>RV.mem k (jy hm).1) hnd hM (λb o x e=>?_) hin ho.hp ho.nb ?_ (λx hx=>?_) (λk R v hm=>?_) (zm hks ho.ap) hos oJ hout hsize (λk hk hne hno=>iX k hk hne (λq=>?_))⟩
 ·rcases hn b o x e with q|q|q
  ·exact .inl q
  ·exact .inr (.inl q)
  exact .inr (.inr ((z7 b).1 q))
 ·exact oK (E:={E with M:=M',ν:=kE (ks.zip (bW c1 us')) E.ν}) (w:=w') C8 ho.al (λj p hm=>iD (R:=p.1) (v:=p.2) hnd hm)
 ·obtain⟨q1,q2⟩:=oL x hx;refine⟨q1,λj hj=>?_⟩;have hj:=q2 j hj;have key:∀(ks:List Nat) (l:List (Row×Value)),ks.length=l.length->j∈ks->∃R v,(j,R,v)∈ks.zip l:=by
   intro ks
   induction ks with
   |nil=>intro _ _ h;cases h
   |cons k ks ih=>
    intro l hl hm;cases l with
    |nil=>simp at hl
    |cons p l=>
     rw[List.zip_cons_cons];rcases List.mem_cons.1 hm with q|q
     ·subst q;exact⟨p.1,p.2,by simp⟩
     obtain⟨R,v,h⟩:=ih l (by simpa using hl) q;exact⟨R,v,List.mem_cons_of_mem _ h⟩
  exact key ks _ (by omega) hj
 ·refine⟨kY ho.al (R,v) (jy hm).2,λg Gb=>?_⟩;have hb:eE c1 us' g:=⟨(R,v),(jy hm).2,Gb⟩;obtain⟨q1,q2⟩:=ho.nr g hb;refine⟨?_,q2,q1⟩;rcases hg g hb with q|q
  ·exact .inl ((z7 g).1 q)
  exact .inr q
 obtain⟨j,hj,e⟩:=(z7 k).1 q;exact hno j hj e
theorem RT.Cf(hg:Gd ops S gd rg){f:FuncId}[dM P f]{g:Operand}{xs:Array Operand}{at_:Array TypeId}{args:List AV}{T:TypeId}{c0 c1:List Oc}{res:SV}(hp:RR P f args T c0 res c1)(i:Nat)(js ks:List Nat)(hB:S.b i=some ⟨T,ct js c0⟩)(hL:Lv S js (rowsOf c0))(OU:js.Nodup)(hks:ks.Nodup)(C8:ks.length=(rowsOf c1).length)(RV:Un S ks)
  (DY:args.all AV.oy=true) (hf:S.ev g=.sv (.v (.func (.func f) #[] #[]))) (hargs:sI S xs.toList (args.map (AV.RQ i))) (hd:d<S.n)
  (next:RunT P C ops nd K rest (⟨rg++(aX g++xs.toList.flatMap aX),[i],js++ks,⟨some (d,.sv res),[(i,⟨T,ct ks c1⟩)],ya js ks c1⟩⟩::acc) ((AS.cc (ya js ks c1) (AS.fN [(i,⟨T,ct ks c1⟩)] S)).set d (.sv res))):RunT P C ops nd K (⟨some d,.call ⟨.value g,xs,at_⟩,ty,pos,aft,gd⟩::rest) acc S:=by
 refine .inl ⟨_,[i],js++ks,_,?_,next⟩;rintro S' hn ht hb hr k a w L Q ho ⟨E,h⟩ WI;refine cD (C:=C) ho (hg.wanted h (λs hs=>ht s (List.mem_append_left _ hs)) Y) ?_;have r8:a.eval g=.func (.func f) #[] ⟨[]⟩:=by
  have h1:=h.ev g;rw[bA (λ_ h=>List.mem_append_right _ (List.mem_append_left _ h)) ht,hf]at h1;exact h1
 have hall:=xY DY (sI.vals h hargs (λs hs=>ht s (List.mem_append_right _ (List.mem_append_right _ hs))));have fH:S'.b i=some ⟨T,ct js c0⟩:=by rw[hb i (by simp)];exact hB
 have OV:Lv S' js (rowsOf c0):=hL.congr (λk hk=>hr k (List.mem_append_left _ hk));have af4:Un S' ks:=RV.congr (λk hk=>hr k (List.mem_append_right _ hk));obtain⟨us,KU,z7⟩:=nA h fH OV OU;refine cz (C:=C) (by intro c h;cases h) (lH r8) ?_;rw[List.append_nil];refine⟨λh=>by simp at h,gB ((hp E.M w (E.β i) _ us h.dh KU hall).mono ?_)⟩;rintro e w' ⟨v,M',us',rfl,hM,hnew,hin,hv,IZ,M7,hos,oJ,hout,hsize,iX⟩;obtain⟨E',e1,e2,h1⟩:=h.RU fH OV hks C8 af4 z7 hM hnew hin IZ M7 hos oJ hout hsize iX;refine WI _ _ ⟨_,h1.put (x:=.sv res) (v:=v) (by show res.h E'.M v;rw[e1];exact hv) ?_ fg⟩;rw[(fu _ _).1];show d<S'.n;omega
theorem RT.cH(hg:Gd ops S gd rg){i o:Nat}(hx:S.ev x=.ptr i o)(hd:d<S.n)
  (next:RunT P C ops nd K rest (⟨rg++aX x,[],[],⟨some (d,.ptr i o),[],[]⟩⟩::acc) (S.set d (.ptr i o))):RunT P C ops nd K (⟨some d,.nilCheck x,ty,pos,aft,gd⟩::rest) acc S:=
 RT.value hg (aX x) [] [] (.ptr i o) hd (by intro c h;cases h) (λS' ht _ _ E a w h=>by
  have hx':S'.ev x=.ptr i o:=by rw[bA (λ_ h=>h) ht,hx]
  have h1:=h.ev x;rw[hx']at h1;have h2:a.eval x=.pointer (some ⟨E.β i,o,none⟩):=h1;exact⟨a.eval x,by simp[execOp,h2],h1,lD h.wf hx'⟩) next
class OW (P:Program) (T:TypeId):Prop where
 u:P.underlying T=some (.pointer (P.pointee T))
theorem RT.Fj(hg:Gd ops S gd rg)[tT:OW P T]{i o:Nat}(hx:S.ev x=.ptr i o)(hy:S.ev y=.sv (.v (.pointer none)))(hd:d<S.n)
  (next:RunT P C ops nd K rest (⟨rg++(aX x++aX y),[],[],⟨some (d,.sv (.v (.bool false))),[],[]⟩⟩::acc) (S.set d (.sv (.v (.bool false))))):RunT P C ops nd K (⟨some d,.binOp .eql T x y U,ty,pos,aft,gd⟩::rest) acc S:=
 RT.value hg (aX x++aX y) [] [] (.sv (.v (.bool false))) hd (by intro c h;cases h) (λS' ht _ _ E a w h=>by
  have h1:=h.ev x;rw[bA (λ_ h=>List.mem_append_left _ h) ht,hx]at h1;have h2:=h.ev y;rw[bA (λ_ h=>List.mem_append_right _ h) ht,hy]at h2;have h1:a.eval x=.pointer (some ⟨E.β i,o,none⟩):=h1;have h2:a.eval y=.pointer none:=h2;have e:=run_eql_pointer_nil (P:=P) w T (some ⟨E.β i,o,none⟩) tT.u;refine⟨.bool false,?_,Y,fg⟩;simp[execOp,h1,h2,eqGuard,e]) next
def Fc.av:Fc->AV
 |.val s=>.sv s
 |.box i=>.ptr i 0
 |.row i=>.row i
theorem RT.nB(hg:Gd ops S gd rg){i:Nat}{js:List Fc}{s:Fc}(hx:S.ev x=.cmp .yB js)(hi:js[i]? =some s)(hd:d<S.n)
  (next:RunT P C ops nd K rest (⟨rg++aX x,[],[],⟨some (d,s.av),[],[]⟩⟩::acc) (S.set d s.av)):RunT P C ops nd K (⟨some d,.extract x i,ty,pos,aft,gd⟩::rest) acc S:=
 RT.value hg (aX x) [] [] s.av hd (by intro c h;cases h) (λS' ht _ _ E a w h=>by
  have hx':S'.ev x=.cmp .yB js:=by rw[bA (λ_ h=>h) ht,hx]
  have h1:=h.ev x;rw[hx']at h1;obtain⟨l1,l2⟩:=lD h.wf hx';obtain⟨vs,hv,hall⟩:=h1;have hv:a.eval x=.tuple ⟨vs⟩:=hv;obtain⟨u,hu,hs⟩:=hall.get hi;have hm:=List.mem_of_getElem? hi;refine⟨u,by simp[execOp,hv,Instr.extract,hu],?_,λj e=>?_,λj e=>?_⟩
  ·cases s<;>exact hs
  ·cases s with
   |val s=>exact e.elim
   |box k=>have e:j=k:=e;subst e;exact l1 j hm
   |row k=>exact e.elim
  cases s with
  |val s=>exact e.elim
  |box k=>exact e.elim
  |row k=>have e:j=k:=e;subst e;exact l2 j hm) next
def af5(tp:Bool)(p:Value)(rs:List Value):Value:=bif tp then .tuple ⟨p::rs⟩else p
def JS(P:Program)(f:FuncId)(args:List SV)(tp:Bool)(rest:List SV)(T:TypeId)(c:List Oc):Prop:=
 ∀(M:Mem) (w:World) (vs:List Value),M.dh w->SV.ec M args vs->
  Calls P f ⟨vs⟩ w λe w'=>∃β rs M' us,e=.returned (af5 tp (.pointer (some ⟨β,0,none⟩)) rs)/\M.le M'/\(∀b o x,M' b o=some x->M b o=some x\/w.heap.size<=b)/\M'.dh w'/\SV.ec M' rest rs/\
   pP M' w' β T c us/\w.heap.size<=β/\(∀g,eE c us g->w.heap.size<=g)/\Below w.heap.size w w'
theorem HO{w:World}{M:Mem}{S':AS}{E:Env}{a:Act}{w':World}{k:Nat}{ks:List Nat}{c:List Oc}(hB:S'.b k=some ⟨T,ct ks c⟩)(hL:Lv S' ks (rowsOf c))(hk:ks.Nodup)(hh:bn (Gs w M) S' E a w'):
  ∃us,M.le E.M/\(∀b o x,E.M b o=some x->M b o=some x\/w.heap.size<=b)/\E.M.dh w'/\pP E.M w' (E.β k) T c us/\w.heap.size<=E.β k/\(∀g,eE c us g->w.heap.size<=g)/\Below w.heap.size w w':=by
 obtain⟨us,ho,iX⟩:=nA hh hB hL hk;refine⟨us,hh.m0,λb o x e=>?_,hh.dh,ho,(hh.bx k _ hB).1.elim id (λh=>h.elim),λg hg=>?_,hh.os,hh.tape,hh.output,hh.grown,λk hk=>hh.frame k hk (λh=>h)⟩
 ·rcases hh.eG b o x e with h|h|h
  ·exact .inl h
  ·exact .inr h
  exact h.elim
 obtain⟨j,hj,vW⟩:=(iX g).1 hg;obtain⟨R,hR⟩:=hL.mem j hj;exact((hh.rx j R hR).2 g vW).1.elim id (λh=>h.elim)
theorem HP{f:FuncId}{fn:Func}{code:Code}{args:List SV}{c:List Oc}(hf:P.funcs[f]? =some fn)(hb:fn.body=some code)(hn:args.length<=fn.ntmps)
  (h:∀(w:World) (M:Mem) (vs:List Value),SV.ec M args vs->Ok P (Gs w M) code (AS.init fn.ntmps args) (λe S=>(e=.normal\/e=.ret)/\∃(k:Nat) (ks:List Nat),xq P S fn.results.toList (.ptr k 0)/\S.b k=some ⟨T,ct ks c⟩/\Lv S ks (rowsOf c)/\ks.Nodup)):JS P f args false [] T c:=by
 intro M w vs hM hvs;refine gp Y hf hb (kP hM hvs hn) (h w M vs hvs) ?_;rintro S' E a w' ⟨k,ks,hr,hB,hL,hk⟩ hh;obtain⟨v,hv,hx⟩:=hr.run hh;obtain rfl:v=.pointer (some ⟨E.β k,0,none⟩):=hx;obtain⟨us,q1,q2,q3,q4,q5,q6,q7⟩:=HO hB hL hk hh;exact⟨_,hv,E.β k,[],E.M,us,Y,q1,q2,q3,aq,q4,q5,q6,q7⟩
theorem z8{f:FuncId}{fn:Func}{code:Code}{args:List SV}{s:SV}{c:List Oc}{t1 t2:Nat}(hf:P.funcs[f]? =some fn)(hb:fn.body=some code)(hn:args.length<=fn.ntmps)(hres:fn.results=#[.tmp t1,.tmp t2])
  (h:∀(w:World) (M:Mem) (vs:List Value),SV.ec M args vs->Ok P (Gs w M) code (AS.init fn.ntmps args) (λe S=>(e=.normal\/e=.ret)/\∃(k:Nat) (ks:List Nat),S.t t1=.ptr k 0/\S.t t2=.sv s/\S.b k=some ⟨T,ct ks c⟩/\Lv S ks (rowsOf c)/\ks.Nodup)):JS P f args true [s] T c:=by
 intro M w vs hM hvs;refine gp Y hf hb (kP hM hvs hn) (h w M vs hvs) ?_;rintro S' E a w' ⟨k,ks,WJ,hr2,hB,hL,hk⟩ hh;have h1:=hh.tm t1;rw[WJ]at h1;have h1:a.tmps.getD t1 undef=.pointer (some ⟨E.β k,0,none⟩):=h1;have h2:=hh.tm t2;rw[hr2]at h2;obtain⟨us,q1,q2,q3,q4,q5,q6,q7⟩:=HO hB hL hk hh;refine⟨.tuple #[.pointer (some ⟨E.β k,0,none⟩),a.tmps.getD t2 undef],?_,E.β k,[a.tmps.getD t2 undef],E.M,us,Y,q1,q2,q3,⟨h2,aq⟩,q4,q5,q6,q7⟩;rw[Array.getD_eq_getD_getElem?]at h1;simp[results,hres,h1]
theorem bn.KV{a:Act}{w:World}:∀(ks:List Nat) (l:List (Row×Value)) {S:AS} {E:Env},bn C S E a w->ks.length=l.length->ks.Nodup->Un S ks->(∀p∈l,∃vs:List Value,w.ownsRow 0 p.1.E p.1.sz p.2 p.1.n vs/\SV.ec E.M p.1.cells vs)->KT l->(∀p∈l,∀g,p.2.ownBlock=some g->LV C S E g)->
  ∃E':Env,E'.M=E.M/\E'.β=E.β/\E'.O=E.O/\(∀i p,(i,p)∈ks.zip l->E'.ν i=p.2)/\(∀i,i∉ks->E'.ν i=E.ν i)/\bn C (AS.cc ((ks.zip l).map (λn=>(n.1,.live n.2.1))) S) E' a w
 |[],[],S,E,h,_,_,_,_,_,_=>⟨E,Y,Y,Y,λi p hm=>(by simp at hm),λ_ _=>Y,h⟩
 |k::ks,p::l,S,E,h,hl,hn,hu,ho,ha,hf=>by
  obtain⟨R,v⟩:=p;rw[List.nodup_cons]at hn;obtain⟨ha1,ha2⟩:=List.pairwise_cons.1 ha;obtain⟨vs,KU,IZ⟩:=ho (R,v) (by simp);have h1:=h.AN hu.1.1 hu.1.2 [] none (.inl ⟨Y,Y⟩) (R':=R) KU IZ (λg hg=>.inr (hf (R,v) (by simp) g hg)) (oz w none);have hu':Un (AS.cc ([]++[(k,.live R)]) S) ks:=hu.2.congr (λj hj=>by
   show(AS.ou S k _).r j=_;exact AS.kN _ _ _ _ (λe=>hn.1 (e▸hj)))
  obtain⟨E',q1,q2,q3,q4,q5,q6⟩:=bn.KV ks l h1 (by simpa using hl) hn.2 hu' (λp hp=>ho p (List.mem_cons_of_mem _ hp)) ha2 (λp hp g hg=>by
   obtain⟨f1,f2,f3,f4,f5⟩:=hf p (List.mem_cons_of_mem _ hp) g hg;refine⟨f1,f2,f3,f4,λj R' mD e=>?_⟩;have mD:(AS.ou S k (.live R)).r j=.live R':=mD;by_cases ej:j=k
   ·subst ej;have e:(if j=j then v else E.ν j).ownBlock=some g:=e;rw[if_pos rfl]at e;exact ha1 p hp g e hg
   rw[AS.kN _ _ _ _ ej]at mD;have e:(if j=k then v else E.ν j).ownBlock=some g:=e;rw[if_neg ej]at e;exact f5 j R' mD e)
  refine⟨E',q1,q2,q3,λi p hm=>?_,λi hi=>?_,q6⟩
  ·rw[List.zip_cons_cons]at hm;rcases List.mem_cons.1 hm with e|e
   ·cases e;rw[q5 k hn.1];show(if k=k then v else E.ν k)=v;rw[if_pos rfl]
   exact q4 i p e
  rw[q5 i (λhm=>hi (List.mem_cons_of_mem _ hm))];show(if i=k then v else E.ν i)=E.ν i;rw[if_neg (λe=>hi (by rw[e];simp))]
 |[],_::_,_,_,_,hl,_,_,_,_,_=>by simp at hl
 |_::_,[],_,_,_,hl,_,_,_,_,_=>by simp at hl
theorem Cg(i:Nat)(B:og):∀(l:List (Nat×lA)) (S:AS),AS.cc l (S.jW i B)=(AS.cc l S).jW i B
 |[],_=>rfl
 |(j,R)::l,S=>Cg i B l (S.ou j R)
theorem tL{α β:Type}:∀{l:List α} {k:List β} {a:α},l.length=k.length->a∈l->∃b,(a,b)∈l.zip k
 |a::l,c::k,b,h,hb=>by
  rcases List.mem_cons.1 hb with rfl|hb
  ·exact⟨c,by rw[List.zip_cons_cons];simp⟩
  obtain⟨a',h'⟩:=tL (l:=l) (k:=k) (by simpa using h) hb;exact⟨a',by rw[List.zip_cons_cons];exact List.mem_cons_of_mem _ h'⟩
 |[],_,_,_,hb=>by cases hb
 |_::_,[],_,h,_=>by simp at h
theorem bn.newObj{E:Env}{a:Act}{w w':World}(h:bn C S E a w){i:Nat}(hi:S.b i=none)(hp:C.gK i=none){ks:List Nat}{c:List Oc}{us:List Value}{M':Mem}{β:Nat}(hks:ks.Nodup)(C8:ks.length=(rowsOf c).length)(RV:Un S ks)
  (hM:E.M.le M') (hn:∀b o x,M' b o=some x->E.M b o=some x\/w.heap.size<=b) (hin:M'.dh w') (ho:pP M' w' β T c us) (hβ:w.heap.size<=β) (hg:∀g,eE c us g->w.heap.size<=g) (QN:Below w.heap.size w w'):
  ∃E':Env,E'.M=M'/\E'.β i=β/\bn C (AS.cc (ya [] ks c) (AS.fN [(i,⟨T,ct ks c⟩)] S)) E' a w':=by
 have WH:(bW c us).length=(rowsOf c).length:=by rw[<-gx ho.al,List.length_map]
 have h0:=h.grow hM hn hin QN;obtain⟨E1,q1,q2,q3,q4,q5,h1⟩:=bn.KV ks (bW c us) h0 (by omega) hks RV (kY ho.al) ho.ap (λp hp g Gb=>h.xx (hg g ⟨p,hp,Gb⟩) (ho.nr g ⟨p,hp,Gb⟩).2);have hS1:AS.cc ((ks.zip (bW c us)).map (λn=>(n.1,.live n.2.1))) S=AS.cc (ya [] ks c) S:=by rw[<-HN ho.al [] ks];rfl
 rw[hS1]at h1;obtain⟨f1,f2,f3,f4,f5⟩:=h.xx (M':=M') hβ ho.nb;have hi1:(AS.cc (ya [] ks c) S).b i=none:=by rw[(fu _ _).2.2.1];exact hi
 have hfree:LV C (AS.cc (ya [] ks c) S) E1 β:=by
  refine⟨f1,by rw[q1];exact f2,by rw[q3];exact f3,λj B hB=>?_,λj R hR e=>?_⟩
  ·rw[(fu _ _).2.2.1]at hB;rw[q2];exact f4 j B hB
  by_cases hj:j∈ks
  ·obtain⟨p,hm⟩:=tL (l:=ks) (k:=bW c us) (by omega) hj;rw[q4 j p hm]at e;exact(ho.nr β ⟨p,(jy hm).2,e⟩).1 Y
  rw[kJ,wN (λR hm=>by
   obtain⟨x,hx,e⟩:=List.mem_map.1 (show(j,R)∈(ks.zip (rowsOf c)).map (λp=>(p.1,lA.live p.2))from hm);obtain⟨k,R2⟩:=x;have e:k=j:=congrArg Prod.fst e;exact hj (e▸(jy hx).1))]at hR
  rw[q5 j hj]at e;exact f5 j R hR e
 have h2:=h1.KG hi1 hp hfree ho.hp (oK (w:=w') C8 (by rw[q1];exact ho.al) q4) (λx hx=>by
  obtain⟨p1,p2⟩:=oL x hx;refine⟨λj e=>absurd e (p1 j),λj e=>?_⟩;obtain⟨R,hm⟩:=tL (l:=ks) (k:=rowsOf c) C8 (p2 j e);obtain⟨R',mD⟩:=Cd (l:=ya [] ks c) (j:=j) (R:=.live R) (List.mem_map.2 ⟨(j,R),hm,Y⟩);rw[kJ,mD];obtain⟨x,hx,e⟩:=List.mem_map.1 (show(j,R')∈(ks.zip (rowsOf c)).map (λp=>(p.1,lA.live p.2))from wO mD);rw[<-show lA.live x.2=R' from congrArg Prod.snd e];simp)
 refine⟨{E1 with β:=λj=>if j=i then β else E1.β j},q1,?_,?_⟩
 rotate_left 1
 ·rw[show AS.fN [(i,(⟨T,ct ks c⟩:og))] S=S.jW i ⟨T,ct ks c⟩from Y,Cg];exact h2
 show(if i=i then β else E1.β i)=β;rw[if_pos rfl]
theorem RT.JU(hg:Gd ops S gd rg){f:FuncId}[dM P f]{g:Operand}{xs:Array Operand}{at_:Array TypeId}{args:List SV}{T:TypeId}{c:List Oc}(hp:JS P f args false [] T c)(ks:List Nat)(hks:ks.Nodup)(C8:ks.length=(rowsOf c).length)(RV:Un S ks)(hf:S.ev g=.sv (.v (.func (.func f) #[] #[])))(hargs:gJ S xs.toList args)(hd:d<S.n)(hdb:S.b d=none)(Jj:C.gK d=none)
  (next:RunT P C ops nd K rest (⟨rg++(aX g++xs.toList.flatMap aX),[d],ks,⟨some (d,.ptr d 0),[(d,⟨T,ct ks c⟩)],ya [] ks c⟩⟩::acc) ((AS.cc (ya [] ks c) (AS.fN [(d,⟨T,ct ks c⟩)] S)).set d (.ptr d 0))):RunT P C ops nd K (⟨some d,.call ⟨.value g,xs,at_⟩,ty,pos,aft,gd⟩::rest) acc S:=by
 refine .inl ⟨_,[d],ks,_,?_,next⟩;rintro S' hn ht hb hr i a w L Q ho ⟨E,h⟩ hL;refine cD (C:=C) ho (hg.wanted h (λs hs=>ht s (List.mem_append_left _ hs)) Y) ?_;have r8:a.eval g=.func (.func f) #[] ⟨[]⟩:=by
  have h1:=h.ev g;rw[bA (λ_ h=>List.mem_append_right _ (List.mem_append_left _ h)) ht,hf]at h1;exact h1
 have hall:=gJ.vals h hargs (λs hs=>ht s (List.mem_append_right _ (List.mem_append_right _ hs)));have hdn:S'.b d=none:=by rw[hb d (by simp)];exact hdb
 refine cz (C:=C) (by intro c h;cases h) (lH r8) ?_;rw[List.append_nil];refine⟨λh=>by simp at h,gB ((hp E.M w _ h.dh hall).mono ?_)⟩;rintro e w' ⟨β,rs,M',us,rfl,hM,hnew,hin,YM,IZ,hβ,M7,QN⟩;obtain⟨E',e1,e2,h1⟩:=h.newObj hdn Jj hks C8 (RV.congr hr) hM hnew hin IZ hβ M7 QN;refine hL _ _ ⟨_,h1.put (x:=.ptr d 0) (v:=.pointer (some ⟨β,0,none⟩)) (by show _=Value.pointer (some ⟨E'.β d,0,none⟩);rw[e2]) ?_ ⟨λj e=>?_,λj e=>e.elim⟩⟩
 ·rw[(fu _ _).1];show d<S'.n;omega
 have e:j=d:=e;subst e;rw[(fu _ _).2.2.1];exact⟨_,AS.cX _ _ _⟩
theorem RT.AZ(hg:Gd ops S gd rg){f:FuncId}[dM P f]{g:Operand}{xs:Array Operand}{at_:Array TypeId}{args:List SV}{T:TypeId}{c:List Oc}{s:SV}(hp:JS P f args true [s] T c)(ks:List Nat)(hks:ks.Nodup)(C8:ks.length=(rowsOf c).length)(RV:Un S ks)(hf:S.ev g=.sv (.v (.func (.func f) #[] #[])))(hargs:gJ S xs.toList args)(hd:d<S.n)(hdb:S.b d=none)(Jj:C.gK d=none)
  (next:RunT P C ops nd K rest (⟨rg++(aX g++xs.toList.flatMap aX),[d],ks,⟨some (d,.cmp .yB [.box d,.val s]),[(d,⟨T,ct ks c⟩)],ya [] ks c⟩⟩::acc) ((AS.cc (ya [] ks c) (AS.fN [(d,⟨T,ct ks c⟩)] S)).set d (.cmp .yB [.box d,.val s]))):RunT P C ops nd K (⟨some d,.call ⟨.value g,xs,at_⟩,ty,pos,aft,gd⟩::rest) acc S:=by
 refine .inl ⟨_,[d],ks,_,?_,next⟩;rintro S' hn ht hb hr i a w L Q ho ⟨E,h⟩ hL;refine cD (C:=C) ho (hg.wanted h (λs hs=>ht s (List.mem_append_left _ hs)) Y) ?_;have r8:a.eval g=.func (.func f) #[] ⟨[]⟩:=by
  have h1:=h.ev g;rw[bA (λ_ h=>List.mem_append_right _ (List.mem_append_left _ h)) ht,hf]at h1;exact h1
 have hall:=gJ.vals h hargs (λs hs=>ht s (List.mem_append_right _ (List.mem_append_right _ hs)));have hdn:S'.b d=none:=by rw[hb d (by simp)];exact hdb
 refine cz (C:=C) (by intro c h;cases h) (lH r8) ?_;rw[List.append_nil];refine⟨λh=>by simp at h,gB ((hp E.M w _ h.dh hall).mono ?_)⟩;rintro e w' ⟨β,rs,M',us,rfl,hM,hnew,hin,YM,IZ,hβ,M7,QN⟩;obtain⟨E',e1,e2,h1⟩:=h.newObj hdn Jj hks C8 (RV.congr hr) hM hnew hin IZ hβ M7 QN
 match rs,YM with
 |[r],YM=>
  refine hL _ _ ⟨_,h1.put (x:=.cmp .yB [.box d,.val s]) (v:=.tuple #[.pointer (some ⟨β,0,none⟩),r]) ⟨[.pointer (some ⟨β,0,none⟩),r],Y,by show _=Value.pointer (some ⟨E'.β d,0,none⟩);rw[e2],by show s.h E'.M r;rw[e1];exact YM.1,aq⟩ ?_ ⟨λj e=>?_,λj e=>?_⟩⟩
  ·rw[(fu _ _).1];show d<S'.n;omega
  ·have e:j=d:=by simpa[AV.mb]using e
   subst e;rw[(fu _ _).2.2.1];exact⟨_,AS.cX _ _ _⟩
  simp[AV.mr]at e
end steps
end
section
open Go.RowKit
def wP(P:Program)(f:FuncId)(args:List AV)(T:TypeId)(c:List Oc)(res:SV):Prop:=
 ∀(M:Mem) (w:World) (β:Nat) (vs us:List Value),M.dh w->pP M w β T c us->dx (oM M β) args vs->
  Calls P f ⟨vs⟩ w λe w'=>∃v M',e=.returned v/\M.le M'/\(∀b o x,M' b o=some x->M b o=some x\/w.heap.size<=b)/\M'.dh w'/\res.h M' v/\
   pP M' w' β T c us/\w'.os=w.os/\w'.tape=w.tape/\w'.output=w.output/\w.heap.size<=w'.heap.size/\∀k,k<w.heap.size->k≠β->¬eE c us k->w'.heap[k]? =w.heap[k]?
def YN:List (Nat×Row×Value)->Nat->Option Value
 |[],_=>none
 |(k,_,v)::l,j=>if j=k then some v else YN l j
theorem A0:∀{l:List (Nat×Row×Value)} {j:Nat} {v:Value},YN l j=some v->∃R,(j,R,v)∈l
 |(k,R,u)::l,j,v,h=>by
  rw[YN]at h;by_cases e:j=k
  ·rw[if_pos e]at h;cases h;subst e;exact⟨R,by simp⟩
  rw[if_neg e]at h;obtain⟨R',hm⟩:=A0 h;exact⟨R',List.mem_cons_of_mem _ hm⟩
 |[],_,_,h=>by cases h
theorem JV:∀{l:List (Nat×Row×Value)} {j:Nat} {R:Row} {v:Value},(l.map (·.1)).Nodup->(j,R,v)∈l->YN l j=some v
 |(k,R',v')::l,j,R,v,hn,h=>by
  rw[List.map_cons,List.nodup_cons]at hn;rw[YN];rcases List.mem_cons.1 h with e|e
  ·cases e;rw[if_pos rfl]
  have:j≠k:=λq=>hn.1 (List.mem_map.2 ⟨(j,R,v),e,q⟩);rw[if_neg this];exact JV hn.2 e
theorem WK{ids:List Nat}(h:(ids.all λi=>Nat.ble 1000 i)=true):∀i∈ids,1000<=i:=λi hi=>af (List.all_eq_true.1 h i hi)
def HQ(w:World)(M:Mem)(β:Nat)(c:List Oc)(us:List Value)(ids:List Nat)(yF:(ids.all λi=>Nat.ble 1000 i)=true):Ctx:={w0:=w,M0:=M,own:=λk=>k=β\/eE c us k,uy:=λk=>k=β\/eE c us k,gK:=λi=>bif Nat.beq i 1000 then some β else none,ek:=YN (ids.zip (bW c us)),ro:=none,J:=λ_ _ _ _ _=>True,C0:=λ_ h=>h,LR:=λ_ _ h=>(by obtain⟨R,hm⟩:=A0 h;exact WK yF _ (jy hm).1),jf:=λ_ _ _ _ _ _ _ _ _ _ _ _ _ _ _ _=>trivial}
def Oc.cst:Oc->Prop
 |.s x=>∃v,x=.v v
 |.r _=>True
def zo:List Oc->Prop
 |[]=>True
 |c::l=>c.cst/\zo l
theorem A3{M M':Mem}{w w':World}:∀{c:List Oc} {us us':List Value},zo c->pO M w c us->pO M' w' c us'->bW c us=bW c us'->us=us'
 |[],[],[],_,_,_,_=>rfl
 |.s x::l,v::vs,v'::vs',hc,h,h',e=>by
  obtain⟨y,rfl⟩:=hc.1;have e1:v=y:=h.1;have e2:v'=y:=h'.1;rw[e1,e2,A3 hc.2 h.2 h'.2 e]
 |.r R::l,v::vs,v'::vs',hc,h,h',e=>by
  rw[bW,bW]at e;have e1:=(List.cons.inj e).1;have e2:=(List.cons.inj e).2;rw[A3 hc.2 h.2 h'.2 e2];rw[(Prod.mk.inj e1).2]
 |[],[],_::_,_,_,h,_=>h.elim
 |[],_::_,_,_,h,_,_=>h.elim
 |.s _::_,[],_,_,h,_,_=>h.elim
 |.r _::_,[],_,_,h,_,_=>h.elim
 |.s _::_,_::_,[],_,_,h,_=>h.elim
 |.r _::_,_::_,[],_,_,h,_=>h.elim
theorem JW{P:Program}{f:FuncId}{fn:Func}{code:Code}{args:List AV}{T:TypeId}{c:List Oc}{res:SV}(ids:List Nat)(hf:P.funcs[f]? =some fn)(hb:fn.body=some code)(hn:args.length<=fn.ntmps)(DY:args.all AV.oy=true)(yF:ids.Nodup)(M6:ids.length=(rowsOf c).length)(hge:(ids.all λi=>Nat.ble 1000 i)=true)(JX:zo c)
  (h:∀(w:World) (M:Mem) (β:Nat) (us:List Value),Ok P (HQ w M β c us ids hge) code (AS.An fn.ntmps args [(1000,⟨T,ct ids c⟩)] (ids.zip (rowsOf c))) (λe S=>(e=.normal\/e=.ret)/\MZ P S fn.results.toList res/\S.b 1000=some ⟨T,ct ids c⟩/\Lv S ids (rowsOf c))):wP P f args T c res:=by
 intro M w β vs us hM ho hv;have WH:(bW c us).length=(rowsOf c).length:=by rw[<-gx ho.al,List.length_map]
 have hnd:((ids.zip (bW c us)).map (·.1)).Nodup:=by rw[xX (by omega)];exact yF
 have NA:bn (HQ w M β c us ids hge) (AS.An fn.ntmps args [(1000,⟨T,ct ids c⟩)] (ids.zip (rowsOf c))) ⟨λ_=>β,kE (ids.zip (bW c us)) (λ_=>.nilIface),λ_=>False,M⟩ {tmps:=⟨vs⟩++Array.replicate (fn.ntmps-(⟨vs⟩:Array Value).size) undef,defers:=[]} w:=by
  have h0:=Fi (n:=fn.ntmps) ids hM ho hv DY hn yF M6
  exact{wf:=h0.wf,marks:=h0.marks,size:=h0.size,os:=h0.os,tape:=h0.tape,output:=h0.output,grown:=h0.grown,frame:=h0.frame,m0:=h0.m0,eG:=h0.eG,dh:=h0.dh,tm:=h0.tm,bx:=h0.bx,inj:=h0.inj,rx:=h0.rx,fe:=h0.fe,gK:=h0.gK,ek:=λi v e=>(by
   obtain⟨R,hm⟩:=A0 e
   exact iD hnd hm),kI:=h0.kI,jj:=trivial}
 refine gp Y hf hb NA (h w M β us) ?_;rintro S' E a w' ⟨hr,hB,hL⟩ hh;obtain⟨v,hv,hx⟩:=(xq.sv hr).run hh;have hβ:E.β 1000=β:=hh.gK 1000 β Y;obtain⟨us',ho',iX⟩:=nA hh hB hL yF;rw[hβ]at ho';obtain⟨_,_,_,Ns,q2,q3⟩:=hh.bx 1000 _ hB;rw[hβ,ho'.hp]at q2;obtain rfl:us'=Ns:=by
  have:=Option.some.inj q2;injection this with e
  injection e
 obtain⟨_,WL⟩:=qM hh hL q3;have iW:bW c us=bW c us':=by
  rw[WL];have key:∀(ids:List Nat) (l:List (Row×Value)) (Rs:List Row),ids.length=l.length->l.map (·.1)=Rs->(∀i R v,(i,R,v)∈ids.zip l->E.ν i=v)->l=Rs.zip (ids.map E.ν):=by
   intro ids
   induction ids with
   |nil=>intro l Rs hl hm _;cases l with|nil=>cases hm;rfl|cons _ _=>simp at hl
   |cons i ids ih=>
    intro l Rs hl hm hν;cases l with
    |nil=>simp at hl
    |cons p l=>
     cases hm;obtain⟨R,v⟩:=p;rw[List.map_cons,List.map_cons,List.zip_cons_cons,hν i R v (by rw[List.zip_cons_cons];simp),<-ih l _ (by simpa using hl) Y (λi R v hm=>hν i R v (by rw[List.zip_cons_cons];exact List.mem_cons_of_mem _ hm))]
  exact key ids _ _ (by omega) (gx ho.al) (λi R v hm=>hh.ek i v (JV hnd hm))
 obtain rfl:us=us':=A3 JX ho.al ho'.al iW;refine⟨v,hv,v,E.M,Y,hh.m0,λb o x e=>?_,hh.dh,hx,ho',hh.os,hh.tape,hh.output,hh.grown,λk hk hne hno=>hh.frame k hk (λe=>e.elim hne hno)⟩;rcases hh.eG b o x e with q|q|q|q
 ·exact .inl q
 ·exact .inr q
 ·rw[show b=β from q,ho'.nb o]at e;cases e
 rw[(ho'.nr b q).2 o]at e;cases e
section steps
variable {P:Program}{C:Ctx}{ops:Array Oper}{S:AS}{nd:Bool}{K:List Ac->AS->Prop}{rest:List Oper}{acc:List Ac}
variable {gd:Option (Nat×Bool)}{rg:List Nat}{d:Nat}{ty:TypeId}{pos:String}{aft:Array Edge}{x y z:Operand}{T U E0:TypeId}
theorem bn.Fk{E:Env}{a:Act}{w w':World}(h:bn C S E a w){i:Nat}{js:List Nat}{c:List Oc}{us:List Value}{M':Mem}(hB:S.b i=some ⟨T,ct js c⟩)(hL:Lv S js (rowsOf c))(OU:js.Nodup)(Al:pP E.M w (E.β i) T c us)
  (hM:E.M.le M') (hn:∀b o x,M' b o=some x->E.M b o=some x\/w.heap.size<=b) (hin:M'.dh w') (ho:pP M' w' (E.β i) T c us)
  (hos:w'.os=w.os) (oJ:w'.tape=w.tape) (hout:w'.output=w.output) (hsize:w.heap.size<=w'.heap.size) (iX:∀k,k<w.heap.size->k≠E.β i->¬eE c us k->w'.heap[k]? =w.heap[k]?):
  bn C S {E with M:=M'} a w':=by
 obtain⟨Mr,afY,RO,YO,Ms,aaC⟩:=h.bx i _ hB;obtain rfl:YO=us:=by
  rw[Al.hp]at Ms;have:=Option.some.inj Ms;injection this with e
  injection e with e
  exact e.symm
 obtain⟨_,WH⟩:=qM h hL aaC;have hlen:=hL.len;have Ex:∀g,eE c YO g↔∃j∈js,(E.ν j).ownBlock=some g:=λg=>by
  unfold eE;rw[WH];constructor
  ·rintro⟨⟨R,v⟩,hm,hg⟩;obtain⟨j,hj,rfl⟩:=List.mem_map.1 (jy hm).2;exact⟨j,hj,hg⟩
  rintro⟨j,hj,hg⟩;obtain⟨R,hR⟩:=tK (l:=rowsOf c) (k:=js.map E.ν) (by simp[hlen]) (List.mem_map.2 ⟨j,hj,Y⟩);exact⟨(R,E.ν j),hR,hg⟩
 have zk:∀g,eE c YO g->(C.w0.heap.size<=g\/C.uy g)/\¬E.O g/\(∀n B,S.b n=some B->E.β n≠g)/\∃c e,w.heap[g]? =some (Obj.cells c e (0,0)):=λg hg=>by
  obtain⟨j,hj,vW⟩:=(Ex g).1 hg;obtain⟨R,hR⟩:=hL.mem j hj;obtain⟨⟨us,q1,_⟩,q2⟩:=h.rx j R hR;obtain⟨q3,q4,q5,q6⟩:=q2 g vW;refine⟨q3,q5,q6,?_⟩;rcases q1.2 with⟨q7,_⟩|⟨g',cap,cur,q7,_,q8,_⟩
  ·rw[q7]at vW;cases vW
  rw[q7]at vW;cases vW;exact⟨_,_,q8⟩
 have keep:∀x:AV,∀v,x.holds E v->x.holds {E with M:=M'} v:=λx v hv=>AV.cO (E:=E) (E':={E with M:=M'}) hM (λ_ _=>rfl) (λ_ _=>rfl) hv;have WE:∀b,b<w.heap.size->(∀o,E.M b o=none)->∀o,M' b o=none:=λb h1 h2 o=>by
  cases e:M' b o with
  |none=>rfl
  |some v=>
   rcases hn b o v e with q|q
   ·rw[h2 o]at q;cases q
   omega
 exact{
  wf:=h.wf
  marks:=by
   obtain⟨ds,d1,d2,d3⟩:=h.marks;refine⟨ds,d1,d2,λr hr=>?_⟩;obtain⟨p1,p2,p3⟩:=d3 r hr;refine⟨p1,p2,?_⟩;rw[iX r (Array.getElem?_eq_some_iff.1 p3).1 (λe=>by rw[e,Ms]at p3;cases p3) (λe=>by
    obtain⟨_,_,_,c,e2,q⟩:=zk r e;rw[q]at p3;cases p3)]
   exact p3
  size:=h.size
  os:=hos.trans h.os
  tape:=oJ.trans h.tape
  output:=hout.trans h.output
  grown:=Nat.le_trans h.grown hsize
  frame:=λk hk hown=>by
   rw[iX k (Nat.lt_of_lt_of_le hk h.grown) (λe=>by
    rcases Mr with q|q
    ·omega
    ·exact hown (C.C0 _ (by rw[e];exact q))) (λe=>by
    rcases(zk k e).1 with q|q
    ·omega
    exact hown (C.C0 _ q))]
   exact h.frame k hk hown
  m0:=Mem.le_trans h.m0 hM
  eG:=λb o v e=>by
   rcases hn b o v e with q|q
   ·exact h.eG b o v q
   exact .inr (.inl (Nat.le_trans h.grown q))
  dh:=hin
  tm:=λs=>keep _ _ (h.tm s)
  bx:=λj B fH=>by
   obtain⟨p1,p2,p3,vs,p4,p5⟩:=h.bx j B fH;have hlt:=(Array.getElem?_eq_some_iff.1 p4).1;by_cases e:j=i
   ·subst e;rw[hB]at fH;cases fH;refine⟨p1,ho.nb,p3,YO,ho.hp,?_⟩;exact aaC.imp (λx _ v hv=>keep x v hv)
   refine⟨p1,WE _ hlt p2,p3,vs,?_,p5.imp (λx _ v hv=>keep x v hv)⟩;show w'.heap[E.β j]? =_;rw[iX _ hlt (λq=>e (h.inj j i B _ fH hB q)) (λq=>(zk _ q).2.2.1 j B fH Y)];exact p4
  inj:=h.inj
  rx:=λj R hR=>by
   obtain⟨⟨vs,p1,p2⟩,p3⟩:=h.rx j R hR;by_cases hj:j∈js
   ·have hz:(R,E.ν j)∈bW c YO:=by
     rw[WH];have key:∀(js:List Nat) (Rs:List Row),Lv S js Rs->j∈js->(R,E.ν j)∈Rs.zip (js.map E.ν):=by
      intro js
      induction js with
      |nil=>intro _ _ h;cases h
      |cons k js ih=>
       intro Rs hl hm;cases Rs with
       |nil=>exact hl.elim
       |cons R' Rs=>
        rw[List.map_cons,List.zip_cons_cons];rcases List.mem_cons.1 hm with q|q
        ·subst q;have:=hl.1;rw[hR]at this;cases this;simp
        exact List.mem_cons_of_mem _ (ih Rs hl.2 q)
     exact key js _ hL hj
    refine⟨kY ho.al _ hz,λg hg=>?_⟩;obtain⟨p4,p5,p6,p7⟩:=p3 g hg;exact⟨p4,(ho.nr g ⟨_,hz,hg⟩).2,p6,p7⟩
   have oth:∀g,(E.ν j).ownBlock=some g->¬eE c YO g:=λg hg q=>by
    obtain⟨j',hj',e⟩:=(Ex g).1 q;obtain⟨R',mD⟩:=hL.mem j' hj';have:=h.fe j j' R R' hR mD g hg e;subst this;exact hj hj'
   refine⟨⟨vs,dB p1 λg hg=>iX g (jH h hR hg) (λe=>(p3 g hg).2.2.2 i _ hB e.symm) (oth g hg),p2.mono hM⟩,λg hg=>?_⟩;obtain⟨p4,p5,p6,p7⟩:=p3 g hg;exact⟨p4,WE g (jH h hR hg) p5,p6,p7⟩
  fe:=h.fe
  gK:=h.gK
  ek:=h.ek
  kI:=λb hb=>by
   obtain⟨p1,p2,p3⟩:=h.kI b hb;exact⟨Nat.lt_of_lt_of_le p1 hsize,WE b p1 p2,p3⟩
  jj:=C.jf S.g S.go E.O E.M M' w w' h.jj hM hin (λb o v e=>by
    rcases hn b o v e with q|q
    ·exact .inl q
    ·exact .inr ⟨.inl (Nat.le_trans h.grown q),λq2=>by have:=(h.kI b q2).1;omega⟩) (λb hb=>by
    have hb':b<w.heap.size:=by
     rcases hb with⟨q,_⟩|q
     ·exact Nat.lt_of_lt_of_le q h.grown
     exact(h.kI b q).1
    refine iX b hb' (λe=>?_) (λe=>?_)
    ·subst e;rcases hb with⟨q1,q2⟩|q
     ·rcases Mr with p|p
      ·omega
      exact q2 p
     exact RO q
    obtain⟨o1,o3,_⟩:=zk b e;rcases hb with⟨q1,q2⟩|q
    ·rcases o1 with p|p
     ·omega
     exact q2 p
    exact o3 q) hos oJ hout hsize}
theorem RT.dw(hg:Gd ops S gd rg){f:FuncId}[dM P f]{g:Operand}{xs:Array Operand}{at_:Array TypeId}{args:List AV}{T:TypeId}{c:List Oc}{res:SV}(hp:wP P f args T c res)(i:Nat)(js:List Nat)(hB:S.b i=some ⟨T,ct js c⟩)(hL:Lv S js (rowsOf c))(OU:js.Nodup)
  (DY:args.all AV.oy=true) (hf:S.ev g=.sv (.v (.func (.func f) #[] #[]))) (hargs:sI S xs.toList (args.map (AV.RQ i))) (hd:d<S.n)
  (next:RunT P C ops nd K rest (⟨rg++(aX g++xs.toList.flatMap aX),[i],js,⟨some (d,.sv res),[],[]⟩⟩::acc) (S.set d (.sv res))):RunT P C ops nd K (⟨some d,.call ⟨.value g,xs,at_⟩,ty,pos,aft,gd⟩::rest) acc S:=by
 refine .inl ⟨_,[i],js,_,?_,next⟩;rintro S' hn ht hb hr k a w L Q ho ⟨E,h⟩ WI;refine cD (C:=C) ho (hg.wanted h (λs hs=>ht s (List.mem_append_left _ hs)) Y) ?_;have r8:a.eval g=.func (.func f) #[] ⟨[]⟩:=by
  have h1:=h.ev g;rw[bA (λ_ h=>List.mem_append_right _ (List.mem_append_left _ h)) ht,hf]at h1;exact h1
 have hall:=xY DY (sI.vals h hargs (λs hs=>ht s (List.mem_append_right _ (List.mem_append_right _ hs))));have fH:S'.b i=some ⟨T,ct js c⟩:=by rw[hb i (by simp)];exact hB
 have OV:Lv S' js (rowsOf c):=hL.congr (λk hk=>hr k hk);obtain⟨us,KU,z7⟩:=nA h fH OV OU;refine cz (C:=C) (by intro c h;cases h) (lH r8) ?_;rw[List.append_nil];refine⟨λh=>by simp at h,gB ((hp E.M w (E.β i) _ us h.dh KU hall).mono ?_)⟩;rintro e w' ⟨v,M',rfl,hM,hnew,hin,hv,IZ,hos,oJ,hout,hsize,iX⟩;have h1:=h.Fk fH OV OU KU hM hnew hin IZ hos oJ hout hsize iX;exact WI _ _ ⟨_,h1.put (x:=.sv res) (v:=v) hv (by show d<S'.n;omega) fg⟩
end steps
end
end Go.Fw
namespace Go.Proofs.YtningmnklfpfjaaGreat
section
open Go.Fw
noncomputable def lS(x0:Lr):Option (Sz):=match x0 with|⟨bu,bw,bF,bJ⟩=>(some (bw.length:Int)).bind λx7=>(some (bF.length:Int)).bind λeY=>(some (bJ.length:Int)).bind λjv=>some ⟨bu,x7,eY,jv⟩
noncomputable def fW(x0:Lr):Option (Bool):=match x0 with|⟨bu,bw,bF,bJ⟩=>(lS ⟨bu,bw,bF,bJ⟩).bind λ⟨B3,Fb,Dn,Fe⟩=>cK (λ(OX:Bool)=>(bif OX then some false else cK (λ(JY:Bool)=>(bif JY then some false else cK (λ(Um:Bool)=>some Um) λK16=>(mM bw).bind λqa=>(some (decide ((qa:Int)<=B3))).bind λvm=>(bif vm then(mM bF).bind λsS=>(some (decide ((sS:Int)<=B3))).bind λxj=>some xj else some false).bind λOY=>K16 OY)) λM3=>(some (decide ((128:Int)<Dn))).bind λmH=>(bif mH then some true else(some (decide ((Fe:Int)≠Dn))).bind λkp=>some kp).bind λOZ=>M3 OZ)) λUo=>(some (decide ((B3:Int)<0))).bind λx8=>(bif x8 then some true else(some (decide ((64:Int)<B3))).bind λeX=>some eX).bind λO0=>(bif O0 then some true else(some (decide ((Fb:Int)<1))).bind λgW=>some gW).bind λWM=>(bif WM then some true else(some (decide ((4:Int)<Fb))).bind λkq=>some kq).bind λWN=>Uo WN
end
section
open Go.Fw Go.Fw.Z Go.RowKit
theorem Dq{x0:Lr}{r:Sz}(h:lS x0=some r):Pure ah 83 [.agg (Jm x0)] (.agg (eSz r)):=by
 obtain⟨bu,bw,bF,bJ⟩:=x0;refine bD Tryz.func83 Y (af Y) (λeI M vs hvs=>?_);unfold lS at h;refine sr<|bx Y<|al (cs:=[ay 0,ay 0,ay 0,ay 0]) (by exact⟨au,au,au,au,aq⟩) Y<|dn<|sr<|fa Y Y<|lV Y Y Y<|fa Y Y<|lV Y Y Y<|lE h λx7 h7 h=>ln Y h7<|fa Y Y<|lV Y Y Y<|lE h λeY iO h=>ln Y iO<|fa Y Y ?_;refine lV Y Y Y<|lE h λjv lK h=>ln Y lK<|bI (cs:=[_,_,_,_]) (cs':=[ay bu,ay x7,ay eY,ay jv]) (.one Y (.one Y (.one Y (.one Y (.nil))))) ⟨au,au,au,au,aq⟩<|so Y Y Y<|dn<|bf ?_;obtain rfl:=O h;exact RZ (.agg Y Y (.k4 Y Y Y Y) Y (.nil))
theorem pQ{x0:Lr}{r:Bool}(h:fW x0=some r):Pure ah 34 [.agg (Jm x0)] (az r):=by
 obtain⟨bu,bw,bF,bJ⟩:=x0;refine bD Tryz.func34 Y (af Y) (λeI M vs hvs=>?_);unfold fW at h;refine sr<|bx Y<|ag Y<|dn<|sr<|ld Y Y (.k4 Y Y Y Y) ?_;obtain⟨⟨B3,Fb,Dn,Fe⟩,h5,h⟩:=bS h;refine cl (Dq h5) ⟨Y,aq⟩<|al (cs:=[ay 0,ay 0,ay 0,ay 0]) (by exact⟨au,au,au,au,aq⟩) Y<|so Y Y Y<|dn<|qq<|qq ?_;refine bH h (λWO=>AS.cL 48 [(1,.ptr 1 0),(3,.ptr 3 0),(23,aj WO)] [(3,⟨97,[ai B3,ai Fb,ai Dn,ai Fe]⟩),(1,⟨25,[ai bu,.sv (slc 1 (List.map (eS 4 eQ) bw)),.sv (slc 1 (List.map (eS 4 eQ) bF)),.sv (slc 4 (List.map eQ bJ))]⟩)] []) (λh=>?_) (λOX h=>?_);refine aW<|fa Y Y<|lV Y Y Y<|lE h λx8 h8 h=>ls _ Y Y h8<|mv Y<|bE h λO0 Fl h=>?_;cases x8;refine RT.fieldAddr (.some Y Y) Y T Y<|RT.rB (.some Y Y) Y Y Y T<|lE (F Fl) λeX iz Fl=>gg _ Y Y iz ?_;obtain rfl:=O Fl;refine pF Y<|mv Y<|bE h λaf8 RW h=>?_;cases eX;refine RT.fieldAddr (.some Y Y) Y T Y<|RT.rB (.some Y Y) Y Y Y T<|lE (F RW) λgW nL RW=>RT.lss (.some Y Y) _ Y Y T nL ?_;obtain rfl:=O RW;refine pF Y<|mv Y<|bE h λaf9 RX h=>?_;cases gW;refine RT.fieldAddr (.some Y Y) Y T Y<|RT.rB (.some Y Y) Y Y Y T<|lE (F RX) λkq qJ RX=>gg _ Y Y qJ ?_;obtain rfl:=O RX;exact pF Y<|dn<|⟨kq,h,wR []⟩;obtain rfl:=O (V RX);exact ww<|ww<|ww<|pT Y<|dn<|⟨true,h,wR []⟩
 obtain rfl:=O (V RW);refine ww<|ww<|ww<|pT Y<|mv Y<|bE h λWQ Dr h=>?_;obtain rfl:=O (V Dr);exact ww<|ww<|ww<|pT Y<|dn<|⟨true,h,wR []⟩;obtain rfl:=O (V Fl);refine ww<|ww<|ww<|pT Y<|mv Y<|bE h λaga rM h=>?_;obtain rfl:=O (V rM);refine ww<|ww<|ww<|pT Y<|mv Y<|bE h λagb tN h=>?_;obtain rfl:=O (V tN);exact ww<|ww<|ww<|pT Y<|dn<|⟨true,h,wR []⟩
 try dsimp only
 refine aV.n ?_;cases OX;refine fs<|qq<|qq ?_;refine bH (F h) (λMg=>AS.cL 48 [(1,.ptr 1 0),(3,.ptr 3 0),(33,aj Mg)] [(3,⟨97,[ai B3,ai Fb,ai Dn,ai Fe]⟩),(1,⟨25,[ai bu,.sv (slc 1 (List.map (eS 4 eQ) bw)),.sv (slc 1 (List.map (eS 4 eQ) bF)),.sv (slc 4 (List.map eQ bJ))]⟩)] []) (λh=>?_) (λJY h=>?_);refine aW<|fa Y Y<|lV Y Y Y<|lE h λmH vp h=>gt _ Y Y vp<|mv Y<|bE h λOZ sj h=>?_;cases mH;refine RT.fieldAddr (.some Y Y) Y T Y<|RT.rB (.some Y Y) Y Y Y T<|RT.fieldAddr (.some Y Y) Y T Y<|RT.rB (.some Y Y) Y Y Y T<|lE (F sj) λkp qo sj=>gq _ Y Y (IX (p:=Fe) (q:=Dn) qo) ?_;obtain rfl:=O sj;exact pF Y<|dn<|⟨kp,h,wR []⟩;obtain rfl:=O (V sj);exact ww<|ww<|ww<|ww<|ww<|pT Y<|dn<|⟨true,h,wR []⟩
 try dsimp only
 refine aV.n ?_;cases JY;refine fs<|qq ?_;refine bH (F h) (λj16=>AS.cL 48 [(2,aj j16)] [] []) (λh=>?_) (λUm h=>?_);refine bh mixed<|fa Y Y<|lV Y Y Y<|bE h λqa xN h=>cl (z6 xN) ⟨Y,aq⟩<|fa Y Y<|lV Y Y Y<|lE h λvm G5 h=>RT.leq .none _ Y Y T G5<|mv Y<|bE h λOY oD h=>?_;cases vm;obtain rfl:=O (F oD);refine ww<|ww<|ww<|ww<|ww<|ww<|pF Y<|ag Y ?_;refine RT.done ⟨by kernel_rfl,?_⟩;exact aV.n<|⟨false,h,wR []⟩;refine RT.fieldAddr (.some Y Y) Y T Y<|RT.rB (.some Y Y) Y Y Y T<|bE (V oD) λsS DW oD=>gc (z6 DW) ⟨Y,aq⟩<|RT.fieldAddr (.some Y Y) Y T Y<|RT.rB (.some Y Y) Y Y Y T<|lE oD λxj h46 oD=>RT.leq (.some Y Y) _ Y Y T h46 ?_;obtain rfl:=O oD;refine pT Y<|ag Y ?_;refine RT.done ⟨by kernel_rfl,?_⟩;exact aV.n<|⟨xj,h,wR []⟩
 try dsimp only
 refine aV.n<|bf ?_;obtain rfl:=O h;exact R1 Y;refine cT<|sr<|ag Y<|dn<|bf<|aV.r ?_;obtain rfl:=O (V h);exact R1 Y;refine cT<|sr<|ag Y<|dn<|bf<|aV.r ?_;obtain rfl:=O (V h);exact R1 Y
end
end Go.Proofs.YtningmnklfpfjaaGreat
namespace Go.Fw
section
open Go.RowKit
def z9(P:Program)(f:FuncId)(args:Nat->List AV)(T:TypeId)(c:List Oc)(Post:Nat->Mem->World->Value->Prop):Prop:=
 ∀(M:Mem) (w:World) (β:Nat) (vs us:List Value),M.dh w->pP M w β T c us->dx (oM M β) (args β) vs->
  Calls P f ⟨vs⟩ w λe w'=>∃v M',e=.returned v/\M.le M'/\(∀b o x,M' b o=some x->M b o=some x\/w.heap.size<=b)/\M'.dh w'/\Post w.heap.size M' w' v/\
   pP M' w' β T c us/\w'.os=w.os/\w'.tape=w.tape/\w'.output=w.output/\w.heap.size<=w'.heap.size/\∀k,k<w.heap.size->k≠β->¬eE c us k->w'.heap[k]? =w.heap[k]?
def RY(R:Row)(n:Nat)(M':Mem)(w':World)(v:Value):Prop:=∃us,w'.ownsRow 0 R.E R.sz v R.n us/\SV.ec M' R.cells us/\∀g,v.ownBlock=some g->n<=g/\∀o,M' g o=none
theorem Aa{P:Program}{f:FuncId}{fn:Func}{code:Code}{args:Nat->List AV}{T:TypeId}{c:List Oc}{Post:Nat->Mem->World->Value->Prop}(ids:List Nat)(hf:P.funcs[f]? =some fn)(hb:fn.body=some code)(hn:∀β,(args β).length<=fn.ntmps)(DY:∀β,(args β).all AV.oy=true)(yF:ids.Nodup)(M6:ids.length=(rowsOf c).length)(hge:(ids.all λi=>Nat.ble 1000 i)=true)(JX:zo c)(Rq:AS->Prop)
  (h:∀(w:World) (M:Mem) (β:Nat) (us:List Value),Ok P (HQ w M β c us ids hge) code (AS.An fn.ntmps (args β) [(1000,⟨T,ct ids c⟩)] (ids.zip (rowsOf c))) (λe S=>(e=.normal\/e=.ret)/\Rq S/\S.b 1000=some ⟨T,ct ids c⟩/\Lv S ids (rowsOf c)))
  (hr:∀(w:World) (M:Mem) (β:Nat) (us:List Value) (S':AS) (E:Env) (a:Act) (w':World),Rq S'->bn (HQ w M β c us ids hge) S' E a w'->S'.b 1000=some ⟨T,ct ids c⟩->(∀g,eE c us g->∃j∈ids,(E.ν j).ownBlock=some g)->(∀j∈ids,∃R,S'.r j=.live R)->∃v,(results fn a.tmps).run P w'=.ok v w'/\Post w.heap.size E.M w' v):z9 P f args T c Post:=by
 intro M w β vs us hM ho hv;have WH:(bW c us).length=(rowsOf c).length:=by rw[<-gx ho.al,List.length_map]
 have hnd:((ids.zip (bW c us)).map (·.1)).Nodup:=by rw[xX (by omega)];exact yF
 have NA:bn (HQ w M β c us ids hge) (AS.An fn.ntmps (args β) [(1000,⟨T,ct ids c⟩)] (ids.zip (rowsOf c))) ⟨λ_=>β,kE (ids.zip (bW c us)) (λ_=>.nilIface),λ_=>False,M⟩ {tmps:=⟨vs⟩++Array.replicate (fn.ntmps-(⟨vs⟩:Array Value).size) undef,defers:=[]} w:=by
  have h0:=Fi (n:=fn.ntmps) ids hM ho hv (DY β) (hn β) yF M6
  exact{wf:=h0.wf,marks:=h0.marks,size:=h0.size,os:=h0.os,tape:=h0.tape,output:=h0.output,grown:=h0.grown,frame:=h0.frame,m0:=h0.m0,eG:=h0.eG,dh:=h0.dh,tm:=h0.tm,bx:=h0.bx,inj:=h0.inj,rx:=h0.rx,fe:=h0.fe,gK:=h0.gK,ek:=λi v e=>(by
   obtain⟨R,hm⟩:=A0 e
   exact iD hnd hm),kI:=h0.kI,jj:=trivial}
 refine gp Y hf hb NA (h w M β us) ?_;rintro S' E a w' ⟨hq,hB,hL⟩ hh;have hβ:E.β 1000=β:=hh.gK 1000 β Y;obtain⟨us',ho',iX⟩:=nA hh hB hL yF;rw[hβ]at ho';obtain⟨_,_,_,Ns,q2,q3⟩:=hh.bx 1000 _ hB;rw[hβ,ho'.hp]at q2;obtain rfl:us'=Ns:=by
  have:=Option.some.inj q2;injection this with e
  injection e
 obtain⟨_,WL⟩:=qM hh hL q3;have iW:bW c us=bW c us':=by
  rw[WL];have key:∀(ids:List Nat) (l:List (Row×Value)) (Rs:List Row),ids.length=l.length->l.map (·.1)=Rs->(∀i R v,(i,R,v)∈ids.zip l->E.ν i=v)->l=Rs.zip (ids.map E.ν):=by
   intro ids
   induction ids with
   |nil=>intro l Rs hl hm _;cases l with|nil=>cases hm;rfl|cons _ _=>simp at hl
   |cons i ids ih=>
    intro l Rs hl hm hν;cases l with
    |nil=>simp at hl
    |cons p l=>
     cases hm;obtain⟨R,v⟩:=p;rw[List.map_cons,List.map_cons,List.zip_cons_cons,hν i R v (by rw[List.zip_cons_cons];simp),<-ih l _ (by simpa using hl) Y (λi R v hm=>hν i R v (by rw[List.zip_cons_cons];exact List.mem_cons_of_mem _ hm))]
  exact key ids _ _ (by omega) (gx ho.al) (λi R v hm=>hh.ek i v (JV hnd hm))
 obtain rfl:us=us':=A3 JX ho.al ho'.al iW;obtain⟨v,hv,hx⟩:=hr w M β us S' E a w' hq hh hB (λg hg=>(iX g).1 hg) (λj hj=>hL.mem j hj);refine⟨v,hv,v,E.M,Y,hh.m0,λb o x e=>?_,hh.dh,hx,ho',hh.os,hh.tape,hh.output,hh.grown,λk hk hne hno=>hh.frame k hk (λe=>e.elim hne hno)⟩;rcases hh.eG b o x e with q|q|q|q
 ·exact .inl q
 ·exact .inr q
 ·rw[show b=β from q,ho'.nb o]at e;cases e
 rw[(ho'.nr b q).2 o]at e;cases e
theorem O1{P:Program}{w:World}{M:Mem}{β:Nat}{c:List Oc}{us:List Value}{ids:List Nat}{hge:(ids.all λi=>Nat.ble 1000 i)=true}{S':AS}{E:Env}{a:Act}{w':World}{B:og}(hh:bn (HQ w M β c us ids hge) S' E a w')(hB:S'.b 1000=some B)(iX:∀g,eE c us g->∃j∈ids,(E.ν j).ownBlock=some g)(hlv:∀j∈ids,∃R,S'.r j=.live R)
  {k:Nat} {R:Row} (hR:S'.r k=.live R) (hk:k∉ids) (g:Nat) (hg:(E.ν k).ownBlock=some g):w.heap.size<=g:=by
 obtain⟨_,q3⟩:=hh.rx k R hR;obtain⟨q4,q5,_,q7⟩:=q3 g hg;rcases q4 with q4|q4|q4
 ·exact q4
 ·have h1:E.β 1000=β:=hh.gK 1000 β Y;exact absurd (h1.trans (show β=g from(show g=β from q4).symm)) (q7 1000 B hB)
 obtain⟨j,hj,vW⟩:=iX g q4;obtain⟨R',mD⟩:=hlv j hj;have:=hh.fe k j R R' hR mD g hg vW;subst this;exact absurd hj hk
theorem Ab{P:Program}{f:FuncId}{fn:Func}{code:Code}{args:Nat->List AV}{T:TypeId}{c:List Oc}{R:Row}(ids:List Nat)(hf:P.funcs[f]? =some fn)(hb:fn.body=some code)(hn:∀β,(args β).length<=fn.ntmps)(DY:∀β,(args β).all AV.oy=true)(yF:ids.Nodup)(M6:ids.length=(rowsOf c).length)(hge:(ids.all λi=>Nat.ble 1000 i)=true)(JX:zo c)
  (h:∀(w:World) (M:Mem) (β:Nat) (us:List Value),Ok P (HQ w M β c us ids hge) code (AS.An fn.ntmps (args β) [(1000,⟨T,ct ids c⟩)] (ids.zip (rowsOf c))) (λe S=>(e=.normal\/e=.ret)/\(∃k,xq P S fn.results.toList (.row k)/\S.r k=.live R/\k∉ids)/\S.b 1000=some ⟨T,ct ids c⟩/\Lv S ids (rowsOf c))):z9 P f args T c (RY R):=
 Aa ids hf hb hn DY yF M6 hge JX _ h (λw M β us S' E a w' ⟨k,hr,hR,hk⟩ hh hB iX hlv=>by
  obtain⟨v,hv,hx⟩:=hr.run hh;obtain⟨⟨Ns,q1,q2⟩,q3⟩:=hh.rx k R hR;have hx:v=E.ν k:=hx;subst hx;exact⟨_,hv,Ns,q1,q2,λg hg=>⟨O1 (P:=P) hh hB iX hlv hR hk g hg,(q3 g hg).2.1⟩⟩)
section steps
variable {P:Program}{C:Ctx}{ops:Array Oper}{S:AS}{nd:Bool}{K:List Ac->AS->Prop}{rest:List Oper}{acc:List Ac}
variable {gd:Option (Nat×Bool)}{rg:List Nat}{d:Nat}{ty:TypeId}{pos:String}{aft:Array Edge}{x y z:Operand}{T U E0:TypeId}
theorem RT.KW(hg:Gd ops S gd rg){f:FuncId}[dM P f]{g:Operand}{xs:Array Operand}{at_:Array TypeId}{args:List AV}{T:TypeId}{c:List Oc}{R:Row}(hp:z9 P f (λ_=>args) T c (RY R))(i:Nat)(js:List Nat)(hB:S.b i=some ⟨T,ct js c⟩)(hL:Lv S js (rowsOf c))(OU:js.Nodup)
  (DY:args.all AV.oy=true) (hf:S.ev g=.sv (.v (.func (.func f) #[] #[]))) (hargs:sI S xs.toList (args.map (AV.RQ i))) (hd:d<S.n) (xp:S.r d=.un) (uZ:d<1000)
  (next:RunT P C ops nd K rest (⟨rg++(aX g++xs.toList.flatMap aX),[i],d::js,⟨some (d,.row d),[],[(d,.live R)]⟩⟩::acc) ((AS.cc [(d,.live R)] S).set d (.row d))):RunT P C ops nd K (⟨some d,.call ⟨.value g,xs,at_⟩,ty,pos,aft,gd⟩::rest) acc S:=by
 refine .inl ⟨_,[i],d::js,_,?_,next⟩;rintro S' hn ht hb hr k a w L Q ho ⟨E,h⟩ WI;refine cD (C:=C) ho (hg.wanted h (λs hs=>ht s (List.mem_append_left _ hs)) Y) ?_;have r8:a.eval g=.func (.func f) #[] ⟨[]⟩:=by
  have h1:=h.ev g;rw[bA (λ_ h=>List.mem_append_right _ (List.mem_append_left _ h)) ht,hf]at h1;exact h1
 have hall:=xY DY (sI.vals h hargs (λs hs=>ht s (List.mem_append_right _ (List.mem_append_right _ hs))));have fH:S'.b i=some ⟨T,ct js c⟩:=by rw[hb i (by simp)];exact hB
 have OV:Lv S' js (rowsOf c):=hL.congr (λk hk=>hr k (List.mem_cons_of_mem _ hk));have Jd:S'.r d=.un:=by rw[hr d (by simp)];exact xp
 obtain⟨us,KU,z7⟩:=nA h fH OV OU;refine cz (C:=C) (by intro c h;cases h) (lH r8) ?_;rw[List.append_nil];refine⟨λh=>by simp at h,gB ((hp E.M w (E.β i) _ us h.dh KU hall).mono ?_)⟩;rintro e w' ⟨v,M',rfl,hM,hnew,hin,⟨Ns,hv,hc,hfr⟩,IZ,hos,oJ,hout,hsize,iX⟩;have h1:=(h.Fk fH OV OU KU hM hnew hin IZ hos oJ hout hsize iX).AN Jd uZ [] none (.inl ⟨Y,Y⟩) (R':=R) hv hc (λg hg=>.inr (h.xx (hfr g hg).1 (hfr g hg).2)) (oz w' none);refine WI _ _ ⟨_,h1.put (x:=.row d) (v:=v) (by simp[AV.holds]) (by show d<S'.n;omega) ⟨λ_ e=>e.elim,λj e=>?_⟩⟩;cases e;show(AS.ou S' d _).r d≠_;rw[AS.gM];simp
end steps
end
section
open Go.RowKit
instance{cs:List SV}:One (ref cs):=⟨λ_ _ h=>by obtain⟨b,o,rfl,_⟩:=h;rfl⟩
section steps
variable {P:Program}{C:Ctx}{ops:Array Oper}{S:AS}{nd:Bool}{K:List Ac->AS->Prop}{rest:List Oper}{acc:List Ac}
variable {gd:Option (Nat×Bool)}{rg:List Nat}{d:Nat}{ty:TypeId}{pos:String}{aft:Array Edge}{x y z:Operand}{T U E0:TypeId}
theorem RT.dg(hg:Gd ops S gd rg){cs:List SV}(hx:S.ev x=.sv (ref cs))(hd:d<S.n)
  (next:RunT P C ops nd K rest (⟨rg++aX x,[],[],⟨some (d,.sv (ref cs)),[],[]⟩⟩::acc) (S.set d (.sv (ref cs)))):RunT P C ops nd K (⟨some d,.nilCheck x,ty,pos,aft,gd⟩::rest) acc S:=
 RT.value hg (aX x) [] [] (.sv (ref cs)) hd (by intro c h;cases h) (λS' ht _ _ E a w h=>by
  have h1:=h.ev x;rw[bA (λ_ h=>h) ht,hx]at h1;have h1:(ref cs).h E.M (a.eval x):=h1;obtain⟨b,o,e,h2⟩:=h1;exact⟨a.eval x,by simp[execOp,e],⟨b,o,e,h2⟩,fg⟩) next
theorem RT.WR(hg:Gd ops S gd rg)[tT:OW P T]{cs:List SV}(hx:S.ev x=.sv (ref cs))(hy:S.ev y=.sv (.v (.pointer none)))(hd:d<S.n)
  (next:RunT P C ops nd K rest (⟨rg++(aX x++aX y),[],[],⟨some (d,.sv (.v (.bool false))),[],[]⟩⟩::acc) (S.set d (.sv (.v (.bool false))))):RunT P C ops nd K (⟨some d,.binOp .eql T x y U,ty,pos,aft,gd⟩::rest) acc S:=
 RT.value hg (aX x++aX y) [] [] (.sv (.v (.bool false))) hd (by intro c h;cases h) (λS' ht _ _ E a w h=>by
  have h1:=h.ev x;rw[bA (λ_ h=>List.mem_append_left _ h) ht,hx]at h1;have h2:=h.ev y;rw[bA (λ_ h=>List.mem_append_right _ h) ht,hy]at h2;have h1:(ref cs).h E.M (a.eval x):=h1;obtain⟨b,o,h1,_⟩:=h1;have h2:a.eval y=.pointer none:=h2;have e:=run_eql_pointer_nil (P:=P) w T (some ⟨b,o,none⟩) tT.u;refine⟨.bool false,?_,Y,fg⟩;simp[execOp,h1,h2,eqGuard,e]) next
end steps
end
section
open Go.RowKit
noncomputable def vE(M:Mem)(w:World)(p:Nat->Prop):Mem:=λb o=>@ite _ (p b) (Classical.propDecidable _) (match w.cell? ⟨b,o,none⟩with|some v=>if v.oneCell'=true then some v else none|none=>none) (M b o)
noncomputable def yc(M:Mem)(p:Nat->Prop):Mem:=λb o=>@ite _ (p b) (Classical.propDecidable _) none (M b o)
theorem HR{M:Mem}{w:World}{p:Nat->Prop}{b o:Nat}{v:Value}(hb:p b)(hc:w.cell? ⟨b,o,none⟩=some v)(h1:v.oneCell'=true):vE M w p b o=some v:=by
 unfold vE;rw[if_pos hb,hc];simp[h1]
theorem Mu{M:Mem}{w:World}{p:Nat->Prop}(h:M.dh w):(vE M w p).dh w:=λb o v e=>by
 unfold vE at e;split at e
 ·split at e
  ·rename_i q;split at e
   ·rename_i h1;cases e;exact Fact.of q h1
   cases e
  cases e
 exact h b o v e
theorem yd{M:Mem}{w:World}{p:Nat->Prop}(h:∀b,p b->∀o,M b o=none):M.le (vE M w p):=λb o v e=>by
 unfold vE;rw[if_neg];exact e;intro hb;rw[h b hb o]at e;cases e
theorem HS{M:Mem}{p:Nat->Prop}:(yc M p).le M:=λb o v e=>by
 unfold yc at e;split at e
 ·cases e
 exact e
theorem HT{M:Mem}{p:Nat->Prop}{b o:Nat}{v:Value}(hb:¬p b)(e:M b o=some v):yc M p b o=some v:=by unfold yc;rw[if_neg hb];exact e
theorem Ch{M:Mem}{p:Nat->Prop}{b:Nat}(hb:p b)(o:Nat):yc M p b o=none:=by unfold yc;rw[if_pos hb]
def OcI:List Oc->List SV->Prop
 |[],[]=>True
 |.s x::l,y::k=>(SV.imp x y/\∀M v,x.h M v->v.oneCell'=true)/\OcI l k
 |.r R::l,y::k=>(∃rows,Rows R.sz rows R.cells/\rows.length=R.n/\(∀M vs,SV.ec M R.cells vs->∀v∈vs,v.oneCell'=true)/\SV.imp (slc R.sz rows) y)/\OcI l k
 |_,_=>False
theorem cW{E:TypeId}{n:Nat}{α:Type}{e:α->List SV}{l:List α}[el:EL e n]:∃rows,Rows (TR E n e l).sz rows (TR E n e l).cells/\rows.length=(TR E n e l).n/\(∀M vs,SV.ec M (TR E n e l).cells vs->∀v∈vs,v.oneCell'=true)/\SV.imp (slc (TR E n e l).sz rows) (slc n (l.map e)):=
 ⟨l.map e,qD l,by simp,mF l,au⟩
theorem O2{M:Mem}{w:World}{p:Nat->Prop}{R:Row}{v:Value}{rows:List (List SV)}(hno:∀b,p b->∀o,M b o=none)(hb:∀g,v.ownBlock=some g->p g)(ho:∃vs:List Value,w.ownsRow 0 R.E R.sz v R.n vs/\SV.ec M R.cells vs)
  (iW:Rows R.sz rows R.cells) (hn:rows.length=R.n) (hone:∀M vs,SV.ec M R.cells vs->∀v∈vs,v.oneCell'=true):(slc R.sz rows).h (vE M w p) v/\v.oneCell'=true:=by
 obtain⟨vs,hown,hvs⟩:=ho;have ry:=sF iW;rcases hown.2 with⟨h1,h2⟩|⟨g,cap,cur,h1,_,h2,h3,h4,h5,h6⟩
 ·rw[h2]at hn;exact⟨.inl ⟨none,h1,List.length_eq_zero_iff.1 hn⟩,by rw[h1];rfl⟩
 have hg:p g:=hb g (by rw[h1];rfl);have hm:maxLen=9223372036854775807:=by decide
 refine⟨.inr ⟨g,0,cap,by rw[h1,hn],by rw[hn];exact h3,by omega,λk row hk=>?_⟩,by rw[h1];rfl⟩;obtain⟨q1,q2⟩:=qA iW k row hk;refine⟨q1,λj s hs=>?_⟩;have C7:=q2 j s hs;obtain⟨y,hy,hys⟩:=hvs.get C7;have hlt:k*R.sz+j<R.n*R.sz:=by
  have:=(List.getElem?_eq_some_iff.1 C7).1;rw[ry,hn]at this;exact this
 have h1':=hone _ _ hvs y (List.mem_of_getElem? hy);refine⟨y,HR hg ?_ h1',h1',s.mono (yd hno) hys⟩;rw[<-h6,List.getElem?_take,if_pos hlt]at hy;simp only[World.cell?,h2];simpa using hy
theorem Fm{M:Mem}{w:World}{p:Nat->Prop}(hno:∀b,p b->∀o,M b o=none):∀{c:List Oc} {cs:List SV} {us:List Value} {k:Nat} {s:SV},OcI c cs->pO M w c us->(∀q∈bW c us,∀g,q.2.ownBlock=some g->p g)->cs[k]? =some s->∃y,us[k]? =some y/\y.oneCell'=true/\s.h (vE M w p) y
 |.s x::l,y::cs,u::us,k,s,hi,ho,hb,hk=>by
  cases k with
  |zero=>cases hk;exact⟨u,rfl,hi.1.2 _ _ ho.1,y.mono (yd hno) (hi.1.1 _ _ ho.1)⟩
  |succ k=>exact Fm hno (c:=l) (cs:=cs) (us:=us) (k:=k) hi.2 ho.2 hb hk
 |.r R::l,y::cs,u::us,k,s,hi,ho,hb,hk=>by
  cases k with
  |zero=>
   cases hk;obtain⟨rows,q1,q2,q3,q4⟩:=hi.1;obtain⟨r1,r2⟩:=O2 hno (λg hg=>hb (R,u) (by rw[bW];simp) g hg) ho.1 q1 q2 q3;exact⟨u,Y,r2,q4 _ _ r1⟩
  |succ k=>exact Fm hno (c:=l) (cs:=cs) (us:=us) (k:=k) hi.2 ho.2 (λq hq=>hb q (by rw[bW];exact List.mem_cons_of_mem _ hq)) hk
 |[],[],_,_,_,_,_,_,hk=>by simp at hk
 |[],_::_,_,_,_,hi,_,_,_=>hi.elim
 |.s _::_,[],_,_,_,hi,_,_,_=>hi.elim
 |.r _::_,[],_,_,_,hi,_,_,_=>hi.elim
 |.s _::_,_::_,[],_,_,_,ho,_,_=>ho.elim
 |.r _::_,_::_,[],_,_,_,ho,_,_=>ho.elim
theorem wQ{M M':Mem}{w w':World}(hM:M.le M'):∀{c:List Oc} {us:List Value},pO M w c us->(∀q∈bW c us,∀g,q.2.ownBlock=some g->w'.heap[g]? =w.heap[g]?)->pO M' w' c us
 |[],[],_,_=>trivial
 |.s x::l,u::us,h,hs=>⟨x.mono hM h.1,wQ hM (c:=l) (us:=us) h.2 hs⟩
 |.r R::l,u::us,h,hs=>by
  obtain⟨vs,h1,h2⟩:=h.1;exact⟨⟨vs,dB h1 (λg hg=>hs (R,u) (by rw[bW];simp) g hg),h2.mono hM⟩,wQ hM (c:=l) (us:=us) h.2 (λq hq=>hs q (by rw[bW];exact List.mem_cons_of_mem _ hq))⟩
 |[],_::_,h,_=>h.elim
 |.s _::_,[],h,_=>h.elim
 |.r _::_,[],h,_=>h.elim
def AV.aaD(cells:List SV):AV->SV
 |.sv s=>s
 |_=>ref cells
def AV.Up:AV->Bool
 |.sv _=>true
 |.ptr i o=>Nat.beq i 1000&&Nat.beq o 0
 |_=>false
theorem HU{M M':Mem}{β:Nat}{cells:List SV}(hM:M.le M')(hc:(ref cells).h M' (.pointer (some ⟨β,0,none⟩))):∀{args:List AV} {vs:List Value},(args.all AV.Up)=true->dx (oM M β) args vs->SV.ec M' (args.map (AV.aaD cells)) vs
 |[],[],_,_=>trivial
 |x::l,v::vs,hy,h=>by
  rw[List.all_cons,Bool.and_eq_true]at hy;refine⟨?_,HU hM hc hy.2 h.2⟩;cases x with
  |sv s=>exact s.mono hM h.1
  |ptr i o=>
   have h1:=Bool.and_eq_true_iff.1 hy.1;have e:v=.pointer (some ⟨β,o,none⟩):=h.1;rw[e,Nat.eq_of_beq_eq_true h1.2];exact hc
  |_=>exact(Bool.false_ne_true hy.1).elim
 |[],_::_,_,h=>h.elim
 |_::_,[],_,h=>h.elim
theorem dW{P:Program}{f:FuncId}{args:List AV}{T:TypeId}{c:List Oc}{cells:List SV}{r:Nat->SV}{res:SV}(hp:∀N,cP P f N (args.map (AV.aaD cells)) (r N))(hy:args.all AV.Up=true)(hi:OcI c cells)(hr:∀N M v,(r N).h M v->res.h (M.fr N) v):wP P f args T c res:=by
 intro M w β vs us hM ho hv;have hno:∀b,(b=β\/eE c us b)->∀o,M b o=none:=λb hb o=>by
  rcases hb with rfl|hb
  ·exact ho.nb o
  exact(ho.nr b hb).2 o
 have hlt:∀b,(b=β\/eE c us b)->b<w.heap.size:=λb hb=>by
  rcases hb with rfl|⟨q,hq,hg⟩
  ·exact(Array.getElem?_eq_some_iff.1 ho.hp).1
  obtain⟨ws,h1,_⟩:=kY ho.al q hq;rcases h1.2 with⟨h2,_⟩|⟨g,cap,cur,h2,_,h3,_⟩
  ·rw[h2]at hg;cases hg
  rw[h2]at hg;cases hg;exact(Array.getElem?_eq_some_iff.1 h3).1
 have ry:(ref cells).h (vE M w (λb=>b=β\/eE c us b)) (.pointer (some ⟨β,0,none⟩)):=⟨β,0,Y,λk s hk=>by
  obtain⟨y,h1,h2,h3⟩:=Fm hno hi ho.al (λq hq g hg=>.inr ⟨q,hq,hg⟩) hk;refine⟨y,HR (.inl Y) ?_ h2,h2,h3⟩;simp only[World.cell?,ho.hp];simpa using h1⟩
 refine(hp w.heap.size _ w vs (Nat.le_refl _) (Mu hM) (HU (yd hno) ry hy hv)).mono ?_;rintro e w' ⟨v,M',rfl,hM',hnew,agc,hres,hb⟩;have hMM:M.le (yc M' (λb=>b=β\/eE c us b)):=λb o x e=>HT (λhb=>by rw[hno b hb o]at e;cases e) (hM' b o x (yd hno b o x e));refine⟨v,yc M' (λb=>b=β\/eE c us b),Y,hMM,λb o x e=>?_,λb o x e=>agc b o x (HS b o x e),res.mono (λb o x e=>?_) (hr _ _ _ hres),?_,hb.os,hb.tape,hb.output,hb.size,λk hk _ _=>hb.block k hk⟩
 ·rcases hnew b o x (HS b o x e)with q|q
  ·refine .inl ?_;unfold vE at q;split at q
   ·rename_i AO;have e2:yc M' (λb=>b=β\/eE c us b) b o=none:=Ch (p:=λb=>b=β\/eE c us b) AO o;rw[e2]at e;cases e
   exact q
  exact .inr q
 ·unfold Mem.fr at e;split at e
  ·rename_i hN;exact HT (λAO=>by have:=hlt b AO;omega) e
  cases e
 exact⟨by rw[hb.block β (hlt β (.inl Y))];exact ho.hp,wQ hMM ho.al (λq hq g hg=>hb.block g (hlt g (.inr ⟨q,hq,hg⟩))),λo=>Ch (p:=λb=>b=β\/eE c us b) (.inl Y) o,λg hg=>⟨(ho.nr g hg).1,λo=>Ch (p:=λb=>b=β\/eE c us b) (.inr hg) o⟩,ho.ap⟩
theorem mZ{P:Program}{f:FuncId}{args:List SV}{r:SV}(h:Pure P f args r)(N:Nat):cP P f N args r:=λM w vs _ hM hv=>h M w vs hM hv
theorem WS{s:SV}:∀(N:Nat) (M:Mem) (v:Value),(nw N s).h M v->s.h (M.fr N) v:=λ_ _ _ h=>h.1
theorem A4{l:List Qr}:∀(N:Nat) (M:Mem) (v:Value),(nw N (slc 4 (l.map (fQ N)))).h M v->(slc 4 (l.map eQ)).h (M.fr N) v:=λN M v h=>NV (M.fr N) v (by
 obtain⟨h1,h2⟩:=h;rw[<-Mem.GK]at h1;exact⟨h1,λg e=>by rw[Mem.GK];exact h2 g e⟩)
theorem KX{x:Value}:∀(N:Nat) (M:Mem) (v:Value),(SV.v x).h M v->(SV.v x).h (M.fr N) v:=λ_ _ _ h=>h
theorem Fo{P:Program}{f:FuncId}{fn:Func}{code:Code}{args:Nat->List AV}{T:TypeId}{c:List Oc}{res:SV}(ids:List Nat)(hf:P.funcs[f]? =some fn)(hb:fn.body=some code)(hn:∀β,(args β).length<=fn.ntmps)(DY:∀β,(args β).all AV.oy=true)(yF:ids.Nodup)(M6:ids.length=(rowsOf c).length)(hge:(ids.all λi=>Nat.ble 1000 i)=true)(JX:zo c)
  (h:∀(w:World) (M:Mem) (β:Nat) (us:List Value),Ok P (HQ w M β c us ids hge) code (AS.An fn.ntmps (args β) [(1000,⟨T,ct ids c⟩)] (ids.zip (rowsOf c))) (λe S=>(e=.normal\/e=.ret)/\MZ P S fn.results.toList res/\S.b 1000=some ⟨T,ct ids c⟩/\Lv S ids (rowsOf c))):z9 P f args T c (λ_ M' _ v=>res.h M' v):=
 Aa ids hf hb hn DY yF M6 hge JX _ h (λw M β us S' E a w' hr hh _ _ _=>by
  obtain⟨v,hv,hx⟩:=(xq.sv hr).run hh;exact⟨v,hv,hx⟩)
section steps
variable {P:Program}{C:Ctx}{ops:Array Oper}{S:AS}{nd:Bool}{K:List Ac->AS->Prop}{rest:List Oper}{acc:List Ac}{Q:Exit->AS->Prop}
variable {gd:Option (Nat×Bool)}{rg:List Nat}{d:Nat}{ty:TypeId}{pos:String}{aft:Array Edge}{x y z:Operand}{T U E0:TypeId}
theorem R3{c:Code}{i k β:Nat}(hp:C.gK k=some β)(hB:S.b i=some ⟨T,[.ptr k 0]⟩)(h:Ok P C c (S.jW i ⟨T,[.sv (.v (.pointer (some ⟨β,0,none⟩)))]⟩) Q):Ok P C c S Q:=λa w ⟨E,hh⟩=>by
 refine h a w ⟨E,?_⟩;have hβ:E.β k=β:=hh.gK k β hp;have Am:∀j B,(S.jW i ⟨T,[.sv (.v (.pointer (some ⟨β,0,none⟩)))]⟩).b j=some B->(j=i/\B=⟨T,[.sv (.v (.pointer (some ⟨β,0,none⟩)))]⟩)\/(j≠i/\S.b j=some B):=λj B e=>by
  by_cases hj:j=i
  ·subst hj;rw[AS.cX]at e;cases e;exact .inl ⟨rfl,rfl⟩
  rw[AS.bX _ _ _ _ hj]at e;exact .inr ⟨hj,e⟩
 have bTo:∀j,(∃B,S.b j=some B)->∃B,(S.jW i ⟨T,[.sv (.v (.pointer (some ⟨β,0,none⟩)))]⟩).b j=some B:=λj ⟨B,e⟩=>by
  by_cases hj:j=i
  ·subst hj;exact⟨_,AS.cX _ _ _⟩
  exact⟨B,by rw[AS.bX _ _ _ _ hj];exact e⟩
 have WT:∀j B,(S.jW i ⟨T,[.sv (.v (.pointer (some ⟨β,0,none⟩)))]⟩).b j=some B->∃B',S.b j=some B':=λj B e=>by
  rcases Am j B e with⟨rfl,_⟩|⟨_,q⟩
  ·exact⟨_,hB⟩
  exact⟨_,q⟩
 exact{hh with
  wf:=⟨λs j hj=>bTo j (hh.wf.tb s j hj),hh.wf.tr,λj B e y hy m hm=>by
    rcases Am j B e with⟨rfl,rfl⟩|⟨_,q⟩
    ·obtain rfl:y=_:=by simpa using hy
     exact(hm:False).elim
    ·exact bTo m (hh.wf.bb j B q y hy m hm),λj B e y hy m hm=>by
    rcases Am j B e with⟨rfl,rfl⟩|⟨_,q⟩
    ·obtain rfl:y=_:=by simpa using hy
     exact(hm:False).elim
    exact hh.wf.br j B q y hy m hm⟩
  bx:=λj B e=>by
   rcases Am j B e with⟨rfl,rfl⟩|⟨_,q⟩
   ·obtain⟨h1,h2,h3,vs,h4,h5⟩:=hh.bx j _ hB;refine⟨h1,h2,h3,vs,h4,?_⟩
    match vs,h5 with
    |[v],h5=>exact⟨(show v=.pointer (some ⟨β,0,none⟩)from hβ▸h5.1),aq⟩
   exact hh.bx j B q
  inj:=λj j' B B' e e' q=>by
   obtain⟨_,h1⟩:=WT j B e;obtain⟨_,h2⟩:=WT j' B' e';exact hh.inj j j' _ _ h1 h2 q
  rx:=λj R hR=>by
   obtain⟨p1,p2⟩:=hh.rx j R hR;refine⟨p1,λg hg=>?_⟩;obtain⟨q1,q2,q3,q4⟩:=p2 g hg;refine⟨q1,q2,q3,λm B e=>?_⟩;obtain⟨_,h1⟩:=WT m B e
   exact q4 m _ h1}
theorem RT.zq(hg:Gd ops S gd rg)[tV:ru P T]{k β:Nat}{B:og}(hx:S.ev x=.sv (ref [.v (.pointer (some ⟨β,0,none⟩))]))(hp:C.gK k=some β)(hB:S.b k=some B)(hd:d<S.n)
  (next:RunT P C ops nd K rest (⟨rg++aX x,[k],[],⟨some (d,.ptr k 0),[],[]⟩⟩::acc) (S.set d (.ptr k 0))):RunT P C ops nd K (⟨some d,.load T x,ty,pos,aft,gd⟩::rest) acc S:=
 RT.value hg (aX x) [k] [] (.ptr k 0) hd (by intro c h;cases h) (λS' ht hb _ E a w h=>by
  have h1:=h.ev x;rw[bA (λ_ h=>h) ht,hx]at h1;obtain⟨b,o,e,hc⟩:=h1;obtain⟨u,hu,Yv,hs⟩:=hc 0 _ Y;have hβ:E.β k=β:=h.gK k β hp;have hs:u=.pointer (some ⟨β,0,none⟩):=hs;refine⟨u,?_,by show u=.pointer (some ⟨E.β k,0,none⟩);rw[hβ];exact hs,λj e=>?_,λj e=>e.elim⟩
  ·have Vf:w.cell? ⟨b,o,none⟩=some u:=(h.dh _ _ _ hu).cell Yv;simp[execOp,e,Instr.loadAt,Instr.sureAddr,loadVar,tV.isAgg,Vf]
  have e:j=k:=e;subst e;exact⟨B,by rw[hb j (by simp)];exact hB⟩) next
theorem RT.R4(hg:Gd ops S gd rg){f:FuncId}[dM P f]{g:Operand}{xs:Array Operand}{at_:Array TypeId}{args:List AV}{caps:Nat->List SV}{β:Nat}{T:TypeId}{c:List Oc}{res:SV}(hp:z9 P f (λβ=>args++(caps β).map AV.sv) T c (λ_ M' _ v=>res.h M' v))(i:Nat)(js:List Nat)(Jj:C.gK i=some β)(hB:S.b i=some ⟨T,ct js c⟩)(hL:Lv S js (rowsOf c))(OU:js.Nodup)
  (DY:args.all AV.oy=true) (hf:S.ev g=.sv (jA f (caps β))) (hargs:sI S xs.toList (args.map (AV.RQ i))) (hd:d<S.n)
  (next:RunT P C ops nd K rest (⟨rg++(aX g++xs.toList.flatMap aX),[i],js,⟨some (d,.sv res),[],[]⟩⟩::acc) (S.set d (.sv res))):RunT P C ops nd K (⟨some d,.call ⟨.value g,xs,at_⟩,ty,pos,aft,gd⟩::rest) acc S:=by
 refine .inl ⟨_,[i],js,_,?_,next⟩;rintro S' hn ht hb hr k a w L Q ho ⟨E,h⟩ WI;refine cD (C:=C) ho (hg.wanted h (λs hs=>ht s (List.mem_append_left _ hs)) Y) ?_;have r8:(jA f (caps β)).h E.M (a.eval g):=by
  have h1:=h.ev g;rw[bA (λ_ h=>List.mem_append_right _ (List.mem_append_left _ h)) ht,hf]at h1;exact h1
 obtain⟨nU,r8,xh⟩:=r8;have hβ:E.β i=β:=h.gK i β Jj;have hall:=xY DY (sI.vals h hargs (λs hs=>ht s (List.mem_append_right _ (List.mem_append_right _ hs))));have fH:S'.b i=some ⟨T,ct js c⟩:=by rw[hb i (by simp)];exact hB
 have OV:Lv S' js (rowsOf c):=hL.congr (λk hk=>hr k hk);obtain⟨us,KU,z7⟩:=nA h fH OV OU;have aaE:dx (oM E.M (E.β i)) (args++(caps (E.β i)).map AV.sv) (xs.toList.map a.eval++nU):=hall.append (dx.xk (E:=oM E.M (E.β i)) (by rw[hβ];exact xh));have hrun:(execOp a.eval ⟨some d,.call ⟨.value g,xs,at_⟩,ty,pos,aft,gd⟩).run P w=.ok (.enter f ⟨xs.toList.map a.eval++nU⟩) w:=by
  have e2:xs.map a.eval++⟨nU⟩=⟨xs.toList.map a.eval++nU⟩:=by apply Array.ext';simp
  have e1:=dM.run (P:=P) (f:=f) (xs.map a.eval++⟨nU⟩) w;rw[<-e2];simp[execOp,resolve,r8,Deferred.ofValue,invoke,e1]
 refine cz (C:=C) (by intro c h;cases h) hrun ?_;refine⟨λh=>by simp at h,gB ((hp E.M w (E.β i) _ us h.dh KU aaE).mono ?_)⟩;rintro e w' ⟨v,M',rfl,hM,hnew,hin,hv,IZ,hos,oJ,hout,hsize,iX⟩;have h1:=h.Fk fH OV OU KU hM hnew hin IZ hos oJ hout hsize iX;exact WI _ _ ⟨_,h1.put (x:=.sv res) (v:=v) hv (by show d<S'.n;omega) fg⟩
theorem KY{α:Type}(l k:List α):(uB l k).length=l.length:=by unfold uB;simp;omega
theorem DZ{M:Mem}{b:Nat}{α:Type}{e:α->List SV}[el:EL e 1]:∀(k:List α) (o:Nat),(∀(i:Nat) (row:List SV),(k.map e)[i]? =some row->∀(q:Nat) (s:SV),row[q]? =some s->∃y,M b (o+i*1+q)=some y/\y.oneCell'=true/\s.h M y)->∃cs:List Value,cs.length=k.length/\SV.ec M (k.flatMap e) cs/\∀j v,cs[j]? =some v->M b (o+j)=some v/\v.oneCell'=true
 |[],_,_=>⟨[],Y,aq,λj v h=>by simp at h⟩
 |x::k,o,h=>by
  obtain⟨cs,h1,h2,h3⟩:=DZ k (o+1) (λi row hr q s hs=>by
   have:=h (i+1) row (by simpa using hr) q s hs;rwa[show o+(i+1)*1+q=o+1+i*1+q by omega]at this)
  have hl:=el.len x
  match he:e x,hl with
  |[s],_=>
   obtain⟨y,q1,q2,q3⟩:=h 0 [s] (by simp[he]) 0 s Y;refine⟨y::cs,by simp[h1],?_,λj v hj=>?_⟩
   ·rw[List.flatMap_cons,he];exact⟨q3,h2⟩
   cases j with
   |zero=>cases hj;exact⟨by simpa using q1,q2⟩
   |succ j=>rw[show o+(j+1)=o+1+j by omega];exact h3 j v (by simpa using hj)
theorem Ci{M:Mem}{α:Type}{e:α->List SV}[el:EL e 1]:∀(l:List α) (vs:List Value) (m:Nat),SV.ec M (l.flatMap e) vs->SV.ec M ((l.drop m).flatMap e) (vs.drop m)
 |l,vs,0,h=>by simpa using h
 |[],vs,m+1,h=>by
  cases vs with
  |nil=>trivial
  |cons _ _=>exact h.elim
 |x::l,vs,m+1,h=>by
  have hl:=el.len x
  match he:e x,hl with
  |[s],_=>
   rw[List.flatMap_cons,he]at h
   match vs,h with
   |v::vs,h=>exact Ci l vs m h.2
theorem RT.Uq(hg:Gd ops S gd rg)[tS:eP P T E0 1]{α:Type}{e:α->List SV}[el:EL e 1]{i:Nat}{E1:TypeId}{l k:List α}{m:Int}(hx:S.ev x=.row i)(hR:S.r i=.live (TR E1 1 e l))(hy:S.ev y=.sv (slc 1 (k.map e)))(hd:d<S.n)(hm:((Min.min k.length l.length:Nat):Int)=m)
  (next:RunT P C ops nd K rest (⟨rg++(aX x++aX y),[],[i],⟨some (d,.sv (.v (.int .i64 m))),[],[(i,.live (TR E1 1 e (uB l k)))]⟩⟩::acc) ((AS.cc [(i,.live (TR E1 1 e (uB l k)))] S).set d (.sv (.v (.int .i64 m))))):RunT P C ops nd K (⟨some d,.call ⟨.builtin .copy,#[x,y],#[T,U]⟩,ty,pos,aft,gd⟩::rest) acc S:=by
 subst hm;refine .inl ⟨_,[],[i],_,?_,next⟩;rintro S' hn' ht _ KA ix a w L Q ho ⟨E,h⟩ hL;refine cD (C:=C) ho (hg.wanted h (λs hs=>ht s (List.mem_append_left _ hs)) Y) ?_;have mD:S'.r i=.live (TR E1 1 e l):=by rw[KA i (by simp)];exact hR
 have h1:a.eval x=E.ν i:=by
  have h1:=h.ev x;rw[bA (λ_ h=>List.mem_append_right _ (List.mem_append_left _ h)) ht,hx]at h1;exact h1
 have h2:(slc 1 (k.map e)).h E.M (a.eval y):=by
  have h2:=h.ev y;rw[bA (λ_ h=>List.mem_append_right _ (List.mem_append_right _ h)) ht,hy]at h2;exact h2
 have hsrc:∃sa sc,a.eval y=.slice sa k.length sc:=by
  rcases h2 with⟨sa,q1,q2⟩|⟨b,o,c,q1,_⟩
  ·have:k=[]:=List.map_eq_nil_iff.1 q2;subst this;exact⟨sa,0,q1⟩
  rw[List.length_map]at q1;exact⟨_,c,q1⟩
 obtain⟨⟨us,hown,Al⟩,_⟩:=h.rx i _ mD;have WU:∃da dc,E.ν i=.slice da l.length dc:=by
  rcases hown.2 with⟨q1,q2⟩|⟨g,cap,cur,q1,_⟩
  ·have q2:l.length=0:=q2;exact⟨none,0,by rw[q2];exact q1⟩
  exact⟨_,cap,q1⟩
 obtain⟨sa,sc,hs⟩:=hsrc;by_cases h0:Nat.min k.length l.length=0
 ·obtain⟨da,dc,hdv⟩:=WU;have hc:uB l k=l:=by
   rcases Nat.eq_zero_or_pos l.length with q|q
   ·have:=List.length_eq_zero_iff.1 q;subst this;simp[uB]
   have:k.length=0:=by
    have h0:Min.min k.length l.length=0:=h0;omega
   have:=List.length_eq_zero_iff.1 this;subst this;simp[uB]
  have hr:(execOp a.eval ⟨some d,.call ⟨.builtin .copy,#[x,y],#[T,U]⟩,ty,pos,aft,gd⟩).run P w=.ok (.value (goInt 0)) w:=by
   have:=run_copy_none (P:=P) w T U ty E0 da sa l.length dc k.length sc tS.u tS.s h0;simp[execOp,resolve,invoke,builtin,h1,hs,hdv,this]
  refine cz (C:=C) (by intro c h;cases h) hr (hL _ _ ⟨E,?_⟩);rw[hc];have e0:((Min.min k.length l.length:Nat):Int)=0:=by
   have h0:Min.min k.length l.length=0:=h0;rw[h0];rfl
  rw[e0];have:AS.app S' ⟨some (d,.sv (.v (.int .i64 0))),[],[(i,.live (TR E1 1 e l))]⟩=S'.set d (.sv (.v (.int .i64 0))):=by
   show(AS.ou S' i _).set d _=_;rw[AS.yK mD]
  rw[this];exact h.put (x:=.sv (.v (.int .i64 0))) (v:=.int .i64 0) Y (by show d<S'.n;omega) fg
 have hpos:0<Min.min k.length l.length:=Nat.pos_of_ne_zero h0;obtain⟨g,vW⟩:∃g,(E.ν i).ownBlock=some g:=by
  rcases hown.2 with⟨_,q2⟩|⟨g,cap,cur,q1,_⟩
  ·have q2:l.length=0:=q2;omega
  exact⟨g,by rw[q1];rfl⟩
 obtain⟨cur,vs,q1,q2,q3,q4,cap,q5,q6,q7,q8⟩:=sH h mD vW;replace q2:cur.take (l.length*1)=vs:=q2;replace q3:vs.length=l.length*1:=q3;replace q6:l.length<=cap:=q6;replace q8:cur.length=cap*1:=q8;rcases h2 with⟨sa',r1,r2⟩|⟨b,o,c,r1,_,_,r4⟩
 ·have:k=[]:=List.map_eq_nil_iff.1 r2;subst this;simp at hpos
 rw[List.length_map]at r1;rw[hs]at r1;cases r1;obtain⟨cs,c1,c2,c3⟩:=DZ (M:=E.M) (b:=b) (e:=e) (k.take (Min.min k.length l.length)) o (λj row hr q s hq=>by
  refine(r4 j row ?_).2 q s hq;rw[List.map_take,List.getElem?_take]at hr;split at hr
  ·exact hr
  cases hr)
 have ry:cs.length=Nat.min k.length l.length:=by rw[c1,List.length_take];show Min.min (Min.min k.length l.length) k.length=Min.min k.length l.length;omega
 have JZ:cs.length=Min.min k.length l.length:=ry;have hrun:=run_copy_row (P:=P) w T U ty E0 g 0 l.length cap ⟨b,o,none⟩ k.length sc ⟨cur⟩ E1 cs tS.u tS.s q1 ry (λj v hj=>by
  rw[fY];exact(h.dh _ _ _ (c3 j v hj).1).cell (c3 j v hj).2) (by simp;omega) (λv hv=>by
  obtain⟨j,hj,rfl⟩:=List.getElem_of_mem hv;exact(c3 j _ (List.getElem?_eq_getElem hj)).2)
 have hr:(execOp a.eval ⟨some d,.call ⟨.builtin .copy,#[x,y],#[T,U]⟩,ty,pos,aft,gd⟩).run P w=.ok (.value (goInt cs.length)) (w.setRow g (cs++cur.drop cs.length).toArray):=by
  have hrun:(Builtin.copy_ #[T,U] ty #[.slice (some ⟨g,0,none⟩) l.length cap,.slice (some ⟨b,o,none⟩) k.length sc]).run P w=.ok (goInt cs.length) (w.setRow g (cs++cur.drop cs.length).toArray):=by simpa using hrun
  have q5:E.ν i=.slice (some ⟨g,0,none⟩) l.length cap:=q5;simp[execOp,resolve,invoke,builtin,h1,hs,q5,hrun]
 have WV:uB l k=k.take (Min.min k.length l.length)++l.drop (Min.min k.length l.length):=by
  unfold uB;have e1:k.take l.length=k.take (Min.min k.length l.length):=by rw[List.take_eq_take_iff];omega
  have e2:l.drop k.length=l.drop (Min.min k.length l.length):=by rw[List.drop_eq_drop_iff];omega
  rw[e1,e2]
 have hall:SV.ec E.M ((uB l k).flatMap e) (cs++vs.drop cs.length):=by
  rw[WV,List.flatMap_append,<-JZ];rw[<-JZ]at c2;exact SV.ec.append c2 (Ci l vs cs.length q4)
 have hh:=setRow_heap w g ⟨cur⟩ (cs++cur.drop cs.length).toArray E1 (0,0) q1;have D0:(w.setRow g (cs++cur.drop cs.length).toArray).ownsRow 0 E1 1 (E.ν i) l.length (cs++vs.drop cs.length):=by
  refine⟨by simp;omega,.inr ⟨g,cap,_,q5,Nat.zero_le _,hh,q6,q7,by simp;omega,?_⟩⟩;rw[<-q2];simp only[List.take_append,List.length_take,List.drop_take];congr 1;rw[List.take_of_length_le (by omega)]
 have hp:=h.Ez mD vW (w':=w.setRow g (cs++cur.drop cs.length).toArray) ⟨_,_,q1⟩ Y Y Y (by simp[World.setRow]) (λk' hk'=>setRow_other w g k' _ hk') D0 hall;refine cz (C:=C) (by intro c h;cases h) hr (hL _ _ ⟨E,?_⟩);have hrow:(⟨(TR E1 1 e l).E,(TR E1 1 e l).sz,(TR E1 1 e l).n,(uB l k).flatMap e⟩:Row)=TR E1 1 e (uB l k):=by
  show Row.mk _ _ l.length _=Row.mk _ _ (uB l k).length _;rw[KY]
 rw[hrow]at hp;rw[<-JZ];exact hp.put (x:=.sv (.v (.int .i64 cs.length))) (v:=.int .i64 cs.length) Y (by show d<S'.n;omega) fg
end steps
end
end Go.Fw
namespace Go.Proofs.YtningmnklfpfjaaGreat
section
open Go.Fw
noncomputable def cw(x0:Tb):Option (Bool):=match x0 with|⟨bu,bw,bF,bJ,c7⟩=>cK (λ(aaF:Bool)=>some aaF) λK3=>(bif false then none else(some (!bu)).bind λeY=>some eY).bind λUr=>K3 Ur
noncomputable def dP(x0:Tb):Option (Int):=match x0 with|⟨bu,bw,bF,bJ,c7⟩=>(some (c7.length:Int)).bind λjC=>(some (IntKind.i64.wrap (bw+jC))).bind λeX=>some eX
noncomputable def j1(x0:Tb)(x1:Int):Option (List Qr):=match x0 with|⟨bu,bw,bF,bJ,c7⟩=>(some (c7.length:Int)).bind λeX=>(CV 64 eX (⟨⟨false,[]⟩,⟨false,[]⟩⟩:Qr)).bind λjv=>(some (c7.length:Int)).bind λgX=>(cy (λ(s8:Int×(List Qr))=>match s8 with|⟨HV,HW⟩=>(show Option ((Int×(List Qr))⊕((List Qr)))from(some (decide ((HV:Int)<gX))).bind λja=>(bif ja then(cU c7 HV).bind λkq=>(cU kq x1).bind λ⟨⟨iJ,iK⟩,⟨D1,D2⟩⟩=>(cZ ⟨⟨iJ,iK⟩,⟨D1,D2⟩⟩).bind λ⟨⟨vn,vo⟩,⟨O3,O4⟩⟩=>(ko HW HV).bind λrE=>(stM HW rE ⟨⟨vn,vo⟩,⟨O3,O4⟩⟩).bind λAq=>(some (IntKind.i64.wrap (HV+1))).bind λkp=>some (.inl (kp,Aq))else some (.inr HW)))) (0,jv)).bind λCj=>some Cj
noncomputable def jk(x0:Tb)(x1:Int):Option (List Qr):=match x0 with|⟨bu,bw,bF,bJ,c7⟩=>(some (bF.length:Int)).bind λeX=>(some (IntKind.i64.wrap (eX+bw))).bind λgW=>(CV 64 gW (⟨⟨false,[]⟩,⟨false,[]⟩⟩:Qr)).bind λgX=>(some (decide ((x1:Int)<bw))).bind λjE=>cK (λ(O5:(List Qr))=>some O5) λUo=>(bif jE then(some (bF.length:Int)).bind λjq=>(cy (λ(YP:Int×(List Qr))=>match YP with|⟨Ck,Cm⟩=>(show Option ((Int×(List Qr))⊕((List Qr)))from(some (decide ((Ck:Int)<jq))).bind λrE=>(bif rE then(cU bF Ck).bind λuG=>(cU uG x1).bind λ⟨⟨O6,O7⟩,⟨O8,O9⟩⟩=>(ko Cm Ck).bind λwj=>(stM Cm wj ⟨⟨O6,O7⟩,⟨O8,O9⟩⟩).bind λYQ=>(some (IntKind.i64.wrap (Ck+1))).bind λqm=>some (.inl (qm,YQ))else some (.inr Cm)))) (0,gX)).bind λwU=>(some (bF.length:Int)).bind λsu=>(some (IntKind.i64.wrap (su+x1))).bind λsi=>(cY (-1)).bind λ⟨⟨DT,DU⟩,⟨Pa,Pb⟩⟩=>(ko wU si).bind λwv=>(stM wU wv ⟨⟨DT,DU⟩,⟨Pa,Pb⟩⟩).bind λYR=>Uo YR else Uo gX)
noncomputable def iE(x0:Tb)(x1:List Qr):Option (List Qr):=match x0 with|⟨bu,bw,bF,bJ,c7⟩=>(some (bF.length:Int)).bind λeX=>(some (IntKind.i64.wrap (eX+bw))).bind λgW=>(CV 64 gW (⟨⟨false,[]⟩,⟨false,[]⟩⟩:Qr)).bind λgX=>(some (x1.length:Int)).bind λja=>(cy (λ(M8:(List Qr)×Int)=>match M8 with|⟨Cn,rN⟩=>(show Option (((List Qr)×Int)⊕((List Qr)))from(some (decide ((rN:Int)<ja))).bind λkq=>(bif kq then(cU x1 rN).bind λ⟨⟨vw,vz⟩,⟨vA,vB⟩⟩=>cK (λ(J0:Bool)=>cK (λ(Pc:(List Qr))=>(some (IntKind.i64.wrap (rN+1))).bind λyA=>some (.inl (Pc,yA))) λYL=>(bif J0 then(cU bJ rN).bind λsi=>(jk ⟨bu,bw,bF,bJ,c7⟩ si).bind λwv=>(fV ⟨⟨vw,vz⟩,⟨vA,vB⟩⟩ wv Cn).bind λAr=>YL Ar else YL Cn)) λK19=>(cU bJ rN).bind λrE=>(some (decide ((rE:Int)<bw))).bind λuE=>(bif uE then(eV ⟨⟨vw,vz⟩,⟨vA,vB⟩⟩).bind λmX=>(some (decide ((mX:Int)≠0))).bind λwj=>some wj else some false).bind λPd=>K19 Pd else some (.inr Cn)))) (gX,0)).bind λD3=>some D3
noncomputable def ez(x0:Tb):Option (List Int):=match x0 with|⟨bu,bw,bF,bJ,c7⟩=>(cw ⟨bu,bw,bF,bJ,c7⟩).bind λx5=>(bif x5 then some []else(some (bJ.length:Int)).bind λeY=>(CV 8 eY (0:Int)).bind λjC=>some (uB jC bJ))
noncomputable def fP(x0:Tb):Option (List Qr):=match x0 with|⟨bu,bw,bF,bJ,c7⟩=>(cw ⟨bu,bw,bF,bJ,c7⟩).bind λx4=>(bif x4 then some []else(dP ⟨bu,bw,bF,bJ,c7⟩).bind λx7=>(j1 ⟨bu,bw,bF,bJ,c7⟩ x7).bind λx8=>some x8)
noncomputable def dH(x0:Tb)(x1:Int):Option (List Qr):=match x0 with|⟨bu,bw,bF,bJ,c7⟩=>cK (λ(Pe:Bool)=>(bif Pe then some []else(j1 ⟨bu,bw,bF,bJ,c7⟩ x1).bind λja=>(iE ⟨bu,bw,bF,bJ,c7⟩ ja).bind λiv=>(jk ⟨bu,bw,bF,bJ,c7⟩ x1).bind λjE=>(qK iv jE).bind λvi=>some vi)) λK6=>(cw ⟨bu,bw,bF,bJ,c7⟩).bind λx6=>(bif x6 then some true else(some (decide ((x1:Int)<0))).bind λx9=>some x9).bind λUs=>(bif Us then some true else(dP ⟨bu,bw,bF,bJ,c7⟩).bind λga=>(some (decide ((ga:Int)<=x1))).bind λe9=>some e9).bind λWW=>K6 WW
noncomputable def jR(x0:Tb):Option (List Qr):=match x0 with|⟨bu,bw,bF,bJ,c7⟩=>(cw ⟨bu,bw,bF,bJ,c7⟩).bind λx4=>(bif x4 then some []else(fP ⟨bu,bw,bF,bJ,c7⟩).bind λx7=>(iE ⟨bu,bw,bF,bJ,c7⟩ x7).bind λx8=>some x8)
noncomputable def fK(x0:Tb):Option (List Qr):=match x0 with|⟨bu,bw,bF,bJ,c7⟩=>(cw ⟨bu,bw,bF,bJ,c7⟩).bind λx7=>(bif x7 then some []else(CV 64 bw (⟨⟨false,[]⟩,⟨false,[]⟩⟩:Qr)).bind λeX=>(fP ⟨bu,bw,bF,bJ,c7⟩).bind λga=>(some (ga.length:Int)).bind λe9=>(cy (λ(EO:Int×(List Qr))=>match EO with|⟨Co,Cp⟩=>(show Option ((Int×(List Qr))⊕((List Qr)))from(some (decide ((Co:Int)<e9))).bind λgW=>(bif gW then(cU ga Co).bind λ⟨⟨nX,nY⟩,⟨B9,Ca⟩⟩=>(cU bJ Co).bind λmH=>(some (decide ((mH:Int)<bw))).bind λkp=>cK (λ(J1:(List Qr))=>(some (IntKind.i64.wrap (Co+1))).bind λsS=>some (.inl (sS,J1))) λM3=>(bif kp then(cU bJ Co).bind λvm=>(ko Cp vm).bind λqm=>(stM Cp qm ⟨⟨nX,nY⟩,⟨B9,Ca⟩⟩).bind λQY=>M3 QY else M3 Cp)else some (.inr Cp)))) (0,eX)).bind λCq=>some Cq)
noncomputable def fX(x0:Tb):Option (List (List Qr)):=match x0 with|⟨bu,bw,bF,bJ,c7⟩=>(cw ⟨bu,bw,bF,bJ,c7⟩).bind λx7=>(bif x7 then some []else(some (c7.length:Int)).bind λeX=>(cy (λ(s6:Int×(List (List Qr)))=>match s6 with|⟨ye,Fp⟩=>(show Option ((Int×(List (List Qr)))⊕((List (List Qr))))from(some (decide ((ye:Int)<eX))).bind λga=>(bif ga then(cU c7 ye).bind λe9=>(dP ⟨bu,bw,bF,bJ,c7⟩).bind λja=>(gP e9 ja).bind λiv=>(yM 24 Fp [iv]).bind λku=>(some (IntKind.i64.wrap (ye+1))).bind λjE=>some (.inl (jE,ku))else some (.inr Fp)))) (0,[])).bind λwV=>some wV)
noncomputable def iF(x0:Tb):Option (Bool):=match x0 with|⟨bu,bw,bF,bJ,c7⟩=>(cw ⟨bu,bw,bF,bJ,c7⟩).bind λx6=>(bif x6 then some false else(fP ⟨bu,bw,bF,bJ,c7⟩).bind λx8=>(some (x8.length:Int)).bind λx9=>(cy (λ(KZ:Int)=>(show Option ((Int)⊕((Unit)⊕(Bool)))from(some (decide ((KZ:Int)<x9))).bind λjC=>(bif jC then(cU x8 KZ).bind λ⟨⟨iI,iA⟩,⟨K0,K1⟩⟩=>(eV ⟨⟨iI,iA⟩,⟨K0,K1⟩⟩).bind λe9=>(some (decide ((e9:Int)<0))).bind λjD=>(bif jD then some (.inr (.inr false))else(some (IntKind.i64.wrap (KZ+1))).bind λgW=>some (.inl gW))else some (.inr (.inl ()))))) 0).bind λe6=>match e6 with|.inr v6=>some v6|.inl _=>some true)
noncomputable def gZ(x0:Tb):Option (Bool):=match x0 with|⟨bu,bw,bF,bJ,c7⟩=>(cw ⟨bu,bw,bF,bJ,c7⟩).bind λx5=>(bif x5 then some false else(nK (λ(k:Nat) (s3:Unit)=>(show Option ((Unit)⊕(Bool))from(some ((k:Nat):Int)).bind λp8=>(dH ⟨bu,bw,bF,bJ,c7⟩ p8).bind λjC=>(oI jC).bind λeX=>(some (decide ((eX:Int)<0))).bind λjv=>(bif jv then some (.inr false)else some (.inl ())))) ((IntKind.i64.wrap (Tb.vars ⟨bu,bw,bF,bJ,c7⟩+((Tb.rows ⟨bu,bw,bF,bJ,c7⟩).length:Int))).toNat) ()).bind λe3=>match e3 with|.inr v3=>some v3|.inl _=>some true)
noncomputable def dm(x0:Tb):Option (List (List Qr)):=match x0 with|⟨bu,bw,bF,bJ,c7⟩=>(cw ⟨bu,bw,bF,bJ,c7⟩).bind λx6=>(bif x6 then some []else(nJ (λ(k:Nat) (zu:(List (List Qr)))=>(show Option ((List (List Qr)))from(some ((k:Nat):Int)).bind λp9=>(dH ⟨bu,bw,bF,bJ,c7⟩ p9).bind λjv=>(yM 24 zu [jv]).bind λe9=>some e9)) ((IntKind.i64.wrap (Tb.vars ⟨bu,bw,bF,bJ,c7⟩+((Tb.rows ⟨bu,bw,bF,bJ,c7⟩).length:Int))).toNat) []).bind λzu=>some zu)
noncomputable def dQ(x0:Lr):Option (Bool×Int×(List (List Qr))×(List Int)×(List (List Qr))):=match x0 with|⟨bu,bw,bF,bJ⟩=>(some (bw.length:Int)).bind λe9=>(cy (λ(s6:Int×(List (List Qr)))=>match s6 with|⟨K9,Fq⟩=>(show Option ((Int×(List (List Qr)))⊕((List (List Qr))))from(some (decide ((K9:Int)<e9))).bind λgW=>(bif gW then(cU bw K9).bind λgX=>(gP gX bu).bind λoY=>(yM 24 Fq [oY]).bind λvk=>(some (IntKind.i64.wrap (K9+1))).bind λuG=>some (.inl (uG,vk))else some (.inr Fq)))) (0,[])).bind λqe=>(some (bF.length:Int)).bind λqa=>(cy (λ(I4:Int×(List Int)×(List (List Qr)))=>match I4 with|⟨oN,uI,uJ⟩=>(show Option ((Int×(List Int)×(List (List Qr)))⊕((List Int)×(List (List Qr))))from(some (decide ((oN:Int)<qa))).bind λzW=>(bif zW then(some (bF.length:Int)).bind λBL=>(some (IntKind.i64.wrap (bu+BL))).bind λyz=>(some (IntKind.i64.wrap (yz+1))).bind λxj=>(CV 64 xj (⟨⟨false,[]⟩,⟨false,[]⟩⟩:Qr)).bind λwm=>(cy (λ(KQ:Int×(List Qr))=>match KQ with|⟨Cr,Cs⟩=>(show Option ((Int×(List Qr))⊕((List Qr)))from(some (decide ((Cr:Int)<bu))).bind λGM=>(bif GM then(tJ bF oN Cr).bind λ⟨⟨La,HX⟩,⟨Pf,Pg⟩⟩=>(ko Cs Cr).bind λGc=>(stM Cs Gc ⟨⟨La,HX⟩,⟨Pf,Pg⟩⟩).bind λQV=>(some (IntKind.i64.wrap (Cr+1))).bind λGe=>some (.inl (Ge,QV))else some (.inr Cs)))) (0,wm)).bind λwW=>(some (IntKind.i64.wrap (bu+oN))).bind λI1=>(cY 1).bind λ⟨⟨Ph,Pj⟩,⟨Pk,Pm⟩⟩=>(ko wW I1).bind λJr=>(stM wW Jr ⟨⟨Ph,Pj⟩,⟨Pk,Pm⟩⟩).bind λTr=>(some (Tr.length:Int)).bind λI5=>(some (IntKind.i64.wrap (I5-1))).bind λL7=>(cU bJ oN).bind λ⟨⟨Ut,Uu⟩,⟨Uv,Uw⟩⟩=>(cZ ⟨⟨Ut,Uu⟩,⟨Uv,Uw⟩⟩).bind λ⟨⟨Pn,Po⟩,⟨Pp,Pq⟩⟩=>(ko Tr L7).bind λI2=>(stM Tr I2 ⟨⟨Pn,Po⟩,⟨Pp,Pq⟩⟩).bind λl44=>(yM 24 uJ [l44]).bind λJt=>(some (IntKind.i64.wrap (bu+oN))).bind λWX=>(yM 8 uI [WX]).bind λMv=>(some (IntKind.i64.wrap (oN+1))).bind λL9=>some (.inl (L9,Mv,Jt))else some (.inr (uI,uJ))))) (0,[],[])).bind λWY=>match WY with|⟨Lb,iU⟩=>some (true,bu,qe,Lb,iU)
noncomputable def g9(x0:Lr):Option (Bool×Int×(List (List Qr))×(List Int)×(List (List Qr))):=match x0 with|⟨bu,bw,bF,bJ⟩=>(fW ⟨bu,bw,bF,bJ⟩).bind λx5=>(some (!x5)).bind λx6=>(bif x6 then none else(dQ ⟨bu,bw,bF,bJ⟩).bind λ⟨wI,wJ,B4,B5,R5⟩=>some (wI,wJ,B4,B5,R5))
noncomputable def nC(x0:List Qr)(HC:Qr):Option (List Qr):=match HC with|⟨⟨HD,HE⟩,⟨HF,HG⟩⟩=>(lj ⟨⟨HD,HE⟩,⟨HF,HG⟩⟩ x0).bind λx6=>some x6
noncomputable def j9(o0:Bool)(o1:Int)(o2:List (List Qr))(o3:List Int)(o4:List (List Qr))(x0:List Qr)(HC:Int)(c_2:Int):Option (List Qr):=(cU x0 HC).bind λ⟨⟨wI,wJ⟩,⟨B4,B5⟩⟩=>(eV ⟨⟨wI,wJ⟩,⟨B4,B5⟩⟩).bind λeY=>(some (decide ((eY:Int)=0))).bind λjC=>(bif jC then some x0 else(cU x0 HC).bind λ⟨⟨lO,lP⟩,⟨G9,He⟩⟩=>(mJ ⟨⟨lO,lP⟩,⟨G9,He⟩⟩).bind λ⟨⟨vu,vv⟩,⟨D4,D5⟩⟩=>(ko o4 c_2).bind λku=>(o4[ku]?).bind λjE=>(fV ⟨⟨vu,vv⟩,⟨D4,D5⟩⟩ jE x0).bind λmH=>some mH)
noncomputable def cJ(o0:Bool)(o1:Int)(o2:List (List Qr))(o3:List Int)(o4:List (List Qr))(x1:Int)(x2:Int):Option ((List (List Qr))×(List Int)×(List (List Qr))):=(cY 1).bind λ⟨⟨GQ,GR⟩,⟨Ux,Uy⟩⟩=>(ko o4 x1).bind λmm=>(o4[mm]?).bind λja=>(cU ja x2).bind λ⟨⟨xR,xS⟩,⟨xT,xU⟩⟩=>(oG ⟨⟨GQ,GR⟩,⟨Ux,Uy⟩⟩ ⟨⟨xR,xS⟩,⟨xT,xU⟩⟩).bind λ⟨⟨⟨zw,zx⟩,⟨zy,zA⟩⟩,Mp⟩=>(ko o4 x1).bind λwj=>(o4[wj]?).bind λqm=>(nC qm ⟨⟨zw,zx⟩,⟨zy,zA⟩⟩).bind λsS=>(ko o4 x1).bind λBL=>(stM o4 BL sS).bind λl2=>(some (l2.length:Int)).bind λGM=>(cy (λ(AX:Int×(List (List Qr)))=>match AX with|⟨pR,gH⟩=>(show Option ((Int×(List (List Qr)))⊕((List (List Qr))))from(some (decide ((pR:Int)<GM))).bind λLc=>(bif Lc then(ko gH pR).bind λyA=>(gH[yA]?).bind λDf=>(some (decide ((pR:Int)≠x1))).bind λL4=>cK (λ(tO:(List (List Qr)))=>(some (IntKind.i64.wrap (pR+1))).bind λDS=>some (.inl (DS,tO))) λWZ=>(bif L4 then(j9 o0 o1 o2 o3 gH Df x2 x1).bind λJr=>(ko gH pR).bind λKR=>(stM gH KR Jr).bind λl17=>WZ l17 else WZ gH)else some (.inr gH)))) (0,l2)).bind λqN=>some (o2,o3,qN)
noncomputable def bp(o0:Bool)(o1:Int)(o2:List (List Qr))(o3:List Int)(o4:List (List Qr))(x1:Int)(x2:Int):Option (Int×(List (List Qr))×(List Int)×(List (List Qr))):=(cw (⟨o0,o1,o2,o3,o4⟩:Tb)).bind λeY=>(bif eY then some (2,o2,o3,o4)else cK (λ(Pr:Bool)=>(bif Pr then some (1,o2,o3,o4)else(some (o3.length:Int)).bind λqa=>(cy (λ(Fs:Int)=>(show Option ((Int)⊕((Unit)⊕(Int×(List (List Qr))×(List Int)×(List (List Qr)))))from(some (decide ((Fs:Int)<qa))).bind λzW=>(bif zW then(ko o3 Fs).bind λvm=>(o3[vm]?).bind λmX=>(some (decide ((mX:Int)=x2))).bind λsS=>(bif sS then some (.inr (.inr (1,o2,o3,o4)))else(some (IntKind.i64.wrap (Fs+1))).bind λBL=>some (.inl BL))else some (.inr (.inl ()))))) 0).bind λMw=>match Mw with|.inr YS=>some YS|.inl _=>(ko o4 x1).bind λsi=>(o4[si]?).bind λGM=>(cU GM x2).bind λ⟨⟨Uz,UA⟩,⟨UB,UC⟩⟩=>(eV ⟨⟨Uz,UA⟩,⟨UB,UC⟩⟩).bind λyA=>(some (decide ((yA:Int)=0))).bind λDf=>(bif Df then some (7,o2,o3,o4)else(cJ o0 o1 o2 o3 o4 x1 x2).bind λ⟨YQ,l21,YR⟩=>(ko l21 x1).bind λTt=>(stM l21 Tt x2).bind λl24=>some (0,YQ,l24,YR)))) λUo=>(some (decide ((x1:Int)<0))).bind λeX=>(bif eX then some true else(some (o4.length:Int)).bind λmm=>(some (decide ((mm:Int)<=x1))).bind λja=>some ja).bind λPs=>(bif Ps then some true else(some (decide ((x2:Int)<0))).bind λjE=>some jE).bind λW0=>(bif W0 then some true else(dP (⟨o0,o1,o2,o3,o4⟩:Tb)).bind λjq=>(some (decide ((jq:Int)<=x2))).bind λvk=>some vk).bind λW2=>Uo W2)
end
section
open Go.Fw Go.Fw.Z Go.RowKit
instance:OW ah 30:=⟨by kernel_rfl⟩
theorem dX{x0:Tb}{r:Bool}(h:cw x0=some r):Pure ah 57 [ref (sM x0)] (az r):=by
 obtain⟨bu,bw,bF,bJ,c7⟩:=x0;refine bD Tryz.func57 Y (af Y) (λeI M vs hvs=>?_);unfold cw at h;refine sr<|ag Y<|dn<|qq ?_;refine bH h (λj3=>AS.cL 12 [(2,aj j3)] [] []) (λh=>?_) (λaaF h=>?_);refine aW<|mv Y<|RT.WR .none Y Y T<|mv Y<|bE h λUr rY h=>gm Y<|RT.dg (.some Y Y) Y T<|RT.cf (.some Y Y) Y T Y<|gr Y Y<|lE (F rY) λeY iO rY=>IY Y _ iO ?_;obtain rfl:=O rY;exact pF Y<|ag Y<|dn<|⟨eY,h,wR []⟩
 try dsimp only
 refine aV.n<|bf ?_;obtain rfl:=O h;exact R1 Y
theorem lT{x0:Tb}{r:Int}(h:dP x0=some r):Pure ah 58 [ref (sM x0)] (ay r):=by
 obtain⟨bu,bw,bF,bJ,c7⟩:=x0;refine bD Tryz.func58 Y (af Y) (λeI M vs hvs=>?_);unfold dP at h;refine sr<|ag Y<|dn<|qq<|bh mixed<|mv Y<|RT.dg .none Y T<|RT.cf .none Y T Y<|lr Y Y<|mv Y<|RT.dg .none Y T<|RT.cf .none Y T Y<|lr Y Y<|lE h λjC qH h=>ln Y qH<|lE h λeX iz h=>ad _ Y Y iz<|ag Y ?_;refine RT.done ⟨by kernel_rfl,?_⟩;refine aV.n<|bf ?_;obtain rfl:=O h;exact R1 Y
theorem vF{x0:Tb}{x1:Int}(N:Nat){r:List Qr}(h:j1 x0 x1=some r):cP ah 64 N [ref (sM x0),ay x1] (nw N (slc 4 (List.map (fQ N) r))):=by
 obtain⟨bu,bw,bF,bJ,c7⟩:=x0;refine bB Tryz.func64 Y (af Y) (λeI M vs hN hvs=>?_);unfold j1 at h;refine sr<|aI Y (bk (N:=N) (n:=4) (e:=(fQ N)))<|dn<|sr<|mv Y<|RT.dg .none Y T<|RT.cf .none Y T Y<|lr Y Y<|lE h λeX iz h=>ln Y iz<|bE h λjv lK h=>RT.oA (n:=4) (e:=(fQ N)) .none Y Y T Y T (by rfl) (by decide) (by exact⟨au,bk,au,bk,aq⟩) lK<|an (s:=.row _) Y<|dn<|qq<|sr<|mv Y<|RT.dg .none Y T ?_;refine RT.cf .none Y T Y<|lr Y Y<|lE h λgX lM h=>ln Y lM<|mv Y<|dn<|bE h λe8 JA At=>?_;refine bU (λ(Cj:(List Qr))=>AS.cL 34 [(5,.row 13)] [] [(13,TR 43 4 (fQ N) Cj)]) (λCj=>Cj=e8) ?_ (λCj JB=>?_);refine bj ?_;refine bV JA (λs8=>AS.cL 34 [(1,ai x1),(5,.row 13),(17,.sv (slc 1 (List.map (eS 4 eQ) c7))),(18,ai gX),(19,ai s8.1)] [] [(13,TR 43 4 (fQ N) s8.2)]) (wR []) (λs8 y8 G8 h JC JD=>?_);obtain⟨HV,HW⟩:=s8
 try dsimp only
 refine sr<|lE h λja o5 h=>ls _ Y Y o5<|dn<|qq ?_;cases ja;refine cF<|b9<|aV.x<|aV.x<|bG.x<|aV.n ?_;obtain rfl:=O (F h);exact⟨HW,JD _ Y,wR []⟩;refine cT<|bC<|aV.n<|qq<|bj<|sr<|mv Y<|bE (V h) λkq qJ h=>ix Y Y qJ<|lr Y Y<|ag Y<|ag Y<|dn<|aW<|mo (s:=.row _) Y<|mv Y<|mv Y<|mv Y ?_;obtain⟨⟨⟨iJ,iK⟩,⟨D1,D2⟩⟩,wE,h⟩:=bS h;refine ix Y Y wE<|RT.kn (cs:=[_,_,_,_]) .none Y T Y Y ?_;obtain⟨⟨⟨vn,vo⟩,⟨O3,O4⟩⟩,BP,h⟩:=bS h;refine RT.bL .none (jx N BP) hN Y ⟨Y,aq⟩ T<|bE h λrE CX h=>iR Y Y Y CX<|bE h λAq s9 h=>sA ⟨⟨vn,vo⟩,⟨O3,O4⟩⟩ Y Y Y s9<|RT.done<|bG.n<|aV.n<|aW<|lE h λkp qo h=>ad _ Y Y qo<|mv Y<|RT.done ?_;obtain rfl:=O h;exact aV.n ⟨(kp,Aq),JC _ Y,wR []⟩;subst JB
 try dsimp only
 refine aV.n<|sr<|mo (s:=.row _) Y<|an (s:=.row _) Y<|dn<|ic (i:=13) (E1:=43) (n:=4) (e:=(fQ N)) (l:=Cj) hN (λ_ h=>h) Y<|bf ?_;obtain rfl:=O At;exact R1 Y
theorem tQ{x0:Tb}{x1:Int}{r:List Qr}(h:jk x0 x1=some r):Pure ah 78 [ref (sM x0),ay x1] (slc 4 (List.map eQ r)):=by
 obtain⟨bu,bw,bF,bJ,c7⟩:=x0;refine bD Tryz.func78 Y (af Y) (λeI M vs hvs=>?_);unfold jk at h;refine sr<|aI Y (aB (n:=4) (e:=eQ))<|dn<|qq<|bh mixed<|mv Y<|RT.dg .none Y T<|RT.cf .none Y T Y<|lr Y Y<|lE h λeX iz h=>ln Y iz<|mv Y<|RT.dg .none Y T<|RT.cf .none Y T Y<|lr Y Y<|lE h λgW nL h=>ad _ Y Y nL<|bE h λgX lM h=>RT.oA (n:=4) (e:=eQ) .none Y Y T Y T (by rfl) (by decide) (by exact⟨au,aB,au,aB,aq⟩) lM ?_;refine an (s:=.row _) Y ?_;refine RT.done ⟨by kernel_rfl,?_⟩;refine aV.n<|qq<|sr<|mv Y<|mv Y<|RT.dg .none Y T<|RT.cf .none Y T Y<|lr Y Y<|lE h λjE qp h=>ls _ Y Y qp<|dn ?_;refine bH h (λWO=>AS.cL 54 [(5,.row 18)] [] [(18,TR 43 4 eQ WO)]) (λh=>?_) (λO5 h=>?_);cases jE;exact fs<|⟨gX,(F h),wR []⟩;refine cT<|qq<|sr<|mv Y<|RT.dg .none Y T<|RT.cf .none Y T Y<|lr Y Y<|lE (V h) λjq nW h=>ln Y nW<|mv Y<|dn<|bE h λe18 agf Ct=>?_;refine bU (λ(wU:(List Qr))=>AS.cL 54 [(0,.sv (ref [az bu,ay bw,slc 1 (List.map (eS 4 eQ) bF),slc 1 (List.map bT bJ),slc 1 (List.map (eS 4 eQ) c7)])),(1,ai x1),(5,.row 18)] [] [(18,TR 43 4 eQ wU)]) (λwU=>wU=e18) ?_ (λwU agh=>?_);refine bj ?_
 refine bV agf (λYP=>AS.cL 54 [(0,.sv (ref [az bu,ay bw,slc 1 (List.map (eS 4 eQ) bF),slc 1 (List.map bT bJ),slc 1 (List.map (eS 4 eQ) c7)])),(1,ai x1),(5,.row 18),(28,.sv (slc 1 (List.map (eS 4 eQ) bF))),(29,ai jq),(30,ai YP.1)] [] [(18,TR 43 4 eQ YP.2)]) (wR []) (λYP y18 G18 h agi agj=>?_);obtain⟨Ck,Cm⟩:=YP
 try dsimp only
 refine sr<|lE h λrE CX h=>ls _ Y Y CX<|dn<|qq ?_;cases rE;refine cF<|b9<|aV.x<|aV.x<|bG.x<|aV.n ?_;obtain rfl:=O (F h);exact⟨Cm,agj _ Y,wR []⟩;refine cT<|bC<|aV.n<|qq<|bj<|sr<|mv Y<|bE (V h) λuG AY h=>ix Y Y AY<|lr Y Y<|ag Y<|ag Y<|dn<|aW<|mo (s:=.row _) Y<|mv Y<|mv Y<|mv Y ?_;obtain⟨⟨⟨O6,O7⟩,⟨O8,O9⟩⟩,G5,h⟩:=bS h;refine ix Y Y G5<|RT.kn (cs:=[_,_,_,_]) .none Y T Y Y<|bE h λwj G0 h=>iR Y Y Y G0<|bE h λYQ aaI h=>sA ⟨⟨O6,O7⟩,⟨O8,O9⟩⟩ Y Y Y aaI<|RT.done<|bG.n<|aV.n<|aW<|lE h λqm BQ h=>ad _ Y Y BQ<|mv Y<|RT.done ?_;obtain rfl:=O h;exact aV.n ⟨(qm,YQ),agi _ Y,wR []⟩;subst agh
 try dsimp only
 refine aV.n<|bh mixed<|mo (s:=.row _) Y<|mv Y<|RT.dg .none Y T<|RT.cf .none Y T Y<|lr Y Y<|lE Ct λsu h48 Ct=>ln Y h48<|mv Y<|lE Ct λsi EZ Ct=>ad _ Y Y EZ ?_;obtain⟨⟨⟨DT,DU⟩,⟨Pa,Pb⟩⟩,Mi,Ct⟩:=bS Ct;refine cl (jw Mi) ⟨Y,aq⟩<|bE Ct λwv Dl Ct=>iR Y Y Y Dl<|bE Ct λYR aaJ Ct=>sA ⟨⟨DT,DU⟩,⟨Pa,Pb⟩⟩ Y Y Y aaJ ?_;refine RT.done ⟨by kernel_rfl,?_⟩;exact aV.n<|⟨YR,Ct,wR []⟩
 try dsimp only
 refine aV.n<|sr<|mo (s:=.row _) Y<|an (s:=.row _) Y<|dn<|cI (oh (i:=18) (E1:=43) (n:=4) (e:=eQ) (l:=O5) Y)<|bf ?_;obtain rfl:=O h;exact R1 Y
theorem r6{x0:Tb}{x1:List Qr}(N:Nat){r:List Qr}(h:iE x0 x1=some r):cP ah 77 N [ref (sM x0),slc 4 (List.map eQ x1)] (nw N (slc 4 (List.map (fQ N) r))):=by
 obtain⟨bu,bw,bF,bJ,c7⟩:=x0;refine bB Tryz.func77 Y (af Y) (λeI M vs hN hvs=>?_);unfold iE at h;refine sr<|aI Y (bk (N:=N) (n:=4) (e:=(fQ N)))<|dn<|qq<|bh mixed<|mv Y<|RT.dg .none Y T<|RT.cf .none Y T Y<|lr Y Y<|lE h λeX iz h=>ln Y iz<|mv Y<|RT.dg .none Y T<|RT.cf .none Y T Y<|lr Y Y<|lE h λgW nL h=>ad _ Y Y nL<|bE h λgX lM h=>RT.oA (n:=4) (e:=(fQ N)) .none Y Y T Y T (by rfl) (by decide) (by exact⟨au,bk,au,bk,aq⟩) lM ?_;refine an (s:=.row _) Y ?_;refine RT.done ⟨by kernel_rfl,?_⟩;refine aV.n<|qq<|sr<|mv Y<|lE h λja o5 h=>ln Y o5<|mv Y<|dn<|ic (i:=18) (E1:=43) (n:=4) (e:=(fQ N)) (l:=gX) hN (λ_ h=>h) Y<|bE h λMw J2 mN=>?_;refine bU (λ(D3:(List Qr))=>AS.cL 57 [(5,.sv (nw N (slc 4 (List.map (fQ N) D3))))] [] []) (λD3=>D3=Mw) ?_ (λD3 J3=>?_);refine bj ?_;refine bV J2 (λM8=>AS.cL 57 [(0,.sv (ref [az bu,ay bw,slc 1 (List.map (eS 4 eQ) bF),slc 1 (List.map bT bJ),slc 1 (List.map (eS 4 eQ) c7)])),(5,.sv (nw N (slc 4 (List.map (fQ N) M8.1)))),(19,.sv (slc 4 (List.map eQ x1))),(20,ai ja),(21,ai M8.2)] [] []) (wR []) (λM8 y16 G16 h J4 Ds=>?_);obtain⟨Cn,rN⟩:=M8
 try dsimp only
 refine sr<|lE h λkq qJ h=>ls _ Y Y qJ<|dn<|qq ?_;cases kq;refine cF<|b9<|aV.x<|aV.x<|bG.x<|aV.n ?_;obtain rfl:=O (F h);exact⟨Cn,Ds _ Y,wR []⟩;refine cT<|bC<|aV.n<|qq<|bj<|sr<|mv Y ?_;obtain⟨⟨⟨vw,vz⟩,⟨vA,vB⟩⟩,qp,h⟩:=bS (V h);refine ix Y Y qp<|RT.kn (cs:=[_,_,_,_]) .none Y T Y Y<|al (cs:=[az false,nw N ax,az false,nw N ax]) (by exact⟨au,bk,au,bk,aq⟩) Y<|ag Y<|so Y Y Y<|dn<|qq ?_;refine bH h (λj19=>AS.cL 57 [(0,.sv (ref [az bu,ay bw,slc 1 (List.map (eS 4 eQ) bF),slc 1 (List.map bT bJ),slc 1 (List.map (eS 4 eQ) c7)])),(5,.sv (nw N (slc 4 (List.map (fQ N) Cn)))),(6,ai rN),(7,.ptr 7 0),(19,.sv (slc 4 (List.map eQ x1))),(20,ai ja),(21,ai rN),(42,aj j19)] [(7,⟨43,[aj vw,.sv (slc 1 (List.map aY vz)),aj vA,.sv (slc 1 (List.map aY vB))]⟩)] []) (λh=>?_) (λJ0 h=>?_);refine bh mixed<|mv Y<|RT.dg .none Y T<|RT.cf .none Y T Y<|lr Y Y<|mv Y<|bE h λrE CX h=>ix Y Y CX<|lr Y Y<|mv Y<|RT.dg .none Y T<|RT.cf .none Y T Y<|lr Y Y<|lE h λuE E4 h=>ls _ Y Y E4<|mv Y<|bE h λPd Dr h=>?_;cases uE;obtain rfl:=O (F Dr);refine ww<|ww<|ww<|pF Y ?_;refine RT.done ⟨by kernel_rfl,?_⟩;exact aV.n<|⟨false,h,wR []⟩
 refine gl Y Y (.k4 Y Y Y Y)<|bE (V Dr) λmX sx Dr=>gc (jX sx) ⟨Y,aq⟩<|lE Dr λwj G0 Dr=>gq _ Y Y (IX (p:=mX) (q:=0) G0) ?_;obtain rfl:=O Dr;refine pT Y ?_;refine RT.done ⟨by kernel_rfl,?_⟩;exact aV.n<|⟨wj,h,wR []⟩
 try dsimp only
 refine aV.n ?_;refine bH h (λj21=>AS.cL 57 [(0,.sv (ref [az bu,ay bw,slc 1 (List.map (eS 4 eQ) bF),slc 1 (List.map bT bJ),slc 1 (List.map (eS 4 eQ) c7)])),(5,.sv (nw N (slc 4 (List.map (fQ N) j21)))),(19,.sv (slc 4 (List.map eQ x1))),(20,ai ja),(21,ai rN)] [] []) (λh=>?_) (λPc h=>?_);cases J0;exact fs<|⟨Cn,(F h),wR []⟩;refine cT<|bh mixed<|ld Y Y (.k4 Y Y Y Y)<|mv Y<|mv Y<|RT.dg .none Y T<|RT.cf .none Y T Y<|lr Y Y<|mv Y<|bE (V h) λsi EZ h=>ix Y Y EZ<|lr Y Y<|bE h λwv Dl h=>cl (tQ Dl) ⟨Y,Y,aq⟩<|mv Y<|bE h λAr I3 h=>RT.bL .none ((qL N I3).w (args':=[_,_,_]) ⟨au,au,NV,aq⟩) hN Y ⟨Y,Y,Y,aq⟩ T ?_;refine ag Y ?_;refine RT.done ⟨by kernel_rfl,?_⟩;exact aV.n<|⟨Ar,h,wR []⟩
 try dsimp only
 refine bG.n<|aV.n<|aW<|lE h λyA Mj h=>ad _ Y Y Mj<|mv Y<|RT.done ?_;obtain rfl:=O h;exact aV.n ⟨(Pc,yA),J4 _ Y,wR []⟩;subst J3
 try dsimp only
 refine aV.n<|sr<|mv Y<|ag Y<|dn<|bf ?_;obtain rfl:=O mN;exact R1 Y
theorem Ft{x0:Tb}(N:Nat){r:List Int}(h:ez x0=some r):cP ah 17 N [ref (sM x0)] (nw N (slc 1 (List.map bT r))):=by
 obtain⟨bu,bw,bF,bJ,c7⟩:=x0;refine bB Tryz.func17 Y (af Y) (λeI M vs hN hvs=>?_);unfold ez at h;refine sr<|aI Y (bk (N:=N) (n:=1) (e:=bT))<|dn<|qq<|sr<|mv Y<|bE h λx5 h5 h=>cl (dX h5) ⟨Y,aq⟩<|dn ?_;cases x5;refine fs<|sr<|mv Y<|RT.dg .none Y T<|RT.cf .none Y T Y<|lr Y Y<|lE (F h) λeY iO h=>ln Y iO<|bE h λjC qH h=>RT.oA (n:=1) (e:=bT) .none Y Y T Y T (by rfl) (by decide) (by exact⟨au,aq⟩) qH<|an (s:=.row _) Y<|dn<|sr<|mo (s:=.row _) Y<|mv Y<|RT.dg .none Y T<|RT.cf .none Y T Y<|lr Y Y ?_;refine RT.Uq (l:=jC) (k:=bJ) (e:=bT) .none Y Y Y T Y<|dn<|sr<|mo (s:=.row _) Y<|an (s:=.row _) Y<|dn<|ic (i:=11) (E1:=3) (n:=1) (e:=bT) (l:=(uB jC bJ)) hN (λ_ h=>h) Y<|bf ?_;obtain rfl:=O h;exact R1 Y;refine cT<|sr<|aI Y (bk (N:=N) (n:=1) (e:=bT))<|dn<|bf<|aV.r ?_;obtain rfl:=O (V h);exact R1 Y
theorem rO{x0:Tb}(N:Nat){r:List Qr}(h:fP x0=some r):cP ah 19 N [ref (sM x0)] (nw N (slc 4 (List.map (fQ N) r))):=by
 obtain⟨bu,bw,bF,bJ,c7⟩:=x0;refine bB Tryz.func19 Y (af Y) (λeI M vs hN hvs=>?_);unfold fP at h;refine sr<|aI Y (bk (N:=N) (n:=4) (e:=(fQ N)))<|dn<|qq<|sr<|mv Y<|bE h λx4 h4 h=>cl (dX h4) ⟨Y,aq⟩<|dn ?_;cases x4;refine fs<|sr<|mv Y<|mv Y<|bE (F h) λx7 h7 h=>cl (lT h7) ⟨Y,aq⟩<|bE h λx8 h8 h=>RT.bL .none (vF N h8) hN Y ⟨Y,Y,aq⟩ T<|ag Y<|dn<|bf ?_;obtain rfl:=O h;exact R1 Y;refine cT<|sr<|aI Y (bk (N:=N) (n:=4) (e:=(fQ N)))<|dn<|bf<|aV.r ?_;obtain rfl:=O (V h);exact R1 Y
theorem J5{x0:Tb}{r:List Qr}(h:fP x0=some r):Pure ah 19 [ref (sM x0)] (slc 4 (List.map eQ r)):=fj (λN=>rO N h) (λN=>NV)
theorem kZ{x0:Tb}{x1:Int}(N:Nat){r:List Qr}(h:dH x0 x1=some r):cP ah 28 N [ref (sM x0),ay x1] (nw N (slc 4 (List.map (fQ N) r))):=by
 obtain⟨bu,bw,bF,bJ,c7⟩:=x0;refine bB Tryz.func28 Y (af Y) (λeI M vs hN hvs=>?_);unfold dH at h;refine sr<|aI Y (bk (N:=N) (n:=4) (e:=(fQ N)))<|dn<|qq<|qq ?_;refine bH h (λj6=>AS.cL 26 [(0,.sv (ref [az bu,ay bw,slc 1 (List.map (eS 4 eQ) bF),slc 1 (List.map bT bJ),slc 1 (List.map (eS 4 eQ) c7)])),(1,ai x1),(16,aj j6)] [] []) (λh=>?_) (λPe h=>?_);refine aW<|mv Y<|bE h λx6 h6 h=>cl (dX h6) ⟨Y,aq⟩<|mv Y<|bE h λUs WB h=>?_;cases x6;refine gm Y<|lE (F WB) λx9 h9 WB=>RT.lss (.some Y Y) _ Y Y T h9 ?_;obtain rfl:=O WB;refine pF Y<|mv Y<|bE h λakd OI h=>?_;cases x9;refine gm Y<|gm Y<|bE (F OI) λga lB OI=>gc (lT lB) ⟨Y,aq⟩<|lE OI λe9 jB OI=>RT.geq (.some Y Y) _ Y Y T jB ?_;obtain rfl:=O OI;exact pF Y<|dn<|⟨e9,h,wR []⟩;obtain rfl:=O (V OI);exact ww<|ww<|ww<|ww<|pT Y<|dn<|⟨true,h,wR []⟩;obtain rfl:=O (V WB);refine ww<|ww<|pT Y<|mv Y<|bE h λake hg9 h=>?_;obtain rfl:=O (V hg9);exact ww<|ww<|ww<|ww<|pT Y<|dn<|⟨true,h,wR []⟩
 try dsimp only
 refine aV.n ?_;cases Pe;refine fs<|sr<|mv Y<|mv Y<|mv Y<|bE (F h) λja o5 h=>RT.bL .none (vF N o5) hN Y ⟨Y,Y,aq⟩ T<|bE h λiv o6 h=>RT.bL .none ((r6 N o6).w (args':=[_,_]) ⟨au,NV,aq⟩) hN Y ⟨Y,Y,aq⟩ T<|mv Y<|mv Y<|bE h λjE qp h=>cl (tQ qp) ⟨Y,Y,aq⟩<|bE h λvi wD h=>RT.bL .none ((JR N wD).w (args':=[_,_]) ⟨NV,au,aq⟩) hN Y ⟨Y,Y,aq⟩ T ?_;refine ag Y<|dn<|bf ?_;obtain rfl:=O h;exact R1 Y;refine cT<|sr<|aI Y (bk (N:=N) (n:=4) (e:=(fQ N)))<|dn<|bf<|aV.r ?_;obtain rfl:=O (V h);exact R1 Y
theorem wX{x0:Tb}{x1:Int}{r:List Qr}(h:dH x0 x1=some r):Pure ah 28 [ref (sM x0),ay x1] (slc 4 (List.map eQ r)):=fj (λN=>kZ N h) (λN=>NV)
theorem Fu{x0:Tb}(N:Nat){r:List Qr}(h:jR x0=some r):cP ah 38 N [ref (sM x0)] (nw N (slc 4 (List.map (fQ N) r))):=by
 obtain⟨bu,bw,bF,bJ,c7⟩:=x0;refine bB Tryz.func38 Y (af Y) (λeI M vs hN hvs=>?_);unfold jR at h;refine sr<|aI Y (bk (N:=N) (n:=4) (e:=(fQ N)))<|dn<|qq<|sr<|mv Y<|bE h λx4 h4 h=>cl (dX h4) ⟨Y,aq⟩<|dn ?_;cases x4;refine fs<|sr<|mv Y<|mv Y<|bE (F h) λx7 h7 h=>RT.bL .none (rO N h7) hN Y ⟨Y,aq⟩ T<|bE h λx8 h8 h=>RT.bL .none ((r6 N h8).w (args':=[_,_]) ⟨au,NV,aq⟩) hN Y ⟨Y,Y,aq⟩ T<|ag Y<|dn<|bf ?_;obtain rfl:=O h;exact R1 Y;refine cT<|sr<|aI Y (bk (N:=N) (n:=4) (e:=(fQ N)))<|dn<|bf<|aV.r ?_;obtain rfl:=O (V h);exact R1 Y
theorem AB{x0:Tb}(N:Nat){r:List Qr}(h:fK x0=some r):cP ah 21 N [ref (sM x0)] (nw N (slc 4 (List.map (fQ N) r))):=by
 obtain⟨bu,bw,bF,bJ,c7⟩:=x0;refine bB Tryz.func21 Y (af Y) (λeI M vs hN hvs=>?_);unfold fK at h;refine sr<|aI Y (bk (N:=N) (n:=4) (e:=(fQ N)))<|dn<|qq<|sr<|mv Y<|bE h λx7 h7 h=>cl (dX h7) ⟨Y,aq⟩<|dn ?_;cases x7;refine fs<|sr<|mv Y<|RT.dg .none Y T<|RT.cf .none Y T Y<|lr Y Y<|bE (F h) λeX iz h=>RT.oA (n:=4) (e:=(fQ N)) .none Y Y T Y T (by rfl) (by decide) (by exact⟨au,bk,au,bk,aq⟩) iz<|an (s:=.row _) Y<|dn<|qq<|sr<|mv Y<|bE h λga lB h=>RT.bL .none (rO N lB) hN Y ⟨Y,aq⟩ T<|lE h λe9 jB h=>RT.DQ .none Y T jB<|mv Y ?_;refine dn<|bE h λOe EV As=>?_;refine bU (λ(Cq:(List Qr))=>AS.cL 45 [(3,.row 12)] [] [(12,TR 43 4 (fQ N) Cq)]) (λCq=>Cq=Oe) ?_ (λCq EW=>?_);refine bj ?_;refine bV EV (λEO=>AS.cL 45 [(0,.sv (ref [az bu,ay bw,slc 1 (List.map (eS 4 eQ) bF),slc 1 (List.map bT bJ),slc 1 (List.map (eS 4 eQ) c7)])),(3,.row 12),(14,.sv (nw N (slc 4 (List.map (fQ N) ga)))),(15,ai e9),(16,ai EO.1)] [] [(12,TR 43 4 (fQ N) EO.2)]) (wR []) (λEO y10 G10 h EX BO=>?_);obtain⟨Co,Cp⟩:=EO
 try dsimp only
 refine sr<|lE h λgW nL h=>ls _ Y Y nL<|dn<|qq ?_;cases gW;refine cF<|b9<|aV.x<|aV.x<|bG.x<|aV.n ?_;obtain rfl:=O (F h);exact⟨Cp,BO _ Y,wR []⟩;refine cT<|bC<|aV.n<|qq<|bj<|sr<|mv Y ?_;obtain⟨⟨⟨nX,nY⟩,⟨B9,Ca⟩⟩,n7,h⟩:=bS (V h);refine RT.ZD .none Y Y T n7<|RT.kn (cs:=[_,_,_,_]) .none Y T Y Y<|al (cs:=[az false,nw N ax,az false,nw N ax]) (by exact⟨au,bk,au,bk,aq⟩) Y<|ag Y<|so Y Y Y<|dn<|qq<|bh mixed<|mv Y<|RT.dg .none Y T<|RT.cf .none Y T Y<|lr Y Y<|mv Y<|bE h λmH vp h=>ix Y Y vp ?_;refine lr Y Y<|mv Y<|RT.dg .none Y T<|RT.cf .none Y T Y<|lr Y Y<|lE h λkp qo h=>ls _ Y Y qo ?_;refine RT.done ⟨by kernel_rfl,?_⟩;refine aV.n ?_;refine bH h (λMg=>AS.cL 45 [(0,.sv (ref [az bu,ay bw,slc 1 (List.map (eS 4 eQ) bF),slc 1 (List.map bT bJ),slc 1 (List.map (eS 4 eQ) c7)])),(3,.row 12),(14,.sv (nw N (slc 4 (List.map (fQ N) ga)))),(15,ai e9),(16,ai Co)] [] [(12,TR 43 4 (fQ N) Mg)]) (λh=>?_) (λJ1 h=>?_);cases kp;exact fs<|⟨Cp,(F h),wR []⟩;refine cT<|bh mixed<|mo (s:=.row _) Y<|mv Y<|RT.dg .none Y T<|RT.cf .none Y T Y<|lr Y Y<|mv Y<|bE (V h) λvm G5 h=>ix Y Y G5<|lr Y Y<|ld Y Y (.k4 Y Y Y Y)<|bE h λqm BQ h=>iR Y Y Y BQ<|bE h λQY aaK h=>sA ⟨⟨nX,nY⟩,⟨B9,Ca⟩⟩ Y Y Y aaK ?_;refine RT.done ⟨by kernel_rfl,?_⟩
 exact aV.n<|⟨QY,h,wR []⟩
 try dsimp only
 refine bG.n<|aV.n<|aW<|lE h λsS DW h=>ad _ Y Y DW<|mv Y<|RT.done ?_;obtain rfl:=O h;exact aV.n ⟨(sS,J1),EX _ Y,wR []⟩;subst EW
 try dsimp only
 refine aV.n<|sr<|mo (s:=.row _) Y<|an (s:=.row _) Y<|dn<|ic (i:=12) (E1:=43) (n:=4) (e:=(fQ N)) (l:=Cq) hN (λ_ h=>h) Y<|bf ?_;obtain rfl:=O As;exact R1 Y;refine cT<|sr<|aI Y (bk (N:=N) (n:=4) (e:=(fQ N)))<|dn<|bf<|aV.r ?_;obtain rfl:=O (V h);exact R1 Y
theorem HY{x0:Tb}(N:Nat){r:List (List Qr)}(h:fX x0=some r):cP ah 18 N [ref (sM x0)] (nw N (slc 1 (List.map (fS N 4 (fQ N)) r))):=by
 obtain⟨bu,bw,bF,bJ,c7⟩:=x0;refine bB Tryz.func18 Y (af Y) (λeI M vs hN hvs=>?_);unfold fX at h;refine sr<|aI Y (bk (N:=N) (n:=1) (e:=(fS N 4 (fQ N))))<|dn<|qq<|sr<|mv Y<|bE h λx7 h7 h=>cl (dX h7) ⟨Y,aq⟩<|dn ?_;cases x7;refine fs<|sr<|ag Y<|dn<|cI (iZ 3 304 23 1 Y Y T)<|qq<|sr<|mv Y<|RT.dg .none Y T<|RT.cf .none Y T Y<|lr Y Y<|lE (F h) λeX iz h=>ln Y iz<|mv Y<|dn<|bE h λe6 Di nx=>?_;refine bU (λ(wV:(List (List Qr)))=>AS.cL 26 [(3,.row 306)] [] [(306,TR 23 1 (fS N 4 (fQ N)) wV)]) (λwV=>wV=e6) ?_ (λwV Dj=>?_);refine bj ?_;refine bV Di (λs6=>AS.cL 26 [(0,.sv (ref [az bu,ay bw,slc 1 (List.map (eS 4 eQ) bF),slc 1 (List.map bT bJ),slc 1 (List.map (eS 4 eQ) c7)])),(3,.row 306),(11,.sv (slc 1 (List.map (eS 4 eQ) c7))),(12,ai eX),(13,ai s6.1)] [] [(306,TR 23 1 (fS N 4 (fQ N)) s6.2)]) (dD (λi=>bif Nat.beq i 306 then 304 else i) Y Y Y Y Y ⟨.sv au,.row Y,.sv au,.sv au,.sv au,aq⟩ trivial ⟨⟨_,Y,cj.refl _⟩,aq⟩ (λi hi=>by rw[cg (show i≠306 by omega)];rfl)) (λs6 y6 G6 h Dk yW=>?_);obtain⟨ye,Fp⟩:=s6
 try dsimp only
 refine sr<|lE h λga lB h=>ls _ Y Y lB<|dn<|qq ?_;cases ga;refine cF<|b9<|aV.x<|aV.x<|bG.x<|aV.n ?_;obtain rfl:=O (F h);exact⟨Fp,yW _ Y,wR []⟩;refine cT<|bC<|aV.n<|qq<|bj<|sr<|bE (V h) λe9 jB h=>ix Y Y jB<|lr Y Y<|ag Y<|dn<|aW<|mo (s:=.row _) Y<|mv Y<|mv Y<|bE h λja o5 h=>cl (lT o5) ⟨Y,aq⟩<|bE h λiv o6 h=>RT.bL .none (vC N o6) hN Y ⟨Y,Y,aq⟩ T<|bl (l:=[iv]) (e:=(fS N 4 (fQ N))) (.one Y (.nil)) Y Y Y Y Y Y<|bE h λku sZ h=>aR (k:=[iv]) (e:=(fS N 4 (fQ N))) Y Y Y sZ ?_;refine an (s:=.row _) Y<|RT.done<|bG.n<|aV.n<|aW<|lE h λjE qp h=>ad _ Y Y qp<|mv Y<|RT.done ?_;obtain rfl:=O h;exact aV.n ⟨(jE,ku),Dk _ Y,dD (λi=>bif Nat.beq i 306 then 23 else i) Y Y Y Y Y ⟨.sv au,.row Y,.sv au,.sv au,.sv au,aq⟩ trivial ⟨⟨_,Y,cj.refl _⟩,aq⟩ (λi hi=>by rw[cg (show i≠306 by omega)];rfl)⟩;subst Dj
 try dsimp only
 refine aV.n<|sr<|mo (s:=.row _) Y<|an (s:=.row _) Y<|dn<|ic (i:=306) (E1:=23) (n:=1) (e:=(fS N 4 (fQ N))) (l:=wV) hN (λ_ h=>h) Y<|bf ?_;obtain rfl:=O nx;exact R1 Y;refine cT<|sr<|aI Y (bk (N:=N) (n:=1) (e:=(fS N 4 (fQ N))))<|dn<|bf<|aV.r ?_;obtain rfl:=O (V h);exact R1 Y
theorem AD{x0:Tb}{r:Bool}(h:iF x0=some r):Pure ah 35 [ref (sM x0)] (az r):=by
 obtain⟨bu,bw,bF,bJ,c7⟩:=x0;refine bD Tryz.func35 Y (af Y) (λeI M vs hvs=>?_);unfold iF at h;refine sr<|ag Y<|dn<|qq<|sr<|mv Y<|bE h λx6 h6 h=>cl (dX h6) ⟨Y,aq⟩<|dn ?_;cases x6;refine fs<|qq<|sr<|mv Y<|bE (F h) λx8 h8 h=>cl (J5 h8) ⟨Y,aq⟩<|lE h λx9 h9 h=>ln Y h9<|mv Y<|dn<|bE h λe6 Di nx=>?_;refine bU (λ(EY:Unit)=>AS.cL 18 [] [] []) (λEY=>.inl EY=e6) ?_ (λEY Dj=>?_);refine bj ?_;refine bV Di (λs6=>AS.cL 18 [(8,.sv (slc 4 (List.map eQ x8))),(9,ai x9),(10,ai s6)] [] []) (wR []) (λKZ y6 G6 h Dk yW=>?_)
 try dsimp only
 refine sr<|lE h λjC qH h=>ls _ Y Y qH<|dn<|qq ?_;cases jC;refine cF<|b9<|aV.x<|aV.x<|bG.x<|aV.n ?_;obtain rfl:=O (F h);exact⟨(),yW _ Y,wR []⟩;refine cT<|bC<|aV.n<|qq<|bj<|sr ?_;obtain⟨⟨⟨iI,iA⟩,⟨K0,K1⟩⟩,iz,h⟩:=bS (V h);refine ix Y Y iz<|RT.kn (cs:=[_,_,_,_]) .none Y T Y Y<|al (cs:=[az false,ax,az false,ax]) (by exact⟨au,aB,au,aB,aq⟩) Y<|so Y Y Y<|dn<|sr<|ld Y Y (.k4 Y Y Y Y)<|bE h λe9 jB h=>cl (jX jB) ⟨Y,aq⟩<|lE h λjD n8 h=>ls _ Y Y n8<|dn ?_;cases jD;refine cF<|bC<|bG.n<|aV.n<|aW<|lE (F h) λgW nL h=>ad _ Y Y nL<|mv Y<|RT.done ?_;obtain rfl:=O h;exact aV.n ⟨gW,Dk _ Y,wR []⟩;refine cT<|sr<|ag Y<|dn<|bf<|bG.r<|aV.r ?_;obtain rfl:=O (V h);have Of:=yW _ Y;subst Of;refine aV.r<|bG.r<|aV.r<|aV.r ?_;obtain rfl:=O nx;exact R1 Y;subst Dj
 try dsimp only
 refine aV.n<|sr<|ag Y<|dn<|bf ?_;obtain rfl:=O nx;exact R1 Y;refine cT<|sr<|ag Y<|dn<|bf<|aV.r ?_;obtain rfl:=O (V h);exact R1 Y
theorem tW(t:Tb):Pure ah 65 [ref (sM t)] (jA 114 [ref [ref (sM t)]]):=by
 refine bD Tryz.func65 Y (af Y) (λeI M vs hvs=>?_);exact sr<|RT.vT .none (s:=.sv _) Y T Y Y<|ag Y<|dn<|sr<|RT.makeFunc .none (.box Y (.nil)) T<|an (s:=.gI _ _) Y<|dn<|cI (gN (i:=1) Y [ref (sM t)] (.cons Y .nil) .any 0 [(2,.gI 114 [.val (ref [ref (sM t)])])] (λ_ _ _=>trivial) (qy.h (l:=[ref (sM t)])) ⟨@FT.gI _ _ _ _ _ 2 114 [.box 1] Y,aq⟩)<|cI (EA 2 (jA 114 [ref [ref (sM t)]]) (λ_ _ h=>EB h))<|bf<|⟨.inr Y,Ey (.tmp Y (.nil)) Y⟩
theorem R6(n:Int):IntKind.i64.wrap n<=9223372036854775807:=by
 show(if(true&&decide (n%18446744073709551616≥9223372036854775808))=true then n%18446744073709551616-18446744073709551616 else n%18446744073709551616)<=9223372036854775807;by_cases h:n%18446744073709551616≥9223372036854775808
 ·simp only[h,decide_true,Bool.and_self,if_true];omega
 simp only[h,decide_false,Bool.and_false,Bool.false_eq_true,if_false];omega
theorem width_eq(t:Tb):dP t=some (IntKind.i64.wrap (t.vars+(t.rows.length:Int))):=by
 cases t;rfl
theorem tX(t:Tb):Iter ah 114 [ref [ref (sM t)]] (IntKind.i64.wrap (t.vars+(t.rows.length:Int))).toNat (λk=>[ay (k:Int)]):=by
 refine rD Tryz.func114 Y Y (af Y) (λeI M O l J hJ xh hr=>?_);have hw:=R6 (t.vars+(t.rows.length:Int));have hwd:=width_eq t;generalize (IntKind.i64.wrap (t.vars+(t.rows.length:Int)))=W at hw hwd hr⊢;refine bM ?_;refine aW ?_;refine RT.dN .none Y Y (tl Y) ?_;refine RT.call .none (lT hwd) Y ⟨Y,aq⟩ (tl Y) ?_;refine RT.mv .none Y (tl Y) ?_;refine RT.done ?_;refine aV.n ?_;refine bj ?_
 refine xm (I:=λx:{i:Nat//i<=W.toNat}=>AS.cL 14 [(0,.sv (.v (.func (.yield l) #[] #[]))),(1,.sv (ref [ref (sM t)])),(5,ai W),(6,ai ((x.1:Nat):Int))] [] [] (x.1)) (μ:=λx=>W.toNat-x.1) ⟨0,by omega⟩ (by(try dsimp only);exact dD id Y Y Y Y Y ⟨.sv (by first|exact au|exact SV.aZ (by omega)|exact SV.aZ (by push_cast;omega)|exact SV.aZ (by dsimp only;omega)|exact SV.imp_eq (by simp)),.sv (by first|exact au|exact SV.aZ (by omega)|exact SV.aZ (by push_cast;omega)|exact SV.aZ (by dsimp only;omega)|exact SV.imp_eq (by simp)),.sv (by first|exact au|exact SV.aZ (by omega)|exact SV.aZ (by push_cast;omega)|exact SV.aZ (by dsimp only;omega)|exact SV.imp_eq (by simp)),.sv (by first|exact au|exact SV.aZ (by omega)|exact SV.aZ (by push_cast;omega)|exact SV.aZ (by dsimp only;omega)|exact SV.imp_eq (by simp)),aq⟩ trivial trivial (λ_ _=>Y)) ?_;rintro⟨i,Tq⟩
 try dsimp only
 rcases Nat.lt_or_eq_of_le Tq with hi|hi
 ·
  refine bM ?_;refine aW ?_;refine RT.lss .none (true) Y Y (tl Y) (by simp;omega) ?_;refine RT.done ?_;refine aV.n ?_;refine bM ?_;refine dr Y ?_;refine bC ?_;refine aV.n ?_;refine bM ?_;refine bj ?_;refine bM ?_;refine aW ?_;refine RT.mv .none Y (tl Y) ?_;refine RT.DJ .none Y (tl Y) ?_;refine RT.done ?_;refine aV.n ?_;refine bM ?_;refine aW ?_;refine RT.mv .none Y (tl Y) ?_;refine RT.mv .none Y (tl Y) ?_;refine RT.yield .none hr Y (λ_ h=>h) Y (i) Y Y (by omega) (by exact⟨Y,aq⟩) (tl Y) (λyb=>?_);cases yb
  ·
   refine RT.not .none Y (tl Y) true Y ?_;refine RT.done ?_;refine aV.n ?_;refine dr Y ?_;refine bf ?_;refine bG.r ?_;refine aV.r ?_;refine aV.r ?_;refine bG.r ?_;exact⟨.inr rfl,(λh=>by cases h)⟩
  refine RT.not .none Y (tl Y) false Y ?_;refine RT.done ?_;refine aV.n ?_;refine e5 Y ?_;refine bC ?_;refine bG.n ?_;refine aV.n ?_;refine aW ?_;refine RT.add .none (((i:Nat):Int)+1) Y Y (tl Y) (mE (by omega)) ?_;refine RT.mv .none Y (tl Y) ?_;refine RT.done ?_;refine aV.n ?_;refine⟨⟨i+1,by omega⟩,(by dsimp only;omega),?_⟩
  try dsimp only
  exact dD id Y Y Y Y Y ⟨.sv (by first|exact au|exact SV.aZ (by omega)|exact SV.aZ (by push_cast;omega)|exact SV.aZ (by dsimp only;omega)|exact SV.imp_eq (by simp)),.sv (by first|exact au|exact SV.aZ (by omega)|exact SV.aZ (by push_cast;omega)|exact SV.aZ (by dsimp only;omega)|exact SV.imp_eq (by simp)),.sv (by first|exact au|exact SV.aZ (by omega)|exact SV.aZ (by push_cast;omega)|exact SV.aZ (by dsimp only;omega)|exact SV.imp_eq (by simp)),.sv (by first|exact au|exact SV.aZ (by omega)|exact SV.aZ (by push_cast;omega)|exact SV.aZ (by dsimp only;omega)|exact SV.imp_eq (by simp)),aq⟩ trivial trivial (λ_ _=>Y)
 subst hi;refine bM ?_;refine aW ?_;refine RT.lss .none (false) Y Y (tl Y) (by simp;omega) ?_;refine RT.done ?_;refine aV.n ?_;refine bM ?_;refine e5 Y ?_;refine b9 ?_;refine aV.x ?_;refine aV.x ?_;refine bG.x ?_;exact⟨.inl Y,(λ_=>Y)⟩
theorem Cu{x0:Tb}{r:Bool}(h:gZ x0=some r):Pure ah 42 [ref (sM x0)] (az r):=by
 obtain⟨bu,bw,bF,bJ,c7⟩:=x0;refine bD Tryz.func42 Y (af Y) (λeI M vs hvs=>?_);unfold gZ at h;refine sr<|RT.vT .none (s:=.sv _) Y T Y Y<|al (cs:=[az false]) (by exact⟨au,aq⟩) Y<|dn<|qq<|sr<|lV Y Y Y<|bE h λx5 h5 h=>cl (dX h5) ⟨Y,aq⟩<|dn ?_;cases x5;refine fs<|qq<|sr<|lV Y Y Y<|cl (tW ⟨bu,bw,bF,bJ,c7⟩) ⟨Y,aq⟩<|dn<|bj<|bE (F h) λe3 Rl OP=>?_;obtain⟨m3,st3,hs3,ht3,hn3⟩:=yO Rl;refine mW (tX ⟨bu,bw,bF,bJ,c7⟩) (λ_ _ _ _ _=>trivial) Y (λk=>AS.cL 14 [(1,.ptr 1 0),(2,.ptr 2 0),(7,.sv (jA 114 [ref [ref [az bu,ay bw,slc 1 (List.map (eS 4 eQ) bF),slc 1 (List.map bT bJ),slc 1 (List.map (eS 4 eQ) c7)]]]))] [(2,⟨4,[aj false]⟩),(1,⟨30,[.sv (ref [az bu,ay bw,slc 1 (List.map (eS 4 eQ) bF),slc 1 (List.map bT bJ),slc 1 (List.map (eS 4 eQ) c7)])]⟩)] []) [2,1] Y (λ_=>⟨Y,Y⟩) (sK Y) (λ_=>Y) (sL Y) (by(try dsimp only);(try dsimp only);exact dD id Y Y Y Y Y ⟨.ptr,.ptr,.sv au,aq⟩ ⟨⟨_,Y,⟨.sv au,aq⟩⟩,⟨_,Y,⟨.sv au,aq⟩⟩,aq⟩ trivial (λ_ _=>Y)) m3 (λk hk hkm D hD=>?_) (λhdn=>?_);obtain⟨y3,h,hG3,hE3⟩:=ht3 k hk hkm;dsimp only[AS.QO,sJ]
 try dsimp only at h
 refine lE h λp8 hp8 h=>?_;rw[hp8];refine aW<|ag Y<|RT.done ?_;refine aV.n ⟨Y,?_⟩;dsimp only[AS.Da];refine bj<|sr<|lV Y Y Y<|mv Y<|bE h λjC qH h=>cl (wX qH) ⟨Y,Y,aq⟩<|bE h λeX iz h=>cl (HL iz) ⟨Y,aq⟩<|lE h λjv lK h=>ls _ Y Y lK<|dn ?_;cases jv;refine cF<|bC<|bG.n ?_;obtain rfl:=O (F h);obtain⟨hm3,hq3⟩:=hG3 _ Y;exact⟨hm3,Y,Y,wR []⟩;refine cT<|sr<|RT.pX (cells:=[_]) .none (s:=.sv _) Y Y Y T Y<|dn<|bf<|bG.r ?_;obtain rfl:=O (V h);have he3:=hE3 _ Y;subst he3;refine⟨Y,Y,?_⟩;refine bG.r<|aV.r ?_;obtain rfl:=O OP;exact RZ (.one Y Y Y (.nil));have hd3:=hn3 hdn;subst hd3;obtain⟨ee3,OQ⟩:∃q,st3 ((IntKind.i64.wrap (Tb.vars ⟨bu,bw,bF,bJ,c7⟩+((Tb.rows ⟨bu,bw,bF,bJ,c7⟩).length:Int))).toNat)=q:=⟨_,Y⟩;rw[OQ]at OP
 try dsimp only
 refine bG.n<|aV.n<|sr<|RT.pX (cells:=[_]) .none (s:=.sv _) Y Y Y T Y<|dn<|bf ?_;obtain rfl:=O OP;exact RZ (.one Y Y Y (.nil));refine cT<|sr<|RT.pX (cells:=[_]) .none (s:=.sv _) Y Y Y T Y<|dn<|bf<|aV.r ?_;obtain rfl:=O (V h);exact RZ (.one Y Y Y (.nil))
theorem uU{x0:Tb}(N:Nat){r:List (List Qr)}(h:dm x0=some r):cP ah 20 N [ref (sM x0)] (nw N (slc 1 (List.map (fS N 4 (fQ N)) r))):=by
 obtain⟨bu,bw,bF,bJ,c7⟩:=x0;refine bB Tryz.func20 Y (af Y) (λeI M vs hN hvs=>?_);unfold dm at h;refine sr<|RT.vT .none (s:=.sv _) Y T Y Y<|aI Y (bk (N:=N) (n:=1) (e:=(fS N 4 (fQ N))))<|dn<|qq<|sr<|lV Y Y Y<|bE h λx6 h6 h=>cl (dX h6) ⟨Y,aq⟩<|dn ?_;cases x6;refine fs<|sr<|RT.alloc .none T Y Y<|dn<|cI (uD 3 0 302 23 1 Y Y Y T)<|qq<|sr<|lV Y Y Y<|cl (tW ⟨bu,bw,bF,bJ,c7⟩) ⟨Y,aq⟩<|dn<|bj<|bE (F h) λzu hl5 ho5=>?_;obtain⟨Ui,hs5,ht5,hn5⟩:=om hl5;refine lI (tX ⟨bu,bw,bF,bJ,c7⟩) (λ_ _ _ _ _=>trivial) Y (λk=>AS.cL 17 [(1,.ptr 1 0),(3,.ptr 3 0),(8,.sv (jA 114 [ref [ref [az bu,ay bw,slc 1 (List.map (eS 4 eQ) bF),slc 1 (List.map bT bJ),slc 1 (List.map (eS 4 eQ) c7)]]]))] [(3,⟨22,[.row 304]⟩),(1,⟨30,[.sv (ref [az bu,ay bw,slc 1 (List.map (eS 4 eQ) bF),slc 1 (List.map bT bJ),slc 1 (List.map (eS 4 eQ) c7)])]⟩)] [(304,TR 23 1 (fS N 4 (fQ N)) (Ui k))]) [3,1] Y (λ_=>⟨Y,Y⟩) (sK Y) (λ_=>Y) (sL Y) (by(try dsimp only);rw[hs5];(try dsimp only);exact dD (λi=>bif Nat.beq i 304 then 302 else i) Y Y Y Y Y ⟨.ptr,.ptr,.sv au,aq⟩ ⟨⟨_,Y,⟨.row Y,aq⟩⟩,⟨_,Y,⟨.sv au,aq⟩⟩,aq⟩ ⟨⟨_,Y,cj.refl _⟩,aq⟩ (λi hi=>by rw[cg (show i≠304 by omega)];rfl)) (λk hk D hD=>?_) ?_;have h:=ht5 k hk;obtain⟨zu,RK⟩:∃q,Ui k=q:=⟨_,Y⟩
 rw[RK]at h⊢;dsimp only[AS.QO,sJ]
 try dsimp only at h
 refine lE h λp9 hp9 h=>?_;rw[hp9];refine aW<|ag Y<|RT.done ?_;refine aV.n ⟨Y,?_⟩;dsimp only[AS.Da];refine bj<|bh mixed<|RT.eU .none (s:=.row _) Y Y Y T<|lV Y Y Y<|mv Y<|bE h λjv lK h=>RT.bL .none (kZ N lK) (Nat.le_trans hN hD) Y ⟨Y,Y,aq⟩ T<|bl (l:=[jv]) (e:=(fS N 4 (fQ N))) (.one Y (.nil)) Y Y Y Y Y Y<|bE h λe9 jB h=>aR (k:=[jv]) (e:=(fS N 4 (fQ N))) Y Y Y jB<|RT.nI (cells:=[_]) .none Y Y Y Y T Y ?_;refine RT.done ⟨by kernel_rfl,?_⟩;refine bG.n ?_;replace h:=Option.some.inj h;refine⟨aq,Y,Y,?_⟩
 try dsimp only
 rw[<-h]
 try dsimp only
 exact dD (λi=>bif Nat.beq i 304 then 15 else i) Y Y Y Y Y ⟨.ptr,.ptr,.sv au,aq⟩ ⟨⟨_,Y,⟨.row Y,aq⟩⟩,⟨_,Y,⟨.sv au,aq⟩⟩,aq⟩ ⟨⟨_,Y,cj.refl _⟩,aq⟩ (λi hi=>by rw[cg (show i≠304 by omega)];rfl);rw[hn5]
 try dsimp only
 refine bG.n<|aV.n<|sr<|RT.eU .none (s:=.row _) Y Y Y T<|an (s:=.row _) Y<|dn<|ic (i:=304) (E1:=23) (n:=1) (e:=(fS N 4 (fQ N))) (l:=zu) hN (λ_ h=>h) Y<|bf ?_;obtain rfl:=O ho5;exact R1 Y;refine cT<|sr<|aI Y (bk (N:=N) (n:=1) (e:=(fS N 4 (fQ N))))<|dn<|bf<|aV.r ?_;obtain rfl:=O (V h);exact R1 Y
theorem oO{o0:Bool}{o1:Int}{o2:List (List Qr)}{o3:List Int}{o4:List (List Qr)}{r:Bool}(h:cw (⟨o0,o1,o2,o3,o4⟩:Tb)=some r):wP ah 57 [.ptr 1000 0] 79 [.s (az o0),.s (ay o1),.r (TR 23 1 (eS 4 eQ) o2),.r (TR 3 1 bT o3),.r (TR 23 1 (eS 4 eQ) o4)] (az r):=dW (cells:=sM (⟨o0,o1,o2,o3,o4⟩:Tb)) (r:=λN=>(az r)) (λN=>by exact mZ (dX h) N) Y ⟨⟨au,λ_ _ q=>One.h _ _ q⟩,⟨au,λ_ _ q=>One.h _ _ q⟩,cW,cW,cW,aq⟩ KX
theorem yf{o0:Bool}{o1:Int}{o2:List (List Qr)}{o3:List Int}{o4:List (List Qr)}{r:Int}(h:dP (⟨o0,o1,o2,o3,o4⟩:Tb)=some r):wP ah 58 [.ptr 1000 0] 79 [.s (az o0),.s (ay o1),.r (TR 23 1 (eS 4 eQ) o2),.r (TR 3 1 bT o3),.r (TR 23 1 (eS 4 eQ) o4)] (ay r):=dW (cells:=sM (⟨o0,o1,o2,o3,o4⟩:Tb)) (r:=λN=>(ay r)) (λN=>by exact mZ (lT h) N) Y ⟨⟨au,λ_ _ q=>One.h _ _ q⟩,⟨au,λ_ _ q=>One.h _ _ q⟩,cW,cW,cW,aq⟩ KX
theorem iV{o0:Bool}{o1:Int}{o2:List (List Qr)}{o3:List Int}{o4:List (List Qr)}{r:List Int}(h:ez (⟨o0,o1,o2,o3,o4⟩:Tb)=some r):wP ah 17 [.ptr 1000 0] 79 [.s (az o0),.s (ay o1),.r (TR 23 1 (eS 4 eQ) o2),.r (TR 3 1 bT o3),.r (TR 23 1 (eS 4 eQ) o4)] (slc 1 (List.map bT r)):=dW (cells:=sM (⟨o0,o1,o2,o3,o4⟩:Tb)) (r:=λN=>nw N (slc 1 (List.map bT r))) (λN=>by exact Ft N h) Y ⟨⟨au,λ_ _ q=>One.h _ _ q⟩,⟨au,λ_ _ q=>One.h _ _ q⟩,cW,cW,cW,aq⟩ WS
theorem oP{o0:Bool}{o1:Int}{o2:List (List Qr)}{o3:List Int}{o4:List (List Qr)}{r:List Qr}(h:fP (⟨o0,o1,o2,o3,o4⟩:Tb)=some r):wP ah 19 [.ptr 1000 0] 79 [.s (az o0),.s (ay o1),.r (TR 23 1 (eS 4 eQ) o2),.r (TR 3 1 bT o3),.r (TR 23 1 (eS 4 eQ) o4)] (slc 4 (List.map eQ r)):=dW (cells:=sM (⟨o0,o1,o2,o3,o4⟩:Tb)) (r:=λN=>nw N (slc 4 (List.map (fQ N) r))) (λN=>by exact rO N h) Y ⟨⟨au,λ_ _ q=>One.h _ _ q⟩,⟨au,λ_ _ q=>One.h _ _ q⟩,cW,cW,cW,aq⟩ A4
theorem wY{o0:Bool}{o1:Int}{o2:List (List Qr)}{o3:List Int}{o4:List (List Qr)}{x1:Int}{r:List Qr}(h:dH (⟨o0,o1,o2,o3,o4⟩:Tb) x1=some r):wP ah 28 [.ptr 1000 0,ai x1] 79 [.s (az o0),.s (ay o1),.r (TR 23 1 (eS 4 eQ) o2),.r (TR 3 1 bT o3),.r (TR 23 1 (eS 4 eQ) o4)] (slc 4 (List.map eQ r)):=dW (cells:=sM (⟨o0,o1,o2,o3,o4⟩:Tb)) (r:=λN=>nw N (slc 4 (List.map (fQ N) r))) (λN=>by exact kZ N h) Y ⟨⟨au,λ_ _ q=>One.h _ _ q⟩,⟨au,λ_ _ q=>One.h _ _ q⟩,cW,cW,cW,aq⟩ A4
theorem yg{o0:Bool}{o1:Int}{o2:List (List Qr)}{o3:List Int}{o4:List (List Qr)}{r:List Qr}(h:jR (⟨o0,o1,o2,o3,o4⟩:Tb)=some r):wP ah 38 [.ptr 1000 0] 79 [.s (az o0),.s (ay o1),.r (TR 23 1 (eS 4 eQ) o2),.r (TR 3 1 bT o3),.r (TR 23 1 (eS 4 eQ) o4)] (slc 4 (List.map eQ r)):=dW (cells:=sM (⟨o0,o1,o2,o3,o4⟩:Tb)) (r:=λN=>nw N (slc 4 (List.map (fQ N) r))) (λN=>by exact Fu N h) Y ⟨⟨au,λ_ _ q=>One.h _ _ q⟩,⟨au,λ_ _ q=>One.h _ _ q⟩,cW,cW,cW,aq⟩ A4
theorem nN{o0:Bool}{o1:Int}{o2:List (List Qr)}{o3:List Int}{o4:List (List Qr)}{r:List Qr}(h:fK (⟨o0,o1,o2,o3,o4⟩:Tb)=some r):wP ah 21 [.ptr 1000 0] 79 [.s (az o0),.s (ay o1),.r (TR 23 1 (eS 4 eQ) o2),.r (TR 3 1 bT o3),.r (TR 23 1 (eS 4 eQ) o4)] (slc 4 (List.map eQ r)):=dW (cells:=sM (⟨o0,o1,o2,o3,o4⟩:Tb)) (r:=λN=>nw N (slc 4 (List.map (fQ N) r))) (λN=>by exact AB N h) Y ⟨⟨au,λ_ _ q=>One.h _ _ q⟩,⟨au,λ_ _ q=>One.h _ _ q⟩,cW,cW,cW,aq⟩ A4
theorem AE{o0:Bool}{o1:Int}{o2:List (List Qr)}{o3:List Int}{o4:List (List Qr)}{r:Bool}(h:iF (⟨o0,o1,o2,o3,o4⟩:Tb)=some r):wP ah 35 [.ptr 1000 0] 79 [.s (az o0),.s (ay o1),.r (TR 23 1 (eS 4 eQ) o2),.r (TR 3 1 bT o3),.r (TR 23 1 (eS 4 eQ) o4)] (az r):=dW (cells:=sM (⟨o0,o1,o2,o3,o4⟩:Tb)) (r:=λN=>(az r)) (λN=>by exact mZ (AD h) N) Y ⟨⟨au,λ_ _ q=>One.h _ _ q⟩,⟨au,λ_ _ q=>One.h _ _ q⟩,cW,cW,cW,aq⟩ KX
theorem tY{o0:Bool}{o1:Int}{o2:List (List Qr)}{o3:List Int}{o4:List (List Qr)}{r:Bool}(h:gZ (⟨o0,o1,o2,o3,o4⟩:Tb)=some r):wP ah 42 [.ptr 1000 0] 79 [.s (az o0),.s (ay o1),.r (TR 23 1 (eS 4 eQ) o2),.r (TR 3 1 bT o3),.r (TR 23 1 (eS 4 eQ) o4)] (az r):=dW (cells:=sM (⟨o0,o1,o2,o3,o4⟩:Tb)) (r:=λN=>(az r)) (λN=>by exact mZ (Cu h) N) Y ⟨⟨au,λ_ _ q=>One.h _ _ q⟩,⟨au,λ_ _ q=>One.h _ _ q⟩,cW,cW,cW,aq⟩ KX
theorem jS{o0:Bool}{o1:Int}{o2:List (List Qr)}{o3:List Int}{o4:List (List Qr)}{r:List (List Qr)}(h:fX (⟨o0,o1,o2,o3,o4⟩:Tb)=some r):wP ah 18 [.ptr 1000 0] 79 [.s (az o0),.s (ay o1),.r (TR 23 1 (eS 4 eQ) o2),.r (TR 3 1 bT o3),.r (TR 23 1 (eS 4 eQ) o4)] (slc 1 (List.map (eS 4 eQ) r)):=dW (cells:=sM (⟨o0,o1,o2,o3,o4⟩:Tb)) (r:=λN=>nw N (slc 1 (List.map (fS N 4 (fQ N)) r))) (λN=>by exact HY N h) Y ⟨⟨au,λ_ _ q=>One.h _ _ q⟩,⟨au,λ_ _ q=>One.h _ _ q⟩,cW,cW,cW,aq⟩ GL
theorem ir{o0:Bool}{o1:Int}{o2:List (List Qr)}{o3:List Int}{o4:List (List Qr)}{r:List (List Qr)}(h:dm (⟨o0,o1,o2,o3,o4⟩:Tb)=some r):wP ah 20 [.ptr 1000 0] 79 [.s (az o0),.s (ay o1),.r (TR 23 1 (eS 4 eQ) o2),.r (TR 3 1 bT o3),.r (TR 23 1 (eS 4 eQ) o4)] (slc 1 (List.map (eS 4 eQ) r)):=dW (cells:=sM (⟨o0,o1,o2,o3,o4⟩:Tb)) (r:=λN=>nw N (slc 1 (List.map (fS N 4 (fQ N)) r))) (λN=>by exact uU N h) Y ⟨⟨au,λ_ _ q=>One.h _ _ q⟩,⟨au,λ_ _ q=>One.h _ _ q⟩,cW,cW,cW,aq⟩ GL
end
section
open Go.Fw Go.Fw.Z Go.RowKit
set_option maxHeartbeats 4000000 in
theorem jr{x0:Lr}{r:Bool×Int×(List (List Qr))×(List Int)×(List (List Qr))}(h:dQ x0=some r):JS ah 56 [.agg (Jm x0)] false [] 79 [.s (az r.1),.s (ay r.2.1),.r (TR 23 1 (eS 4 eQ) r.2.2.1),.r (TR 3 1 bT r.2.2.2.1),.r (TR 23 1 (eS 4 eQ) r.2.2.2.2)]:=by
 obtain⟨bu,bw,bF,bJ⟩:=x0;refine HP Tryz.func56 Y (af Y) (λeI M vs hvs=>?_);unfold dQ at h;refine sr<|bx Y<|ag Y<|dn<|sr<|fa Y Y<|lV Y Y Y<|bI (cs:=[_,_,_,_,_]) (cs':=[az true,ay bu,.v (.slice none 0 0),.v (.slice none 0 0),.v (.slice none 0 0)]) (.one Y (.one Y (.nil))) ⟨au,au,au,au,au,aq⟩<|bx Y<|an (s:=.ptr _ _) Y<|dn<|cI (uD 12 2 304 23 1 Y Y Y T)<|cI (uD 12 3 305 3 1 Y Y Y T) ?_;refine cI (uD 12 4 306 23 1 Y Y Y T)<|qq<|sr<|fa Y Y<|lV Y Y Y<|lE h λe9 jB h=>ln Y jB<|mv Y<|dn<|bE h λe6 Di nx=>?_;refine bU (λ(qe:(List (List Qr)))=>AS.cL 105 [(1,.ptr 1 0),(3,.ptr 12 0)] [(12,⟨79,[aj true,ai bu,.row 308,.row 305,.row 306]⟩),(1,⟨25,[ai bu,.sv (slc 1 (List.map (eS 4 eQ) bw)),.sv (slc 1 (List.map (eS 4 eQ) bF)),.sv (slc 4 (List.map eQ bJ))]⟩)] [(308,TR 23 1 (eS 4 eQ) qe),(305,TR 3 1 bT []),(306,TR 23 1 (eS 4 eQ) [])]) (λqe=>qe=e6) ?_ (λqe Dj=>?_);refine bj ?_
 refine bV Di (λs6=>AS.cL 105 [(1,.ptr 1 0),(3,.ptr 12 0),(14,.sv (slc 1 (List.map (eS 4 eQ) bw))),(15,ai e9),(16,ai s6.1)] [(12,⟨79,[aj true,ai bu,.row 308,.row 305,.row 306]⟩),(1,⟨25,[ai bu,.sv (slc 1 (List.map (eS 4 eQ) bw)),.sv (slc 1 (List.map (eS 4 eQ) bF)),.sv (slc 4 (List.map eQ bJ))]⟩)] [(308,TR 23 1 (eS 4 eQ) s6.2),(305,TR 3 1 bT []),(306,TR 23 1 (eS 4 eQ) [])]) (dD (λi=>bif Nat.beq i 308 then 304 else i) Y Y Y Y Y ⟨.ptr,.ptr,.sv au,.sv au,.sv au,aq⟩ ⟨⟨_,Y,⟨.sv au,.sv au,.row Y,.row Y,.row Y,aq⟩⟩,⟨_,Y,⟨.sv au,.sv au,.sv au,.sv au,aq⟩⟩,aq⟩ ⟨⟨_,Y,cj.refl _⟩,⟨_,Y,cj.refl _⟩,⟨_,Y,cj.refl _⟩,aq⟩ (λi hi=>by rw[cg (show i≠308 by omega)];rfl)) (λs6 y6 G6 h Dk yW=>?_);obtain⟨K9,Fq⟩:=s6
 try dsimp only
 refine sr<|lE h λgW nL h=>ls _ Y Y nL<|dn<|qq ?_;cases gW;refine cF<|b9<|aV.x<|aV.x<|bG.x<|aV.n ?_;obtain rfl:=O (F h);exact⟨Fq,yW _ Y,wR []⟩;refine cT<|bC<|aV.n<|qq<|bj<|sr<|bE (V h) λgX lM h=>ix Y Y lM<|lr Y Y<|ag Y<|dn<|bh mixed<|mo (s:=.ptr _ _) Y<|mo (s:=.ptr _ _) Y<|RT.cH .none Y T<|fa Y Y<|RT.eU .none (s:=.row _) Y Y Y T<|mv Y<|fa Y Y<|lV Y Y Y<|bE h λoY wE h=>cl (vD wE) ⟨Y,Y,aq⟩<|bl (l:=[oY]) (e:=(eS 4 eQ)) (.one Y (.nil)) Y Y Y Y Y Y ?_;refine bE h λvk BP h=>aR (k:=[oY]) (e:=(eS 4 eQ)) Y Y Y BP<|RT.cH .none Y T<|fa Y Y<|RT.nI (cells:=[_,_,_,_,_]) .none Y Y Y Y T Y ?_;refine RT.done ⟨by kernel_rfl,?_⟩;refine bG.n<|aV.n<|aW<|lE h λuG AY h=>ad _ Y Y AY<|mv Y<|RT.done ?_;obtain rfl:=O h;exact aV.n ⟨(uG,vk),Dk _ Y,dD (λi=>bif Nat.beq i 308 then 30 else i) Y Y Y Y Y ⟨.ptr,.ptr,.sv au,.sv au,.sv au,aq⟩ ⟨⟨_,Y,⟨.sv au,.sv au,.row Y,.row Y,.row Y,aq⟩⟩,⟨_,Y,⟨.sv au,.sv au,.sv au,.sv au,aq⟩⟩,aq⟩ ⟨⟨_,Y,cj.refl _⟩,⟨_,Y,cj.refl _⟩,⟨_,Y,cj.refl _⟩,aq⟩ (λi hi=>by rw[cg (show i≠308 by omega)];rfl)⟩;subst Dj
 try dsimp only
 refine aV.n<|qq<|sr<|fa Y Y<|lV Y Y Y<|lE nx λqa xN nx=>ln Y xN<|mv Y<|dn<|bE nx λWY W4 cx=>?_;refine bU (λ(yh:(List Int)×(List (List Qr)))=>AS.cL 105 [(3,.ptr 12 0)] [(12,⟨79,[aj true,ai bu,.row 308,.row 312,.row 313]⟩)] [(308,TR 23 1 (eS 4 eQ) qe),(312,TR 3 1 bT yh.1),(313,TR 23 1 (eS 4 eQ) yh.2)]) (λyh=>yh=WY) ?_ (λyh W5=>?_);refine bj ?_;refine bV W4 (λI4=>AS.cL 105 [(1,.ptr 1 0),(3,.ptr 12 0),(36,ai qa),(37,ai I4.1)] [(12,⟨79,[aj true,ai bu,.row 308,.row 312,.row 313]⟩),(1,⟨25,[ai bu,.sv (slc 1 (List.map (eS 4 eQ) bw)),.sv (slc 1 (List.map (eS 4 eQ) bF)),.sv (slc 4 (List.map eQ bJ))]⟩)] [(308,TR 23 1 (eS 4 eQ) qe),(312,TR 3 1 bT I4.2.1),(313,TR 23 1 (eS 4 eQ) I4.2.2)]) (dD (λi=>bif Nat.beq i 312 then 305 else bif Nat.beq i 313 then 306 else i) Y Y Y Y Y ⟨.ptr,.ptr,.sv au,.sv au,aq⟩ ⟨⟨_,Y,⟨.sv au,.sv au,.row Y,.row Y,.row Y,aq⟩⟩,⟨_,Y,⟨.sv au,.sv au,.sv au,.sv au,aq⟩⟩,aq⟩ ⟨⟨_,Y,cj.refl _⟩,⟨_,Y,cj.refl _⟩,⟨_,Y,cj.refl _⟩,aq⟩ (λi hi=>by rw[cg (show i≠312 by omega)];rw[cg (show i≠313 by omega)];rfl)) (λI4 y30 G30 h W6 W7=>?_);obtain⟨oN,uI,uJ⟩:=I4
 try dsimp only
 refine sr<|lE h λzW Jy h=>ls _ Y Y Jy<|dn<|qq ?_;cases zW;refine cF<|b9<|aV.x<|aV.x<|bG.x<|aV.n ?_;obtain rfl:=O (F h);exact⟨(uI,uJ),W7 _ Y,wR []⟩;refine cT<|bC<|aV.n<|qq<|bj<|sr<|mv Y<|ag Y<|dn<|sr<|fa Y Y<|lV Y Y Y<|fa Y Y<|lV Y Y Y<|lE (V h) λBL G4 h=>ln Y G4<|lE h λyz Jz h=>ad _ Y Y Jz<|lE h λxj h46 h=>ad _ Y Y h46<|bE h λwm BR h=>RT.oA (n:=4) (e:=eQ) .none Y Y T Y T (by rfl) (by decide) (by exact⟨au,aB,au,aB,aq⟩) BR ?_;refine an (s:=.row _) Y<|dn<|qq<|sr<|fa Y Y<|lV Y Y Y<|mv Y<|dn<|bE h λZF VP gY=>?_;refine bU (λ(wW:(List Qr))=>AS.cL 105 [(1,.ptr 1 0),(3,.ptr 12 0),(6,ai oN),(7,.row 47),(36,ai qa),(37,ai oN)] [(12,⟨79,[aj true,ai bu,.row 308,.row 312,.row 313]⟩),(1,⟨25,[ai bu,.sv (slc 1 (List.map (eS 4 eQ) bw)),.sv (slc 1 (List.map (eS 4 eQ) bF)),.sv (slc 4 (List.map eQ bJ))]⟩)] [(47,TR 43 4 eQ wW),(308,TR 23 1 (eS 4 eQ) qe),(312,TR 3 1 bT uI),(313,TR 23 1 (eS 4 eQ) uJ)]) (λwW=>wW=ZF) ?_ (λwW VQ=>?_);refine bj ?_
 refine bV VP (λKQ=>AS.cL 105 [(1,.ptr 1 0),(3,.ptr 12 0),(6,ai oN),(7,.row 47),(36,ai qa),(37,ai oN),(49,ai bu),(50,ai KQ.1)] [(12,⟨79,[aj true,ai bu,.row 308,.row 312,.row 313]⟩),(1,⟨25,[ai bu,.sv (slc 1 (List.map (eS 4 eQ) bw)),.sv (slc 1 (List.map (eS 4 eQ) bF)),.sv (slc 4 (List.map eQ bJ))]⟩)] [(47,TR 43 4 eQ KQ.2),(308,TR 23 1 (eS 4 eQ) qe),(312,TR 3 1 bT uI),(313,TR 23 1 (eS 4 eQ) uJ)]) (wR []) (λKQ y38 G38 h VR VS=>?_);obtain⟨Cr,Cs⟩:=KQ
 try dsimp only
 refine sr<|lE h λGM Mi h=>ls _ Y Y Mi<|dn<|qq ?_;cases GM;refine cF<|b9<|aV.x<|aV.x<|bG.x<|aV.n ?_;obtain rfl:=O (F h);exact⟨Cs,VS _ Y,wR []⟩;refine cT<|bC<|aV.n<|qq<|bj<|sr<|mv Y<|ag Y<|dn<|aW<|mo (s:=.row _) Y<|mv Y<|fa Y Y<|lV Y Y Y<|mv Y<|mv Y ?_;obtain⟨⟨⟨La,HX⟩,⟨Pf,Pg⟩⟩,VT,h⟩:=bS (V h);refine cl (Mq VT) ⟨Y,Y,Y,aq⟩<|bE h λGc Oj h=>iR Y Y Y Oj<|bE h λQV aaL h=>sA ⟨⟨La,HX⟩,⟨Pf,Pg⟩⟩ Y Y Y aaL<|RT.done<|bG.n<|aV.n<|aW<|lE h λGe Ol h=>ad _ Y Y Ol<|mv Y<|RT.done ?_;obtain rfl:=O h;exact aV.n ⟨(Ge,QV),VR _ Y,wR []⟩;subst VQ
 try dsimp only
 refine aV.n<|qq<|bh mixed<|mo (s:=.row _) Y<|fa Y Y<|lV Y Y Y<|mv Y<|lE gY λI1 VU gY=>ad _ Y Y VU ?_;obtain⟨⟨⟨Ph,Pj⟩,⟨Pk,Pm⟩⟩,Z4,gY⟩:=bS gY;refine cl (jw Z4) ⟨Y,aq⟩<|bE gY λJr VV gY=>iR Y Y Y VV<|bE gY λTr Oi gY=>sA ⟨⟨Ph,Pj⟩,⟨Pk,Pm⟩⟩ Y Y Y Oi ?_;refine RT.done ⟨by kernel_rfl,?_⟩;refine aV.n<|sr<|mo (s:=.row _) Y<|mo (s:=.row _) Y<|lE gY λI5 W8 gY=>lL Y Y W8<|lE gY λL7 VY gY=>sb _ Y Y VY<|fa Y Y<|lV Y Y Y<|mv Y ?_;obtain⟨⟨⟨Ut,Uu⟩,⟨Uv,Uw⟩⟩,h76,gY⟩:=bS gY;refine ix Y Y h76<|RT.kn (cs:=[_,_,_,_]) .none Y T Y Y ?_;obtain⟨⟨⟨Pn,Po⟩,⟨Pp,Pq⟩⟩,h78,gY⟩:=bS gY;refine cl (pN h78) ⟨Y,aq⟩<|bE gY λI2 VZ gY=>iR Y Y Y VZ<|bE gY λl44 aaN gY=>sA ⟨⟨Pn,Po⟩,⟨Pp,Pq⟩⟩ Y Y Y aaN<|dn<|qq<|cI (oh (i:=47) (E1:=43) (n:=4) (e:=eQ) (l:=l44) Y)<|aW<|mo (s:=.ptr _ _) Y<|mo (s:=.ptr _ _) Y<|RT.cH .none Y T<|fa Y Y<|RT.eU .none (s:=.row _) Y Y Y T<|mv Y<|bl (l:=[l44]) (e:=(eS 4 eQ)) (.one Y (.nil)) Y Y Y Y Y Y ?_;refine bE gY λJt Z6 gY=>aR (k:=[l44]) (e:=(eS 4 eQ)) Y Y Y Z6<|RT.cH .none Y T<|fa Y Y<|RT.nI (cells:=[_,_,_,_,_]) .none Y Y Y Y T Y<|dn<|bh mixed<|mo (s:=.ptr _ _) Y<|mo (s:=.ptr _ _) Y<|RT.cH .none Y T<|fa Y Y<|RT.eU .none (s:=.row _) Y Y Y T<|fa Y Y<|lV Y Y Y<|mv Y<|lE gY λWX h98 gY=>ad _ Y Y h98 ?_
 refine bl (l:=[WX]) (e:=bT) (.one Y (.nil)) Y Y Y Y Y Y<|bE gY λMv W9 gY=>aR (k:=[WX]) (e:=bT) Y Y Y W9<|RT.cH .none Y T<|fa Y Y<|RT.nI (cells:=[_,_,_,_,_]) .none Y Y Y Y T Y ?_;refine RT.done ⟨by kernel_rfl,?_⟩;refine bG.n<|aV.n<|aW<|lE gY λL9 V1 gY=>ad _ Y Y V1<|mv Y<|RT.done ?_;obtain rfl:=O gY;exact aV.n ⟨(L9,Mv,Jt),W6 _ Y,dD (λi=>bif Nat.beq i 312 then 100 else bif Nat.beq i 313 then 87 else i) Y Y Y Y Y ⟨.ptr,.ptr,.sv au,.sv au,aq⟩ ⟨⟨_,Y,⟨.sv au,.sv au,.row Y,.row Y,.row Y,aq⟩⟩,⟨_,Y,⟨.sv au,.sv au,.sv au,.sv au,aq⟩⟩,aq⟩ ⟨⟨_,Y,cj.refl _⟩,⟨_,Y,cj.refl _⟩,⟨_,Y,cj.refl _⟩,aq⟩ (λi hi=>by rw[cg (show i≠312 by omega)];rw[cg (show i≠313 by omega)];rfl)⟩;subst W5;obtain⟨Lb,iU⟩:=yh
 try dsimp only
 refine aV.n<|sr<|mo (s:=.ptr _ _) Y<|an (s:=.ptr _ _) Y<|dn<|bf ?_;obtain rfl:=O cx;exact⟨.inr Y,12,[308,312,313],.tmp Y,Y,⟨Y,Y,Y,aq⟩,by decide⟩
theorem tZ{x0:Lr}{r:Bool×Int×(List (List Qr))×(List Int)×(List (List Qr))}(h:g9 x0=some r):JS ah 12 [.agg (Jm x0)] true [ay 0] 79 [.s (az r.1),.s (ay r.2.1),.r (TR 23 1 (eS 4 eQ) r.2.2.1),.r (TR 3 1 bT r.2.2.2.1),.r (TR 23 1 (eS 4 eQ) r.2.2.2.2)]:=by
 obtain⟨bu,bw,bF,bJ⟩:=x0;refine z8 (t1:=2) (t2:=3) Tryz.func12 Y (af Y) Y (λeI M vs hvs=>?_);unfold g9 at h;refine sr<|bx Y<|ag Y<|ag Y<|dn<|qq<|sr<|ld Y Y (.k4 Y Y Y Y)<|bE h λx5 h5 h=>cl (pQ h5) ⟨Y,aq⟩<|lE h λx6 h6 h=>nt Y _ h6<|dn ?_;cases x6;refine fs<|sr<|ld Y Y (.k4 Y Y Y Y) ?_;obtain⟨⟨wI,wJ,B4,B5,R5⟩,h8,h⟩:=bS (F h);refine RT.JU .none (jr h8) [304,305,306] (by decide) Y ⟨⟨Y,T⟩,⟨Y,T⟩,⟨Y,T⟩,aq⟩ Y ⟨Y,aq⟩ T Y Y<|an (s:=.ptr _ _) Y<|ag Y<|dn<|bf ?_;obtain rfl:=O h;exact⟨.inr Y,8,[304,305,306],Y,Y,Y,⟨Y,Y,Y,aq⟩,by decide⟩;refine cT<|sr<|ag Y<|ag Y<|dn<|bf<|aV.r ?_;replace h:=V h;cases h
theorem Fv{x0:List Qr}{HC:Qr}{r:List Qr}(h:nC x0 HC=some r):Pure ah 106 [slc 4 (List.map eQ x0),ref (eQ HC)] (slc 4 (List.map eQ r)):=by
 obtain⟨⟨HD,HE⟩,⟨HF,HG⟩⟩:=HC;refine bD Tryz.func106 Y (af Y) (λeI M vs hvs=>?_);unfold nC at h;refine sr<|aI Y (aB (n:=4) (e:=eQ))<|dn<|sr<|RT.kn (cs:=[_,_,_,_]) .none Y T Y Y<|mv Y<|bE h λx6 h6 h=>cl (Fh h6) ⟨Y,Y,aq⟩<|ag Y<|dn<|bf ?_;obtain rfl:=O h;exact R1 Y
theorem Dt{o0:Bool}{o1:Int}{o2:List (List Qr)}{o3:List Int}{o4:List (List Qr)}{x0:List Qr}{HC:Int}{c_2:Int}{r:List Qr}(h:j9 o0 o1 o2 o3 o4 x0 HC c_2=some r):z9 ah 107 (λβ=>[.sv (slc 4 (List.map eQ x0)),.sv (ref [ay HC]),.sv (ref [.v (.pointer (some ⟨β,0,none⟩))]),.sv (ref [ay c_2])]) 79 [.s (az o0),.s (ay o1),.r (TR 23 1 (eS 4 eQ) o2),.r (TR 3 1 bT o3),.r (TR 23 1 (eS 4 eQ) o4)] (λ_ M' _ v=>SV.h (slc 4 (List.map eQ r)) M' v):=by
 refine Fo [1001,1002,1003] Tryz.func107 Y (λ_=>(af Y)) (λ_=>Y) (by decide) Y Y ⟨⟨_,Y⟩,⟨_,Y⟩,aq,aq,aq,aq⟩ (λeI M β us=>?_);unfold j9 at h;refine sr<|aI Y (aB (n:=4) (e:=eQ))<|dn<|qq<|sr<|mv Y<|lr Y Y ?_;obtain⟨⟨⟨wI,wJ⟩,⟨B4,B5⟩⟩,h8,h⟩:=bS h;refine ix Y Y h8<|RT.kn (cs:=[_,_,_,_]) .none Y T Y Y<|bE h λeY iO h=>cl (jX iO) ⟨Y,aq⟩<|lE h λjC qH h=>eq _ Y Y (xg (p:=eY) (q:=0) qH)<|dn ?_;cases jC;refine fs<|qq<|bh mixed<|mv Y<|lr Y Y ?_;obtain⟨⟨⟨lO,lP⟩,⟨G9,He⟩⟩,jB,h⟩:=bS (F h);refine ix Y Y jB<|RT.kn (cs:=[_,_,_,_]) .none Y T Y Y ?_;obtain⟨⟨⟨vu,vv⟩,⟨D4,D5⟩⟩,nL,h⟩:=bS h;refine cl (Hs nL) ⟨Y,aq⟩<|RT.zq (k:=1000) .none Y Y Y T<|RT.cH .none Y T<|fa Y Y<|RT.eU .none (s:=.row _) Y Y Y T<|lr Y Y<|bE h λku sZ h=>iR Y Y Y sZ<|bE h λjE qp h=>lR (e:=(eS 4 eQ)) Y Y qp Y<|mv Y<|bE h λmH vp h=>cl (zh vp) ⟨Y,Y,Y,aq⟩<|ag Y ?_;refine RT.done ⟨by kernel_rfl,?_⟩;refine aV.n<|bf ?_;obtain rfl:=O h;exact⟨.inr Y,gE (.tmp Y (.nil)) au,Y,⟨Y,Y,Y,aq⟩⟩;refine cT<|sr<|mv Y<|ag Y<|dn<|bf<|aV.r ?_;obtain rfl:=O (V h);exact⟨.inr Y,gE (.tmp Y (.nil)) au,Y,⟨Y,Y,Y,aq⟩⟩
set_option maxHeartbeats 4000000 in
theorem jz{o0:Bool}{o1:Int}{o2:List (List Qr)}{o3:List Int}{o4:List (List Qr)}{x1:Int}{x2:Int}{r:(List (List Qr))×(List Int)×(List (List Qr))}(h:cJ o0 o1 o2 o3 o4 x1 x2=some r):RR ah 60 [.ptr 1000 0,ai x1,ai x2] 79 [.s (az o0),.s (ay o1),.r (TR 23 1 (eS 4 eQ) o2),.r (TR 3 1 bT o3),.r (TR 23 1 (eS 4 eQ) o4)] (.any) [.s (az o0),.s (ay o1),.r (TR 23 1 (eS 4 eQ) r.1),.r (TR 3 1 bT r.2.1),.r (TR 23 1 (eS 4 eQ) r.2.2)]:=by
 refine Ce [1001,1002,1003] Tryz.func60 Y (af Y) Y (by decide) Y (λeI M β us=>?_);unfold cJ at h;refine sr<|RT.vT .none (s:=.ptr _ _) Y T Y Y<|RT.vT .none (s:=.sv _) Y T Y Y<|RT.vT .none (s:=.sv _) Y T Y Y<|dn<|R3 (i:=3) Y Y<|cI (gN (i:=3) Y [.v (.pointer (some ⟨β,0,none⟩))] (.cons Y (.nil)) .any 0 [(3,.sv (ref [.v (.pointer (some ⟨β,0,none⟩))]))] (λ_ _ _=>trivial) (qy.h (l:=[.v (.pointer (some ⟨β,0,none⟩))])) ⟨@FT.ptr _ _ _ _ _ 3 0 Y,aq⟩)<|cI (gN (i:=4) Y [ay x1] (.cons Y (.nil)) .any 0 [(4,.sv (ref [ay x1]))] (λ_ _ _=>trivial) (qy.h (l:=[ay x1])) ⟨@FT.ptr _ _ _ _ _ 4 0 Y,aq⟩) ?_;refine cI (gN (i:=5) Y [ay x2] (.cons Y (.nil)) .any 0 [(5,.sv (ref [ay x2]))] (λ_ _ _=>trivial) (qy.h (l:=[ay x2])) ⟨@FT.ptr _ _ _ _ _ 5 0 Y,aq⟩)<|qq<|bh mixed ?_;obtain⟨⟨⟨GQ,GR⟩,⟨Ux,Uy⟩⟩,lK,h⟩:=bS h;refine cl (jw lK) ⟨Y,aq⟩<|RT.zq (k:=1000) .none Y Y Y T<|RT.cH .none Y T<|fa Y Y<|RT.eU .none (s:=.row _) Y Y Y T<|lr Y Y<|bE h λmm n7 h=>iR Y Y Y n7<|bE h λja o5 h=>lR (e:=(eS 4 eQ)) Y Y o5 Y<|lr Y Y ?_;obtain⟨⟨⟨xR,xS⟩,⟨xT,xU⟩⟩,qJ,h⟩:=bS h;refine ix Y Y qJ<|RT.kn (cs:=[_,_,_,_]) .none Y T Y Y ?_;obtain⟨⟨⟨⟨zw,zx⟩,⟨zy,zA⟩⟩,Mp⟩,qp,h⟩:=bS h
 refine cl (Hq qp) ⟨Y,Y,aq⟩<|mv Y<|ex Y Y<|ex Y Y<|al (cs:=[az false,ax,az false,ax]) (by exact⟨au,aB,au,aB,aq⟩) Y<|so Y Y Y<|ag Y ?_;refine RT.done ⟨by kernel_rfl,?_⟩;refine aV.n ?_;refine cI (gN (i:=6) Y [az zw,slc 1 (List.map aY zx),az zy,slc 1 (List.map aY zA)] (.k4 Y Y Y Y) .any 0 [(6,.sv (ref [az zw,slc 1 (List.map aY zx),az zy,slc 1 (List.map aY zA)]))] (λ_ _ _=>trivial) (qy.h (l:=[az zw,slc 1 (List.map aY zx),az zy,slc 1 (List.map aY zA)])) ⟨@FT.ptr _ _ _ _ _ 6 0 Y,aq⟩)<|sr<|RT.yQ (caps:=[_]) .none ⟨Y,aq⟩ T<|bI (cs:=[_]) (cs':=[jA 106 [ref [az zw,slc 1 (List.map aY zx),az zy,slc 1 (List.map aY zA)]]]) (.one Y (.nil)) ⟨au,aq⟩ ?_;refine RT.alloc .none T Y Y<|so Y Y Y<|dn<|qq<|bh mixed<|RT.zq (k:=1000) .none Y Y Y T<|RT.cH .none Y T<|fa Y Y<|RT.eU .none (s:=.row _) Y Y Y T<|lr Y Y<|fa Y Y<|lV Y Y Y<|RT.zq (k:=1000) .none Y Y Y T<|RT.cH .none Y T<|fa Y Y<|RT.eU .none (s:=.row _) Y Y Y T<|lr Y Y<|bE h λwj G0 h=>iR Y Y Y G0 ?_;refine bE h λqm BQ h=>lR (e:=(eS 4 eQ)) Y Y BQ Y<|bE h λsS DW h=>RT.Zy (args:=[_]) (caps:=[_]) .none (Fv DW) Y ⟨Y,aq⟩ T<|bE h λBL G4 h=>iR Y Y Y G4<|bE h λl2 ago h=>sR sS Y Y Y Y ago ?_;refine RT.done ⟨by kernel_rfl,?_⟩
 refine aV.n<|sr<|RT.yQ (caps:=[_,_,_]) .none ⟨Y,Y,Y,aq⟩ T<|bI (cs:=[_]) (cs':=[jA 107 [ref [ay x2],ref [.v (.pointer (some ⟨β,0,none⟩))],ref [ay x1]]]) (.one Y (.nil)) ⟨au,aq⟩<|RT.alloc .none T Y Y<|so Y Y Y<|dn<|sr<|RT.zq (k:=1000) .none Y Y Y T<|RT.cH .none Y T<|fa Y Y<|RT.eU .none (s:=.row _) Y Y Y T<|lE h λGM Mi h=>lL Y Y Mi ?_;refine mv Y<|dn<|bE h λRH JE o8=>?_;refine bU (λ(qN:(List (List Qr)))=>AS.cL 71 [] [(1000,⟨79,[aj o0,ai o1,.row 1001,.row 1002,.row 1003]⟩)] [(1001,TR 23 1 (eS 4 eQ) o2),(1002,TR 3 1 bT o3),(1003,TR 23 1 (eS 4 eQ) qN)]) (λqN=>qN=RH) ?_ (λqN Om=>?_);refine bj ?_;refine bV JE (λAX=>AS.cL 71 [(3,.sv (ref [.v (.pointer (some ⟨β,0,none⟩))])),(4,.sv (ref [ay x1])),(9,.ptr 9 0),(50,.row 1003),(51,ai GM),(52,ai AX.1)] [(1000,⟨79,[aj o0,ai o1,.row 1001,.row 1002,.row 1003]⟩),(9,⟨124,[.sv (jA 107 [ref [ay x2],ref [.v (.pointer (some ⟨β,0,none⟩))],ref [ay x1]])]⟩)] [(1003,TR 23 1 (eS 4 eQ) AX.2),(1001,TR 23 1 (eS 4 eQ) o2),(1002,TR 3 1 bT o3)]) (wR []) (λAX y12 G12 h On Oo=>?_);obtain⟨pR,gH⟩:=AX
 try dsimp only
 refine sr<|lE h λLc Oq h=>ls _ Y Y Oq<|dn<|qq ?_;cases Lc;refine cF<|b9<|aV.x<|aV.x<|bG.x<|aV.n ?_;obtain rfl:=O (F h);exact⟨gH,Oo _ Y,wR []⟩;refine cT<|bC<|aV.n<|qq<|bj<|sr<|mv Y<|bE (V h) λyA Mj h=>iR Y Y Y Mj<|bE h λDf G3 h=>lR (e:=(eS 4 eQ)) Y Y G3 Y<|ag Y<|ag Y<|dn<|sr<|mv Y<|lr Y Y<|lE h λL4 VT h=>ne _ Y Y (IX (p:=pR) (q:=x1) VT)<|dn ?_;refine bH h (λj15=>AS.cL 71 [(3,.sv (ref [.v (.pointer (some ⟨β,0,none⟩))])),(4,.sv (ref [ay x1])),(9,.ptr 9 0),(50,.row 1003),(51,ai GM),(52,ai pR)] [(1000,⟨79,[aj o0,ai o1,.row 1001,.row 1002,.row 1003]⟩),(9,⟨124,[.sv (jA 107 [ref [ay x2],ref [.v (.pointer (some ⟨β,0,none⟩))],ref [ay x1]])]⟩)] [(1003,TR 23 1 (eS 4 eQ) j15),(1001,TR 23 1 (eS 4 eQ) o2),(1002,TR 3 1 bT o3)]) (λh=>?_) (λtO h=>?_);cases L4;exact fs<|⟨gH,(F h),wR []⟩;refine cT<|bh mixed<|RT.zq (k:=1000) .none Y Y Y T<|RT.cH .none Y T<|fa Y Y<|RT.eU .none (s:=.row _) Y Y Y T<|mv Y<|fa Y Y<|lV Y Y Y<|mv Y<|bE (V h) λJr VV h=>RT.R4 (args:=[.sv (slc 4 (List.map eQ Df))]) (caps:=λβ=>[ref [ay x2],ref [.v (.pointer (some ⟨β,0,none⟩))],ref [ay x1]]) .none (Dt VV) 1000 [1001,1002,1003] Y Y ⟨Y,Y,Y,aq⟩ (by decide) Y Y (.cons Y (.nil)) T ?_
 refine bE h λKR RL h=>iR Y Y Y RL<|bE h λl17 aaO h=>sR Jr Y Y Y Y aaO ?_;refine RT.done ⟨by kernel_rfl,?_⟩;exact aV.n<|⟨l17,h,wR []⟩
 try dsimp only
 refine bG.n<|aV.n<|aW<|lE h λDS VX h=>ad _ Y Y VX<|mv Y<|RT.done ?_;obtain rfl:=O h;exact aV.n ⟨(DS,tO),On _ Y,wR []⟩;subst Om
 try dsimp only
 obtain rfl:=O o8;exact⟨.inl Y,gE .nil (λ_ _ _=>trivial),[1001,1002,1003],Y,⟨Y,Y,Y,aq⟩,by decide⟩
set_option maxHeartbeats 4000000 in
theorem dY{o0:Bool}{o1:Int}{o2:List (List Qr)}{o3:List Int}{o4:List (List Qr)}{x1:Int}{x2:Int}{r:Int×(List (List Qr))×(List Int)×(List (List Qr))}(h:bp o0 o1 o2 o3 o4 x1 x2=some r):RR ah 14 [.ptr 1000 0,ai x1,ai x2] 79 [.s (az o0),.s (ay o1),.r (TR 23 1 (eS 4 eQ) o2),.r (TR 3 1 bT o3),.r (TR 23 1 (eS 4 eQ) o4)] (ay r.1) [.s (az o0),.s (ay o1),.r (TR 23 1 (eS 4 eQ) r.2.1),.r (TR 3 1 bT r.2.2.1),.r (TR 23 1 (eS 4 eQ) r.2.2.2)]:=by
 refine Ce [1001,1002,1003] Tryz.func14 Y (af Y) Y (by decide) Y (λeI M β us=>?_);unfold bp at h;refine sr<|ag Y<|dn<|qq<|sr<|mo (s:=.ptr _ _) Y<|bE h λeY iO h=>RT.dw .none (oO iO) 1000 [1001,1002,1003] Y ⟨Y,Y,Y,aq⟩ (by decide) Y Y (.cons Y (.nil)) T<|dn ?_;cases eY;refine fs<|qq<|qq ?_;refine bH (F h) (λWO=>AS.cL 68 [(0,.ptr 1000 0),(1,ai x1),(2,ai x2),(31,aj WO)] [(1000,⟨79,[aj o0,ai o1,.row 1001,.row 1002,.row 1003]⟩)] [(1001,TR 23 1 (eS 4 eQ) o2),(1002,TR 3 1 bT o3),(1003,TR 23 1 (eS 4 eQ) o4)]) (λh=>?_) (λPr h=>?_);refine aW<|mv Y<|lE h λeX iz h=>ls _ Y Y iz<|mv Y<|bE h λPs wZ h=>?_;cases eX;refine gm Y<|RT.move (.some Y Y) (s:=.ptr _ _) Y T<|RT.cH (.some Y Y) Y T<|RT.fieldAddr (.some Y Y) Y T Y<|RT.eU (.some Y Y) (s:=.row _) Y Y Y T<|lE (F wZ) λmm n7 wZ=>RT.NL (.some Y Y) Y Y T n7<|lE wZ λja o5 wZ=>RT.geq (.some Y Y) _ Y Y T o5 ?_;obtain rfl:=O wZ;refine pF Y<|mv Y<|bE h λagq Fx h=>?_;cases ja;refine gm Y<|lE (F Fx) λjE qp Fx=>RT.lss (.some Y Y) _ Y Y T qp ?_;obtain rfl:=O Fx;refine pF Y<|mv Y<|bE h λagr sn h=>?_;cases jE
 refine gm Y<|RT.move (.some Y Y) (s:=.ptr _ _) Y T<|bE (F sn) λjq nW sn=>RT.dw (.some Y Y) (yf nW) 1000 [1001,1002,1003] Y ⟨Y,Y,Y,aq⟩ (by decide) Y Y (.cons Y (.nil)) T<|lE sn λvk BP sn=>RT.geq (.some Y Y) _ Y Y T BP ?_;obtain rfl:=O sn;exact pF Y<|dn<|⟨vk,h,wR []⟩;obtain rfl:=O (V sn);exact ww<|ww<|ww<|ww<|pT Y<|dn<|⟨true,h,wR []⟩;obtain rfl:=O (V Fx);refine ww<|ww<|pT Y<|mv Y<|bE h λags ze h=>?_;obtain rfl:=O (V ze);exact ww<|ww<|ww<|ww<|pT Y<|dn<|⟨true,h,wR []⟩;obtain rfl:=O (V wZ);refine ww<|ww<|ww<|ww<|ww<|ww<|ww<|pT Y<|mv Y<|bE h λagt zf h=>?_;obtain rfl:=O (V zf);refine ww<|ww<|pT Y<|mv Y<|bE h λagu o9 h=>?_;obtain rfl:=O (V o9);exact ww<|ww<|ww<|ww<|pT Y<|dn<|⟨true,h,wR []⟩
 try dsimp only
 refine aV.n ?_;cases Pr;refine fs<|qq<|sr<|mo (s:=.ptr _ _) Y<|RT.cH .none Y T<|fa Y Y<|RT.eU .none (s:=.row _) Y Y Y T<|lE (F h) λqa xN h=>lL Y Y xN<|mv Y<|dn<|bE h λMw J2 mN=>?_;refine bU (λ(Cv:Unit)=>AS.cL 68 [(0,.ptr 1000 0),(1,ai x1),(2,ai x2)] [(1000,⟨79,[aj o0,ai o1,.row 1001,.row 1002,.row 1003]⟩)] [(1001,TR 23 1 (eS 4 eQ) o2),(1002,TR 3 1 bT o3),(1003,TR 23 1 (eS 4 eQ) o4)]) (λCv=>.inl Cv=Mw) ?_ (λCv J3=>?_);refine bj ?_;refine bV J2 (λM8=>AS.cL 68 [(0,.ptr 1000 0),(1,ai x1),(2,ai x2),(35,.row 1002),(36,ai qa),(37,ai M8)] [(1000,⟨79,[aj o0,ai o1,.row 1001,.row 1002,.row 1003]⟩)] [(1002,TR 3 1 bT o3),(1001,TR 23 1 (eS 4 eQ) o2),(1003,TR 23 1 (eS 4 eQ) o4)]) (wR []) (λFs y16 G16 h J4 Ds=>?_)
 try dsimp only
 refine sr<|lE h λzW Jy h=>ls _ Y Y Jy<|dn<|qq ?_;cases zW;refine cF<|b9<|aV.x<|aV.x<|bG.x<|aV.n ?_;obtain rfl:=O (F h);exact⟨(),Ds _ Y,wR []⟩;refine cT<|bC<|aV.n<|qq<|bj<|sr<|bE (V h) λvm G5 h=>iR Y Y Y G5<|bE h λmX sx h=>lR Y Y sx Y<|ag Y<|dn<|sr<|mv Y<|mv Y<|lE h λsS DW h=>eq _ Y Y (xg (p:=mX) (q:=x2) DW)<|dn ?_;cases sS;refine cF<|bC<|bG.n<|aV.n<|aW<|lE (F h) λBL G4 h=>ad _ Y Y G4<|mv Y<|RT.done ?_;obtain rfl:=O h;exact aV.n ⟨BL,J4 _ Y,wR []⟩;refine cT<|sr<|ag Y<|dn<|bf<|bG.r<|aV.r ?_;obtain rfl:=O (V h);have Pt:=Ds _ Y;subst Pt;refine aV.r<|bG.r<|aV.r<|aV.r ?_;obtain rfl:=O mN;exact⟨.inr Y,gE (.tmp Y (.nil)) au,[1001,1002,1003],Y,⟨Y,Y,Y,aq⟩,by decide⟩;subst J3
 try dsimp only
 refine aV.n<|qq<|sr<|mo (s:=.ptr _ _) Y<|RT.cH .none Y T<|fa Y Y<|RT.eU .none (s:=.row _) Y Y Y T<|mv Y<|bE mN λsi EZ mN=>iR Y Y Y EZ<|bE mN λGM Mi mN=>lR (e:=(eS 4 eQ)) Y Y Mi Y<|mv Y ?_;obtain⟨⟨⟨Uz,UA⟩,⟨UB,UC⟩⟩,Oq,mN⟩:=bS mN;refine ix Y Y Oq<|RT.kn (cs:=[_,_,_,_]) .none Y T Y Y<|bE mN λyA Mj mN=>cl (jX Mj) ⟨Y,aq⟩<|lE mN λDf G3 mN=>eq _ Y Y (xg (p:=yA) (q:=0) G3)<|dn ?_;cases Df;refine fs<|sr<|mo (s:=.ptr _ _) Y<|mv Y<|mv Y ?_;obtain⟨⟨YQ,l21,YR⟩,Oj,mN⟩:=bS (F mN);refine RT.Cf .none (jz Oj) 1000 [1001,1002,1003] [304,305,306] Y ⟨Y,Y,Y,aq⟩ (by decide) (by decide) Y ⟨⟨Y,T⟩,⟨Y,T⟩,⟨Y,T⟩,aq⟩ Y Y (.k3 Y Y Y) T<|dn<|sr<|mo (s:=.ptr _ _) Y<|RT.cH .none Y T<|fa Y Y<|RT.eU .none (s:=.row _) Y Y Y T<|mv Y<|mv Y<|bE mN λTt Z4 mN=>iR Y Y Y Z4<|bE mN λl24 aaP mN=>sR x2 Y Y Y Y aaP ?_;refine dn<|sr<|ag Y<|dn<|bf ?_;obtain rfl:=O mN;exact⟨.inr Y,gE (.tmp Y (.nil)) au,[304,305,306],Y,⟨Y,Y,Y,aq⟩,by decide⟩;refine cT<|sr<|ag Y<|dn<|bf<|aV.r ?_;obtain rfl:=O (V mN);exact⟨.inr Y,gE (.tmp Y (.nil)) au,[1001,1002,1003],Y,⟨Y,Y,Y,aq⟩,by decide⟩;refine cT<|sr<|ag Y<|dn<|bf<|aV.r ?_;obtain rfl:=O (V h);exact⟨.inr Y,gE (.tmp Y (.nil)) au,[1001,1002,1003],Y,⟨Y,Y,Y,aq⟩,by decide⟩
 refine cT<|sr<|ag Y<|dn<|bf<|aV.r ?_;obtain rfl:=O (V h);exact⟨.inr Y,gE (.tmp Y (.nil)) au,[1001,1002,1003],Y,⟨Y,Y,Y,aq⟩,by decide⟩
end
section
open Go.Fw
noncomputable def ke(x0:List (List Qr)):Option (Int):=(cy (λ(s6:Int×Int)=>match s6 with|⟨qc,R7⟩=>(show Option ((Int×Int)⊕(Int))from(some (x0.length:Int)).bind λx7=>(some (decide ((R7:Int)<x7))).bind λx8=>(bif x8 then(cU x0 R7).bind λga=>(some (ga.length:Int)).bind λjD=>(some (max (qc:Int) jD)).bind λgW=>(some (IntKind.i64.wrap (R7+1))).bind λeY=>some (.inl (gW,eY))else some (.inr qc)))) (0,0)).bind λzj=>some zj
noncomputable def jl(x0:List (List Qr))(x1:Int):Option (Bool):=(ke x0).bind λx6=>(some (decide ((x6:Int)<=x1))).bind λx8=>some x8
noncomputable def lp(x0:Lr):Option (Bool):=match x0 with|⟨bu,bw,bF,bJ⟩=>cK (λ(J6:Bool)=>(bif J6 then some false else cK (λ(G7:Bool)=>some G7) λK24=>(jl bw bu).bind λqm=>(bif qm then(jl bF bu).bind λsu=>some su else some false).bind λPu=>K24 Pu)) λYL=>(some (decide ((bu:Int)<0))).bind λx5=>(bif x5 then some true else(some (decide ((64:Int)<bu))).bind λx9=>some x9).bind λPw=>(bif Pw then some true else(some (bw.length:Int)).bind λga=>(some (decide ((ga:Int)<1))).bind λe9=>some e9).bind λXa=>(bif Xa then some true else(some (bw.length:Int)).bind λja=>(some (decide ((4:Int)<ja))).bind λiv=>some iv).bind λXb=>(bif Xb then some true else(some (bF.length:Int)).bind λmH=>(some (decide ((128:Int)<mH))).bind λnn=>some nn).bind λXc=>(bif Xc then some true else(some (bJ.length:Int)).bind λkp=>(some (bF.length:Int)).bind λot=>(some (decide ((kp:Int)≠ot))).bind λqa=>some qa).bind λXd=>YL Xd
end
section
open Go.Fw Go.Fw.Z Go.RowKit
theorem vG{x0:List (List Qr)}{r:Int}(h:ke x0=some r):Pure ah 118 [slc 1 (List.map (eS 4 eQ) x0)] (ay r):=by
 refine bD Tryz.func118 Y (af Y) (λeI M vs hvs=>?_);unfold ke at h;refine sr<|ag Y<|dn<|sr<|ag Y<|dn<|qq<|sr<|ag Y<|dn<|bE h λe6 Di nx=>?_;refine bU (λ(zj:Int)=>AS.cL 19 [(3,ai zj)] [] []) (λzj=>zj=e6) ?_ (λzj Dj=>?_);refine bj ?_;refine bV Di (λs6=>AS.cL 19 [(0,.sv (slc 1 (List.map (eS 4 eQ) x0))),(3,ai s6.1),(4,ai s6.2)] [] []) (wR []) (λs6 y6 G6 h Dk yW=>?_);obtain⟨qc,R7⟩:=s6
 try dsimp only
 refine qq<|sr<|mv Y<|mv Y<|lE h λx7 h7 h=>ln Y h7<|lE h λx8 h8 h=>ls _ Y Y h8<|dn ?_;cases x8;refine cF<|b9<|aV.x<|aV.x<|bG.x<|aV.n ?_;obtain rfl:=O (F h);exact⟨qc,yW _ Y,wR []⟩;refine cT<|bC<|aV.n<|qq<|bj<|aW<|mv Y<|mv Y<|mv Y<|bE (V h) λga lB h=>ix Y Y lB<|lr Y Y<|lE h λjD n8 h=>ln Y n8<|lE h λgW nL h=>RT.max .none _ Y Y T (NK (p:=qc) (q:=jD) nL)<|ag Y<|RT.done<|bG.n<|aV.n<|aW<|mv Y<|lE h λeY iO h=>ad _ Y Y iO<|ag Y<|RT.done ?_;obtain rfl:=O h;exact aV.n ⟨(gW,eY),Dk _ Y,wR []⟩;subst Dj
 try dsimp only
 refine aV.n<|sr<|mv Y<|ag Y<|dn<|bf ?_;obtain rfl:=O nx;exact R1 Y
theorem ua{x0:List (List Qr)}{x1:Int}{r:Bool}(h:jl x0 x1=some r):Pure ah 72 [slc 1 (List.map (eS 4 eQ) x0),ay x1] (az r):=by
 refine bD Tryz.func72 Y (af Y) (λeI M vs hvs=>?_);unfold jl at h;refine sr<|ag Y<|dn<|sr<|mv Y<|bE h λx6 h6 h=>cl (vG h6) ⟨Y,aq⟩<|mv Y<|lE h λx8 h8 h=>RT.leq .none _ Y Y T h8<|ag Y<|dn<|bf ?_;obtain rfl:=O h;exact R1 Y
theorem rP{x0:Lr}{r:Bool}(h:lp x0=some r):Pure ah 24 [.agg (Jm x0)] (az r):=by
 obtain⟨bu,bw,bF,bJ⟩:=x0;refine bD Tryz.func24 Y (af Y) (λeI M vs hvs=>?_);unfold lp at h;refine sr<|bx Y<|ag Y<|dn<|qq<|qq ?_;refine bH h (λj21=>AS.cL 50 [(1,.ptr 1 0),(37,aj j21)] [(1,⟨25,[ai bu,.sv (slc 1 (List.map (eS 4 eQ) bw)),.sv (slc 1 (List.map (eS 4 eQ) bF)),.sv (slc 4 (List.map eQ bJ))]⟩)] []) (λh=>?_) (λJ6 h=>?_);refine aW<|fa Y Y<|lV Y Y Y<|lE h λx5 h5 h=>ls _ Y Y h5<|mv Y<|bE h λPw Fx h=>?_;cases x5;refine RT.fieldAddr (.some Y Y) Y T Y<|RT.rB (.some Y Y) Y Y Y T<|lE (F Fx) λx9 h9 Fx=>gg _ Y Y h9 ?_;obtain rfl:=O Fx;refine pF Y<|mv Y<|bE h λagv sn h=>?_;cases x9;refine RT.fieldAddr (.some Y Y) Y T Y<|RT.rB (.some Y Y) Y Y Y T<|lE (F sn) λga lB sn=>gn Y lB<|lE sn λe9 jB sn=>RT.lss (.some Y Y) _ Y Y T jB ?_;obtain rfl:=O sn;refine pF Y<|mv Y<|bE h λagw ze h=>?_;cases e9;refine RT.fieldAddr (.some Y Y) Y T Y<|RT.rB (.some Y Y) Y Y Y T<|lE (F ze) λja o5 ze=>gn Y o5<|lE ze λiv o6 ze=>gg _ Y Y o6 ?_;obtain rfl:=O ze;refine pF Y<|mv Y<|bE h λagx zf h=>?_;cases iv;refine RT.fieldAddr (.some Y Y) Y T Y<|RT.rB (.some Y Y) Y Y Y T<|lE (F zf) λmH vp zf=>gn Y vp<|lE zf λnn vr zf=>gg _ Y Y vr ?_;obtain rfl:=O zf;refine pF Y<|mv Y<|bE h λagy o9 h=>?_;cases nn
 refine RT.fieldAddr (.some Y Y) Y T Y<|RT.rB (.some Y Y) Y Y Y T<|lE (F o9) λkp qo o9=>gn Y qo<|RT.fieldAddr (.some Y Y) Y T Y<|RT.rB (.some Y Y) Y Y Y T<|lE o9 λot yX o9=>gn Y yX<|lE o9 λqa xN o9=>gq _ Y Y (IX (p:=kp) (q:=ot) xN) ?_;obtain rfl:=O o9;exact pF Y<|dn<|⟨qa,h,wR []⟩;obtain rfl:=O (V o9);exact ww<|ww<|ww<|ww<|ww<|ww<|ww<|pT Y<|dn<|⟨true,h,wR []⟩;obtain rfl:=O (V zf);refine ww<|ww<|ww<|ww<|pT Y<|mv Y<|bE h λagz zg h=>?_;obtain rfl:=O (V zg);exact ww<|ww<|ww<|ww<|ww<|ww<|ww<|pT Y<|dn<|⟨true,h,wR []⟩;obtain rfl:=O (V ze);refine ww<|ww<|ww<|ww<|pT Y<|mv Y<|bE h λagA OJ h=>?_;obtain rfl:=O (V OJ);refine ww<|ww<|ww<|ww<|pT Y<|mv Y<|bE h λagB Wt h=>?_;obtain rfl:=O (V Wt);exact ww<|ww<|ww<|ww<|ww<|ww<|ww<|pT Y<|dn<|⟨true,h,wR []⟩;obtain rfl:=O (V sn);refine ww<|ww<|ww<|ww<|pT Y<|mv Y<|bE h λagC Wu h=>?_;obtain rfl:=O (V Wu);refine ww<|ww<|ww<|ww<|pT Y<|mv Y<|bE h λagD Wv h=>?_;obtain rfl:=O (V Wv);refine ww<|ww<|ww<|ww<|pT Y<|mv Y<|bE h λagE Ww h=>?_;obtain rfl:=O (V Ww);exact ww<|ww<|ww<|ww<|ww<|ww<|ww<|pT Y<|dn<|⟨true,h,wR []⟩;obtain rfl:=O (V Fx);refine ww<|ww<|ww<|pT Y<|mv Y<|bE h λagF Wx h=>?_;obtain rfl:=O (V Wx);refine ww<|ww<|ww<|ww<|pT Y<|mv Y<|bE h λagG Wy h=>?_
 obtain rfl:=O (V Wy);refine ww<|ww<|ww<|ww<|pT Y<|mv Y<|bE h λagH Wz h=>?_;obtain rfl:=O (V Wz);refine ww<|ww<|ww<|ww<|pT Y<|mv Y<|bE h λagI WA h=>?_;obtain rfl:=O (V WA);exact ww<|ww<|ww<|ww<|ww<|ww<|ww<|pT Y<|dn<|⟨true,h,wR []⟩
 try dsimp only
 refine aV.n ?_;cases J6;refine fs<|qq ?_;refine bH (F h) (λTH=>AS.cL 50 [(2,aj TH)] [] []) (λh=>?_) (λG7 h=>?_);refine aW<|fa Y Y<|lV Y Y Y<|fa Y Y<|lV Y Y Y<|bE h λqm BQ h=>cl (ua BQ) ⟨Y,Y,aq⟩<|mv Y<|bE h λPu wZ h=>?_;cases qm;obtain rfl:=O (F wZ);exact ww<|ww<|ww<|ww<|ww<|pF Y<|ag Y<|dn<|⟨false,h,wR []⟩;refine RT.fieldAddr (.some Y Y) Y T Y<|RT.rB (.some Y Y) Y Y Y T<|RT.fieldAddr (.some Y Y) Y T Y<|RT.rB (.some Y Y) Y Y Y T<|bE (V wZ) λsu h48 wZ=>gc (ua h48) ⟨Y,Y,aq⟩ ?_;obtain rfl:=O wZ;exact pT Y<|ag Y<|dn<|⟨su,h,wR []⟩
 try dsimp only
 refine aV.n<|bf ?_;obtain rfl:=O h;exact R1 Y;refine cT<|sr<|ag Y<|dn<|bf<|aV.r ?_;obtain rfl:=O (V h);exact R1 Y
end
section
open Go.Fw
noncomputable def lU(x0:List Zr):Option (Bool):=(cy (λ(qc:Int)=>(show Option ((Int)⊕((Unit)⊕(Bool)))from(some (x0.length:Int)).bind λx6=>(some (decide ((qc:Int)<x6))).bind λx7=>(bif x7 then(cU x0 qc).bind λ⟨iI,iA⟩=>(some (iA.length:Int)).bind λe9=>(some (decide ((12:Int)<e9))).bind λjD=>(bif jD then some (.inr (.inr true))else(some (IntKind.i64.wrap (qc+1))).bind λx9=>some (.inl x9))else some (.inr (.inl ()))))) 0).bind λe6=>match e6 with|.inr v6=>some v6|.inl _=>some false
end
section
open Go.Fw Go.Fw.Z Go.RowKit
theorem Du{x0:List Zr}{r:Bool}(h:lU x0=some r):Pure ah 125 [slc 2 (List.map eZ x0)] (az r):=by
 refine bD Tryz.func125 Y (af Y) (λeI M vs hvs=>?_);unfold lU at h;refine sr<|ag Y<|dn<|qq<|sr<|ag Y<|dn<|bE h λe6 Di nx=>?_;refine bU (λ(EY:Unit)=>AS.cL 17 [] [] []) (λEY=>.inl EY=e6) ?_ (λEY Dj=>?_);refine bj ?_;refine bV Di (λs6=>AS.cL 17 [(0,.sv (slc 2 (List.map eZ x0))),(3,ai s6)] [] []) (wR []) (λqc y6 G6 h Dk yW=>?_)
 try dsimp only
 refine qq<|sr<|mv Y<|mv Y<|lE h λx6 h6 h=>ln Y h6<|lE h λx7 h7 h=>ls _ Y Y h7<|dn ?_;cases x7;refine cF<|b9<|aV.x<|aV.x<|bG.x<|aV.n ?_;obtain rfl:=O (F h);exact⟨(),yW _ Y,wR []⟩;refine cT<|bC<|aV.n<|qq<|bj<|sr<|mv Y<|mv Y ?_;obtain⟨⟨iI,iA⟩,iz,h⟩:=bS (V h);refine ix Y Y iz<|RT.cf .none Y T Y<|lr Y Y<|lE h λe9 jB h=>ln Y jB<|lE h λjD n8 h=>gt _ Y Y n8<|dn ?_;cases jD;refine cF<|bC<|bG.n<|aV.n<|aW<|mv Y<|lE (F h) λx9 h9 h=>ad _ Y Y h9<|ag Y<|RT.done ?_;obtain rfl:=O h;exact aV.n ⟨x9,Dk _ Y,wR []⟩;refine cT<|sr<|ag Y<|dn<|bf<|bG.r<|aV.r ?_;obtain rfl:=O (V h);have Of:=yW _ Y;subst Of;refine aV.r<|bG.r<|aV.r<|aV.r ?_;obtain rfl:=O nx;exact R1 Y;subst Dj
 try dsimp only
 refine aV.n<|sr<|ag Y<|dn<|bf ?_;obtain rfl:=O nx;exact R1 Y
end
section
open Go.Fw
noncomputable def lW(x0:List Qr):Option (Bool):=(cy (λ(uV:Int)=>(show Option ((Int)⊕((Unit)⊕(Bool)))from(some (x0.length:Int)).bind λx6=>(some (decide ((uV:Int)<x6))).bind λx7=>(bif x7 then cK (λ(J7:Bool)=>(bif J7 then some (.inr (.inr true))else(some (IntKind.i64.wrap (uV+1))).bind λx9=>some (.inl x9))) λK22=>(cU x0 uV).bind λ⟨⟨iI,iA⟩,⟨K0,K1⟩⟩=>(cU x0 uV).bind λ⟨⟨vu,vv⟩,⟨D4,D5⟩⟩=>(lU [⟨iI,iA⟩,⟨D4,D5⟩]).bind λiv=>(bif iv then some true else(cU x0 uV).bind λ⟨⟨mA,lJ⟩,⟨tw,tD⟩⟩=>(some (lJ.length:Int)).bind λjq=>(some (decide ((6:Int)<jq))).bind λvk=>some vk).bind λPx=>(bif Px then some true else(cU x0 uV).bind λ⟨⟨aaQ,aaR⟩,⟨aaS,UD⟩⟩=>(some (UD.length:Int)).bind λvm=>(some (decide ((6:Int)<vm))).bind λmX=>some mX).bind λXe=>K22 Xe else some (.inr (.inl ()))))) 0).bind λMw=>match Mw with|.inr YS=>some YS|.inl _=>some false
end
section
open Go.Fw Go.Fw.Z Go.RowKit
theorem Dv{x0:List Qr}{r:Bool}(h:lW x0=some r):Pure ah 82 [slc 4 (List.map eQ x0)] (az r):=by
 refine bD Tryz.func82 Y (af Y) (λeI M vs hvs=>?_);unfold lW at h;refine sr<|ag Y<|dn<|qq<|sr<|ag Y<|dn<|bE h λMw J2 mN=>?_;refine bU (λ(Cv:Unit)=>AS.cL 42 [] [] []) (λCv=>.inl Cv=Mw) ?_ (λCv J3=>?_);refine bj ?_;refine bV J2 (λM8=>AS.cL 42 [(0,.sv (slc 4 (List.map eQ x0))),(3,ai M8)] [] []) (wR []) (λuV y16 G16 h J4 Ds=>?_)
 try dsimp only
 refine qq<|sr<|mv Y<|mv Y<|lE h λx6 h6 h=>ln Y h6<|lE h λx7 h7 h=>ls _ Y Y h7<|dn ?_;cases x7;refine cF<|b9<|aV.x<|aV.x<|bG.x<|aV.n ?_;obtain rfl:=O (F h);exact⟨(),Ds _ Y,wR []⟩;refine cT<|bC<|aV.n<|qq<|bj<|qq ?_;refine bH (V h) (λj22=>AS.cL 42 [(0,.sv (slc 4 (List.map eQ x0))),(3,ai uV),(41,aj j22)] [] []) (λh=>?_) (λJ7 h=>?_);refine bh mixed<|mv Y<|mv Y ?_;obtain⟨⟨⟨iI,iA⟩,⟨K0,K1⟩⟩,iz,h⟩:=bS h;refine ix Y Y iz<|RT.cf .none Y T Y<|RT.kn (cs:=[_,_]) .none Y T Y Y<|mv Y<|mv Y ?_;obtain⟨⟨⟨vu,vv⟩,⟨D4,D5⟩⟩,nL,h⟩:=bS h;refine ix Y Y nL<|RT.cf .none Y T Y<|RT.kn (cs:=[_,_]) .none Y T Y Y<|bl (l:=[⟨iI,iA⟩,⟨D4,D5⟩]) (e:=eZ) (.agg Y (.agg Y (.nil))) Y Y Y Y Y Y<|bE h λiv o6 h=>cl (Du o6) ⟨Y,aq⟩<|mv Y<|bE h λPx rM h=>?_;cases iv;refine gm Y<|gm Y ?_;obtain⟨⟨⟨mA,lJ⟩,⟨tw,tD⟩⟩,wD,rM⟩:=bS (F rM);refine RT.Ro (.some Y Y) Y Y T wD<|RT.cf (.some Y Y) Y T Y<|RT.cf (.some Y Y) Y T Y<|gr Y Y<|lE rM λjq nW rM=>gn Y nW<|lE rM λvk BP rM=>gg _ Y Y BP ?_;obtain rfl:=O rM;refine pF Y<|mv Y<|bE h λagL tN h=>?_;cases vk;refine gm Y<|gm Y ?_;obtain⟨⟨⟨aaQ,aaR⟩,⟨aaS,UD⟩⟩,yX,tN⟩:=bS (F tN)
 refine RT.Ro (.some Y Y) Y Y T yX<|RT.cf (.some Y Y) Y T Y<|RT.cf (.some Y Y) Y T Y<|gr Y Y<|lE tN λvm G5 tN=>gn Y G5<|lE tN λmX sx tN=>gg _ Y Y sx ?_;obtain rfl:=O tN;refine pF Y ?_;refine RT.done ⟨by kernel_rfl,?_⟩;exact aV.n<|⟨mX,h,wR []⟩;obtain rfl:=O (V tN);refine ww<|ww<|ww<|ww<|ww<|ww<|ww<|ww<|pT Y ?_;refine RT.done ⟨by kernel_rfl,?_⟩;exact aV.n<|⟨true,h,wR []⟩;obtain rfl:=O (V rM);refine ww<|ww<|ww<|ww<|ww<|ww<|ww<|ww<|pT Y<|mv Y<|bE h λagM wZ h=>?_;obtain rfl:=O (V wZ);refine ww<|ww<|ww<|ww<|ww<|ww<|ww<|ww<|pT Y ?_;refine RT.done ⟨by kernel_rfl,?_⟩;exact aV.n<|⟨true,h,wR []⟩
 try dsimp only
 refine aV.n ?_;cases J7;refine cF<|bC<|bG.n<|aV.n<|aW<|mv Y<|lE (F h) λx9 h9 h=>ad _ Y Y h9<|ag Y<|RT.done ?_;obtain rfl:=O h;exact aV.n ⟨x9,J4 _ Y,wR []⟩;refine cT<|sr<|ag Y<|dn<|bf<|bG.r<|aV.r ?_;obtain rfl:=O (V h);have Pt:=Ds _ Y;subst Pt;refine aV.r<|bG.r<|aV.r<|aV.r ?_;obtain rfl:=O mN;exact R1 Y;subst J3
 try dsimp only
 refine aV.n<|sr<|ag Y<|dn<|bf ?_;obtain rfl:=O mN;exact R1 Y
end
section
open Go.Fw
noncomputable def kf(x0:List (List Qr)):Option (Bool):=(cy (λ(Mx:Int)=>(show Option ((Int)⊕((Unit)⊕(Bool)))from(some (x0.length:Int)).bind λx6=>(some (decide ((Mx:Int)<x6))).bind λx7=>(bif x7 then cK (λ(J8:Bool)=>(bif J8 then some (.inr (.inr true))else(some (IntKind.i64.wrap (Mx+1))).bind λx9=>some (.inl x9))) λM3=>(cU x0 Mx).bind λeX=>(some (eX.length:Int)).bind λga=>(some (decide ((20:Int)<ga))).bind λe9=>(bif e9 then some true else(cU x0 Mx).bind λmm=>(lW mm).bind λiv=>some iv).bind λPy=>M3 Py else some (.inr (.inl ()))))) 0).bind λOe=>match Oe with|.inr v10=>some v10|.inl _=>some false
noncomputable def kg(x0:List (List (List Qr))):Option (Bool):=(cy (λ(uV:Int)=>(show Option ((Int)⊕((Unit)⊕(Bool)))from(some (x0.length:Int)).bind λx6=>(some (decide ((uV:Int)<x6))).bind λx7=>(bif x7 then cK (λ(J9:Bool)=>(bif J9 then some (.inr (.inr true))else(some (IntKind.i64.wrap (uV+1))).bind λx9=>some (.inl x9))) λK22=>(cU x0 uV).bind λeX=>(some (eX.length:Int)).bind λga=>(some (decide ((8:Int)<ga))).bind λe9=>(bif e9 then some true else(cU x0 uV).bind λmm=>(ke mm).bind λiv=>(some (decide ((8:Int)<iv))).bind λkq=>some kq).bind λFy=>(bif Fy then some true else(cU x0 uV).bind λnn=>(kf nn).bind λjq=>some jq).bind λXf=>K22 Xf else some (.inr (.inl ()))))) 0).bind λMw=>match Mw with|.inr YS=>some YS|.inl _=>some false
noncomputable def m7:Option (Lr):=(iC [[3,5]]).bind λx3=>(iC [[1,0],[0,2],[3,2]]).bind λx8=>(c6 [4,12,18]).bind λeY=>some ⟨2,x3,x8,eY⟩
noncomputable def lX(x0:List (List Qr)):Option (Bool):=(cy (λ(qc:Int)=>(show Option ((Int)⊕((Unit)⊕(Bool)))from(some (x0.length:Int)).bind λx6=>(some (decide ((qc:Int)<x6))).bind λx7=>(bif x7 then(cU x0 qc).bind λeX=>(some (eX.length:Int)).bind λga=>(some (decide ((0:Int)<ga))).bind λe9=>(bif e9 then some (.inr (.inr false))else(some (IntKind.i64.wrap (qc+1))).bind λx9=>some (.inl x9))else some (.inr (.inl ()))))) 0).bind λe6=>match e6 with|.inr v6=>some v6|.inl _=>some true
noncomputable def nD(x0:List Qr):Option (List Qr):=(some (x0.length:Int)).bind λx5=>(some (min (x5:Int) 20)).bind λx6=>(Db x0 0 x6).bind λx7=>some x7
noncomputable def lY(x0:Lr):Option (Bool):=match x0 with|⟨bu,bw,bF,bJ⟩=>cK (λ(UE:Bool)=>some UE) λK59=>(some (bw.length:Int)).bind λx5=>(some (decide ((6:Int)<x5))).bind λx6=>(bif x6 then some true else(some (bF.length:Int)).bind λeY=>(some (decide ((140:Int)<eY))).bind λjC=>some jC).bind λPz=>(bif Pz then some true else(some (bJ.length:Int)).bind λjD=>(some (decide ((140:Int)<jD))).bind λgW=>some gW).bind λR8=>(bif R8 then some true else(some (bF.length:Int)).bind λkq=>(some (decide ((8:Int)<kq))).bind λku=>(bif ku then(lX bF).bind λnn=>(some (!nn)).bind λoY=>some oY else some false).bind λR9=>some R9).bind λSa=>(bif Sa then some true else(some (bF.length:Int)).bind λoq=>(some (decide ((oq:Int)<=8))).bind λot=>(bif ot then(kg [bF]).bind λmX=>some mX else some false).bind λSb=>some Sb).bind λSc=>(bif Sc then some true else(kg [bw]).bind λwm=>some wm).bind λSd=>(bif Sd then some true else(nD bJ).bind λwv=>(kf [wv]).bind λAr=>some Ar).bind λSe=>K59 Se
end
end Go.Proofs.YtningmnklfpfjaaGreat
