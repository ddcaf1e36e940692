/- A part of the proof: the framework, the plain functions, the followed functions, the plain laws. -/
import Derived.Test.YtningmnklfpfjaaGreatPSM2
set_option linter.unusedVariables false
set_option linter.unusedSimpArgs false
set_option linter.unusedSectionVars false
namespace Go.Proofs.YtningmnklfpfjaaGreat
section
open Go.Fw Go.Fw.Z Go.RowKit
abbrev WI:List (Value×Value):=[(.int .u8 43,.agg #[.func (.func 187) #[] #[]]),(.int .u8 45,.agg #[.func (.func 189) #[] #[]]),(.int .u8 42,.agg #[.func (.func 191) #[] #[]]),(.int .u8 47,.agg #[.func (.func 192) #[] #[]])]
theorem mD:Pure ah 167 [] (V5 WI):=by
 refine bj Tryz.func167 Y (af Y) (λc9 M vs hvs=>?_);refine cm<|aX<|RT.Mk .none Y T<|RT.done<|aW.n<|cm<|aac (af Y) Y Y Y (λS' h0=>?_);exact aY (R1 h0)
theorem A6{x0:Zr}{x1:Zr}{x2:Zr}{x3:Zr}(N:Nat){r:Zr×Zr}(h:lq x0 x1 x2 x3=some r):dB ah 187 N [.agg (eZ x0),.agg (eZ x1),.agg (eZ x2),.agg (eZ x3)] (.Cn [.agg ((fZ N) r.1),.agg ((fZ N) r.2)]):=by
 obtain⟨bn,bp⟩:=x0;obtain⟨ct,cj⟩:=x1;obtain⟨we,wh⟩:=x2;obtain⟨qW,qX⟩:=x3;refine bT Tryz.func187 Y (af Y) (λc9 M vs hN hvs=>?_);unfold lq at h;refine sr<|bx Y<|bx Y<|bx Y<|bx Y<|al (cs:=[aA false,nw N ax]) (by exact⟨au,bt,aq⟩) Y<|al (cs:=[aA false,nw N ax]) (by exact⟨au,bt,aq⟩) Y<|dn<|qq<|aZ mixed<|ld Y Y (.k2 Y Y)<|ld Y Y (.k2 Y Y) ?_;obtain⟨⟨jg,iT⟩,fI,h⟩:=bS h;refine RT.bX .none (gA N fI) hN Y ⟨Y,Y,aq⟩ T<|ld Y Y (.k2 Y Y)<|ld Y Y (.k2 Y Y) ?_;obtain⟨⟨jQ,jR⟩,gH,h⟩:=bS h;refine RT.bX .none (gA N gH) hN Y ⟨Y,Y,aq⟩ T ?_;obtain⟨⟨qh,qi⟩,kf,h⟩:=bS h;refine RT.bX .none ((MD N kf).w (args':=[_,_]) ⟨(SV.fE (show cg [aA jg,nw N (slc 1 (List.map bh iT))] _ from⟨au,fe,aq⟩)),(SV.fE (show cg [aA jQ,nw N (slc 1 (List.map bh jR))] _ from⟨au,fe,aq⟩)),aq⟩) hN Y ⟨Y,Y,aq⟩ T<|ld Y Y (.k2 Y Y)<|ld Y Y (.k2 Y Y) ?_;obtain⟨⟨lM,lO⟩,lZ,h⟩:=bS h;refine RT.bX .none (gA N lZ) hN Y ⟨Y,Y,aq⟩ T<|so Y Y Y<|so Y Y Y ?_;refine RT.done ⟨by kernel_rfl,?_⟩;refine aW.n<|aY ?_;obtain rfl:=O h;exact RZ (.agg Y Y (.k2 Y Y) Y (.agg Y Y (.k2 Y Y) Y (.nil)))
theorem A7{x0:Zr}{x1:Zr}{x2:Zr}{x3:Zr}(N:Nat){r:Zr×Zr}(h:lu x0 x1 x2 x3=some r):dB ah 189 N [.agg (eZ x0),.agg (eZ x1),.agg (eZ x2),.agg (eZ x3)] (.Cn [.agg ((fZ N) r.1),.agg ((fZ N) r.2)]):=by
 obtain⟨bn,bp⟩:=x0;obtain⟨ct,cj⟩:=x1;obtain⟨we,wh⟩:=x2;obtain⟨qW,qX⟩:=x3;refine bT Tryz.func189 Y (af Y) (λc9 M vs hN hvs=>?_);unfold lu at h;refine sr<|bx Y<|bx Y<|bx Y<|bx Y<|al (cs:=[aA false,nw N ax]) (by exact⟨au,bt,aq⟩) Y<|al (cs:=[aA false,nw N ax]) (by exact⟨au,bt,aq⟩) Y<|dn<|qq<|aZ mixed<|ld Y Y (.k2 Y Y)<|ld Y Y (.k2 Y Y) ?_;obtain⟨⟨jg,iT⟩,fI,h⟩:=bS h;refine RT.bX .none (gA N fI) hN Y ⟨Y,Y,aq⟩ T<|ld Y Y (.k2 Y Y)<|ld Y Y (.k2 Y Y) ?_;obtain⟨⟨jQ,jR⟩,gH,h⟩:=bS h;refine RT.bX .none (gA N gH) hN Y ⟨Y,Y,aq⟩ T ?_;obtain⟨⟨qh,qi⟩,kf,h⟩:=bS h;refine RT.bX .none ((MF N kf).w (args':=[_,_]) ⟨(SV.fE (show cg [aA jg,nw N (slc 1 (List.map bh iT))] _ from⟨au,fe,aq⟩)),(SV.fE (show cg [aA jQ,nw N (slc 1 (List.map bh jR))] _ from⟨au,fe,aq⟩)),aq⟩) hN Y ⟨Y,Y,aq⟩ T<|ld Y Y (.k2 Y Y)<|ld Y Y (.k2 Y Y) ?_;obtain⟨⟨lM,lO⟩,lZ,h⟩:=bS h;refine RT.bX .none (gA N lZ) hN Y ⟨Y,Y,aq⟩ T<|so Y Y Y<|so Y Y Y ?_;refine RT.done ⟨by kernel_rfl,?_⟩;refine aW.n<|aY ?_;obtain rfl:=O h;exact RZ (.agg Y Y (.k2 Y Y) Y (.agg Y Y (.k2 Y Y) Y (.nil)))
theorem A8{x0:Zr}{x1:Zr}{x2:Zr}{x3:Zr}(N:Nat){r:Zr×Zr}(h:lz x0 x1 x2 x3=some r):dB ah 191 N [.agg (eZ x0),.agg (eZ x1),.agg (eZ x2),.agg (eZ x3)] (.Cn [.agg ((fZ N) r.1),.agg ((fZ N) r.2)]):=by
 obtain⟨bn,bp⟩:=x0;obtain⟨ct,cj⟩:=x1;obtain⟨we,wh⟩:=x2;obtain⟨qW,qX⟩:=x3;refine bT Tryz.func191 Y (af Y) (λc9 M vs hN hvs=>?_);unfold lz at h;refine sr<|bx Y<|bx Y<|bx Y<|bx Y<|al (cs:=[aA false,nw N ax]) (by exact⟨au,bt,aq⟩) Y<|al (cs:=[aA false,nw N ax]) (by exact⟨au,bt,aq⟩) Y<|dn<|qq<|aZ mixed<|ld Y Y (.k2 Y Y)<|ld Y Y (.k2 Y Y) ?_;obtain⟨⟨jg,iT⟩,fI,h⟩:=bS h;refine RT.bX .none (gA N fI) hN Y ⟨Y,Y,aq⟩ T<|ld Y Y (.k2 Y Y)<|ld Y Y (.k2 Y Y) ?_;obtain⟨⟨jQ,jR⟩,gH,h⟩:=bS h;refine RT.bX .none (gA N gH) hN Y ⟨Y,Y,aq⟩ T<|so Y Y Y<|so Y Y Y ?_;refine RT.done ⟨by kernel_rfl,?_⟩;refine aW.n<|aY ?_;obtain rfl:=O h;exact RZ (.agg Y Y (.k2 Y Y) Y (.agg Y Y (.k2 Y Y) Y (.nil)))
theorem A9{x0:Zr}{x1:Zr}{x2:Zr}{x3:Zr}(N:Nat){r:Zr×Zr}(h:lB x0 x1 x2 x3=some r):dB ah 192 N [.agg (eZ x0),.agg (eZ x1),.agg (eZ x2),.agg (eZ x3)] (.Cn [.agg ((fZ N) r.1),.agg ((fZ N) r.2)]):=by
 obtain⟨bn,bp⟩:=x0;obtain⟨ct,cj⟩:=x1;obtain⟨we,wh⟩:=x2;obtain⟨qW,qX⟩:=x3;refine bT Tryz.func192 Y (af Y) (λc9 M vs hN hvs=>?_);unfold lB at h;refine sr<|bx Y<|bx Y<|bx Y<|bx Y<|al (cs:=[aA false,nw N ax]) (by exact⟨au,bt,aq⟩) Y<|al (cs:=[aA false,nw N ax]) (by exact⟨au,bt,aq⟩) Y<|dn<|qq<|aZ mixed<|ld Y Y (.k2 Y Y)<|ld Y Y (.k2 Y Y) ?_;obtain⟨⟨jg,iT⟩,fI,h⟩:=bS h;refine RT.bX .none (gA N fI) hN Y ⟨Y,Y,aq⟩ T<|ld Y Y (.k2 Y Y)<|ld Y Y (.k2 Y Y) ?_;obtain⟨⟨jQ,jR⟩,gH,h⟩:=bS h;refine RT.bX .none (gA N gH) hN Y ⟨Y,Y,aq⟩ T<|so Y Y Y<|so Y Y Y ?_;refine RT.done ⟨by kernel_rfl,?_⟩;refine aW.n<|aY ?_;obtain rfl:=O h;exact RZ (.agg Y Y (.k2 Y Y) Y (.agg Y Y (.k2 Y Y) Y (.nil)))
theorem fJ{x0:Qr}{r:Zr×Zr}(h:dX x0=some r):Pure ah 127 [.agg (eQ x0)] (.Cn [.agg (eZ r.1),.agg (eZ r.2)]):=by
 obtain⟨⟨bn,bp⟩,⟨bB,bD⟩⟩:=x0;refine bj Tryz.func127 Y (af Y) (λc9 M vs hvs=>?_);unfold dX at h;refine sr<|bx Y<|al (cs:=[aA false,ax]) (by exact⟨au,aC,aq⟩) Y<|al (cs:=[aA false,ax]) (by exact⟨au,aC,aq⟩) Y<|dn<|qq<|sr<|fa Y Y<|ld Y Y (.k2 Y Y)<|bE h λx6 h6 h=>cl (iu h6) ⟨Y,aq⟩<|dn<|bf<|sr<|lE h λx8 h8 h=>eq _ Y Y (xh (p:=x6) (q:=0) h8) ?_;refine ag Y<|dn ?_;cases x8;refine cF<|sr<|lE (F h) λeY iX h=>eq _ Y Y (xh (p:=x6) (q:=(-1)) iX)<|ag Y<|dn ?_;cases eY;refine cF<|bu<|bF.n<|aW.n<|qq<|aZ mixed<|fa Y Y<|ld Y Y (.k2 Y Y)<|fa Y Y<|ld Y Y (.k2 Y Y)<|so Y Y Y<|so Y Y Y ?_;refine RT.done ⟨by kernel_rfl,?_⟩;refine aW.n<|aY ?_;obtain rfl:=O (F h);exact RZ (.agg Y Y (.k2 Y Y) Y (.agg Y Y (.k2 Y Y) Y (.nil)));refine cT<|qq<|aZ mixed<|fa Y Y<|ld Y Y (.k2 Y Y) ?_;obtain⟨⟨qh,qi⟩,kf,h⟩:=bS (V h);refine cl (DZ kf) ⟨Y,aq⟩<|fa Y Y<|ld Y Y (.k2 Y Y) ?_;obtain⟨⟨lM,lO⟩,lZ,h⟩:=bS h;refine cl (DZ lZ) ⟨Y,aq⟩<|so Y Y Y<|so Y Y Y ?_;refine RT.done ⟨by kernel_rfl,?_⟩;refine aW.n<|aY<|bF.r<|aW.r ?_;obtain rfl:=O h;exact RZ (.agg Y Y (.k2 Y Y) Y (.agg Y Y (.k2 Y Y) Y (.nil)));refine cT<|qq<|aZ mixed<|fa Y Y<|ld Y Y (.k2 Y Y) ?_;obtain⟨⟨xB,xC⟩,kz,h⟩:=bS (V h);refine cl (C3 kz) ⟨Y,aq⟩<|so Y Y Y<|so Y Y Y ?_
 refine RT.done ⟨by kernel_rfl,?_⟩;refine aW.n<|aY<|bF.r<|aW.r ?_;obtain rfl:=O h;exact RZ (.agg Y Y (.k2 Y Y) Y (.agg Y Y (.k2 Y Y) Y (.nil)))
theorem nU{x0:Zr}{x1:Zr}(N:Nat){r:Qr}(h:iv x0 x1=some r):dB ah 140 N [.agg (eZ x0),.agg (eZ x1)] (.agg ((fQ N) r)):=by
 obtain⟨bn,bp⟩:=x0;obtain⟨ct,cj⟩:=x1;refine bT Tryz.func140 Y (af Y) (λc9 M vs hN hvs=>?_);unfold iv at h;refine sr<|bx Y<|bx Y<|al (cs:=[aA false,nw N ax,aA false,nw N ax]) (by exact⟨au,bt,au,bt,aq⟩) Y<|dn<|qq<|sr<|ld Y Y (.k2 Y Y)<|bE h λx9 h9 h=>cl (iu h9) ⟨Y,aq⟩<|lE h λdG fY h=>ls _ Y Y fY<|dn ?_;refine bL h (λj2=>AS.cu 46 [(2,.ptr 2 0),(3,.ptr 3 0),(4,.ptr 4 0)] [(4,⟨43,[aj false,.sv (nw N ax),aj false,.sv (nw N ax)]⟩),(3,⟨41,[aj j2.1,.sv (slc 1 (List.map bh j2.2.1))]⟩),(2,⟨41,[aj j2.2.2.1,.sv (slc 1 (List.map bh j2.2.2.2))]⟩)] []) (λh=>?_) (λj2 h=>?_);cases dG;exact fs<|⟨(ct,cj,bn,bp),(F h),wR []⟩;refine cT<|aZ mixed<|ld Y Y (.k2 Y Y) ?_;obtain⟨⟨jg,iT⟩,fI,h⟩:=bS (V h);refine RT.bX .none (vC N fI) hN Y ⟨Y,aq⟩ T<|ld Y Y (.k2 Y Y) ?_;obtain⟨⟨xD,xE⟩,jy,h⟩:=bS h;refine RT.bX .none (vC N jy) hN Y ⟨Y,aq⟩ T<|so Y Y Y<|so Y Y Y ?_;refine RT.done ⟨by kernel_rfl,?_⟩;exact aW.n<|⟨(xD,xE,jg,iT),h,cz id Y Y Y Y Y ⟨.ptr,.ptr,.ptr,aq⟩ ⟨⟨_,Y,⟨.sv au,.sv au,.sv au,.sv au,aq⟩⟩,⟨_,Y,⟨.sv au,.sv fe,aq⟩⟩,⟨_,Y,⟨.sv au,.sv fe,aq⟩⟩,aq⟩ trivial (λ_ _=>Y)⟩;obtain⟨Rg,Rh,Ri,Rj⟩:=j2
 try dsimp only
 refine aW.n<|sr<|ld Y Y (.k2 Y Y)<|ld Y Y (.k2 Y Y) ?_;obtain⟨⟨qY,qZ⟩,jK,h⟩:=bS h;refine RT.bX .none (MH N jK) hN Y ⟨Y,Y,aq⟩ T<|al (cs:=[aA false,nw N ax]) (by exact⟨au,bt,aq⟩) Y<|so Y Y Y<|dn<|sr<|ld Y Y (.k2 Y Y)<|ld Y Y (.k2 Y Y) ?_;obtain⟨⟨⟨Iz,IA⟩,⟨afy,afz⟩,an8⟩,kA,h⟩:=bS h;refine RT.bX .none ((Ai N kA).w (args':=[_,_]) ⟨au,(SV.fE (show cg [aA qY,nw N (slc 1 (List.map bh qZ))] _ from⟨au,fe,aq⟩)),aq⟩) hN Y ⟨Y,Y,aq⟩ T<|mv Y<|ex Y Y<|ex Y Y<|ex Y Y<|so Y Y Y<|dn<|sr<|ld Y Y (.k2 Y Y)<|ld Y Y (.k2 Y Y) ?_;obtain⟨⟨⟨Fp,Fq⟩,⟨afA,afB⟩,an9⟩,vA,h⟩:=bS h;refine RT.bX .none ((Ai N vA).w (args':=[_,_]) ⟨au,(SV.fE (show cg [aA qY,nw N (slc 1 (List.map bh qZ))] _ from⟨au,fe,aq⟩)),aq⟩) hN Y ⟨Y,Y,aq⟩ T<|mv Y<|ex Y Y<|ex Y Y<|ex Y Y<|so Y Y Y<|dn<|qq<|sr<|ld Y Y (.k2 Y Y) ?_;obtain⟨⟨afC,afD⟩,zG,h⟩:=bS h;refine cl ((jP zG).w (args':=[_]) ⟨(SV.fE (show cg [aA Fp,nw N (slc 1 (List.map bh Fq))] _ from⟨au,fe,aq⟩)),aq⟩) ⟨Y,aq⟩<|mv Y<|ex Y Y<|ex Y Y<|ag Y<|ag Y<|dn<|qq ?_
 refine bL h (λj5=>AS.cu 46 [(2,.ptr 2 0),(3,.ptr 3 0),(4,.ptr 4 0),(41,aj j5)] [(4,⟨43,[aj false,.sv (nw N ax),aj false,.sv (nw N ax)]⟩),(3,⟨41,[aj Fp,.sv (nw N (slc 1 (List.map bh Fq)))]⟩),(2,⟨41,[aj Iz,.sv (nw N (slc 1 (List.map bh IA)))]⟩)] []) (λh=>?_) (λWy h=>?_);refine aX<|mv Y<|mv Y<|bE h λacC WJ h=>?_;cases afD;obtain rfl:=O (F WJ);exact ww<|ww<|pF Y<|dn<|⟨false,h,wR []⟩;refine gm Y<|lE (V WJ) λlj tf WJ=>ge_ _ Y Y (xh (p:=afC) (q:=1) tf) ?_;obtain rfl:=O WJ;exact pT Y<|dn<|⟨lj,h,wR []⟩
 try dsimp only
 refine aW.n ?_;refine bL h (λj7=>AS.cu 46 [(2,.ptr 2 0),(3,.ptr 3 0),(4,.ptr 4 0)] [(4,⟨43,[aj false,.sv (nw N ax),aj false,.sv (nw N ax)]⟩),(3,⟨41,[aj j7.1,.sv (nw N (slc 1 (List.map bh j7.2)))]⟩),(2,⟨41,[aj Iz,.sv (nw N (slc 1 (List.map bh IA)))]⟩)] []) (λh=>?_) (λj7 h=>?_);cases Wy;exact fs<|⟨(Fp,Fq),(F h),wR []⟩;exact cT<|aX<|bI (cs:=[_,_]) (cs':=[aA false,nw N ax]) (.nil) ⟨au,bt,aq⟩<|so Y Y Y<|dn<|⟨(false,[]),(V h),wR []⟩;obtain⟨Rk,Rl⟩:=j7
 try dsimp only
 refine aW.n<|sr<|ld Y Y (.k2 Y Y)<|ld Y Y (.k2 Y Y)<|bI (cs:=[_,_,_,_]) (cs':=[aA Iz,nw N (slc 1 (List.map bh IA)),aA Rk,nw N (slc 1 (List.map bh Rl))]) (.agg Y (.agg Y (.nil))) ⟨au,au,au,au,aq⟩<|so Y Y Y<|dn<|aY ?_;obtain rfl:=O h;exact RZ (.agg Y Y (.k4 Y Y Y Y) Y (.nil))
theorem iy{x0:Qr}{r:Int×Int×Bool}(h:fy x0=some r):Pure ah 134 [.agg (eQ x0)] (.Cn [ay r.1,ay r.2.1,aA r.2.2]):=by
 obtain⟨⟨bn,bp⟩,⟨bB,bD⟩⟩:=x0;refine bj Tryz.func134 Y (af Y) (λc9 M vs hvs=>?_);unfold fy at h;refine sr<|bx Y<|ag Y<|ag Y<|ag Y<|dn<|sr<|fa Y Y<|ld Y Y (.k2 Y Y) ?_;obtain⟨⟨MI,aaz⟩,fY,h⟩:=bS h;refine cl (jP fY) ⟨Y,aq⟩<|mv Y<|ex Y Y<|ex Y Y<|ag Y<|ag Y<|dn<|sr<|fa Y Y<|ld Y Y (.k2 Y Y) ?_;obtain⟨⟨Kx,ajF⟩,kf,h⟩:=bS h;refine cl (jP kf) ⟨Y,aq⟩<|mv Y<|ex Y Y<|ex Y Y<|ag Y<|ag Y<|dn<|qq<|qq ?_;refine bL h (λj21=>AS.cu 53 [(2,ai MI),(3,ai Kx),(40,aj j21)] [] []) (λh=>?_) (λRm h=>?_);refine aX<|mv Y<|lE h λgK oP h=>nt Y _ oP<|mv Y<|bE h λWB yO h=>?_;cases gK;refine gm Y<|lE (F yO) λgU oQ yO=>Qy Y _ oQ ?_;obtain rfl:=O yO;refine pF Y<|mv Y<|bE h λaob C5 h=>?_;cases gU;refine gm Y<|lE (F C5) λir oV C5=>RT.leq (.some Y Y) _ Y Y T oV ?_;obtain rfl:=O C5;refine pF Y<|mv Y<|bE h λaoc Fv h=>?_;cases ir;refine gm Y<|lE (F Fv) λnu xy Fv=>RT.geq (.some Y Y) _ Y Y T xy ?_;obtain rfl:=O Fv;refine pF Y<|mv Y<|bE h λaod xo h=>?_;cases nu;refine gm Y<|lE (F xo) λpC yL xo=>RT.leq (.some Y Y) _ Y Y T yL ?_;obtain rfl:=O xo;refine pF Y<|mv Y<|bE h λaoe D0 h=>?_;cases pC;refine gm Y<|lE (F D0) λyg Fo D0=>RT.geq (.some Y Y) _ Y Y T Fo ?_;obtain rfl:=O D0;exact pF Y<|dn<|⟨yg,h,wR []⟩;obtain rfl:=O (V D0)
 exact ww<|ww<|pT Y<|dn<|⟨true,h,wR []⟩;obtain rfl:=O (V xo);refine ww<|ww<|pT Y<|mv Y<|bE h λaof D1 h=>?_;obtain rfl:=O (V D1);exact ww<|ww<|pT Y<|dn<|⟨true,h,wR []⟩;obtain rfl:=O (V Fv);refine ww<|ww<|pT Y<|mv Y<|bE h λaog D2 h=>?_;obtain rfl:=O (V D2);refine ww<|ww<|pT Y<|mv Y<|bE h λafJ D3 h=>?_;obtain rfl:=O (V D3);exact ww<|ww<|pT Y<|dn<|⟨true,h,wR []⟩;obtain rfl:=O (V C5);refine ww<|ww<|pT Y<|mv Y<|bE h λaoh WK h=>?_;obtain rfl:=O (V WK);refine ww<|ww<|pT Y<|mv Y<|bE h λaoi WL h=>?_;obtain rfl:=O (V WL);refine ww<|ww<|pT Y<|mv Y<|bE h λafK WM h=>?_;obtain rfl:=O (V WM);exact ww<|ww<|pT Y<|dn<|⟨true,h,wR []⟩;obtain rfl:=O (V yO);refine ww<|ww<|pT Y<|mv Y<|bE h λaoj afL h=>?_;obtain rfl:=O (V afL);refine ww<|ww<|pT Y<|mv Y<|bE h λWN afM h=>?_;obtain rfl:=O (V afM);refine ww<|ww<|pT Y<|mv Y<|bE h λaok afN h=>?_;obtain rfl:=O (V afN);refine ww<|ww<|pT Y<|mv Y<|bE h λaol aom h=>?_;obtain rfl:=O (V aom);exact ww<|ww<|pT Y<|dn<|⟨true,h,wR []⟩
 try dsimp only
 refine aW.n ?_;cases Rm;refine fs<|qq<|bf<|sr<|mv Y<|lE (F h) λyz ET h=>eq _ Y Y (xh (p:=Kx) (q:=0) ET)<|ag Y<|dn ?_;refine bL h (λZG=>AS.cu 53 [(2,ai ZG.1),(3,ai ZG.2)] [] []) (λh=>?_) (λZG h=>?_);cases yz;refine cF<|sr<|mv Y<|lE (F h) λyI h46 h=>ls _ Y Y h46<|ag Y<|dn ?_;refine bL h (λj26=>AS.cu 53 [(2,ai j26.1),(3,ai j26.2)] [] []) (λh=>?_) (λj26 h=>?_);cases yI;exact fs<|⟨(MI,Kx),(F h),wR []⟩;exact cT<|aX<|mv Y<|lE (V h) λuN h48 h=>RT.neg .none _ Y T h48<|mv Y<|lE h λAu Ks h=>RT.neg .none _ Y T Ks<|ag Y<|ag Y<|dn<|⟨(uN,Au),h,wR []⟩;obtain⟨Wz,WA⟩:=j26
 try dsimp only
 exact aW.n<|⟨(Wz,WA),h,wR []⟩;exact cT<|aX<|ag Y<|dn<|⟨(MI,1),(V h),wR []⟩;obtain⟨OI,acD⟩:=ZG
 try dsimp only
 refine bF.n<|aW.n<|sr<|mv Y<|mv Y<|ag Y<|ag Y<|ag Y<|dn<|aY ?_;obtain rfl:=O h;exact RZ (.tmp Y (.tmp Y (.tmp Y (.nil))));refine cT<|sr<|ag Y<|ag Y<|ag Y<|dn<|aY<|aW.r ?_;obtain rfl:=O (V h);exact RZ (.tmp Y (.tmp Y (.tmp Y (.nil))))
theorem oX{x0:Int}{x1:Int}(N:Nat){r:Qr}(h:iw x0 x1=some r):dB ah 135 N [ay x0,ay x1] (.agg ((fQ N) r)):=by
 refine bT Tryz.func135 Y (af Y) (λc9 M vs hN hvs=>?_);unfold iw at h;refine sr<|al (cs:=[aA false,nw N ax,aA false,nw N ax]) (by exact⟨au,bt,au,bt,aq⟩) Y<|dn<|sr<|mv Y<|mv Y<|ag Y<|ag Y<|dn<|qq<|bE h λe6 uP je=>?_;refine bJ (λ(wj:Int)=>AS.cu 36 [(0,ai x0),(1,ai x1),(4,.ptr 4 0),(5,ai wj)] [(4,⟨43,[aj false,.sv (nw N ax),aj false,.sv (nw N ax)]⟩)] []) (λwj=>wj=e6) ?_ (λwj uQ=>?_);refine bf ?_;refine bK uP (λs6=>AS.cu 36 [(0,ai x0),(1,ai x1),(4,.ptr 4 0),(5,ai s6.1),(6,ai s6.2)] [(4,⟨43,[aj false,.sv (nw N ax),aj false,.sv (nw N ax)]⟩)] []) (wR []) (λs6 y6 G6 h uR pG=>?_);obtain⟨iA,l7⟩:=s6
 try dsimp only
 refine qq<|sr<|mv Y<|lE h λdG fY h=>ne _ Y Y (Lf (p:=l7) (q:=0) fY)<|dn ?_;cases dG;refine cF<|bP<|aW.x<|aW.x<|bF.x<|aW.n ?_;obtain rfl:=O (F h);exact⟨iA,pG _ Y,wR []⟩;refine cT<|bu<|aW.n<|bf<|aZ mixed<|mv Y<|mv Y<|mv Y<|bE (V h) λdV jy h=>RT.rem .none _ Y Y T (aeO jy) (aeP jy)<|ag Y<|ag Y ?_;refine RT.done ⟨by kernel_rfl,?_⟩;refine bF.n ?_;obtain rfl:=O h;exact aW.n ⟨(l7,dV),uR _ Y,wR []⟩;subst uQ
 try dsimp only
 refine aW.n<|qq<|sr<|mv Y<|lE je λeX kf je=>ls _ Y Y kf<|dn ?_;refine bL je (λj8=>AS.cu 36 [(0,ai x0),(1,ai x1),(4,.ptr 4 0),(5,ai j8)] [(4,⟨43,[aj false,.sv (nw N ax),aj false,.sv (nw N ax)]⟩)] []) (λje=>?_) (λUz je=>?_);cases eX;exact fs<|⟨wj,(F je),wR []⟩;exact cT<|aX<|mv Y<|lE (V je) λeE jd je=>RT.neg .none _ Y T jd<|ag Y<|dn<|⟨eE,je,wR []⟩
 try dsimp only
 refine aW.n<|qq<|sr<|mv Y<|mv Y<|lE je λgh kA je=>eq _ Y Y (xh (p:=Uz) (q:=x1) kA)<|dn ?_;cases gh;refine fs<|qq<|aZ mixed<|mv Y<|mv Y<|bE (F je) λiM oN je=>RT.quo .none _ Y Y T (nzI oN) (V0 oN) ?_;obtain⟨⟨sn,sq⟩,zH,je⟩:=bS je;refine RT.bX .none (fU N zH) hN Y ⟨Y,aq⟩ T<|mv Y<|mv Y<|bE je λow xj je=>RT.quo .none _ Y Y T (nzI xj) (V0 xj) ?_;obtain⟨⟨qk,ql⟩,zG,je⟩:=bS je;refine RT.bX .none (fU N zG) hN Y ⟨Y,aq⟩ T<|bI (cs:=[_,_,_,_]) (cs':=[aA sn,nw N (slc 1 (List.map bh sq)),aA qk,nw N (slc 1 (List.map bh ql))]) (.agg Y (.agg Y (.nil))) ⟨au,au,au,au,aq⟩<|so Y Y Y ?_;refine RT.done ⟨by kernel_rfl,?_⟩;refine aW.n<|aY ?_;obtain rfl:=O je;exact RZ (.agg Y Y (.k4 Y Y Y Y) Y (.nil));refine cT<|sr<|mv Y<|mv Y<|bE (V je) λgV nG je=>RT.quo .none _ Y Y T (nzI nG) (V0 nG) ?_;obtain⟨⟨nv,mS⟩,nO,je⟩:=bS je;refine RT.bX .none (fU N nO) hN Y ⟨Y,aq⟩ T<|bI (cs:=[_,_,_,_]) (cs':=[aA nv,nw N (slc 1 (List.map bh mS)),aA false,nw N ax]) (.agg Y (.nil)) ⟨au,au,au,bt,aq⟩<|so Y Y Y<|dn<|aY<|aW.r ?_;obtain rfl:=O je;exact RZ (.agg Y Y (.k4 Y Y Y Y) Y (.nil))
theorem Kz{x0:Int}{x1:Int}{r:Qr}(h:iw x0 x1=some r):Pure ah 135 [ay x0,ay x1] (.agg (eQ r)):=eM (λN=>oX N h) (λN=>(SV.fE (qI _ _)))
theorem MK{x0:Int}{r:Int}(h:xF x0=some r):Pure ah 128 [ay x0] (ay r):=by
 refine bj Tryz.func128 Y (af Y) (λc9 M vs hvs=>?_);unfold xF at h;refine sr<|ag Y<|dn<|qq<|bf<|sr<|mv Y<|lE h λx5 h5 h=>ls _ Y Y h5<|ag Y<|dn ?_;cases x5;refine cF<|sr<|mv Y<|lE (F h) λx8 h8 h=>gt _ Y Y h8<|ag Y<|dn ?_;cases x8;refine cF<|bu<|bF.n<|aW.n<|sr<|ag Y<|dn<|aY ?_;obtain rfl:=O (F h);exact R1 Y;refine cT<|sr<|ag Y<|dn<|aY<|bF.r<|aW.r ?_;obtain rfl:=O (V h);exact R1 Y;refine cT<|sr<|ag Y<|dn<|aY<|bF.r<|aW.r ?_;obtain rfl:=O (V h);exact R1 Y
theorem GV{x1:Qr}{x2:Qr}(N:Nat){r:Qr}(h:nP x1 x2=some r):dB ah 136 N [.v (.int .u8 ((43:Nat):Int)),.agg (eQ x1),.agg (eQ x2)] (.agg ((fQ N) r)):=by
 obtain⟨⟨ct,cj⟩,⟨ek,ep⟩⟩:=x1;obtain⟨⟨we,wh⟩,⟨IB,IC⟩⟩:=x2;refine bT Tryz.func136 Y (af Y) (λc9 M vs hN hvs=>?_);unfold nP at h;refine sr<|bx Y<|bx Y<|al (cs:=[aA false,nw N ax,aA false,nw N ax]) (by exact⟨au,bt,au,bt,aq⟩) Y<|dn<|sr<|ld Y Y (.k4 Y Y Y Y) ?_;obtain⟨⟨⟨oR,oS⟩,⟨pO,pP⟩⟩,iX,h⟩:=bS h;refine cl (fJ iX) ⟨Y,aq⟩<|mv Y<|ex Y Y<|ex Y Y<|al (cs:=[aA false,nw N ax]) (by exact⟨au,bt,aq⟩) Y<|al (cs:=[aA false,nw N ax]) (by exact⟨au,bt,aq⟩) Y<|so Y Y Y<|so Y Y Y<|dn<|sr<|ld Y Y (.k4 Y Y Y Y) ?_;obtain⟨⟨⟨kn,ko⟩,⟨nQ,nR⟩⟩,jd,h⟩:=bS h;refine cl (fJ jd) ⟨Y,aq⟩<|mv Y<|ex Y Y<|ex Y Y<|al (cs:=[aA false,nw N ax]) (by exact⟨au,bt,aq⟩) Y<|al (cs:=[aA false,nw N ax]) (by exact⟨au,bt,aq⟩) Y<|so Y Y Y<|so Y Y Y<|dn<|qq<|aZ mixed<|cl mD trivial<|mv Y ?_;refine RT.look .none [.func (.func 187) #[] #[]] Y Y Y T<|fl Y Y<|ld Y Y (.k2 Y Y)<|ld Y Y (.k2 Y Y)<|ld Y Y (.k2 Y Y)<|ld Y Y (.k2 Y Y) ?_;obtain⟨⟨⟨pQ,pR⟩,⟨pS,pU⟩⟩,oN,h⟩:=bS h;refine RT.bX .none (A6 N oN) hN Y ⟨Y,Y,Y,Y,aq⟩ T<|ex Y Y<|ex Y Y ?_;obtain⟨⟨⟨yJ,xx⟩,⟨A0,A3⟩⟩,qT,h⟩:=bS h
 refine RT.bX .none ((nU N qT).w (args':=[_,_]) ⟨(SV.fE (show cg [aA pQ,nw N (slc 1 (List.map bh pR))] _ from⟨au,fe,aq⟩)),(SV.fE (show cg [aA pS,nw N (slc 1 (List.map bh pU))] _ from⟨au,fe,aq⟩)),aq⟩) hN Y ⟨Y,Y,aq⟩ T<|so Y Y Y ?_;refine RT.done ⟨by kernel_rfl,?_⟩;refine aW.n<|aY ?_;obtain rfl:=O h;exact RZ (.agg Y Y (.k4 Y Y Y Y) Y (.nil))
theorem GW{x1:Qr}{x2:Qr}(N:Nat){r:Qr}(h:nS x1 x2=some r):dB ah 136 N [.v (.int .u8 ((45:Nat):Int)),.agg (eQ x1),.agg (eQ x2)] (.agg ((fQ N) r)):=by
 obtain⟨⟨ct,cj⟩,⟨ek,ep⟩⟩:=x1;obtain⟨⟨we,wh⟩,⟨IB,IC⟩⟩:=x2;refine bT Tryz.func136 Y (af Y) (λc9 M vs hN hvs=>?_);unfold nS at h;refine sr<|bx Y<|bx Y<|al (cs:=[aA false,nw N ax,aA false,nw N ax]) (by exact⟨au,bt,au,bt,aq⟩) Y<|dn<|sr<|ld Y Y (.k4 Y Y Y Y) ?_;obtain⟨⟨⟨oR,oS⟩,⟨pO,pP⟩⟩,iX,h⟩:=bS h;refine cl (fJ iX) ⟨Y,aq⟩<|mv Y<|ex Y Y<|ex Y Y<|al (cs:=[aA false,nw N ax]) (by exact⟨au,bt,aq⟩) Y<|al (cs:=[aA false,nw N ax]) (by exact⟨au,bt,aq⟩) Y<|so Y Y Y<|so Y Y Y<|dn<|sr<|ld Y Y (.k4 Y Y Y Y) ?_;obtain⟨⟨⟨kn,ko⟩,⟨nQ,nR⟩⟩,jd,h⟩:=bS h;refine cl (fJ jd) ⟨Y,aq⟩<|mv Y<|ex Y Y<|ex Y Y<|al (cs:=[aA false,nw N ax]) (by exact⟨au,bt,aq⟩) Y<|al (cs:=[aA false,nw N ax]) (by exact⟨au,bt,aq⟩) Y<|so Y Y Y<|so Y Y Y<|dn<|qq<|aZ mixed<|cl mD trivial<|mv Y ?_;refine RT.look .none [.func (.func 189) #[] #[]] Y Y Y T<|fl Y Y<|ld Y Y (.k2 Y Y)<|ld Y Y (.k2 Y Y)<|ld Y Y (.k2 Y Y)<|ld Y Y (.k2 Y Y) ?_;obtain⟨⟨⟨pQ,pR⟩,⟨pS,pU⟩⟩,oN,h⟩:=bS h;refine RT.bX .none (A7 N oN) hN Y ⟨Y,Y,Y,Y,aq⟩ T<|ex Y Y<|ex Y Y ?_;obtain⟨⟨⟨yJ,xx⟩,⟨A0,A3⟩⟩,qT,h⟩:=bS h
 refine RT.bX .none ((nU N qT).w (args':=[_,_]) ⟨(SV.fE (show cg [aA pQ,nw N (slc 1 (List.map bh pR))] _ from⟨au,fe,aq⟩)),(SV.fE (show cg [aA pS,nw N (slc 1 (List.map bh pU))] _ from⟨au,fe,aq⟩)),aq⟩) hN Y ⟨Y,Y,aq⟩ T<|so Y Y Y ?_;refine RT.done ⟨by kernel_rfl,?_⟩;refine aW.n<|aY ?_;obtain rfl:=O h;exact RZ (.agg Y Y (.k4 Y Y Y Y) Y (.nil))
theorem GX{x1:Qr}{x2:Qr}(N:Nat){r:Qr}(h:nT x1 x2=some r):dB ah 136 N [.v (.int .u8 ((42:Nat):Int)),.agg (eQ x1),.agg (eQ x2)] (.agg ((fQ N) r)):=by
 obtain⟨⟨ct,cj⟩,⟨ek,ep⟩⟩:=x1;obtain⟨⟨we,wh⟩,⟨IB,IC⟩⟩:=x2;refine bT Tryz.func136 Y (af Y) (λc9 M vs hN hvs=>?_);unfold nT at h;refine sr<|bx Y<|bx Y<|al (cs:=[aA false,nw N ax,aA false,nw N ax]) (by exact⟨au,bt,au,bt,aq⟩) Y<|dn<|sr<|ld Y Y (.k4 Y Y Y Y) ?_;obtain⟨⟨⟨oR,oS⟩,⟨pO,pP⟩⟩,iX,h⟩:=bS h;refine cl (fJ iX) ⟨Y,aq⟩<|mv Y<|ex Y Y<|ex Y Y<|al (cs:=[aA false,nw N ax]) (by exact⟨au,bt,aq⟩) Y<|al (cs:=[aA false,nw N ax]) (by exact⟨au,bt,aq⟩) Y<|so Y Y Y<|so Y Y Y<|dn<|sr<|ld Y Y (.k4 Y Y Y Y) ?_;obtain⟨⟨⟨kn,ko⟩,⟨nQ,nR⟩⟩,jd,h⟩:=bS h;refine cl (fJ jd) ⟨Y,aq⟩<|mv Y<|ex Y Y<|ex Y Y<|al (cs:=[aA false,nw N ax]) (by exact⟨au,bt,aq⟩) Y<|al (cs:=[aA false,nw N ax]) (by exact⟨au,bt,aq⟩) Y<|so Y Y Y<|so Y Y Y<|dn<|qq<|aZ mixed<|cl mD trivial<|mv Y ?_;refine RT.look .none [.func (.func 191) #[] #[]] Y Y Y T<|fl Y Y<|ld Y Y (.k2 Y Y)<|ld Y Y (.k2 Y Y)<|ld Y Y (.k2 Y Y)<|ld Y Y (.k2 Y Y) ?_;obtain⟨⟨⟨pQ,pR⟩,⟨pS,pU⟩⟩,oN,h⟩:=bS h;refine RT.bX .none (A8 N oN) hN Y ⟨Y,Y,Y,Y,aq⟩ T<|ex Y Y<|ex Y Y ?_;obtain⟨⟨⟨yJ,xx⟩,⟨A0,A3⟩⟩,qT,h⟩:=bS h
 refine RT.bX .none ((nU N qT).w (args':=[_,_]) ⟨(SV.fE (show cg [aA pQ,nw N (slc 1 (List.map bh pR))] _ from⟨au,fe,aq⟩)),(SV.fE (show cg [aA pS,nw N (slc 1 (List.map bh pU))] _ from⟨au,fe,aq⟩)),aq⟩) hN Y ⟨Y,Y,aq⟩ T<|so Y Y Y ?_;refine RT.done ⟨by kernel_rfl,?_⟩;refine aW.n<|aY ?_;obtain rfl:=O h;exact RZ (.agg Y Y (.k4 Y Y Y Y) Y (.nil))
theorem GY{x1:Qr}{x2:Qr}(N:Nat){r:Qr}(h:lP x1 x2=some r):dB ah 136 N [.v (.int .u8 ((47:Nat):Int)),.agg (eQ x1),.agg (eQ x2)] (.agg ((fQ N) r)):=by
 obtain⟨⟨ct,cj⟩,⟨ek,ep⟩⟩:=x1;obtain⟨⟨we,wh⟩,⟨IB,IC⟩⟩:=x2;refine bT Tryz.func136 Y (af Y) (λc9 M vs hN hvs=>?_);unfold lP at h;refine sr<|bx Y<|bx Y<|al (cs:=[aA false,nw N ax,aA false,nw N ax]) (by exact⟨au,bt,au,bt,aq⟩) Y<|dn<|sr<|ld Y Y (.k4 Y Y Y Y) ?_;obtain⟨⟨⟨oR,oS⟩,⟨pO,pP⟩⟩,iX,h⟩:=bS h;refine cl (fJ iX) ⟨Y,aq⟩<|mv Y<|ex Y Y<|ex Y Y<|al (cs:=[aA false,nw N ax]) (by exact⟨au,bt,aq⟩) Y<|al (cs:=[aA false,nw N ax]) (by exact⟨au,bt,aq⟩) Y<|so Y Y Y<|so Y Y Y<|dn<|sr<|ld Y Y (.k4 Y Y Y Y) ?_;obtain⟨⟨⟨kn,ko⟩,⟨nQ,nR⟩⟩,jd,h⟩:=bS h;refine cl (fJ jd) ⟨Y,aq⟩<|mv Y<|ex Y Y<|ex Y Y<|al (cs:=[aA false,nw N ax]) (by exact⟨au,bt,aq⟩) Y<|al (cs:=[aA false,nw N ax]) (by exact⟨au,bt,aq⟩) Y<|so Y Y Y<|so Y Y Y<|dn<|qq<|aZ mixed<|cl mD trivial<|mv Y ?_;refine RT.look .none [.func (.func 192) #[] #[]] Y Y Y T<|fl Y Y<|ld Y Y (.k2 Y Y)<|ld Y Y (.k2 Y Y)<|ld Y Y (.k2 Y Y)<|ld Y Y (.k2 Y Y) ?_;obtain⟨⟨⟨pQ,pR⟩,⟨pS,pU⟩⟩,oN,h⟩:=bS h;refine RT.bX .none (A9 N oN) hN Y ⟨Y,Y,Y,Y,aq⟩ T<|ex Y Y<|ex Y Y ?_;obtain⟨⟨⟨yJ,xx⟩,⟨A0,A3⟩⟩,qT,h⟩:=bS h
 refine RT.bX .none ((nU N qT).w (args':=[_,_]) ⟨(SV.fE (show cg [aA pQ,nw N (slc 1 (List.map bh pR))] _ from⟨au,fe,aq⟩)),(SV.fE (show cg [aA pS,nw N (slc 1 (List.map bh pU))] _ from⟨au,fe,aq⟩)),aq⟩) hN Y ⟨Y,Y,aq⟩ T<|so Y Y Y ?_;refine RT.done ⟨by kernel_rfl,?_⟩;refine aW.n<|aY ?_;obtain rfl:=O h;exact RZ (.agg Y Y (.k4 Y Y Y Y) Y (.nil))
theorem GZ{x1:Qr}{x2:Qr}{r:Qr}(h:lP x1 x2=some r):Pure ah 136 [.v (.int .u8 ((47:Nat):Int)),.agg (eQ x1),.agg (eQ x2)] (.agg (eQ r)):=eM (λN=>GY N h) (λN=>(SV.fE (qI _ _)))
end
section
open Go.Fw Go.Fw.Z Go.RowKit
theorem xI{x0:Int}(N:Nat){r:Qr}(h:dK x0=some r):dB ah 41 N [ay x0] (.agg ((fQ N) r)):=by
 refine bT Tryz.func41 Y (af Y) (λc9 M vs hN hvs=>?_);unfold dK at h;refine sr<|al (cs:=[aA false,nw N ax,aA false,nw N ax]) (by exact⟨au,bt,au,bt,aq⟩) Y<|dn<|sr<|mv Y ?_;obtain⟨⟨Ce,Cf⟩,h4,h⟩:=bS h;refine RT.bX .none (fU N h4) hN Y ⟨Y,aq⟩ T<|bI (cs:=[_,_,_,_]) (cs':=[aA Ce,nw N (slc 1 (List.map bh Cf)),aA false,nw N ax]) (.agg Y (.nil)) ⟨au,au,au,bt,aq⟩<|so Y Y Y<|dn<|aY ?_;obtain rfl:=O h;exact RZ (.agg Y Y (.k4 Y Y Y Y) Y (.nil))
theorem nx{x0:Int}{r:Qr}(h:dK x0=some r):Pure ah 41 [ay x0] (.agg (eQ r)):=eM (λN=>xI N h) (λN=>(SV.fE (qI _ _)))
theorem ny{x0:Qr}(N:Nat){r:Qr}(h:dP x0=some r):dB ah 93 N [.agg (eQ x0)] (.agg ((fQ N) r)):=by
 obtain⟨⟨bn,bp⟩,⟨bB,bD⟩⟩:=x0;refine bT Tryz.func93 Y (af Y) (λc9 M vs hN hvs=>?_);unfold dP at h;refine sr<|bx Y<|al (cs:=[aA false,nw N ax,aA false,nw N ax]) (by exact⟨au,bt,au,bt,aq⟩) Y<|dn<|qq<|sr<|ld Y Y (.k4 Y Y Y Y) ?_;obtain⟨⟨Vk,ZH,x8c⟩,h8,h⟩:=bS h;refine cl (iy h8) ⟨Y,aq⟩<|mv Y<|ex Y Y<|ex Y Y<|ex Y Y<|ag Y<|ag Y<|ag Y<|dn<|sr<|mv Y<|dn ?_;cases x8c;refine fs<|sr<|ld Y Y (.k4 Y Y Y Y) ?_;obtain⟨⟨⟨WC,WD⟩,⟨WE,WG⟩⟩,jK,h⟩:=bS (F h);refine cl (fJ jK) ⟨Y,aq⟩<|ex Y Y<|ex Y Y ?_;obtain⟨⟨⟨OJ,OK⟩,⟨acF,acG⟩⟩,oP,h⟩:=bS h;refine RT.bX .none (nU N oP) hN Y ⟨Y,Y,aq⟩ T<|so Y Y Y<|dn<|aY ?_;obtain rfl:=O h;exact RZ (.agg Y Y (.k4 Y Y Y Y) Y (.nil));refine cT<|sr<|mv Y<|mv Y ?_;obtain⟨⟨⟨jQ,jR⟩,⟨xG,xH⟩⟩,gH,h⟩:=bS (V h);refine RT.bX .none (oX N gH) hN Y ⟨Y,Y,aq⟩ T<|so Y Y Y<|dn<|aY<|aW.r ?_;obtain rfl:=O h;exact RZ (.agg Y Y (.k4 Y Y Y Y) Y (.nil))
theorem xJ{x0:Qr}{r:Qr}(h:dP x0=some r):Pure ah 93 [.agg (eQ x0)] (.agg (eQ r)):=eM (λN=>ny N h) (λN=>(SV.fE (qI _ _)))
theorem q9{x0:Qr}{r:Int}(h:kD x0=some r):Pure ah 59 [.agg (eQ x0)] (ay r):=by
 obtain⟨⟨bn,bp⟩,⟨bB,bD⟩⟩:=x0;refine bj Tryz.func59 Y (af Y) (λc9 M vs hvs=>?_);unfold kD at h;refine sr<|bx Y<|ag Y<|dn<|qq<|sr<|fa Y Y<|ld Y Y (.k2 Y Y)<|bE h λx5 h5 h=>cl (iu h5) ⟨Y,aq⟩<|lE h λx6 h6 h=>ls _ Y Y h6<|dn ?_;cases x6;refine fs<|sr<|fa Y Y<|ld Y Y (.k2 Y Y)<|bE (F h) λeY iX h=>cl (iu iX) ⟨Y,aq⟩<|ag Y<|dn<|aY ?_;obtain rfl:=O h;exact R1 Y;refine cT<|sr<|fa Y Y<|ld Y Y (.k2 Y Y)<|bE (V h) λx9 h9 h=>cl (iu h9) ⟨Y,aq⟩<|lE h λdG fY h=>RT.neg .none _ Y T fY<|ag Y<|dn<|aY<|aW.r ?_;obtain rfl:=O h;exact R1 Y
theorem OR{x0:Qr}{x1:Qr}(N:Nat){r:Qr}(h:wm x0 x1=some r):dB ah 132 N [.agg (eQ x0),.agg (eQ x1)] (.agg ((fQ N) r)):=by
 obtain⟨⟨bn,bp⟩,⟨bB,bD⟩⟩:=x0;obtain⟨⟨ct,cj⟩,⟨ek,ep⟩⟩:=x1;refine bT Tryz.func132 Y (af Y) (λc9 M vs hN hvs=>?_);unfold wm at h;refine sr<|bx Y<|bx Y<|al (cs:=[aA false,nw N ax,aA false,nw N ax]) (by exact⟨au,bt,au,bt,aq⟩) Y<|dn<|sr<|ld Y Y (.k4 Y Y Y Y) ?_;obtain⟨⟨ID,Fs,IE⟩,iX,h⟩:=bS h;refine cl (iy iX) ⟨Y,aq⟩<|mv Y<|ex Y Y<|ex Y Y<|ex Y Y<|ag Y<|ag Y<|ag Y<|dn<|sr<|ld Y Y (.k4 Y Y Y Y) ?_;obtain⟨⟨IF,Ft,IG⟩,lZ,h⟩:=bS h;refine cl (iy lZ) ⟨Y,aq⟩<|mv Y<|ex Y Y<|ex Y Y<|ex Y Y<|ag Y<|ag Y<|ag Y<|dn<|qq<|qq ?_;refine bL h (λj3=>AS.cu 41 [(2,.ptr 2 0),(3,.ptr 3 0),(4,.ptr 4 0),(5,ai ID),(6,ai Fs),(8,ai IF),(9,ai Ft),(26,aj j3)] [(4,⟨43,[aj false,.sv (nw N ax),aj false,.sv (nw N ax)]⟩),(3,⟨43,[aj ct,.sv (slc 1 (List.map bh cj)),aj ek,.sv (slc 1 (List.map bh ep))]⟩),(2,⟨43,[aj bn,.sv (slc 1 (List.map bh bp)),aj bB,.sv (slc 1 (List.map bh bD))]⟩)] []) (λh=>?_) (λA4 h=>?_);refine aX<|mv Y<|mv Y<|bE h λGj r6 h=>?_;cases IE;obtain rfl:=O (F r6);exact ww<|pF Y<|dn<|⟨false,h,wR []⟩;refine gm Y ?_;obtain rfl:=O (V r6);exact pT Y<|dn<|⟨IG,h,wR []⟩
 try dsimp only
 refine aW.n ?_;cases A4;refine fs<|sr<|ld Y Y (.k4 Y Y Y Y)<|ld Y Y (.k4 Y Y Y Y) ?_;obtain⟨⟨⟨vh,vi⟩,⟨yM,yN⟩⟩,tf,h⟩:=bS (F h);refine RT.bX .none (GV N tf) hN Y ⟨Y,Y,Y,aq⟩ T<|so Y Y Y<|dn<|aY ?_;obtain rfl:=O h;exact RZ (.agg Y Y (.k4 Y Y Y Y) Y (.nil));refine cT<|sr<|mv Y<|mv Y<|lE (V h) λiM oN h=>RT.mul .none _ Y Y T oN<|mv Y<|mv Y<|lE h λjY qT h=>RT.mul .none _ Y Y T qT<|lE h λow xj h=>ad _ Y Y xj<|mv Y<|mv Y<|lE h λnF xn h=>RT.mul .none _ Y Y T xn ?_;obtain⟨⟨⟨OL,OM⟩,⟨ON,OO⟩⟩,AY,h⟩:=bS h;refine RT.bX .none (oX N AY) hN Y ⟨Y,Y,aq⟩ T<|so Y Y Y<|dn<|aY<|aW.r ?_;obtain rfl:=O h;exact RZ (.agg Y Y (.k4 Y Y Y Y) Y (.nil))
theorem OS{x0:Qr}{x1:Qr}(N:Nat){r:Qr}(h:wv x0 x1=some r):dB ah 94 N [.agg (eQ x0),.agg (eQ x1)] (.agg ((fQ N) r)):=by
 obtain⟨⟨bn,bp⟩,⟨bB,bD⟩⟩:=x0;obtain⟨⟨ct,cj⟩,⟨ek,ep⟩⟩:=x1;refine bT Tryz.func94 Y (af Y) (λc9 M vs hN hvs=>?_);unfold wv at h;refine sr<|bx Y<|bx Y<|al (cs:=[aA false,nw N ax,aA false,nw N ax]) (by exact⟨au,bt,au,bt,aq⟩) Y<|dn<|sr<|ld Y Y (.k4 Y Y Y Y) ?_;obtain⟨⟨ID,Fs,IE⟩,iX,h⟩:=bS h;refine cl (iy iX) ⟨Y,aq⟩<|mv Y<|ex Y Y<|ex Y Y<|ex Y Y<|ag Y<|ag Y<|ag Y<|dn<|sr<|ld Y Y (.k4 Y Y Y Y) ?_;obtain⟨⟨IF,Ft,IG⟩,lZ,h⟩:=bS h;refine cl (iy lZ) ⟨Y,aq⟩<|mv Y<|ex Y Y<|ex Y Y<|ex Y Y<|ag Y<|ag Y<|ag Y<|dn<|qq<|qq ?_;refine bL h (λj3=>AS.cu 41 [(2,.ptr 2 0),(3,.ptr 3 0),(4,.ptr 4 0),(5,ai ID),(6,ai Fs),(8,ai IF),(9,ai Ft),(26,aj j3)] [(4,⟨43,[aj false,.sv (nw N ax),aj false,.sv (nw N ax)]⟩),(3,⟨43,[aj ct,.sv (slc 1 (List.map bh cj)),aj ek,.sv (slc 1 (List.map bh ep))]⟩),(2,⟨43,[aj bn,.sv (slc 1 (List.map bh bp)),aj bB,.sv (slc 1 (List.map bh bD))]⟩)] []) (λh=>?_) (λA4 h=>?_);refine aX<|mv Y<|mv Y<|bE h λGj r6 h=>?_;cases IE;obtain rfl:=O (F r6);exact ww<|pF Y<|dn<|⟨false,h,wR []⟩;refine gm Y ?_;obtain rfl:=O (V r6);exact pT Y<|dn<|⟨IG,h,wR []⟩
 try dsimp only
 refine aW.n ?_;cases A4;refine fs<|sr<|ld Y Y (.k4 Y Y Y Y)<|ld Y Y (.k4 Y Y Y Y) ?_;obtain⟨⟨⟨vh,vi⟩,⟨yM,yN⟩⟩,tf,h⟩:=bS (F h);refine RT.bX .none (GW N tf) hN Y ⟨Y,Y,Y,aq⟩ T<|so Y Y Y<|dn<|aY ?_;obtain rfl:=O h;exact RZ (.agg Y Y (.k4 Y Y Y Y) Y (.nil));refine cT<|sr<|mv Y<|mv Y<|lE (V h) λiM oN h=>RT.mul .none _ Y Y T oN<|mv Y<|mv Y<|lE h λjY qT h=>RT.mul .none _ Y Y T qT<|lE h λow xj h=>sb _ Y Y xj<|mv Y<|mv Y<|lE h λnF xn h=>RT.mul .none _ Y Y T xn ?_;obtain⟨⟨⟨OL,OM⟩,⟨ON,OO⟩⟩,AY,h⟩:=bS h;refine RT.bX .none (oX N AY) hN Y ⟨Y,Y,aq⟩ T<|so Y Y Y<|dn<|aY<|aW.r ?_;obtain rfl:=O h;exact RZ (.agg Y Y (.k4 Y Y Y Y) Y (.nil))
theorem Gk{x0:Qr}{x1:Qr}(N:Nat){r:Qr}(h:sG x0 x1=some r):dB ah 89 N [.agg (eQ x0),.agg (eQ x1)] (.agg ((fQ N) r)):=by
 obtain⟨⟨bn,bp⟩,⟨bB,bD⟩⟩:=x0;obtain⟨⟨ct,cj⟩,⟨ek,ep⟩⟩:=x1;refine bT Tryz.func89 Y (af Y) (λc9 M vs hN hvs=>?_);unfold sG at h;refine sr<|bx Y<|bx Y<|al (cs:=[aA false,nw N ax,aA false,nw N ax]) (by exact⟨au,bt,au,bt,aq⟩) Y<|dn<|sr<|ld Y Y (.k4 Y Y Y Y) ?_;obtain⟨⟨ID,Fs,IE⟩,iX,h⟩:=bS h;refine cl (iy iX) ⟨Y,aq⟩<|mv Y<|ex Y Y<|ex Y Y<|ex Y Y<|ag Y<|ag Y<|ag Y<|dn<|sr<|ld Y Y (.k4 Y Y Y Y) ?_;obtain⟨⟨IF,Ft,IG⟩,lZ,h⟩:=bS h;refine cl (iy lZ) ⟨Y,aq⟩<|mv Y<|ex Y Y<|ex Y Y<|ex Y Y<|ag Y<|ag Y<|ag Y<|dn<|qq<|qq ?_;refine bL h (λj3=>AS.cu 37 [(2,.ptr 2 0),(3,.ptr 3 0),(4,.ptr 4 0),(5,ai ID),(6,ai Fs),(8,ai IF),(9,ai Ft),(26,aj j3)] [(4,⟨43,[aj false,.sv (nw N ax),aj false,.sv (nw N ax)]⟩),(3,⟨43,[aj ct,.sv (slc 1 (List.map bh cj)),aj ek,.sv (slc 1 (List.map bh ep))]⟩),(2,⟨43,[aj bn,.sv (slc 1 (List.map bh bp)),aj bB,.sv (slc 1 (List.map bh bD))]⟩)] []) (λh=>?_) (λA4 h=>?_);refine aX<|mv Y<|mv Y<|bE h λGj r6 h=>?_;cases IE;obtain rfl:=O (F r6);exact ww<|pF Y<|dn<|⟨false,h,wR []⟩;refine gm Y ?_;obtain rfl:=O (V r6);exact pT Y<|dn<|⟨IG,h,wR []⟩
 try dsimp only
 refine aW.n ?_;cases A4;refine fs<|sr<|ld Y Y (.k4 Y Y Y Y)<|ld Y Y (.k4 Y Y Y Y) ?_;obtain⟨⟨⟨Gf,Gg⟩,⟨acH,acI⟩⟩,xn,h⟩:=bS (F h);refine RT.bX .none (GX N xn) hN Y ⟨Y,Y,Y,aq⟩ T<|so Y Y Y<|dn<|aY ?_;obtain rfl:=O h;exact RZ (.agg Y Y (.k4 Y Y Y Y) Y (.nil));refine cT<|sr<|mv Y<|mv Y<|lE (V h) λiM oN h=>RT.mul .none _ Y Y T oN<|mv Y<|mv Y<|lE h λjY qT h=>RT.mul .none _ Y Y T qT ?_;obtain⟨⟨⟨Cv,Cw⟩,⟨II,IJ⟩⟩,xj,h⟩:=bS h;refine RT.bX .none (oX N xj) hN Y ⟨Y,Y,aq⟩ T<|so Y Y Y<|dn<|aY<|aW.r ?_;obtain rfl:=O h;exact RZ (.agg Y Y (.k4 Y Y Y Y) Y (.nil))
theorem OT{x0:Qr}{x1:Qr}{r:Qr×Int}(h:wz x0 x1=some r):Pure ah 105 [.agg (eQ x0),.agg (eQ x1)] (.Cn [.agg (eQ r.1),ay r.2]):=by
 obtain⟨⟨bn,bp⟩,⟨bB,bD⟩⟩:=x0;obtain⟨⟨ct,cj⟩,⟨ek,ep⟩⟩:=x1;refine bj Tryz.func105 Y (af Y) (λc9 M vs hvs=>?_);unfold wz at h;refine sr<|bx Y<|bx Y<|al (cs:=[aA false,ax,aA false,ax]) (by exact⟨au,aC,au,aC,aq⟩) Y<|ag Y<|dn<|qq<|sr<|ld Y Y (.k4 Y Y Y Y)<|bE h λeY iX h=>cl (q9 iX) ⟨Y,aq⟩<|lE h λdV jy h=>eq _ Y Y (xh (p:=eY) (q:=0) jy)<|RT.done ?_;refine aW.n ?_;cases dV;refine fs<|sr<|ld Y Y (.k4 Y Y Y Y) ?_;obtain⟨⟨Ky,MJ,WH⟩,jd,h⟩:=bS (F h);refine cl (iy jd) ⟨Y,aq⟩<|mv Y<|ex Y Y<|ex Y Y<|ex Y Y<|ag Y<|ag Y<|ag Y<|dn<|sr<|ld Y Y (.k4 Y Y Y Y) ?_;obtain⟨⟨UA,UB,afI⟩,nG,h⟩:=bS h;refine cl (iy nG) ⟨Y,aq⟩<|mv Y<|ex Y Y<|ex Y Y<|ex Y Y<|ag Y<|ag Y<|ag Y<|dn<|qq<|qq ?_;refine bL h (λj3=>AS.cu 48 [(2,.ptr 2 0),(3,.ptr 3 0),(4,.ptr 4 0),(6,ai Ky),(7,ai MJ),(9,ai UA),(10,ai UB),(31,aj j3)] [(4,⟨43,[aj false,.sv ax,aj false,.sv ax]⟩),(3,⟨43,[aj ct,.sv (slc 1 (List.map bh cj)),aj ek,.sv (slc 1 (List.map bh ep))]⟩),(2,⟨43,[aj bn,.sv (slc 1 (List.map bh bp)),aj bB,.sv (slc 1 (List.map bh bD))]⟩)] []) (λh=>?_) (λIK h=>?_);refine aX<|mv Y<|mv Y<|bE h λacL hg7 h=>?_;cases WH;obtain rfl:=O (F hg7);exact ww<|pF Y<|dn<|⟨false,h,wR []⟩;refine gm Y ?_;obtain rfl:=O (V hg7);exact pT Y<|dn<|⟨afI,h,wR []⟩
 try dsimp only
 refine aW.n ?_;cases IK;refine fs<|sr<|ld Y Y (.k4 Y Y Y Y)<|ld Y Y (.k4 Y Y Y Y) ?_;obtain⟨⟨⟨Gc,Ge⟩,⟨acJ,acK⟩⟩,AW,h⟩:=bS (F h);refine cl (GZ AW) ⟨Y,Y,Y,aq⟩<|so Y Y Y<|ag Y<|dn<|aY ?_;obtain rfl:=O h;exact RZ (.agg Y Y (.k4 Y Y Y Y) Y (.tmp Y (.nil)));refine cT<|qq<|sr<|mv Y<|lE (V h) λow xj h=>ls _ Y Y xj<|dn ?_;refine bL h (λj6=>AS.cu 48 [(4,.ptr 4 0),(6,ai j6.1),(7,ai MJ),(9,ai j6.2),(10,ai UB)] [(4,⟨43,[aj false,.sv ax,aj false,.sv ax]⟩)] []) (λh=>?_) (λj6 h=>?_);cases ow;exact fs<|⟨(Ky,UA),(F h),wR []⟩;exact cT<|aX<|mv Y<|lE (V h) λpC yL h=>RT.neg .none _ Y T yL<|mv Y<|lE h λpE AY h=>RT.neg .none _ Y T AY<|ag Y<|ag Y<|dn<|⟨(pC,pE),h,wR []⟩;obtain⟨ajG,ajH⟩:=j6
 try dsimp only
 refine aW.n<|sr<|mv Y<|mv Y<|lE h λlj tf h=>RT.mul .none _ Y Y T tf<|mv Y<|mv Y<|lE h λyz ET h=>RT.mul .none _ Y Y T ET ?_;obtain⟨⟨⟨Gh,Gi⟩,⟨OP,OQ⟩⟩,Aw,h⟩:=bS h;refine cl (Kz Aw) ⟨Y,Y,aq⟩<|so Y Y Y<|ag Y<|dn<|aY<|aW.r ?_;obtain rfl:=O h;exact RZ (.agg Y Y (.k4 Y Y Y Y) Y (.tmp Y (.nil)));refine cT<|sr<|bI (cs:=[_,_,_,_]) (cs':=[aA false,ax,aA false,ax]) (.nil) ⟨au,aC,au,aC,aq⟩<|so Y Y Y<|ag Y<|dn<|aY<|aW.r ?_;obtain rfl:=O (V h);exact RZ (.agg Y Y (.k4 Y Y Y Y) Y (.tmp Y (.nil)))
theorem OU{x0:Qr}(N:Nat){r:Qr}(h:sH x0=some r):dB ah 108 N [.agg (eQ x0)] (.agg ((fQ N) r)):=by
 obtain⟨⟨bn,bp⟩,⟨bB,bD⟩⟩:=x0;refine bT Tryz.func108 Y (af Y) (λc9 M vs hN hvs=>?_);unfold sH at h;refine sr<|bx Y<|al (cs:=[aA false,nw N ax,aA false,nw N ax]) (by exact⟨au,bt,au,bt,aq⟩) Y<|dn<|sr<|ld Y Y (.k4 Y Y Y Y) ?_;obtain⟨⟨⟨A5,C4⟩,⟨Fu,GU⟩⟩,h5,h⟩:=bS h;refine RT.bX .none (ny N h5) hN Y ⟨Y,aq⟩ T<|al (cs:=[aA false,nw N ax,aA false,nw N ax]) (by exact⟨au,bt,au,bt,aq⟩) Y<|so Y Y Y<|dn<|qq<|aZ mixed<|fa Y Y<|ld Y Y (.k2 Y Y) ?_;obtain⟨⟨qJ,qK⟩,h8,h⟩:=bS h;refine RT.bX .none ((vC N h8).w (args':=[_]) ⟨(SV.fE (show cg [aA A5,nw N (slc 1 (List.map bh C4))] _ from⟨au,fe,aq⟩)),aq⟩) hN Y ⟨Y,aq⟩ T<|fa Y Y<|ld Y Y (.k2 Y Y)<|bI (cs:=[_,_,_,_]) (cs':=[aA qJ,nw N (slc 1 (List.map bh qK)),aA Fu,nw N (slc 1 (List.map bh GU))]) (.agg Y (.agg Y (.nil))) ⟨au,au,au,au,aq⟩<|so Y Y Y ?_;refine RT.done ⟨by kernel_rfl,?_⟩;refine aW.n<|aY ?_;obtain rfl:=O h;exact RZ (.agg Y Y (.k4 Y Y Y Y) Y (.nil))
theorem OV{x0:Qr}{r:Qr}(h:sH x0=some r):Pure ah 108 [.agg (eQ x0)] (.agg (eQ r)):=eM (λN=>OU N h) (λN=>(SV.fE (qI _ _)))
theorem OW{x0:Qr}{x1:Qr}{r:Int}(h:wA x0 x1=some r):Pure ah 86 [.agg (eQ x0),.agg (eQ x1)] (ay r):=by
 obtain⟨⟨bn,bp⟩,⟨bB,bD⟩⟩:=x0;obtain⟨⟨ct,cj⟩,⟨ek,ep⟩⟩:=x1;refine bj Tryz.func86 Y (af Y) (λc9 M vs hvs=>?_);unfold wA at h;refine sr<|bx Y<|bx Y<|ag Y<|dn<|sr<|ld Y Y (.k4 Y Y Y Y) ?_;obtain⟨⟨⟨oR,oS⟩,⟨pO,pP⟩⟩,iX,h⟩:=bS h;refine cl (fJ iX) ⟨Y,aq⟩<|mv Y<|ex Y Y<|ex Y Y<|al (cs:=[aA false,ax]) (by exact⟨au,aC,aq⟩) Y<|al (cs:=[aA false,ax]) (by exact⟨au,aC,aq⟩) Y<|so Y Y Y<|so Y Y Y<|dn<|sr<|ld Y Y (.k4 Y Y Y Y) ?_;obtain⟨⟨⟨kn,ko⟩,⟨nQ,nR⟩⟩,jd,h⟩:=bS h;refine cl (fJ jd) ⟨Y,aq⟩<|mv Y<|ex Y Y<|ex Y Y<|al (cs:=[aA false,ax]) (by exact⟨au,aC,aq⟩) Y<|al (cs:=[aA false,ax]) (by exact⟨au,aC,aq⟩) Y<|so Y Y Y<|so Y Y Y<|dn<|qq<|qq<|aZ mixed<|ld Y Y (.k2 Y Y)<|bE h λiK oA h=>?_;refine cl (iu oA) ⟨Y,aq⟩<|ld Y Y (.k2 Y Y)<|bE h λgV nG h=>cl (iu nG) ⟨Y,aq⟩<|ag Y<|ag Y ?_;refine RT.done ⟨by kernel_rfl,?_⟩;refine aW.n<|qq ?_;refine bL h (λj3=>AS.cu 43 [(5,.ptr 5 0),(6,.ptr 6 0),(7,.ptr 7 0),(8,.ptr 8 0),(9,ai iK),(10,ai gV),(31,aj j3)] [(8,⟨41,[aj nQ,.sv (slc 1 (List.map bh nR))]⟩),(7,⟨41,[aj kn,.sv (slc 1 (List.map bh ko))]⟩),(6,⟨41,[aj pO,.sv (slc 1 (List.map bh pP))]⟩),(5,⟨41,[aj oR,.sv (slc 1 (List.map bh oS))]⟩)] []) (λh=>?_) (λIK h=>?_)
 refine aX<|mv Y<|mv Y<|lE h λir oV h=>ne _ Y Y (Lf (p:=iK) (q:=gV) oV)<|mv Y<|bE h λacM r6 h=>?_;cases ir;refine gm Y<|lE (F r6) λuM zH r6=>ge_ _ Y Y (xh (p:=iK) (q:=0) zH) ?_;obtain rfl:=O r6;exact pF Y<|dn<|⟨uM,h,wR []⟩;obtain rfl:=O (V r6);exact ww<|ww<|pT Y<|dn<|⟨true,h,wR []⟩
 try dsimp only
 refine aW.n ?_;cases IK;refine fs<|qq<|aZ mixed<|ld Y Y (.k2 Y Y)<|ld Y Y (.k2 Y Y) ?_;obtain⟨⟨tW,tX⟩,AU,h⟩:=bS (F h);refine cl (DY AU) ⟨Y,Y,aq⟩<|ld Y Y (.k2 Y Y)<|ld Y Y (.k2 Y Y) ?_;obtain⟨⟨Lu,Lw⟩,GQ,h⟩:=bS h;refine cl (DY GQ) ⟨Y,Y,aq⟩<|bE h λpD Av h=>cl (MG Av) ⟨Y,Y,aq⟩<|ag Y ?_;refine RT.done ⟨by kernel_rfl,?_⟩;refine aW.n<|aY ?_;obtain rfl:=O h;exact R1 Y;refine cT<|sr<|mv Y<|mv Y<|lE (V h) λyy zG h=>sb _ Y Y zG<|bE h λpC yL h=>cl (MK yL) ⟨Y,aq⟩<|ag Y<|dn<|aY<|aW.r ?_;obtain rfl:=O h;exact R1 Y
end
section
open Go.Fw
noncomputable def tg(x0:List Qr)(x1:List Qr):Option (List Qr):=(some (x0.length:Int)).bind λff=>(some (x1.length:Int)).bind λeY=>(some (max (ff:Int) eY)).bind λdV=>(VU (α:=Qr) 64 dV).bind λdN=>(uK (λ(k:Nat) (sI:(List Qr))=>(show Option ((List Qr))from(some (x0.getD k (⟨⟨false,[]⟩,⟨false,[]⟩⟩:Qr))).bind λ⟨⟨OX,OY⟩,⟨OZ,O0⟩⟩=>(some (x1.getD k (⟨⟨false,[]⟩,⟨false,[]⟩⟩:Qr))).bind λ⟨⟨O1,O2⟩,⟨O3,O4⟩⟩=>(wv ⟨⟨OX,OY⟩,⟨OZ,O0⟩⟩ ⟨⟨O1,O2⟩,⟨O3,O4⟩⟩).bind λ⟨⟨nv,mS⟩,⟨tY,tZ⟩⟩=>(mQ 64 sI [⟨⟨nv,mS⟩,⟨tY,tZ⟩⟩]).bind λir=>some ir)) (max x0.length x1.length) dN).bind λsI=>some sI
noncomputable def rf(x0:Qr)(x1:Qr)(O5:Qr):Option (Qr):=match x0 with|⟨⟨bn,bp⟩,⟨bB,bD⟩⟩=>match x1 with|⟨⟨ct,cj⟩,⟨ek,ep⟩⟩=>match O5 with|⟨⟨O6,O7⟩,⟨O8,O9⟩⟩=>(sG ⟨⟨O6,O7⟩,⟨O8,O9⟩⟩ ⟨⟨bn,bp⟩,⟨bB,bD⟩⟩).bind λ⟨⟨qJ,qK⟩,⟨Ba,Bb⟩⟩=>(wm ⟨⟨qJ,qK⟩,⟨Ba,Bb⟩⟩ ⟨⟨ct,cj⟩,⟨ek,ep⟩⟩).bind λ⟨⟨AP,AQ⟩,⟨acN,acO⟩⟩=>some ⟨⟨AP,AQ⟩,⟨acN,acO⟩⟩
noncomputable def oB(x0:List Qr)(x1:List Qr)(WO:Qr):Option (List Qr):=match WO with|⟨⟨Rn,Ro⟩,⟨Rp,Rr⟩⟩=>(some (x0.length:Int)).bind λff=>(some (x1.length:Int)).bind λeY=>(some (max (ff:Int) eY)).bind λdV=>(VU (α:=Qr) 64 dV).bind λdN=>(uK (λ(k:Nat) (sI:(List Qr))=>(show Option ((List Qr))from(some (x0.getD k (⟨⟨false,[]⟩,⟨false,[]⟩⟩:Qr))).bind λ⟨⟨OX,OY⟩,⟨OZ,O0⟩⟩=>(some (x1.getD k (⟨⟨false,[]⟩,⟨false,[]⟩⟩:Qr))).bind λ⟨⟨O1,O2⟩,⟨O3,O4⟩⟩=>(rf ⟨⟨OX,OY⟩,⟨OZ,O0⟩⟩ ⟨⟨O1,O2⟩,⟨O3,O4⟩⟩ ⟨⟨Rn,Ro⟩,⟨Rp,Rr⟩⟩).bind λ⟨⟨nv,mS⟩,⟨tY,tZ⟩⟩=>(mQ 64 sI [⟨⟨nv,mS⟩,⟨tY,tZ⟩⟩]).bind λir=>some ir)) (max x0.length x1.length) dN).bind λsI=>some sI
noncomputable def yP(x0:List Qr)(x1:List Qr):Option (List Qr):=(tg x0 x1).bind λx7=>some x7
noncomputable def nV(x0:Qr)(x1:List Qr):Option (List Qr):=match x0 with|⟨⟨bn,bp⟩,⟨bB,bD⟩⟩=>(some (x1.length:Int)).bind λx9=>(J9 64 x9 (⟨⟨false,[]⟩,⟨false,[]⟩⟩:Qr)).bind λdG=>(some (x1.length:Int)).bind λc8=>(b9 (λ(s8:Int×(List Qr))=>match s8 with|⟨Bc,Bd⟩=>(show Option ((Int×(List Qr))⊕((List Qr)))from(some (decide ((Bc:Int)<c8))).bind λdV=>(bif dV then(cM x1 Bc).bind λ⟨⟨qh,qi⟩,⟨Pa,Pb⟩⟩=>(sG ⟨⟨bn,bp⟩,⟨bB,bD⟩⟩ ⟨⟨qh,qi⟩,⟨Pa,Pb⟩⟩).bind λ⟨⟨wB,wC⟩,⟨wD,wE⟩⟩=>(qg Bd Bc).bind λgU=>(stM Bd gU ⟨⟨wB,wC⟩,⟨wD,wE⟩⟩).bind λCc=>(some (IntKind.i64.wrap (Bc+1))).bind λgV=>some (.inl (gV,Cc))else some (.inr Bd)))) (0,dG)).bind λwF=>some wF
noncomputable def iY(x0:Qr)(x1:List Qr)(x2:List Qr):Option (List Qr):=match x0 with|⟨⟨bn,bp⟩,⟨bB,bD⟩⟩=>(oB x1 x2 ⟨⟨bn,bp⟩,⟨bB,bD⟩⟩).bind λdG=>some dG
noncomputable def m7(x0:List Qr)(x1:List Qr):Option (Int):=(vX (λ(k:Nat) (s3:Unit)=>(show Option ((Unit)⊕(Int))from(some (x0.getD k (⟨⟨false,[]⟩,⟨false,[]⟩⟩:Qr))).bind λ⟨⟨acP,acQ⟩,⟨acR,acS⟩⟩=>(some (x1.getD k (⟨⟨false,[]⟩,⟨false,[]⟩⟩:Qr))).bind λ⟨⟨acT,acU⟩,⟨acV,acW⟩⟩=>(wA ⟨⟨acP,acQ⟩,⟨acR,acS⟩⟩ ⟨⟨acT,acU⟩,⟨acV,acW⟩⟩).bind λdN=>(some (decide ((dN:Int)≠0))).bind λdR=>(bif dR then some (.inr dN)else some (.inl ())))) (max x0.length x1.length) ()).bind λe3=>match e3 with|.inr v3=>some v3|.inl _=>some 0
noncomputable def wG(x0:List Qr):Option (Int):=(m7 x0 []).bind λx4=>some x4
noncomputable def gL(x0:List Qr)(x1:List Qr):Option (Bool):=(m7 x0 x1).bind λx7=>(some (decide ((x7:Int)=0))).bind λx8=>some x8
noncomputable def mE(x0:List Qr)(x1:Int):Option (List Qr):=(some (decide ((x1:Int)<1))).bind λx8=>(bif x8 then some []else(some (min (x1:Int) 65536)).bind λdG=>(J9 64 dG (⟨⟨false,[]⟩,⟨false,[]⟩⟩:Qr)).bind λff=>(some (x0.length:Int)).bind λeY=>(some (ff.length:Int)).bind λdN=>(some (min (eY:Int) dN)).bind λeX=>(b9 (λ(s8:Int×(List Qr))=>match s8 with|⟨Pc,Pd⟩=>(show Option ((Int×(List Qr))⊕((List Qr)))from(some (decide ((Pc:Int)<eX))).bind λeE=>(bif eE then(cM x0 Pc).bind λ⟨⟨kE,kF⟩,⟨qm,qo⟩⟩=>(dP ⟨⟨kE,kF⟩,⟨qm,qo⟩⟩).bind λ⟨⟨Lx,Ly⟩,⟨Lz,LA⟩⟩=>(qg Pd Pc).bind λir=>(stM Pd ir ⟨⟨Lx,Ly⟩,⟨Lz,LA⟩⟩).bind λCc=>(some (IntKind.i64.wrap (Pc+1))).bind λlp=>some (.inl (lp,Cc))else some (.inr Pd)))) (0,ff)).bind λIL=>some IL)
noncomputable def dQ(x0:List Int):Option (List Qr):=(some (x0.length:Int)).bind λx7=>(J9 64 x7 (⟨⟨false,[]⟩,⟨false,[]⟩⟩:Qr)).bind λx8=>(some (x0.length:Int)).bind λdG=>(b9 (λ(s8:Int×(List Qr))=>match s8 with|⟨ua,IM⟩=>(show Option ((Int×(List Qr))⊕((List Qr)))from(some (decide ((ua:Int)<dG))).bind λc8=>(bif c8 then(cM x0 ua).bind λdV=>(dK dV).bind λ⟨⟨lM,lO⟩,⟨wH,wI⟩⟩=>(qg IM ua).bind λgK=>(stM IM gK ⟨⟨lM,lO⟩,⟨wH,wI⟩⟩).bind λCc=>(some (IntKind.i64.wrap (ua+1))).bind λgh=>some (.inl (gh,Cc))else some (.inr IM)))) (0,x8)).bind λC6=>some C6
end
section
open Go.Fw Go.Fw.Z Go.RowKit
theorem zJ(a b:List Qr):Pure ah 133 [(slc 4 (List.map eQ a)),(slc 4 (List.map eQ b))] (oO 165 [ref [(slc 4 (List.map eQ a))],ref [(slc 4 (List.map eQ b))]]):=by
 refine bj Tryz.func133 Y (af Y) (λc9 M vs hvs=>?_);refine sr<|RT.CI .none (s:=.sv _) Y T Y Y<|RT.CI .none (s:=.sv _) Y T Y Y<|ag Y<|dn<|sr<|RT.makeFunc .none (.box Y (.box Y (.nil))) T<|an (s:=.kT _ _) Y<|dn<|bU (lH (i:=2) Y [(slc 4 (List.map eQ a))] (.cons Y .nil) .any 0 [(4,.kT 165 [.val (ref [(slc 4 (List.map eQ a))]),.box 3])] (λ_ _ _=>trivial) (yB.h (l:=[(slc 4 (List.map eQ a))])) ⟨@FT.kT _ _ _ _ _ 4 165 [.box 2,.box 3] Y,aq⟩) ?_;exact bU (lH (i:=3) Y [(slc 4 (List.map eQ b))] (.cons Y .nil) .any 0 [(4,.kT 165 [.val (ref [(slc 4 (List.map eQ a))]),.val (ref [(slc 4 (List.map eQ b))])])] (λ_ _ _=>trivial) (yB.h (l:=[(slc 4 (List.map eQ b))])) ⟨@FT.kT _ _ _ _ _ 4 165 [.val (ref [(slc 4 (List.map eQ a))]),.box 3] Y,aq⟩)<|bU (QX 4 (oO 165 [ref [(slc 4 (List.map eQ a))],ref [(slc 4 (List.map eQ b))]]) (λ_ _ h=>QY h))<|aY<|⟨.inr Y,QL (.tmp Y (.nil)) Y⟩
theorem zK(a b:List Qr):Iter ah 165 [ref [(slc 4 (List.map eQ a))],ref [(slc 4 (List.map eQ b))]] (max a.length b.length) (λk=>[.agg (eQ (a.getD k (⟨⟨false,[]⟩,⟨false,[]⟩⟩:Qr))),.agg (eQ (b.getD k (⟨⟨false,[]⟩,⟨false,[]⟩⟩:Qr)))]):=by
 refine CN Tryz.func165 Y Y (af Y) (λc9 M O l J hJ Kb hr=>?_);obtain⟨xw,Kb⟩:=Kb;have hla:a.length<=9223372036854775807:=by cases xw with|nil=>exact Kb.elim|cons _ xw=>exact Hq Kb.1
 have hlb:b.length<=9223372036854775807:=by cases xw with|nil=>exact Kb.elim|cons _ xw=>cases xw with|nil=>exact Kb.2.elim|cons _ _=>exact Hq Kb.2.1
 refine cm ?_;refine aX ?_;refine RT.fT .none Y Y (tl Y) ?_;refine RT.len .none Y (tl Y) ?_;refine RT.fT .none Y Y (tl Y) ?_;refine RT.len .none Y (tl Y) ?_;refine RT.max .none (((max a.length b.length:Nat):Int)) Y Y (tl Y) (by simp only[List.length_map];split<;>omega) ?_;refine RT.mv .none Y (tl Y) ?_;refine RT.done ?_;refine aW.n ?_;refine bf ?_
 refine Hi (I:=λx:{i:Nat//i<=max a.length b.length}=>AS.cu 37 [(0,.sv (.v (.func (.yield l) #[] #[]))),(1,.sv (ref [(slc 4 (List.map eQ a))])),(2,.sv (ref [(slc 4 (List.map eQ b))])),(11,ai ((max a.length b.length:Nat):Int)),(12,ai ((x.1:Nat):Int))] [] [] (x.1)) (μ:=λx=>max a.length b.length-x.1) ⟨0,by omega⟩ (by(try dsimp only);exact cz id Y Y Y Y Y ⟨.sv (by first|exact au|exact SV.bw (by omega)|exact SV.bw (by push_cast;omega)|exact SV.bw (by dsimp only;omega)|exact SV.imp_eq (by simp)),.sv (by first|exact au|exact SV.bw (by omega)|exact SV.bw (by push_cast;omega)|exact SV.bw (by dsimp only;omega)|exact SV.imp_eq (by simp)),.sv (by first|exact au|exact SV.bw (by omega)|exact SV.bw (by push_cast;omega)|exact SV.bw (by dsimp only;omega)|exact SV.imp_eq (by simp)),.sv (by first|exact au|exact SV.bw (by omega)|exact SV.bw (by push_cast;omega)|exact SV.bw (by dsimp only;omega)|exact SV.imp_eq (by simp)),.sv (by first|exact au|exact SV.bw (by omega)|exact SV.bw (by push_cast;omega)|exact SV.bw (by dsimp only;omega)|exact SV.imp_eq (by simp)),aq⟩ trivial trivial (λ_ _=>Y)) ?_;rintro⟨i,hi0⟩
 try dsimp only
 rcases Im a b i hi0 with⟨hi,E4,J6⟩|⟨hi,E4,J6⟩|⟨hi,E4,J6⟩|hi
 ·
  refine cm ?_;refine aX ?_;refine RT.lss .none (true) Y Y (tl Y) (by simp;omega) ?_;refine RT.done ?_;refine aW.n ?_;refine cm ?_;refine e5 Y ?_;refine bu ?_;refine aW.n ?_;refine cm ?_;refine bf ?_;refine cm ?_;refine aX ?_;refine RT.mv .none Y (tl Y) ?_;refine RT.Mk .none Y (tl Y) ?_;refine RT.done ?_;refine aW.n ?_;refine cm ?_;refine aX ?_;refine RT.CT .none (cs:=eQ ⟨⟨false,[]⟩,⟨false,[]⟩⟩) (by exact⟨au,aC,au,aC,aq⟩) Y (tl Y) Y Y ?_;refine RT.CT .none (cs:=eQ ⟨⟨false,[]⟩,⟨false,[]⟩⟩) (by exact⟨au,aC,au,aC,aq⟩) Y (tl Y) Y Y ?_;refine RT.done ?_;refine aW.n ?_;refine cm ?_;refine cm ?_;refine aX ?_;refine RT.mv .none Y (tl Y) ?_;refine RT.fT .none Y Y (tl Y) ?_;refine RT.len .none Y (tl Y) ?_;refine RT.lss .none (true) Y Y (tl Y) (by simp only[List.length_map];simp;omega) ?_;refine RT.done ?_;refine aW.n ?_;refine e5 Y ?_;refine aX ?_;refine RT.fT .none Y Y (tl Y) ?_;refine RT.mv .none Y (tl Y) ?_
  refine RT.ixA .none [aA ((a.getD i (⟨⟨false,[]⟩,⟨false,[]⟩⟩:Qr)).num.neg),slc 1 ((a.getD i (⟨⟨false,[]⟩,⟨false,[]⟩⟩:Qr)).num.w.map bh),aA ((a.getD i (⟨⟨false,[]⟩,⟨false,[]⟩⟩:Qr)).den.neg),slc 1 ((a.getD i (⟨⟨false,[]⟩,⟨false,[]⟩⟩:Qr)).den.w.map bh)] (Int.natCast_nonneg i) (by rw[Int.toNat_natCast,List.getElem?_map,gW E4];rfl) Y Y (tl Y) ?_;refine RT.gJ .none Y (tl Y) (cs:=[aA ((a.getD i (⟨⟨false,[]⟩,⟨false,[]⟩⟩:Qr)).num.neg),slc 1 ((a.getD i (⟨⟨false,[]⟩,⟨false,[]⟩⟩:Qr)).num.w.map bh),aA ((a.getD i (⟨⟨false,[]⟩,⟨false,[]⟩⟩:Qr)).den.neg),slc 1 ((a.getD i (⟨⟨false,[]⟩,⟨false,[]⟩⟩:Qr)).den.w.map bh)]) Y Y ?_;refine RT.store .none Y Y Y Y Y ?_;refine RT.done ?_;refine aW.n ?_;refine cm ?_;refine cm ?_;refine aX ?_;refine RT.mv .none Y (tl Y) ?_;refine RT.fT .none Y Y (tl Y) ?_;refine RT.len .none Y (tl Y) ?_;refine RT.lss .none (true) Y Y (tl Y) (by simp only[List.length_map];simp;omega) ?_;refine RT.done ?_;refine aW.n ?_;refine e5 Y ?_;refine aX ?_;refine RT.fT .none Y Y (tl Y) ?_;refine RT.mv .none Y (tl Y) ?_
  refine RT.ixA .none [aA ((b.getD i (⟨⟨false,[]⟩,⟨false,[]⟩⟩:Qr)).num.neg),slc 1 ((b.getD i (⟨⟨false,[]⟩,⟨false,[]⟩⟩:Qr)).num.w.map bh),aA ((b.getD i (⟨⟨false,[]⟩,⟨false,[]⟩⟩:Qr)).den.neg),slc 1 ((b.getD i (⟨⟨false,[]⟩,⟨false,[]⟩⟩:Qr)).den.w.map bh)] (Int.natCast_nonneg i) (by rw[Int.toNat_natCast,List.getElem?_map,gW J6];rfl) Y Y (tl Y) ?_;refine RT.gJ .none Y (tl Y) (cs:=[aA ((b.getD i (⟨⟨false,[]⟩,⟨false,[]⟩⟩:Qr)).num.neg),slc 1 ((b.getD i (⟨⟨false,[]⟩,⟨false,[]⟩⟩:Qr)).num.w.map bh),aA ((b.getD i (⟨⟨false,[]⟩,⟨false,[]⟩⟩:Qr)).den.neg),slc 1 ((b.getD i (⟨⟨false,[]⟩,⟨false,[]⟩⟩:Qr)).den.w.map bh)]) Y Y ?_;refine RT.store .none Y Y Y Y Y ?_;refine RT.done ?_;refine aW.n ?_;refine cm ?_;refine aX ?_;refine RT.mv .none Y (tl Y) ?_;refine RT.load .none Y Y (.k4 Y Y Y Y) Y (tl Y) ?_;refine RT.load .none Y Y (.k4 Y Y Y Y) Y (tl Y) ?_;refine RT.yield .none hr Y (λ_ h=>h) Y (i) Y Y hi (by exact⟨Y,Y,aq⟩) (tl Y) (λyb=>?_);cases yb
  ·
   refine RT.not .none Y (tl Y) true Y ?_;refine RT.done ?_;refine aW.n ?_;refine e5 Y ?_;refine aY ?_;refine bF.r ?_;refine aW.r ?_;refine aW.r ?_;refine bF.r ?_;exact⟨.inr rfl,(λh=>by cases h)⟩
  refine RT.not .none Y (tl Y) false Y ?_;refine RT.done ?_;refine aW.n ?_;refine jc Y ?_;refine bu ?_;refine bF.n ?_;refine aW.n ?_;refine aX ?_;refine RT.add .none (((i:Nat):Int)+1) Y Y (tl Y) (uJ (by omega)) ?_;refine RT.mv .none Y (tl Y) ?_;refine RT.done ?_;refine aW.n ?_;refine⟨⟨i+1,by omega⟩,(by dsimp only;omega),?_⟩
  try dsimp only
  exact cz id Y Y Y Y Y ⟨.sv (by first|exact au|exact SV.bw (by omega)|exact SV.bw (by push_cast;omega)|exact SV.bw (by dsimp only;omega)|exact SV.imp_eq (by simp)),.sv (by first|exact au|exact SV.bw (by omega)|exact SV.bw (by push_cast;omega)|exact SV.bw (by dsimp only;omega)|exact SV.imp_eq (by simp)),.sv (by first|exact au|exact SV.bw (by omega)|exact SV.bw (by push_cast;omega)|exact SV.bw (by dsimp only;omega)|exact SV.imp_eq (by simp)),.sv (by first|exact au|exact SV.bw (by omega)|exact SV.bw (by push_cast;omega)|exact SV.bw (by dsimp only;omega)|exact SV.imp_eq (by simp)),.sv (by first|exact au|exact SV.bw (by omega)|exact SV.bw (by push_cast;omega)|exact SV.bw (by dsimp only;omega)|exact SV.imp_eq (by simp)),aq⟩ trivial trivial (λ_ _=>Y)
 ·
  refine cm ?_;refine aX ?_;refine RT.lss .none (true) Y Y (tl Y) (by simp;omega) ?_;refine RT.done ?_;refine aW.n ?_;refine cm ?_;refine e5 Y ?_;refine bu ?_;refine aW.n ?_;refine cm ?_;refine bf ?_;refine cm ?_;refine aX ?_;refine RT.mv .none Y (tl Y) ?_;refine RT.Mk .none Y (tl Y) ?_;refine RT.done ?_;refine aW.n ?_;refine cm ?_;refine aX ?_;refine RT.CT .none (cs:=eQ ⟨⟨false,[]⟩,⟨false,[]⟩⟩) (by exact⟨au,aC,au,aC,aq⟩) Y (tl Y) Y Y ?_;refine RT.CT .none (cs:=eQ ⟨⟨false,[]⟩,⟨false,[]⟩⟩) (by exact⟨au,aC,au,aC,aq⟩) Y (tl Y) Y Y ?_;refine RT.done ?_;refine aW.n ?_;refine cm ?_;refine cm ?_;refine aX ?_;refine RT.mv .none Y (tl Y) ?_;refine RT.fT .none Y Y (tl Y) ?_;refine RT.len .none Y (tl Y) ?_;refine RT.lss .none (true) Y Y (tl Y) (by simp only[List.length_map];simp;omega) ?_;refine RT.done ?_;refine aW.n ?_;refine e5 Y ?_;refine aX ?_;refine RT.fT .none Y Y (tl Y) ?_;refine RT.mv .none Y (tl Y) ?_
  refine RT.ixA .none [aA ((a.getD i (⟨⟨false,[]⟩,⟨false,[]⟩⟩:Qr)).num.neg),slc 1 ((a.getD i (⟨⟨false,[]⟩,⟨false,[]⟩⟩:Qr)).num.w.map bh),aA ((a.getD i (⟨⟨false,[]⟩,⟨false,[]⟩⟩:Qr)).den.neg),slc 1 ((a.getD i (⟨⟨false,[]⟩,⟨false,[]⟩⟩:Qr)).den.w.map bh)] (Int.natCast_nonneg i) (by rw[Int.toNat_natCast,List.getElem?_map,gW E4];rfl) Y Y (tl Y) ?_;refine RT.gJ .none Y (tl Y) (cs:=[aA ((a.getD i (⟨⟨false,[]⟩,⟨false,[]⟩⟩:Qr)).num.neg),slc 1 ((a.getD i (⟨⟨false,[]⟩,⟨false,[]⟩⟩:Qr)).num.w.map bh),aA ((a.getD i (⟨⟨false,[]⟩,⟨false,[]⟩⟩:Qr)).den.neg),slc 1 ((a.getD i (⟨⟨false,[]⟩,⟨false,[]⟩⟩:Qr)).den.w.map bh)]) Y Y ?_;refine RT.store .none Y Y Y Y Y ?_;refine RT.done ?_;refine aW.n ?_;refine cm ?_;refine cm ?_;refine aX ?_;refine RT.mv .none Y (tl Y) ?_;refine RT.fT .none Y Y (tl Y) ?_;refine RT.len .none Y (tl Y) ?_;refine RT.lss .none (false) Y Y (tl Y) (by simp only[List.length_map];simp;omega) ?_;refine RT.done ?_;refine aW.n ?_;refine jc Y ?_;refine bu ?_;refine aW.n ?_;refine cm ?_;refine aX ?_;refine RT.mv .none Y (tl Y) ?_;refine RT.load .none Y Y (.k4 Y Y Y Y) Y (tl Y) ?_;refine RT.load .none Y Y (.k4 Y Y Y Y) Y (tl Y) ?_
  refine RT.yield .none hr Y (λ_ h=>h) Y (i) Y Y hi (by exact⟨Y,(by show AV.sv _=AV.sv _;rw[kq J6]),aq⟩) (tl Y) (λyb=>?_);cases yb
  ·
   refine RT.not .none Y (tl Y) true Y ?_;refine RT.done ?_;refine aW.n ?_;refine e5 Y ?_;refine aY ?_;refine bF.r ?_;refine aW.r ?_;refine aW.r ?_;refine bF.r ?_;exact⟨.inr rfl,(λh=>by cases h)⟩
  refine RT.not .none Y (tl Y) false Y ?_;refine RT.done ?_;refine aW.n ?_;refine jc Y ?_;refine bu ?_;refine bF.n ?_;refine aW.n ?_;refine aX ?_;refine RT.add .none (((i:Nat):Int)+1) Y Y (tl Y) (uJ (by omega)) ?_;refine RT.mv .none Y (tl Y) ?_;refine RT.done ?_;refine aW.n ?_;refine⟨⟨i+1,by omega⟩,(by dsimp only;omega),?_⟩
  try dsimp only
  exact cz id Y Y Y Y Y ⟨.sv (by first|exact au|exact SV.bw (by omega)|exact SV.bw (by push_cast;omega)|exact SV.bw (by dsimp only;omega)|exact SV.imp_eq (by simp)),.sv (by first|exact au|exact SV.bw (by omega)|exact SV.bw (by push_cast;omega)|exact SV.bw (by dsimp only;omega)|exact SV.imp_eq (by simp)),.sv (by first|exact au|exact SV.bw (by omega)|exact SV.bw (by push_cast;omega)|exact SV.bw (by dsimp only;omega)|exact SV.imp_eq (by simp)),.sv (by first|exact au|exact SV.bw (by omega)|exact SV.bw (by push_cast;omega)|exact SV.bw (by dsimp only;omega)|exact SV.imp_eq (by simp)),.sv (by first|exact au|exact SV.bw (by omega)|exact SV.bw (by push_cast;omega)|exact SV.bw (by dsimp only;omega)|exact SV.imp_eq (by simp)),aq⟩ trivial trivial (λ_ _=>Y)
 ·
  refine cm ?_;refine aX ?_;refine RT.lss .none (true) Y Y (tl Y) (by simp;omega) ?_;refine RT.done ?_;refine aW.n ?_;refine cm ?_;refine e5 Y ?_;refine bu ?_;refine aW.n ?_;refine cm ?_;refine bf ?_;refine cm ?_;refine aX ?_;refine RT.mv .none Y (tl Y) ?_;refine RT.Mk .none Y (tl Y) ?_;refine RT.done ?_;refine aW.n ?_;refine cm ?_;refine aX ?_;refine RT.CT .none (cs:=eQ ⟨⟨false,[]⟩,⟨false,[]⟩⟩) (by exact⟨au,aC,au,aC,aq⟩) Y (tl Y) Y Y ?_;refine RT.CT .none (cs:=eQ ⟨⟨false,[]⟩,⟨false,[]⟩⟩) (by exact⟨au,aC,au,aC,aq⟩) Y (tl Y) Y Y ?_;refine RT.done ?_;refine aW.n ?_;refine cm ?_;refine cm ?_;refine aX ?_;refine RT.mv .none Y (tl Y) ?_;refine RT.fT .none Y Y (tl Y) ?_;refine RT.len .none Y (tl Y) ?_;refine RT.lss .none (false) Y Y (tl Y) (by simp only[List.length_map];simp;omega) ?_;refine RT.done ?_;refine aW.n ?_;refine jc Y ?_;refine bu ?_;refine aW.n ?_;refine cm ?_;refine cm ?_;refine aX ?_;refine RT.mv .none Y (tl Y) ?_;refine RT.fT .none Y Y (tl Y) ?_;refine RT.len .none Y (tl Y) ?_;refine RT.lss .none (true) Y Y (tl Y) (by simp only[List.length_map];simp;omega) ?_;refine RT.done ?_;refine aW.n ?_;refine e5 Y ?_;refine aX ?_;refine RT.fT .none Y Y (tl Y) ?_
  refine RT.mv .none Y (tl Y) ?_;refine RT.ixA .none [aA ((b.getD i (⟨⟨false,[]⟩,⟨false,[]⟩⟩:Qr)).num.neg),slc 1 ((b.getD i (⟨⟨false,[]⟩,⟨false,[]⟩⟩:Qr)).num.w.map bh),aA ((b.getD i (⟨⟨false,[]⟩,⟨false,[]⟩⟩:Qr)).den.neg),slc 1 ((b.getD i (⟨⟨false,[]⟩,⟨false,[]⟩⟩:Qr)).den.w.map bh)] (Int.natCast_nonneg i) (by rw[Int.toNat_natCast,List.getElem?_map,gW J6];rfl) Y Y (tl Y) ?_;refine RT.gJ .none Y (tl Y) (cs:=[aA ((b.getD i (⟨⟨false,[]⟩,⟨false,[]⟩⟩:Qr)).num.neg),slc 1 ((b.getD i (⟨⟨false,[]⟩,⟨false,[]⟩⟩:Qr)).num.w.map bh),aA ((b.getD i (⟨⟨false,[]⟩,⟨false,[]⟩⟩:Qr)).den.neg),slc 1 ((b.getD i (⟨⟨false,[]⟩,⟨false,[]⟩⟩:Qr)).den.w.map bh)]) Y Y ?_;refine RT.store .none Y Y Y Y Y ?_;refine RT.done ?_;refine aW.n ?_;refine cm ?_;refine aX ?_;refine RT.mv .none Y (tl Y) ?_;refine RT.load .none Y Y (.k4 Y Y Y Y) Y (tl Y) ?_;refine RT.load .none Y Y (.k4 Y Y Y Y) Y (tl Y) ?_;refine RT.yield .none hr Y (λ_ h=>h) Y (i) Y Y hi (by exact⟨(by show AV.sv _=AV.sv _;rw[kq E4]),Y,aq⟩) (tl Y) (λyb=>?_);cases yb
  ·
   refine RT.not .none Y (tl Y) true Y ?_;refine RT.done ?_;refine aW.n ?_;refine e5 Y ?_;refine aY ?_;refine bF.r ?_;refine aW.r ?_;refine aW.r ?_;refine bF.r ?_;exact⟨.inr rfl,(λh=>by cases h)⟩
  refine RT.not .none Y (tl Y) false Y ?_;refine RT.done ?_;refine aW.n ?_;refine jc Y ?_;refine bu ?_;refine bF.n ?_;refine aW.n ?_;refine aX ?_;refine RT.add .none (((i:Nat):Int)+1) Y Y (tl Y) (uJ (by omega)) ?_;refine RT.mv .none Y (tl Y) ?_;refine RT.done ?_;refine aW.n ?_;refine⟨⟨i+1,by omega⟩,(by dsimp only;omega),?_⟩
  try dsimp only
  exact cz id Y Y Y Y Y ⟨.sv (by first|exact au|exact SV.bw (by omega)|exact SV.bw (by push_cast;omega)|exact SV.bw (by dsimp only;omega)|exact SV.imp_eq (by simp)),.sv (by first|exact au|exact SV.bw (by omega)|exact SV.bw (by push_cast;omega)|exact SV.bw (by dsimp only;omega)|exact SV.imp_eq (by simp)),.sv (by first|exact au|exact SV.bw (by omega)|exact SV.bw (by push_cast;omega)|exact SV.bw (by dsimp only;omega)|exact SV.imp_eq (by simp)),.sv (by first|exact au|exact SV.bw (by omega)|exact SV.bw (by push_cast;omega)|exact SV.bw (by dsimp only;omega)|exact SV.imp_eq (by simp)),.sv (by first|exact au|exact SV.bw (by omega)|exact SV.bw (by push_cast;omega)|exact SV.bw (by dsimp only;omega)|exact SV.imp_eq (by simp)),aq⟩ trivial trivial (λ_ _=>Y)
 subst hi;refine cm ?_;refine aX ?_;refine RT.lss .none (false) Y Y (tl Y) (by simp) ?_;refine RT.done ?_;refine aW.n ?_;refine cm ?_;refine jc Y ?_;refine bP ?_;refine aW.x ?_;refine aW.x ?_;refine bF.x ?_;exact⟨.inl Y,(λ_=>Y)⟩
end
section
open Go.Fw Go.Fw.Z Go.RowKit
theorem IN{x0:List Qr}{x1:List Qr}(N:Nat){r:List Qr}(h:tg x0 x1=some r):dB ah 95 N [slc 4 (List.map eQ x0),slc 4 (List.map eQ x1),.v (.func (.func 94) #[] #[])] (nw N (slc 4 (List.map (fQ N) r))):=by
 refine bT Tryz.func95 Y (af Y) (λc9 M vs hN hvs=>?_);unfold tg at h;refine sr<|RT.CI .none (s:=.sv _) Y T Y Y<|aI Y (bt (N:=N) (n:=4) (e:=(fQ N)))<|dn<|sr<|mv Y<|lE h λff kz h=>ln Y kz<|mv Y<|lE h λeY iX h=>ln Y iX<|lE h λdV jy h=>RT.max .none _ Y Y T (Oj (p:=ff) (q:=eY) jy)<|bE h λdN gH h=>RT.Li (e:=(fQ N)) .none Y Y T Y T gH<|RT.alloc .none T Y Y<|RT.qO (cells:=[_]) .none Y Y Y Y T Y<|dn<|qq<|sr ?_;refine mv Y<|mv Y<|cl (zJ x0 x1) ⟨Y,Y,aq⟩<|dn<|bf<|bE h λsI hl5 ho5=>?_;obtain⟨st5,hs5,ht5,hn5⟩:=vQ hl5;refine qR (zK x0 x1) (λ_ _ _ _ _=>trivial) Y (λk=>AS.cu 29 [(5,.ptr 5 0),(7,.ptr 7 0),(18,.sv (oO 165 [ref [slc 4 (List.map eQ x0)],ref [slc 4 (List.map eQ x1)]]))] [(7,⟨23,[.row 302]⟩),(5,⟨106,[.sv (.v (.func (.func 94) #[] #[]))]⟩)] [(302,TR 43 4 (fQ N) (st5 k))]) [7,5] Y (λ_=>⟨Y,Y⟩) (CO Y) (λ_=>Y) (CP Y) (by(try dsimp only);rw[hs5];(try dsimp only);exact cz (λi=>bif Nat.beq i 302 then 15 else i) Y Y Y Y Y ⟨.ptr,.ptr,.sv au,aq⟩ ⟨⟨_,Y,⟨.row Y,aq⟩⟩,⟨_,Y,⟨.sv au,aq⟩⟩,aq⟩ ⟨⟨_,Y,cg.refl _⟩,aq⟩ (λi hi=>by rw[bV (show i≠302 by omega)];rfl)) (λk hk D hD=>?_) ?_;have h:=ht5 k hk;obtain⟨sI,hsk⟩:∃q,st5 k=q:=⟨_,Y⟩;rw[hsk]at h⊢;dsimp only[AS.Z3,Cq]
 try dsimp only at h
 obtain⟨⟨⟨OX,OY⟩,⟨OZ,O0⟩⟩,afP,h⟩:=bS h;rw[Option.some.inj afP];obtain⟨⟨⟨O1,O2⟩,⟨O3,O4⟩⟩,Wp,h⟩:=bS h;rw[Option.some.inj Wp];refine sr<|al (cs:=[aA false,nw N ax,aA false,nw N ax]) (by exact⟨au,bt,au,bt,aq⟩) Y<|so Y Y Y<|dn<|aX<|al (cs:=[aA false,nw N ax,aA false,nw N ax]) (by exact⟨au,bt,au,bt,aq⟩) Y<|so Y Y Y<|RT.done ?_;refine aW.n ⟨Y,?_⟩;dsimp only[AS.Ml];refine bf<|aZ mixed<|RT.lf .none (s:=.row _) Y Y Y T<|lV Y Y Y<|ld Y Y (.k4 Y Y Y Y)<|ld Y Y (.k4 Y Y Y Y) ?_;obtain⟨⟨⟨nv,mS⟩,⟨tY,tZ⟩⟩,nO,h⟩:=bS h;refine RT.bX .none (OS N nO) (Nat.le_trans hN hD) Y ⟨Y,Y,aq⟩ T<|bl (l:=[⟨⟨nv,mS⟩,⟨tY,tZ⟩⟩]) (e:=(fQ N)) (.agg Y (.nil)) Y Y Y Y Y Y<|bE h λir oV h=>aR (k:=[⟨⟨nv,mS⟩,⟨tY,tZ⟩⟩]) (e:=(fQ N)) Y Y Y oV<|RT.qO (cells:=[_]) .none Y Y Y Y T Y ?_;refine RT.done ⟨by kernel_rfl,?_⟩;refine bF.n ?_;replace h:=Option.some.inj h;refine⟨aq,Y,Y,?_⟩
 try dsimp only
 rw[<-h]
 try dsimp only
 exact cz (λi=>bif Nat.beq i 302 then 27 else i) Y Y Y Y Y ⟨.ptr,.ptr,.sv au,aq⟩ ⟨⟨_,Y,⟨.row Y,aq⟩⟩,⟨_,Y,⟨.sv au,aq⟩⟩,aq⟩ ⟨⟨_,Y,cg.refl _⟩,aq⟩ (λi hi=>by rw[bV (show i≠302 by omega)];rfl);rw[hn5]
 try dsimp only
 refine bF.n<|aW.n<|sr<|RT.lf .none (s:=.row _) Y Y Y T<|an (s:=.row _) Y<|dn<|ku (i:=302) (E1:=43) (n:=4) (e:=(fQ N)) (l:=sI) hN (λ_ h=>h) Y<|aY ?_;obtain rfl:=O ho5;exact R1 Y
theorem C7{x0:Qr}{x1:Qr}{O5:Qr}(N:Nat){r:Qr}(h:rf x0 x1 O5=some r):dB ah 141 N [.agg (eQ x0),.agg (eQ x1),ref (eQ O5)] (.agg ((fQ N) r)):=by
 obtain⟨⟨bn,bp⟩,⟨bB,bD⟩⟩:=x0;obtain⟨⟨ct,cj⟩,⟨ek,ep⟩⟩:=x1;obtain⟨⟨O6,O7⟩,⟨O8,O9⟩⟩:=O5;refine bT Tryz.func141 Y (af Y) (λc9 M vs hN hvs=>?_);unfold rf at h;refine sr<|bx Y<|bx Y<|al (cs:=[aA false,nw N ax,aA false,nw N ax]) (by exact⟨au,bt,au,bt,aq⟩) Y<|dn<|qq<|aZ mixed<|RT.gJ (cs:=[_,_,_,_]) .none Y T Y Y<|ld Y Y (.k4 Y Y Y Y) ?_;obtain⟨⟨⟨qJ,qK⟩,⟨Ba,Bb⟩⟩,h8,h⟩:=bS h;refine RT.bX .none (Gk N h8) hN Y ⟨Y,Y,aq⟩ T<|ld Y Y (.k4 Y Y Y Y) ?_;obtain⟨⟨⟨AP,AQ⟩,⟨acN,acO⟩⟩,fY,h⟩:=bS h;refine RT.bX .none ((OR N fY).w (args':=[_,_]) ⟨(SV.fE (show cg [aA qJ,nw N (slc 1 (List.map bh qK)),aA Ba,nw N (slc 1 (List.map bh Bb))] _ from⟨au,fe,au,fe,aq⟩)),au,aq⟩) hN Y ⟨Y,Y,aq⟩ T<|so Y Y Y ?_;refine RT.done ⟨by kernel_rfl,?_⟩;refine aW.n<|aY ?_;obtain rfl:=O h;exact RZ (.agg Y Y (.k4 Y Y Y Y) Y (.nil))
theorem D4{x0:List Qr}{x1:List Qr}{WO:Qr}(N:Nat){r:List Qr}(h:oB x0 x1 WO=some r):dB ah 95 N [slc 4 (List.map eQ x0),slc 4 (List.map eQ x1),oO 141 [ref (eQ WO)]] (nw N (slc 4 (List.map (fQ N) r))):=by
 obtain⟨⟨Rn,Ro⟩,⟨Rp,Rr⟩⟩:=WO;refine bT Tryz.func95 Y (af Y) (λc9 M vs hN hvs=>?_);unfold oB at h;refine sr<|RT.CI .none (s:=.sv _) Y T Y Y<|aI Y (bt (N:=N) (n:=4) (e:=(fQ N)))<|dn<|sr<|mv Y<|lE h λff kz h=>ln Y kz<|mv Y<|lE h λeY iX h=>ln Y iX<|lE h λdV jy h=>RT.max .none _ Y Y T (Oj (p:=ff) (q:=eY) jy)<|bE h λdN gH h=>RT.Li (e:=(fQ N)) .none Y Y T Y T gH<|RT.alloc .none T Y Y<|RT.qO (cells:=[_]) .none Y Y Y Y T Y<|dn<|qq<|sr ?_;refine mv Y<|mv Y<|cl (zJ x0 x1) ⟨Y,Y,aq⟩<|dn<|bf<|bE h λsI hl5 ho5=>?_;obtain⟨st5,hs5,ht5,hn5⟩:=vQ hl5;refine qR (zK x0 x1) (λ_ _ _ _ _=>trivial) Y (λk=>AS.cu 29 [(5,.ptr 5 0),(7,.ptr 7 0),(18,.sv (oO 165 [ref [slc 4 (List.map eQ x0)],ref [slc 4 (List.map eQ x1)]]))] [(7,⟨23,[.row 302]⟩),(5,⟨106,[.sv (oO 141 [ref [aA Rn,slc 1 (List.map bh Ro),aA Rp,slc 1 (List.map bh Rr)]])]⟩)] [(302,TR 43 4 (fQ N) (st5 k))]) [7,5] Y (λ_=>⟨Y,Y⟩) (CO Y) (λ_=>Y) (CP Y) (by(try dsimp only);rw[hs5];(try dsimp only);exact cz (λi=>bif Nat.beq i 302 then 15 else i) Y Y Y Y Y ⟨.ptr,.ptr,.sv au,aq⟩ ⟨⟨_,Y,⟨.row Y,aq⟩⟩,⟨_,Y,⟨.sv au,aq⟩⟩,aq⟩ ⟨⟨_,Y,cg.refl _⟩,aq⟩ (λi hi=>by rw[bV (show i≠302 by omega)];rfl)) (λk hk D hD=>?_) ?_;have h:=ht5 k hk;obtain⟨sI,hsk⟩:∃q,st5 k=q:=⟨_,Y⟩
 rw[hsk]at h⊢;dsimp only[AS.Z3,Cq]
 try dsimp only at h
 obtain⟨⟨⟨OX,OY⟩,⟨OZ,O0⟩⟩,afP,h⟩:=bS h;rw[Option.some.inj afP];obtain⟨⟨⟨O1,O2⟩,⟨O3,O4⟩⟩,Wp,h⟩:=bS h;rw[Option.some.inj Wp];refine sr<|al (cs:=[aA false,nw N ax,aA false,nw N ax]) (by exact⟨au,bt,au,bt,aq⟩) Y<|so Y Y Y<|dn<|aX<|al (cs:=[aA false,nw N ax,aA false,nw N ax]) (by exact⟨au,bt,au,bt,aq⟩) Y<|so Y Y Y<|RT.done ?_;refine aW.n ⟨Y,?_⟩;dsimp only[AS.Ml];refine bf<|aZ mixed<|RT.lf .none (s:=.row _) Y Y Y T<|lV Y Y Y<|ld Y Y (.k4 Y Y Y Y)<|ld Y Y (.k4 Y Y Y Y) ?_;obtain⟨⟨⟨nv,mS⟩,⟨tY,tZ⟩⟩,nO,h⟩:=bS h;refine RT.aeY (args:=[_,_]) (caps:=[_]) .none (C7 N nO) (Nat.le_trans hN hD) Y ⟨Y,Y,aq⟩ T<|bl (l:=[⟨⟨nv,mS⟩,⟨tY,tZ⟩⟩]) (e:=(fQ N)) (.agg Y (.nil)) Y Y Y Y Y Y<|bE h λir oV h=>aR (k:=[⟨⟨nv,mS⟩,⟨tY,tZ⟩⟩]) (e:=(fQ N)) Y Y Y oV<|RT.qO (cells:=[_]) .none Y Y Y Y T Y ?_;refine RT.done ⟨by kernel_rfl,?_⟩;refine bF.n ?_;replace h:=Option.some.inj h;refine⟨aq,Y,Y,?_⟩
 try dsimp only
 rw[<-h]
 try dsimp only
 exact cz (λi=>bif Nat.beq i 302 then 27 else i) Y Y Y Y Y ⟨.ptr,.ptr,.sv au,aq⟩ ⟨⟨_,Y,⟨.row Y,aq⟩⟩,⟨_,Y,⟨.sv au,aq⟩⟩,aq⟩ ⟨⟨_,Y,cg.refl _⟩,aq⟩ (λi hi=>by rw[bV (show i≠302 by omega)];rfl);rw[hn5]
 try dsimp only
 refine bF.n<|aW.n<|sr<|RT.lf .none (s:=.row _) Y Y Y T<|an (s:=.row _) Y<|dn<|ku (i:=302) (E1:=43) (n:=4) (e:=(fQ N)) (l:=sI) hN (λ_ h=>h) Y<|aY ?_;obtain rfl:=O ho5;exact R1 Y
theorem Ru{x0:List Qr}{x1:List Qr}(N:Nat){r:List Qr}(h:yP x0 x1=some r):dB ah 50 N [slc 4 (List.map eQ x0),slc 4 (List.map eQ x1)] (nw N (slc 4 (List.map (fQ N) r))):=by
 refine bT Tryz.func50 Y (af Y) (λc9 M vs hN hvs=>?_);unfold yP at h;refine sr<|aI Y (bt (N:=N) (n:=4) (e:=(fQ N)))<|dn<|sr<|mv Y<|mv Y<|bE h λx7 h7 h=>RT.bX .none (IN N h7) hN Y ⟨Y,Y,Y,aq⟩ T<|ag Y<|dn<|aY ?_;obtain rfl:=O h;exact R1 Y
theorem D5{x0:Qr}{x1:List Qr}(N:Nat){r:List Qr}(h:nV x0 x1=some r):dB ah 40 N [.agg (eQ x0),slc 4 (List.map eQ x1)] (nw N (slc 4 (List.map (fQ N) r))):=by
 obtain⟨⟨bn,bp⟩,⟨bB,bD⟩⟩:=x0;refine bT Tryz.func40 Y (af Y) (λc9 M vs hN hvs=>?_);unfold nV at h;refine sr<|bx Y<|aI Y (bt (N:=N) (n:=4) (e:=(fQ N)))<|dn<|sr<|mv Y<|lE h λx9 h9 h=>ln Y h9<|bE h λdG fY h=>RT.vW (n:=4) (e:=(fQ N)) .none Y Y T Y T (by rfl) (by decide) (by exact⟨au,bt,au,bt,aq⟩) fY<|an (s:=.row _) Y<|dn<|qq<|sr<|mv Y<|lE h λc8 fI h=>ln Y fI<|mv Y<|dn<|bE h λe8 Kt AX=>?_;refine bJ (λ(wF:(List Qr))=>AS.cu 26 [(5,.row 10)] [] [(10,TR 43 4 (fQ N) wF)]) (λwF=>wF=e8) ?_ (λwF Ku=>?_);refine bf ?_;refine bK Kt (λs8=>AS.cu 26 [(2,.ptr 2 0),(5,.row 10),(11,.sv (slc 4 (List.map eQ x1))),(12,ai c8),(13,ai s8.1)] [(2,⟨43,[aj bn,.sv (slc 1 (List.map bh bp)),aj bB,.sv (slc 1 (List.map bh bD))]⟩)] [(10,TR 43 4 (fQ N) s8.2)]) (wR []) (λs8 y8 G8 h Kv Kw=>?_);obtain⟨Bc,Bd⟩:=s8
 try dsimp only
 refine sr<|lE h λdV jy h=>ls _ Y Y jy<|dn<|qq ?_;cases dV;refine cF<|bP<|aW.x<|aW.x<|bF.x<|aW.n ?_;obtain rfl:=O (F h);exact⟨Bd,Kw _ Y,wR []⟩;refine cT<|bu<|aW.n<|qq<|bf<|sr<|mv Y ?_;obtain⟨⟨⟨qh,qi⟩,⟨Pa,Pb⟩⟩,kf,h⟩:=bS (V h);refine ix Y Y kf<|RT.gJ (cs:=[_,_,_,_]) .none Y T Y Y<|al (cs:=[aA false,nw N ax,aA false,nw N ax]) (by exact⟨au,bt,au,bt,aq⟩) Y<|ag Y<|so Y Y Y<|dn<|aX<|mo (s:=.row _) Y<|mv Y<|ld Y Y (.k4 Y Y Y Y)<|ld Y Y (.k4 Y Y Y Y) ?_;obtain⟨⟨⟨wB,wC⟩,⟨wD,wE⟩⟩,oA,h⟩:=bS h;refine RT.bX .none (Gk N oA) hN Y ⟨Y,Y,aq⟩ T<|bE h λgU oQ h=>iR Y Y Y oQ<|bE h λCc vZ h=>sA ⟨⟨wB,wC⟩,⟨wD,wE⟩⟩ Y Y Y vZ<|RT.done<|bF.n<|aW.n<|aX<|lE h λgV nG h=>ad _ Y Y nG<|mv Y<|RT.done ?_;obtain rfl:=O h;exact aW.n ⟨(gV,Cc),Kv _ Y,wR []⟩;subst Ku
 try dsimp only
 refine aW.n<|sr<|mo (s:=.row _) Y<|an (s:=.row _) Y<|dn<|ku (i:=10) (E1:=43) (n:=4) (e:=(fQ N)) (l:=wF) hN (λ_ h=>h) Y<|aY ?_;obtain rfl:=O AX;exact R1 Y
theorem ML{x0:Qr}{x1:List Qr}{r:List Qr}(h:nV x0 x1=some r):Pure ah 40 [.agg (eQ x0),slc 4 (List.map eQ x1)] (slc 4 (List.map eQ r)):=eM (λN=>D5 N h) (λN=>Um)
theorem yQ{x0:Qr}{x1:List Qr}{x2:List Qr}(N:Nat){r:List Qr}(h:iY x0 x1 x2=some r):dB ah 96 N [.agg (eQ x0),slc 4 (List.map eQ x1),slc 4 (List.map eQ x2)] (nw N (slc 4 (List.map (fQ N) r))):=by
 obtain⟨⟨bn,bp⟩,⟨bB,bD⟩⟩:=x0;refine bT Tryz.func96 Y (af Y) (λc9 M vs hN hvs=>?_);unfold iY at h;refine sr<|bx Y<|aI Y (bt (N:=N) (n:=4) (e:=(fQ N)))<|dn ?_;refine bU (lH (i:=3) Y [aA bn,slc 1 (List.map bh bp),aA bB,slc 1 (List.map bh bD)] (.k4 Y Y Y Y) .any 0 [(3,.sv (ref [aA bn,slc 1 (List.map bh bp),aA bB,slc 1 (List.map bh bD)]))] (λ_ _ _=>trivial) (yB.h (l:=[aA bn,slc 1 (List.map bh bp),aA bB,slc 1 (List.map bh bD)])) ⟨@FT.ptr _ _ _ _ _ 3 0 Y,aq⟩)<|sr<|mv Y<|mv Y<|RT.Fe (caps:=[_]) .none ⟨Y,aq⟩ T<|bE h λdG fY h=>?_;refine RT.bX .none (D4 N fY) hN Y ⟨Y,Y,Y,aq⟩ T<|ag Y<|dn<|aY ?_;obtain rfl:=O h;exact R1 Y
theorem Fx{x0:Qr}{x1:List Qr}{x2:List Qr}{r:List Qr}(h:iY x0 x1 x2=some r):Pure ah 96 [.agg (eQ x0),slc 4 (List.map eQ x1),slc 4 (List.map eQ x2)] (slc 4 (List.map eQ r)):=eM (λN=>yQ N h) (λN=>Um)
theorem Be{x0:List Qr}{x1:List Qr}{r:Int}(h:m7 x0 x1=some r):Pure ah 88 [slc 4 (List.map eQ x0),slc 4 (List.map eQ x1)] (ay r):=by
 refine bj Tryz.func88 Y (af Y) (λc9 M vs hvs=>?_);unfold m7 at h;refine sr<|al (cs:=[ay 0]) (by exact⟨au,aq⟩) Y<|dn<|qq<|sr<|mv Y<|mv Y<|cl (zJ x0 x1) ⟨Y,Y,aq⟩<|dn<|bf<|bE h λe3 hl3 ho3=>?_;obtain⟨m3,st3,hs3,ht3,hn3⟩:=Lk hl3;refine yc (zK x0 x1) (λ_ _ _ _ _=>trivial) Y (λk=>AS.cu 19 [(4,.ptr 4 0),(10,.sv (oO 165 [ref [slc 4 (List.map eQ x0)],ref [slc 4 (List.map eQ x1)]]))] [(4,⟨3,[ai 0]⟩)] []) [4] Y (λ_=>⟨Y,Y⟩) (CO Y) (λ_=>Y) (CP Y) (by(try dsimp only);(try dsimp only);exact cz id Y Y Y Y Y ⟨.ptr,.sv au,aq⟩ ⟨⟨_,Y,⟨.sv au,aq⟩⟩,aq⟩ trivial (λ_ _=>Y)) m3 (λk hk hkm D hD=>?_) (λhdn=>?_);obtain⟨y3,h,hG3,hE3⟩:=ht3 k hk hkm;dsimp only[AS.Z3,Cq]
 try dsimp only at h
 obtain⟨⟨⟨acP,acQ⟩,⟨acR,acS⟩⟩,aos,h⟩:=bS h;rw[Option.some.inj aos];obtain⟨⟨⟨acT,acU⟩,⟨acV,acW⟩⟩,aot,h⟩:=bS h;rw[Option.some.inj aot];refine sr<|al (cs:=[aA false,ax,aA false,ax]) (by exact⟨au,aC,au,aC,aq⟩) Y<|so Y Y Y<|dn<|aX<|al (cs:=[aA false,ax,aA false,ax]) (by exact⟨au,aC,au,aC,aq⟩) Y<|so Y Y Y<|RT.done ?_;refine aW.n ⟨Y,?_⟩;dsimp only[AS.Ml];refine bf<|sr<|ld Y Y (.k4 Y Y Y Y)<|ld Y Y (.k4 Y Y Y Y)<|bE h λdN gH h=>cl (OW gH) ⟨Y,Y,aq⟩<|ag Y<|dn<|sr<|mv Y<|lE h λdR jK h=>ne _ Y Y (Lf (p:=dN) (q:=0) jK)<|dn ?_;cases dR;refine cF<|bu<|bF.n ?_;obtain rfl:=O (F h);obtain⟨hm3,hq3⟩:=hG3 _ Y;exact⟨hm3,Y,Y,wR []⟩;refine cT<|sr<|mv Y<|RT.zy (cells:=[_]) .none (s:=.sv _) Y Y Y T Y<|dn<|aY<|bF.r ?_;obtain rfl:=O (V h);have he3:=hE3 _ Y;subst he3;refine⟨Y,Y,?_⟩;refine bF.r<|aW.r ?_;obtain rfl:=O ho3;exact RZ (.one Y Y Y (.nil));have hd3:=hn3 hdn;subst hd3;obtain⟨ee3,afR⟩:∃q,st3 (max x0.length x1.length)=q:=⟨_,Y⟩;rw[afR]at ho3
 try dsimp only
 refine bF.n<|aW.n<|sr<|RT.zy (cells:=[_]) .none (s:=.sv _) Y Y Y T Y<|dn<|aY ?_;obtain rfl:=O ho3;exact RZ (.one Y Y Y (.nil))
theorem Pe{x0:List Qr}{r:Int}(h:wG x0=some r):Pure ah 91 [slc 4 (List.map eQ x0)] (ay r):=by
 refine bj Tryz.func91 Y (af Y) (λc9 M vs hvs=>?_);unfold wG at h;refine sr<|ag Y<|dn<|sr<|mv Y<|bE h λx4 h4 h=>cl ((Be h4).w (args':=[_,_]) ⟨au,aC,aq⟩) ⟨Y,Y,aq⟩<|ag Y<|dn<|aY ?_;obtain rfl:=O h;exact R1 Y
theorem mF{x0:List Qr}{x1:List Qr}{r:Bool}(h:gL x0 x1=some r):Pure ah 37 [slc 4 (List.map eQ x0),slc 4 (List.map eQ x1)] (aA r):=by
 refine bj Tryz.func37 Y (af Y) (λc9 M vs hvs=>?_);unfold gL at h;refine sr<|ag Y<|dn<|sr<|mv Y<|mv Y<|bE h λx7 h7 h=>cl (Be h7) ⟨Y,Y,aq⟩<|lE h λx8 h8 h=>eq _ Y Y (xh (p:=x7) (q:=0) h8)<|ag Y<|dn<|aY ?_;obtain rfl:=O h;exact R1 Y
theorem Cx{x0:List Qr}{x1:Int}(N:Nat){r:List Qr}(h:mE x0 x1=some r):dB ah 47 N [slc 4 (List.map eQ x0),ay x1] (nw N (slc 4 (List.map (fQ N) r))):=by
 refine bT Tryz.func47 Y (af Y) (λc9 M vs hN hvs=>?_);unfold mE at h;refine sr<|aI Y (bt (N:=N) (n:=4) (e:=(fQ N)))<|dn<|qq<|sr<|mv Y<|lE h λx8 h8 h=>ls _ Y Y h8<|dn ?_;cases x8;refine fs<|sr<|mv Y<|lE (F h) λdG fY h=>RT.min .none _ Y Y T (VZ (p:=x1) (q:=65536) fY)<|bE h λff kz h=>RT.vW (n:=4) (e:=(fQ N)) .none Y Y T Y T (by rfl) (by decide) (by exact⟨au,bt,au,bt,aq⟩) kz<|an (s:=.row _) Y<|dn<|qq<|sr<|mv Y<|lE h λeY iX h=>ln Y iX<|mo (s:=.row _) Y<|lE h λdN gH h=>lL Y Y gH<|lE h λeX kf h=>?_;refine RT.min .none _ Y Y T (VZ (p:=eY) (q:=dN) kf)<|mv Y<|dn<|bE h λe8 Kt AX=>?_;refine bJ (λ(IL:(List Qr))=>AS.cu 30 [(5,.row 11)] [] [(11,TR 43 4 (fQ N) IL)]) (λIL=>IL=e8) ?_ (λIL Ku=>?_);refine bf ?_;refine bK Kt (λs8=>AS.cu 30 [(0,.sv (slc 4 (List.map eQ x0))),(5,.row 11),(16,ai eX),(17,ai s8.1)] [] [(11,TR 43 4 (fQ N) s8.2)]) (wR []) (λs8 y8 G8 h Kv Kw=>?_);obtain⟨Pc,Pd⟩:=s8
 try dsimp only
 refine sr<|lE h λeE jd h=>ls _ Y Y jd<|dn<|qq ?_;cases eE;refine cF<|bP<|aW.x<|aW.x<|bF.x<|aW.n ?_;obtain rfl:=O (F h);exact⟨Pd,Kw _ Y,wR []⟩;refine cT<|bu<|aW.n<|qq<|bf<|sr<|mv Y<|ag Y<|dn<|aX<|mo (s:=.row _) Y<|mv Y<|mv Y<|mv Y ?_;obtain⟨⟨⟨kE,kF⟩,⟨qm,qo⟩⟩,nG,h⟩:=bS (V h);refine ix Y Y nG<|RT.gJ (cs:=[_,_,_,_]) .none Y T Y Y ?_;obtain⟨⟨⟨Lx,Ly⟩,⟨Lz,LA⟩⟩,qS,h⟩:=bS h;refine RT.bX .none (ny N qS) hN Y ⟨Y,aq⟩ T<|bE h λir oV h=>iR Y Y Y oV<|bE h λCc vZ h=>sA ⟨⟨Lx,Ly⟩,⟨Lz,LA⟩⟩ Y Y Y vZ<|RT.done<|bF.n<|aW.n<|aX<|lE h λlp vA h=>ad _ Y Y vA<|mv Y<|RT.done ?_;obtain rfl:=O h;exact aW.n ⟨(lp,Cc),Kv _ Y,wR []⟩;subst Ku
 try dsimp only
 refine aW.n<|sr<|mo (s:=.row _) Y<|an (s:=.row _) Y<|dn<|ku (i:=11) (E1:=43) (n:=4) (e:=(fQ N)) (l:=IL) hN (λ_ h=>h) Y<|aY ?_;obtain rfl:=O AX;exact R1 Y;refine cT<|sr<|aI Y (bt (N:=N) (n:=4) (e:=(fQ N)))<|dn<|aY<|aW.r ?_;obtain rfl:=O (V h);exact R1 Y
theorem KA{x0:List Qr}{x1:Int}{r:List Qr}(h:mE x0 x1=some r):Pure ah 47 [slc 4 (List.map eQ x0),ay x1] (slc 4 (List.map eQ r)):=eM (λN=>Cx N h) (λN=>Um)
theorem fN{x0:List Int}{r:List Qr}(h:dQ x0=some r):Pure ah 54 [slc 1 (List.map bH x0)] (slc 4 (List.map eQ r)):=by
 refine bj Tryz.func54 Y (af Y) (λc9 M vs hvs=>?_);unfold dQ at h;refine sr<|aI Y (aC (n:=4) (e:=eQ))<|dn<|sr<|mv Y<|lE h λx7 h7 h=>ln Y h7<|bE h λx8 h8 h=>RT.vW (n:=4) (e:=eQ) .none Y Y T Y T (by rfl) (by decide) (by exact⟨au,aC,au,aC,aq⟩) h8<|an (s:=.row _) Y<|dn<|qq<|sr<|mv Y<|lE h λdG fY h=>ln Y fY<|mv Y<|dn<|bE h λe8 Kt AX=>?_;refine bJ (λ(C6:(List Qr))=>AS.cu 23 [(3,.row 8)] [] [(8,TR 43 4 eQ C6)]) (λC6=>C6=e8) ?_ (λC6 Ku=>?_);refine bf ?_;refine bK Kt (λs8=>AS.cu 23 [(3,.row 8),(9,.sv (slc 1 (List.map bH x0))),(10,ai dG),(11,ai s8.1)] [] [(8,TR 43 4 eQ s8.2)]) (wR []) (λs8 y8 G8 h Kv Kw=>?_);obtain⟨ua,IM⟩:=s8
 try dsimp only
 refine sr<|lE h λc8 fI h=>ls _ Y Y fI<|dn<|qq ?_;cases c8;refine cF<|bP<|aW.x<|aW.x<|bF.x<|aW.n ?_;obtain rfl:=O (F h);exact⟨IM,Kw _ Y,wR []⟩;refine cT<|bu<|aW.n<|qq<|bf<|sr<|mv Y<|bE (V h) λdV jy h=>ix Y Y jy<|lr Y Y<|ag Y<|ag Y<|dn<|aX<|mo (s:=.row _) Y<|mv Y<|mv Y ?_;obtain⟨⟨⟨lM,lO⟩,⟨wH,wI⟩⟩,lZ,h⟩:=bS h;refine cl (nx lZ) ⟨Y,aq⟩<|bE h λgK oP h=>iR Y Y Y oP<|bE h λCc vZ h=>sA ⟨⟨lM,lO⟩,⟨wH,wI⟩⟩ Y Y Y vZ<|RT.done<|bF.n<|aW.n<|aX<|lE h λgh kA h=>ad _ Y Y kA<|mv Y<|RT.done ?_;obtain rfl:=O h;exact aW.n ⟨(gh,Cc),Kv _ Y,wR []⟩;subst Ku
 try dsimp only
 refine aW.n<|sr<|mo (s:=.row _) Y<|an (s:=.row _) Y<|dn<|bU (cP (i:=8) (E1:=43) (n:=4) (e:=eQ) (l:=C6) Y)<|aY ?_;obtain rfl:=O AX;exact R1 Y
end
section
open Go.Fw
noncomputable def yR(x0:List (List Qr))(x1:Int):Option (List Qr):=cJ (λ(IP:Bool)=>(bif IP then some []else(cM x0 x1).bind λdN=>some dN)) λK3=>(some (decide ((x1:Int)<0))).bind λx6=>(bif x6 then some true else(some (x0.length:Int)).bind λdG=>(some (decide ((dG:Int)<=x1))).bind λff=>some ff).bind λPf=>K3 Pf
noncomputable def sJ(x0:List (List Qr)):Option (Int):=(some (x0.length:Int)).bind λx7=>(b9 (λ(s6:Int×Int)=>match s6 with|⟨uc,aaA⟩=>(show Option ((Int×Int)⊕(Int))from(some (decide ((aaA:Int)<x7))).bind λx9=>(bif x9 then(cM x0 aaA).bind λdG=>(some (dG.length:Int)).bind λdV=>(some (max (uc:Int) dV)).bind λdN=>(some (IntKind.i64.wrap (aaA+1))).bind λeX=>some (.inl (dN,eX))else some (.inr uc)))) (0,0)).bind λyS=>some yS
noncomputable def Bf(x0:List (List Qr))(x1:Int)(x2:Int):Option (Qr):=(yR x0 x1).bind λdG=>cJ (λ(WQ:Bool)=>(bif WQ then some ⟨⟨false,[]⟩,⟨false,[]⟩⟩else(cM dG x2).bind λ⟨⟨wB,wC⟩,⟨wD,wE⟩⟩=>(dP ⟨⟨wB,wC⟩,⟨wD,wE⟩⟩).bind λ⟨⟨kE,kF⟩,⟨qm,qo⟩⟩=>some ⟨⟨kE,kF⟩,⟨qm,qo⟩⟩)) λK3=>(some (decide ((x2:Int)<0))).bind λc8=>(bif c8 then some true else(some (dG.length:Int)).bind λeX=>(some (decide ((eX:Int)<=x2))).bind λdR=>some dR).bind λacY=>K3 acY
noncomputable def ud(x0:Qr)(x1:List (List Qr)):Option (List (List Qr)):=match x0 with|⟨⟨bn,bp⟩,⟨bB,bD⟩⟩=>(some (x1.length:Int)).bind λx9=>(J9 24 x9 ([]:List Qr)).bind λdG=>(some (x1.length:Int)).bind λc8=>(b9 (λ(s8:Int×(List (List Qr)))=>match s8 with|⟨Bc,Bd⟩=>(show Option ((Int×(List (List Qr)))⊕((List (List Qr))))from(some (decide ((Bc:Int)<c8))).bind λdV=>(bif dV then(cM x1 Bc).bind λeX=>(nV ⟨⟨bn,bp⟩,⟨bB,bD⟩⟩ eX).bind λiK=>(qg Bd Bc).bind λgU=>(stM Bd gU iK).bind λCc=>(some (IntKind.i64.wrap (Bc+1))).bind λgV=>some (.inl (gV,Cc))else some (.inr Bd)))) (0,dG)).bind λwF=>some wF
noncomputable def lQ(x0:List (List Int)):Option (List (List Qr)):=(some (x0.length:Int)).bind λx7=>(J9 24 x7 ([]:List Qr)).bind λx8=>(some (x0.length:Int)).bind λdG=>(b9 (λ(s8:Int×(List (List Qr)))=>match s8 with|⟨ua,IM⟩=>(show Option ((Int×(List (List Qr)))⊕((List (List Qr))))from(some (decide ((ua:Int)<dG))).bind λc8=>(bif c8 then(cM x0 ua).bind λdV=>(dQ dV).bind λjb=>(qg IM ua).bind λgK=>(stM IM gK jb).bind λCc=>(some (IntKind.i64.wrap (ua+1))).bind λgh=>some (.inl (gh,Cc))else some (.inr IM)))) (0,x8)).bind λC6=>some C6
end
section
open Go.Fw Go.Fw.Z Go.RowKit
theorem Rv{x0:List (List Qr)}{x1:Int}{r:List Qr}(h:yR x0 x1=some r):Pure ah 139 [slc 1 (List.map (eS 4 eQ) x0),.v (.int .i64 x1)] (slc 4 (List.map eQ r)):=by
 refine bj Tryz.func139 Y (af Y) (λc9 M vs hvs=>?_);unfold yR at h;refine sr<|aI Y (aC (n:=4) (e:=eQ))<|dn<|qq<|qq ?_;refine bL h (λj3=>AS.cu 17 [(0,.sv (slc 1 (List.map (eS 4 eQ) x0))),(1,.sv (.v (.int .i64 x1))),(12,.sv (.v (.bool j3)))] [] []) (λh=>?_) (λIP h=>?_);refine aX<|mv Y<|lE h λx6 h6 h=>ls _ Y Y h6<|mv Y<|bE h λPf r6 h=>?_;cases x6;refine gm Y<|gm Y<|lE (F r6) λdG fY r6=>gn Y fY<|lE r6 λff kz r6=>RT.geq (.some Y Y) _ Y Y T kz ?_;obtain rfl:=O r6;exact pF Y<|dn<|⟨ff,h,wR []⟩;obtain rfl:=O (V r6);exact ww<|ww<|ww<|ww<|pT Y<|dn<|⟨true,h,wR []⟩
 try dsimp only
 refine aW.n ?_;cases IP;refine fs<|sr<|mv Y<|mv Y<|bE (F h) λdN gH h=>ix Y Y gH<|lr Y Y<|ag Y<|dn<|aY ?_;obtain rfl:=O h;exact R1 Y;refine cT<|sr<|aI Y (aC (n:=4) (e:=eQ))<|dn<|aY<|aW.r ?_;obtain rfl:=O (V h);exact R1 Y
theorem Gl{x0:List (List Qr)}{r:Int}(h:sJ x0=some r):Pure ah 84 [slc 1 (List.map (eS 4 eQ) x0)] (.v (.int .i64 r)):=by
 refine bj Tryz.func84 Y (af Y) (λc9 M vs hvs=>?_);unfold sJ at h;refine sr<|ag Y<|dn<|sr<|ag Y<|dn<|qq<|sr<|mv Y<|lE h λx7 h7 h=>ln Y h7<|mv Y<|dn<|bE h λe6 uP je=>?_;refine bJ (λ(yS:Int)=>AS.cu 18 [(3,.sv (.v (.int .i64 yS)))] [] []) (λyS=>yS=e6) ?_ (λyS uQ=>?_);refine bf ?_;refine bK uP (λs6=>AS.cu 18 [(3,.sv (.v (.int .i64 s6.1))),(6,.sv (slc 1 (List.map (eS 4 eQ) x0))),(7,.sv (.v (.int .i64 x7))),(8,.sv (.v (.int .i64 s6.2)))] [] []) (wR []) (λs6 y6 G6 h uR pG=>?_);obtain⟨uc,aaA⟩:=s6
 try dsimp only
 refine sr<|lE h λx9 h9 h=>ls _ Y Y h9<|dn<|qq ?_;cases x9;refine cF<|bP<|aW.x<|aW.x<|bF.x<|aW.n ?_;obtain rfl:=O (F h);exact⟨uc,pG _ Y,wR []⟩;refine cT<|bu<|aW.n<|qq<|bf<|sr<|bE (V h) λdG fY h=>ix Y Y fY<|lr Y Y<|ag Y<|dn<|aX<|mv Y<|mv Y<|lE h λdV jy h=>ln Y jy<|lE h λdN gH h=>RT.max .none _ Y Y T (Oj (p:=uc) (q:=dV) gH)<|ag Y<|RT.done<|bF.n<|aW.n<|aX<|lE h λeX kf h=>ad _ Y Y kf<|mv Y<|RT.done ?_;obtain rfl:=O h;exact aW.n ⟨(dN,eX),uR _ Y,wR []⟩;subst uQ
 try dsimp only
 refine aW.n<|sr<|mv Y<|ag Y<|dn<|aY ?_;obtain rfl:=O je;exact R1 Y
theorem UC{x0:List (List Qr)}{x1:Int}{x2:Int}{r:Qr}(h:Bf x0 x1 x2=some r):Pure ah 103 [slc 1 (List.map (eS 4 eQ) x0),.v (.int .i64 x1),.v (.int .i64 x2)] (.agg (eQ r)):=by
 refine bj Tryz.func103 Y (af Y) (λc9 M vs hvs=>?_);unfold Bf at h;refine sr<|al (cs:=[.v (.bool false),slc 1 (List.map bh []),.v (.bool false),slc 1 (List.map bh [])]) (by exact⟨au,aC,au,aC,aq⟩) Y<|dn<|sr<|mv Y<|mv Y<|bE h λdG fY h=>cl (Rv fY) ⟨Y,Y,aq⟩<|ag Y<|dn<|qq<|qq ?_;refine bL h (λj3=>AS.cu 25 [(2,.sv (.v (.int .i64 x2))),(6,.ptr 6 0),(7,.sv (slc 4 (List.map eQ dG))),(18,.sv (.v (.bool j3)))] [(6,⟨43,[.sv (.v (.bool false)),.sv (slc 1 (List.map bh [])),.sv (.v (.bool false)),.sv (slc 1 (List.map bh []))]⟩)] []) (λh=>?_) (λWQ h=>?_);refine aX<|mv Y<|lE h λc8 fI h=>ls _ Y Y fI<|mv Y<|bE h λacY r6 h=>?_;cases c8;refine gm Y<|gm Y<|lE (F r6) λeX kf r6=>gn Y kf<|lE r6 λdR jK r6=>RT.geq (.some Y Y) _ Y Y T jK ?_;obtain rfl:=O r6;exact pF Y<|dn<|⟨dR,h,wR []⟩;obtain rfl:=O (V r6);exact ww<|ww<|ww<|ww<|pT Y<|dn<|⟨true,h,wR []⟩
 try dsimp only
 refine aW.n ?_;cases WQ;refine fs<|sr<|mv Y<|mv Y ?_;obtain⟨⟨⟨wB,wC⟩,⟨wD,wE⟩⟩,oA,h⟩:=bS (F h);refine ix Y Y oA<|RT.gJ (cs:=[_,_,_,_]) .none Y T Y Y ?_;obtain⟨⟨⟨kE,kF⟩,⟨qm,qo⟩⟩,nG,h⟩:=bS h;refine cl (xJ nG) ⟨Y,aq⟩<|so Y Y Y<|dn<|aY ?_;obtain rfl:=O h;exact RZ (.agg Y Y (.cons Y (.cons Y (.cons Y (.cons Y (.nil))))) Y (.nil));refine cT<|sr<|bI (cs:=[_,_,_,_]) (cs':=[.v (.bool false),slc 1 (List.map bh []),.v (.bool false),slc 1 (List.map bh [])]) (.nil) ⟨au,aC,au,aC,aq⟩<|so Y Y Y<|dn<|aY<|aW.r ?_;obtain rfl:=O (V h);exact RZ (.agg Y Y (.cons Y (.cons Y (.cons Y (.cons Y (.nil))))) Y (.nil))
theorem MM{x0:Qr}{x1:List (List Qr)}(N:Nat){r:List (List Qr)}(h:ud x0 x1=some r):dB ah 119 N [.agg (eQ x0),slc 1 (List.map (eS 4 eQ) x1)] (nw N (slc 1 (List.map (fS N 4 (fQ N)) r))):=by
 obtain⟨⟨bn,bp⟩,⟨bB,bD⟩⟩:=x0;refine bT Tryz.func119 Y (af Y) (λc9 M vs hN hvs=>?_);unfold ud at h;refine sr<|bx Y<|aI Y (bt (N:=N) (n:=1) (e:=(fS N 4 (fQ N))))<|dn<|sr<|mv Y<|lE h λx9 h9 h=>ln Y h9<|bE h λdG fY h=>RT.vW (n:=1) (e:=(fS N 4 (fQ N))) .none Y Y T Y T (by rfl) (by decide) (by exact⟨bt,aq⟩) fY<|an (s:=.row _) Y<|dn<|qq<|sr<|mv Y<|lE h λc8 fI h=>ln Y fI<|mv Y<|dn<|bE h λe8 Kt AX=>?_;refine bJ (λ(wF:(List (List Qr)))=>AS.cu 26 [(5,.row 10)] [] [(10,TR 23 1 (fS N 4 (fQ N)) wF)]) (λwF=>wF=e8) ?_ (λwF Ku=>?_);refine bf ?_;refine bK Kt (λs8=>AS.cu 26 [(2,.ptr 2 0),(5,.row 10),(11,.sv (slc 1 (List.map (eS 4 eQ) x1))),(12,.sv (.v (.int .i64 c8))),(13,.sv (.v (.int .i64 s8.1)))] [(2,⟨43,[.sv (.v (.bool bn)),.sv (slc 1 (List.map bh bp)),.sv (.v (.bool bB)),.sv (slc 1 (List.map bh bD))]⟩)] [(10,TR 23 1 (fS N 4 (fQ N)) s8.2)]) (wR []) (λs8 y8 G8 h Kv Kw=>?_);obtain⟨Bc,Bd⟩:=s8
 try dsimp only
 refine sr<|lE h λdV jy h=>ls _ Y Y jy<|dn<|qq ?_;cases dV;refine cF<|bP<|aW.x<|aW.x<|bF.x<|aW.n ?_;obtain rfl:=O (F h);exact⟨Bd,Kw _ Y,wR []⟩;refine cT<|bu<|aW.n<|qq<|bf<|sr<|mv Y<|bE (V h) λeX kf h=>ix Y Y kf<|lr Y Y<|ag Y<|ag Y<|dn<|aX<|mo (s:=.row _) Y<|mv Y<|ld Y Y (.cons Y (.cons Y (.cons Y (.cons Y (.nil)))))<|mv Y<|bE h λiK oA h=>RT.bX .none (D5 N oA) hN Y ⟨Y,Y,aq⟩ T<|bE h λgU oQ h=>iR Y Y Y oQ<|bE h λCc vZ h=>sR iK Y Y Y Y vZ ?_;refine RT.done<|bF.n<|aW.n<|aX<|lE h λgV nG h=>ad _ Y Y nG<|mv Y<|RT.done ?_;obtain rfl:=O h;exact aW.n ⟨(gV,Cc),Kv _ Y,wR []⟩;subst Ku
 try dsimp only
 refine aW.n<|sr<|mo (s:=.row _) Y<|an (s:=.row _) Y<|dn<|ku (i:=10) (E1:=23) (n:=1) (e:=(fS N 4 (fQ N))) (l:=wF) hN (λ_ h=>h) Y<|aY ?_;obtain rfl:=O AX;exact R1 Y
theorem Aj{x0:List (List Int)}{r:List (List Qr)}(h:lQ x0=some r):Pure ah 100 [slc 1 (List.map (eS 1 bH) x0)] (slc 1 (List.map (eS 4 eQ) r)):=by
 refine bj Tryz.func100 Y (af Y) (λc9 M vs hvs=>?_);unfold lQ at h;refine sr<|aI Y (aC (n:=1) (e:=(eS 4 eQ)))<|dn<|sr<|mv Y<|lE h λx7 h7 h=>ln Y h7<|bE h λx8 h8 h=>RT.vW (n:=1) (e:=(eS 4 eQ)) .none Y Y T Y T (by rfl) (by decide) (by exact⟨aC,aq⟩) h8<|an (s:=.row _) Y<|dn<|qq<|sr<|mv Y<|lE h λdG fY h=>ln Y fY<|mv Y<|dn<|bE h λe8 Kt AX=>?_;refine bJ (λ(C6:(List (List Qr)))=>AS.cu 23 [(3,.row 8)] [] [(8,TR 23 1 (eS 4 eQ) C6)]) (λC6=>C6=e8) ?_ (λC6 Ku=>?_);refine bf ?_;refine bK Kt (λs8=>AS.cu 23 [(3,.row 8),(9,.sv (slc 1 (List.map (eS 1 bH) x0))),(10,.sv (.v (.int .i64 dG))),(11,.sv (.v (.int .i64 s8.1)))] [] [(8,TR 23 1 (eS 4 eQ) s8.2)]) (wR []) (λs8 y8 G8 h Kv Kw=>?_);obtain⟨ua,IM⟩:=s8
 try dsimp only
 refine sr<|lE h λc8 fI h=>ls _ Y Y fI<|dn<|qq ?_;cases c8;refine cF<|bP<|aW.x<|aW.x<|bF.x<|aW.n ?_;obtain rfl:=O (F h);exact⟨IM,Kw _ Y,wR []⟩;refine cT<|bu<|aW.n<|qq<|bf<|sr<|mv Y<|bE (V h) λdV jy h=>ix Y Y jy<|lr Y Y<|ag Y<|ag Y<|dn<|aX<|mo (s:=.row _) Y<|mv Y<|mv Y<|bE h λjb lZ h=>cl (fN lZ) ⟨Y,aq⟩<|bE h λgK oP h=>iR Y Y Y oP<|bE h λCc vZ h=>sR jb Y Y Y Y vZ<|RT.done<|bF.n<|aW.n<|aX<|lE h λgh kA h=>ad _ Y Y kA ?_;refine mv Y<|RT.done ?_;obtain rfl:=O h;exact aW.n ⟨(gh,Cc),Kv _ Y,wR []⟩;subst Ku
 try dsimp only
 refine aW.n<|sr<|mo (s:=.row _) Y<|an (s:=.row _) Y<|dn<|bU (cP (i:=8) (E1:=23) (n:=1) (e:=(eS 4 eQ)) (l:=C6) Y)<|aY ?_;obtain rfl:=O AX;exact R1 Y
end
end Go.Proofs.YtningmnklfpfjaaGreat
namespace Go.Fw
section
open Go.RowKit
def pV:List (Nat×Row×Value)->(Nat->Value)->Nat->Value
 |[],ν,j=>ν j
 |(k,_,v)::l,ν,j=>if j=k then v else pV l ν j
theorem ue{ν:Nat->Value}:∀{l:List (Nat×Row×Value)} {j:Nat},(∀R v,(j,R,v)∉l)->pV l ν j=ν j
 |[],_,_=>rfl
 |(k,R,v)::l,j,h=>by
  have:j≠k:=λe=>h R v (by rw[e];simp);rw[pV,if_neg this];exact ue (λR v hm=>h R v (List.mem_cons_of_mem _ hm))
theorem mU{ν:Nat->Value}:∀{l:List (Nat×Row×Value)} {j:Nat} {R:Row} {v:Value},(l.map (·.1)).Nodup->(j,R,v)∈l->pV l ν j=v
 |(k,R',v')::l,j,R,v,hn,h=>by
  rw[List.map_cons,List.nodup_cons]at hn;rcases List.mem_cons.1 h with e|e
  ·cases e;rw[pV,if_pos rfl]
  have:j≠k:=λq=>hn.1 (List.mem_map.2 ⟨(j,R,v),e,q⟩);rw[pV,if_neg this];exact mU hn.2 e
def D6(olds:List Nat)(news:List (Nat×Row×Value)):List (Nat×qG):=olds.map (λj=>(j,.dead))++news.map (λn=>(n.1,.live n.2.1))
theorem zL:∀(l k:List (Nat×qG)) (j:Nat),fB (l++k) j=match fB k j with|some R=>some R|none=>fB l j
 |[],k,j=>by cases h:fB k j<;>simp[h,fB]
 |(i,R)::l,k,j=>by
  rw[List.cons_append,fB,fB,zL l k j];cases h:fB k j<;>simp
theorem C8{l:List (Nat×qG)}{j:Nat}(h:∀R,(j,R)∉l):fB l j=none:=by
 induction l with
 |nil=>rfl
 |cons p l ih=>
  obtain⟨i,R⟩:=p;rw[fB,ih (λR hm=>h R (List.mem_cons_of_mem _ hm))];have:j≠i:=λe=>h R (by rw[e];simp);simp[this]
theorem C9{l:List (Nat×qG)}{j:Nat}{R:qG}(h:fB l j=some R):(j,R)∈l:=by
 induction l with
 |nil=>cases h
 |cons p l ih=>
  obtain⟨i,R'⟩:=p;rw[fB]at h;cases e:fB l j with
  |some R2=>rw[e]at h;cases h;exact List.mem_cons_of_mem _ (ih e)
  |none=>
   rw[e]at h;by_cases q:j=i
   ·subst q;simp at h;subst h;simp
   simp[q]at h
theorem IQ{l:List (Nat×qG)}{j:Nat}{R:qG}(h:(j,R)∈l):∃R',fB l j=some R':=by
 induction l with
 |nil=>cases h
 |cons p l ih=>
  obtain⟨i,R'⟩:=p;rw[fB];rcases List.mem_cons.1 h with e|e
  ·cases e;cases q:fB l j with
   |some R2=>exact⟨R2,Y⟩
   |none=>exact⟨R,by simp⟩
  obtain⟨R2,h2⟩:=ih e;exact⟨R2,by rw[h2]⟩
section swap
variable {C:Ctx}{S:AS}
theorem bz.ajP{E:Env}{a:Act}{w w':World}(h:bz C S E a w){i:Nat}{T:TypeId}{cells cells':List AV}{us':List Value}{M':Mem}(hB:S.b i=some ⟨T,cells⟩)(olds:List Nat)(news:List (Nat×Row×Value))
  (hold:∀j∈olds,∃R,S.r j=.live R) (hnew:∀k R v,(k,R,v)∈news->S.r k=.un/\k<1000) (hnd:(news.map (·.1)).Nodup)
  (hM:E.M.le M') (hmn:∀b o x,M' b o=some x->E.M b o=some x\/w.heap.size<=b\/∃j∈olds,(E.ν j).ownBlock=some b) (hin:M'.ef w')
  (aox:w'.heap[E.β i]? =some (.cells ⟨us'⟩ T (0,0))) (hnb:∀o,M' (E.β i) o=none) (CK:ei {E with M:=M',ν:=pV news E.ν} cells' us')
  (hcb:∀x∈cells',(∀j,¬x.mb j)/\∀j,x.mr j->∃R v,(j,R,v)∈news)
  (hrow:∀k R v,(k,R,v)∈news->(∃vs:List Value,w'.ownsRow 0 R.E R.sz v R.n vs/\SV.fX M' R.cells vs)/\∀g,v.ownBlock=some g->((∃j∈olds,(E.ν j).ownBlock=some g)\/w.heap.size<=g)/\(∀o,M' g o=none)/\g≠E.β i)
  (ajQ:∀k R v k' R' v' g,(k,R,v)∈news->(k',R',v')∈news->v.ownBlock=some g->v'.ownBlock=some g->k=k')
  (hos:w'.os=w.os) (yT:w'.tape=w.tape) (hout:w'.output=w.output) (hsize:w.heap.size<=w'.heap.size)
  (pN:∀k,k<w.heap.size->k≠E.β i->(∀j∈olds,(E.ν j).ownBlock≠some k)->w'.heap[k]? =w.heap[k]?):
  bz C (AS.cL (D6 olds news) (AS.iO [(i,⟨T,cells'⟩)] S)) {E with M:=M',ν:=pV news E.ν} a w':=by
 obtain⟨UD,aoy,aaB,Zx,UE,_⟩:=h.bx i _ hB;have asR:E.β i<w.heap.size:=(Array.getElem?_eq_some_iff.1 UE).1;obtain⟨n1,n2,n3,n4,n5⟩:=ij (D6 olds news) (AS.iO [(i,⟨T,cells'⟩)] S);have tOf:(AS.cL (D6 olds news) (AS.iO [(i,⟨T,cells'⟩)] S)).t=S.t:=n2;have GD:∀j,(AS.cL (D6 olds news) (AS.iO [(i,⟨T,cells'⟩)] S)).b j=if j=i then some ⟨T,cells'⟩else S.b j:=λj=>by
  rw[n3];by_cases e:j=i
  ·subst e;rw[if_pos rfl];exact AS.dO _ _ _
  rw[if_neg e];exact AS.cG _ _ _ _ e
 have ajR:∀k R v,(k,R,v)∈news->fB (news.map (λn=>(n.1,qG.live n.2.1))) k=some (.live R):=λk R v hm=>by
  obtain⟨R',u0⟩:=IQ (l:=news.map (λn=>(n.1,qG.live n.2.1))) (j:=k) (R:=.live R) (List.mem_map.2 ⟨(k,R,v),hm,Y⟩);obtain⟨⟨k2,R2,v2⟩,Vw,e⟩:=List.mem_map.1 (C9 u0);have e1:k2=k:=congrArg Prod.fst e;have e2:qG.live R2=R':=congrArg Prod.snd e;rw[e1]at Vw;have:R2=R:=by
   have key:∀(l:List (Nat×Row×Value)),(l.map (·.1)).Nodup->(k,R2,v2)∈l->(k,R,v)∈l->R2=R:=by
    intro l
    induction l with
    |nil=>intro _ h;cases h
    |cons p l ih=>
     intro hn h1 h2;rw[List.map_cons,List.nodup_cons]at hn;rcases List.mem_cons.1 h1 with e1|e1<;>rcases List.mem_cons.1 h2 with e2|e2
     ·rw[<-e1]at e2;cases e2;rfl
     ·exact absurd (List.mem_map.2 ⟨_,e2,by rw[<-e1]⟩) hn.1
     ·exact absurd (List.mem_map.2 ⟨_,e1,by rw[<-e2]⟩) hn.1
     exact ih hn.2 e1 e2
   exact key news hnd Vw hm
  rw[u0,<-e2,this]
 have ajS:∀k R v,(k,R,v)∈news->(AS.cL (D6 olds news) (AS.iO [(i,⟨T,cells'⟩)] S)).r k=.live R:=λk R v hm=>by
  rw[pB,D6,zL,ajR k R v hm];rfl
 have ajT:∀j,(∀R v,(j,R,v)∉news)->(AS.cL (D6 olds news) (AS.iO [(i,⟨T,cells'⟩)] S)).r j=if j∈olds then .dead else S.r j:=λj hn=>by
  have e1:fB (news.map (λn=>(n.1,qG.live n.2.1))) j=none:=C8 (λR hm=>by
   obtain⟨⟨k2,R2,v2⟩,Vw,e⟩:=List.mem_map.1 hm;cases e;exact hn R2 v2 Vw)
  rw[pB,D6,zL,e1];by_cases ho:j∈olds
  ·rw[if_pos ho];obtain⟨R',u0⟩:=IQ (l:=olds.map (λj=>(j,qG.dead))) (j:=j) (R:=.dead) (List.mem_map.2 ⟨j,ho,Y⟩);obtain⟨j2,_,e⟩:=List.mem_map.1 (C9 u0);cases e;rw[u0];rfl
  rw[if_neg ho,C8 (λR hm=>by obtain⟨j2,Vw,e⟩:=List.mem_map.1 hm;cases e;exact ho Vw)];rfl
 have WR:∀j,S.r j≠ .un->∀R v,(j,R,v)∉news:=λj hj R v hm=>hj (hnew j R v hm).1;have rne:∀j,S.r j≠ .un->(AS.cL (D6 olds news) (AS.iO [(i,⟨T,cells'⟩)] S)).r j≠ .un:=λj hj=>by
  rw[ajT j (WR j hj)];split
  ·simp
  exact hj
 have Fy:∀j∈olds,∀g,(E.ν j).ownBlock=some g->(C.w0.heap.size<=g\/C.BN g)/\(∀o,E.M g o=none)/\¬E.O g/\(∀n B,S.b n=some B->E.β n≠g)/\g<w.heap.size/\∃c e,w.heap[g]? =some (Obj.cells c e (0,0)):=λj hj g hg=>by
  obtain⟨R,hR⟩:=hold j hj;obtain⟨⟨us,q1,_⟩,q2⟩:=h.rx j R hR;obtain⟨q3,q4,q5,q6⟩:=q2 g hg;refine⟨q3,q4,q5,q6,nI h hR hg,?_⟩;rcases q1.2 with⟨q7,_⟩|⟨g',cap,cur,q7,_,q8,_⟩
  ·rw[q7]at hg;cases hg
  rw[q7]at hg;cases hg;exact⟨_,_,q8⟩
 have keep:∀x:AV,(∀j,x.mr j->S.r j≠ .un)->∀v,x.holds E v->x.holds {E with M:=M',ν:=pV news E.ν} v:=λx hx v hv=>
  AV.dL (E:=E) (E':={E with M:=M',ν:=pV news E.ν}) hM (λ_ _=>rfl) (λj hj=>ue (WR j (hx j hj))) hv
 have noM:∀b,b<w.heap.size->(∀o,E.M b o=none)->(∀j∈olds,(E.ν j).ownBlock≠some b)->∀o,M' b o=none:=λb h1 h2 h3 o=>by
  cases e:M' b o with
  |none=>rfl
  |some v=>
   rcases hmn b o v e with q|q|⟨j,q1,q2⟩
   ·rw[h2 o]at q;cases q
   ·omega
   exact absurd q2 (h3 j q1)
 have live:∀j R,(AS.cL (D6 olds news) (AS.iO [(i,⟨T,cells'⟩)] S)).r j=.live R->(∃v,(j,R,v)∈news)\/((∀R v,(j,R,v)∉news)/\j∉olds/\S.r j=.live R):=λj R hj=>by
  by_cases hn:∃R v,(j,R,v)∈news
  ·obtain⟨R',v,hm⟩:=hn;rw[ajS j R' v hm]at hj;cases hj;exact .inl ⟨v,hm⟩
  have hn:∀R v,(j,R,v)∉news:=λR v hm=>hn ⟨R,v,hm⟩;rw[ajT j hn]at hj;by_cases ho:j∈olds
  ·rw[if_pos ho]at hj;cases hj
  rw[if_neg ho]at hj;exact .inr ⟨hn,ho,hj⟩
 have oth:∀j R,S.r j=.live R->j∉olds->∀g,(E.ν j).ownBlock=some g->∀j'∈olds,(E.ν j').ownBlock≠some g:=λj R hR ho g hg j' hj' e=>by
  obtain⟨R',u0⟩:=hold j' hj';have:=h.iL j j' R R' hR u0 g hg e;subst this;exact ho hj'
 exact{
  wf:=by
   refine⟨λs j hj=>?_,λs j hj=>?_,λj B iP x hx m hm=>?_,λj B iP x hx m hm=>?_⟩
   ·rw[tOf]at hj;obtain⟨B,iP⟩:=h.wf.tb s j hj;rw[GD];by_cases e:j=i
    ·exact⟨_,if_pos e⟩
    exact⟨B,by rw[if_neg e];exact iP⟩
   ·rw[tOf]at hj;exact rne j (h.wf.tr s j hj)
   ·rw[GD]at iP⊢;by_cases e:j=i
    ·rw[if_pos e]at iP;cases iP;exact absurd hm ((hcb x hx).1 m)
    rw[if_neg e]at iP;obtain⟨B2,hB2⟩:=h.wf.bb j B iP x hx m hm;by_cases e2:m=i
    ·exact⟨_,if_pos e2⟩
    exact⟨B2,by rw[if_neg e2];exact hB2⟩
   rw[GD]at iP;by_cases e:j=i
   ·rw[if_pos e]at iP;cases iP;obtain⟨R,v,Vw⟩:=(hcb x hx).2 m hm;rw[ajS m R v Vw];simp
   rw[if_neg e]at iP;exact rne m (h.wf.br j B iP x hx m hm)
  marks:=by
   obtain⟨ds,d1,d2,d3⟩:=h.marks;refine⟨ds,d1,d2,λr hr=>?_⟩;obtain⟨p1,p2,p3⟩:=d3 r hr;refine⟨p1,p2,?_⟩;rw[pN r (Array.getElem?_eq_some_iff.1 p3).1 (λe=>by rw[e,UE]at p3;cases p3) (λj hj e=>by
    obtain⟨_,_,_,_,_,c,e2,q⟩:=Fy j hj r e;rw[q]at p3;cases p3)]
   exact p3
  size:=by rw[n1];exact h.size
  os:=hos.trans h.os
  tape:=yT.trans h.tape
  output:=hout.trans h.output
  grown:=Nat.le_trans h.grown hsize
  frame:=λk hk hown=>by
   rw[pN k (Nat.lt_of_lt_of_le hk h.grown) (λe=>by
    rcases UD with q|q
    ·omega
    ·exact hown (C.Ke _ (by rw[e];exact q))) (λj hj e=>by
    rcases(Fy j hj k e).1 with q|q
    ·omega
    exact hown (C.Ke _ q))]
   exact h.frame k hk hown
  m0:=Mem.le_trans h.m0 hM
  gE:=λb o v e=>by
   rcases hmn b o v e with q|q|⟨j,q1,q2⟩
   ·exact h.gE b o v q
   ·exact .inr (.inl (Nat.le_trans h.grown q))
   rcases(Fy j q1 b q2).1 with q|q
   ·exact .inr (.inl q)
   exact .inr (.inr (C.Ke _ q))
  ef:=hin
  tm:=λs=>by rw[tOf];exact keep _ (h.wf.tr s) _ (h.tm s)
  bx:=λj B iP=>by
   rw[GD]at iP;by_cases e:j=i
   ·rw[if_pos e]at iP;cases iP;subst e;exact⟨UD,hnb,aaB,us',aox,CK⟩
   rw[if_neg e]at iP;obtain⟨p1,p2,p3,vs,p4,p5⟩:=h.bx j B iP;have hlt:=(Array.getElem?_eq_some_iff.1 p4).1;have hno:∀j'∈olds,(E.ν j').ownBlock≠some (E.β j):=λj' hj' q=>(Fy j' hj' _ q).2.2.2.1 j B iP Y;refine⟨p1,noM _ hlt p2 hno,p3,vs,?_,p5.imp (λx hx v hv=>keep x (h.wf.br j B iP x hx) v hv)⟩;show w'.heap[E.β j]? =_;rw[pN _ hlt (λq=>e (h.inj j i B _ iP hB q)) hno];exact p4
  inj:=λj j' B B' h1 h2 e=>by
   have key:∀n B,(AS.cL (D6 olds news) (AS.iO [(i,⟨T,cells'⟩)] S)).b n=some B->∃B',S.b n=some B':=λn B hn=>by
    rw[GD]at hn;by_cases e:n=i
    ·subst e;exact⟨_,hB⟩
    rw[if_neg e]at hn;exact⟨B,hn⟩
   obtain⟨B1,p1⟩:=key j B h1;obtain⟨B2,p2⟩:=key j' B' h2;exact h.inj j j' B1 B2 p1 p2 e
  rx:=λj R hj=>by
   have boxes:∀g,(∀n B,S.b n=some B->E.β n≠g)->∀n B,(AS.cL (D6 olds news) (AS.iO [(i,⟨T,cells'⟩)] S)).b n=some B->E.β n≠g:=λg hg n B hn=>by
    rw[GD]at hn;by_cases e:n=i
    ·subst e;exact hg _ _ hB
    rw[if_neg e]at hn;exact hg n B hn
   rcases live j R hj with⟨v,hm⟩|⟨hn,ho,hR⟩
   ·rw[show({E with M:=M',ν:=pV news E.ν}:Env).ν j=v from mU hnd hm];obtain⟨p1,p2⟩:=hrow j R v hm;refine⟨p1,λg hg=>?_⟩;obtain⟨p3,p4,p5⟩:=p2 g hg;rcases p3 with⟨j',q1,q2⟩|p3
    ·obtain⟨o1,o2,o3,o4,_⟩:=Fy j' q1 g q2;exact⟨o1,p4,o3,boxes g o4⟩
    refine⟨.inl (Nat.le_trans h.grown p3),p4,λq=>?_,boxes g (λn B hn q=>?_)⟩
    ·have:=(h.qf g q).1;omega
    obtain⟨_,_,_,vs,q4,_⟩:=h.bx n B hn;have:=(Array.getElem?_eq_some_iff.1 q4).1;omega
   rw[show({E with M:=M',ν:=pV news E.ν}:Env).ν j=E.ν j from ue hn];obtain⟨⟨us,p1,p2⟩,p3⟩:=h.rx j R hR;refine⟨⟨us,eT p1 λg hg=>pN g (nI h hR hg) (λe=>(p3 g hg).2.2.2 i _ hB e.symm) (oth j R hR ho g hg),p2.mono hM⟩,λg hg=>?_⟩;obtain⟨p4,p5,p6,p7⟩:=p3 g hg;exact⟨p4,noM g (nI h hR hg) p5 (oth j R hR ho g hg),p6,boxes g p7⟩
  iL:=λj j' R R' h1 h2 g e1 e2=>by
   have mixed:∀j R v j' R' g,(j,R,v)∈news->S.r j'=.live R'->j'∉olds->v.ownBlock=some g->(E.ν j').ownBlock=some g->False:=λj R v j' R' g hm u0 ho e1 e2=>by
    rcases((hrow j R v hm).2 g e1).1 with⟨j2,q1,q2⟩|q
    ·exact oth j' R' u0 ho g e2 j2 q1 q2
    have:=nI h u0 e2;omega
   rcases live j R h1 with⟨v,hm⟩|⟨hn,ho,hR⟩<;>rcases live j' R' h2 with⟨v',hm'⟩|⟨hn',ho',u0⟩
   ·rw[show({E with M:=M',ν:=pV news E.ν}:Env).ν j=v from mU hnd hm]at e1;rw[show({E with M:=M',ν:=pV news E.ν}:Env).ν j'=v' from mU hnd hm']at e2;exact ajQ j R v j' R' v' g hm hm' e1 e2
   ·rw[show({E with M:=M',ν:=pV news E.ν}:Env).ν j=v from mU hnd hm]at e1;rw[show({E with M:=M',ν:=pV news E.ν}:Env).ν j'=E.ν j' from ue hn']at e2;exact(mixed j R v j' R' g hm u0 ho' e1 e2).elim
   ·rw[show({E with M:=M',ν:=pV news E.ν}:Env).ν j=E.ν j from ue hn]at e1;rw[show({E with M:=M',ν:=pV news E.ν}:Env).ν j'=v' from mU hnd hm']at e2;exact(mixed j' R' v' j R g hm' hR ho e2 e1).elim
   rw[show({E with M:=M',ν:=pV news E.ν}:Env).ν j=E.ν j from ue hn]at e1;rw[show({E with M:=M',ν:=pV news E.ν}:Env).ν j'=E.ν j' from ue hn']at e2;exact h.iL j j' R R' hR u0 g e1 e2
  kU:=h.kU
  gj:=λk v e=>by
   rw[show({E with M:=M',ν:=pV news E.ν}:Env).ν k=E.ν k from ue (λR v hm=>by have:=(hnew k R v hm).2;have:=C.Ua k _ e;omega)];exact h.gj k v e
  qf:=λb hb=>by
   obtain⟨p1,p2,p3⟩:=h.qf b hb;exact⟨Nat.lt_of_lt_of_le p1 hsize,noM b p1 p2 (λj hj e=>(Fy j hj b e).2.2.1 hb),p3⟩
  jj:=by
   have hj:=C.jf S.g S.go E.O E.M M' w w' h.jj hM hin (λb o v e=>by
    rcases hmn b o v e with q|q|⟨j,q1,q2⟩
    ·exact .inl q
    ·exact .inr ⟨.inl (Nat.le_trans h.grown q),λq2=>by have:=(h.qf b q2).1;omega⟩
    ·obtain⟨o1,_,o3,_⟩:=Fy j q1 b q2;exact .inr ⟨o1,o3⟩) (λb hb=>by
    have hlt:b<w.heap.size\/w.heap.size<=b:=Nat.lt_or_ge _ _;have hb':b<w.heap.size:=by
     rcases hb with⟨q,_⟩|q
     ·exact Nat.lt_of_lt_of_le q h.grown
     exact(h.qf b q).1
    refine pN b hb' (λe=>?_) (λj hj e=>?_)
    ·subst e;rcases hb with⟨q1,q2⟩|q
     ·rcases UD with p|p
      ·omega
      exact q2 p
     exact aaB q
    obtain⟨o1,_,o3,_⟩:=Fy j hj b e;rcases hb with⟨q1,q2⟩|q
    ·rcases o1 with p|p
     ·omega
     exact q2 p
    exact o3 q) hos yT hout hsize
   rw[n4,n5];exact hj}
end swap
end
section
open Go.RowKit
inductive Oc where
 |s (x:SV)
 |r (R:Row)
def xK(M:Mem)(w:World):List Oc->List Value->Prop
 |[],[]=>True
 |.s x::l,v::vs=>x.h M v/\xK M w l vs
 |.r R::l,v::vs=>(∃us:List Value,w.ownsRow 0 R.E R.sz v R.n us/\SV.fX M R.cells us)/\xK M w l vs
 |_,_=>False
def rowsOf:List Oc->List Row
 |[]=>[]
 |.s _::l=>rowsOf l
 |.r R::l=>R::rowsOf l
def cS:List Oc->List Value->List (Row×Value)
 |.s _::l,_::vs=>cS l vs
 |.r R::l,v::vs=>(R,v)::cS l vs
 |_,_=>[]
def fj(c:List Oc)(us:List Value)(g:Nat):Prop:=∃p∈cS c us,p.2.ownBlock=some g
def cX:List Nat->List Oc->List AV
 |ids,.s x::l=>.sv x::cX ids l
 |i::ids,.r _::l=>.row i::cX ids l
 |[],.r _::l=>.sv .any::cX [] l
 |_,[]=>[]
def S4(l:List (Row×Value)):Prop:=l.Pairwise λp q=>∀g,p.2.ownBlock=some g->q.2.ownBlock≠some g
structure xL (M:Mem) (w:World) (β:Nat) (T:TypeId) (c:List Oc) (us:List Value):Prop where
 hp:w.heap[β]? =some (.cells ⟨us⟩ T (0,0))
 al:xK M w c us
 nb:∀o,M β o=none
 nr:∀g,fj c us g->g≠β/\∀o,M g o=none
 ap:S4 (cS c us)
theorem l8{M:Mem}{w:World}:∀{c:List Oc} {us:List Value},xK M w c us->(cS c us).map (·.1)=rowsOf c
 |[],[],_=>rfl
 |.s _::l,_::vs,h=>l8 (c:=l) (us:=vs) h.2
 |.r R::l,v::vs,h=>congrArg (R:: ·) (l8 (c:=l) (us:=vs) h.2)
 |[],_::_,h=>h.elim
 |.s _::_,[],h=>h.elim
 |.r _::_,[],h=>h.elim
theorem pW{M:Mem}{w:World}:∀{c:List Oc} {us:List Value},xK M w c us->∀p∈cS c us,∃vs:List Value,w.ownsRow 0 p.1.E p.1.sz p.2 p.1.n vs/\SV.fX M p.1.cells vs
 |[],[],_,p,hp=>by cases hp
 |.s _::l,_::vs,h,p,hp=>pW (c:=l) (us:=vs) h.2 p hp
 |.r R::l,v::vs,h,p,hp=>by
  rcases List.mem_cons.1 hp with rfl|hp
  ·exact h.1
  exact pW (c:=l) (us:=vs) h.2 p hp
 |[],_::_,h,_,_=>h.elim
 |.s _::_,[],h,_,_=>h.elim
 |.r _::_,[],h,_,_=>h.elim
theorem nA{α β:Type}:∀{l:List α} {k:List β} {a:α} {b:β},(a,b)∈l.zip k->a∈l/\b∈k
 |_::_,_::_,_,_,h=>by
  rw[List.zip_cons_cons]at h;rcases List.mem_cons.1 h with e|e
  ·cases e;simp
  have:=nA e;exact⟨List.mem_cons_of_mem _ this.1,List.mem_cons_of_mem _ this.2⟩
 |[],_,_,_,h=>by simp at h
 |_::_,[],_,_,h=>by simp at h
theorem Hw{α β:Type}:∀{l:List α} {k:List β},l.length=k.length->(l.zip k).map (·.1)=l
 |[],[],_=>rfl
 |_::l,_::k,h=>by rw[List.zip_cons_cons,List.map_cons,Hw (by simpa using h)]
 |[],_::_,h=>by simp at h
 |_::_,[],h=>by simp at h
theorem Fz:∀{ids:List Nat} {l:List (Row×Value)},ids.Nodup->S4 l->∀k R v k' R' v' g,(k,R,v)∈ids.zip l->(k',R',v')∈ids.zip l->v.ownBlock=some g->v'.ownBlock=some g->k=k'
 |i::ids,p::l,hn,ha,k,R,v,k',R',v',g,h1,h2,e1,e2=>by
  rw[List.zip_cons_cons]at h1 h2;rw[List.nodup_cons]at hn;obtain⟨ha1,ha2⟩:=List.pairwise_cons.1 ha;rcases List.mem_cons.1 h1 with q1|q1<;>rcases List.mem_cons.1 h2 with q2|q2
  ·cases q1;cases q2;rfl
  ·cases q1;exact absurd e2 (ha1 (R',v') (nA q2).2 g e1)
  ·cases q2;exact absurd e1 (ha1 (R,v) (nA q1).2 g e2)
  exact Fz hn.2 ha2 k R v k' R' v' g q1 q2 e1 e2
 |[],_,_,_,_,_,_,_,_,_,_,h1,_,_,_=>by simp at h1
 |_::_,[],_,_,_,_,_,_,_,_,_,h1,_,_,_=>by simp at h1
theorem wJ{E:Env}{w:World}:∀{ids:List Nat} {c:List Oc} {us:List Value},ids.length=(rowsOf c).length->xK E.M w c us->(∀i p,(i,p)∈ids.zip (cS c us)->E.ν i=p.2)->ei E (cX ids c) us
 |ids,[],[],_,_,_=>by cases ids<;>exact trivial
 |ids,.s x::l,v::vs,hl,h,hv=>by
  have ih:=wJ (E:=E) (w:=w) (ids:=ids) (c:=l) (us:=vs) hl h.2 hv;cases ids<;>exact⟨h.1,ih⟩
 |i::ids,.r R::l,v::vs,hl,h,hv=>by
  refine⟨(hv i (R,v) (by rw[cS,List.zip_cons_cons];simp)).symm,wJ (w:=w) (ids:=ids) (c:=l) (us:=vs) (by simpa[rowsOf]using hl) h.2 (λj p hm=>hv j p ?_)⟩;rw[cS,List.zip_cons_cons];exact List.mem_cons_of_mem _ hm
 |[],.r R::l,_::_,hl,_,_=>by simp[rowsOf]at hl
 |_,[],_::_,_,h,_=>h.elim
 |_,.s _::_,[],_,h,_=>h.elim
 |_,.r _::_,[],_,h,_=>h.elim
theorem wK:∀{ids:List Nat} {c:List Oc} (x:AV),x∈cX ids c->(∀j,¬x.mb j)/\∀j,x.mr j->j∈ids
 |ids,[],x,h=>by cases ids<;>simp[cX]at h
 |ids,.s y::l,x,h=>by
  have h':x∈AV.sv y::cX ids l:=by cases ids<;>exact h
  rcases List.mem_cons.1 h' with rfl|h'
  ·exact⟨λj e=>e,λj e=>e.elim⟩
  exact wK x h'
 |i::ids,.r _::l,x,h=>by
  rcases List.mem_cons.1 (show x∈AV.row i::cX ids l from h)with rfl|h'
  ·exact⟨λj e=>e,λj e=>by cases e;simp⟩
  obtain⟨h1,h2⟩:=wK x h';exact⟨h1,λj e=>List.mem_cons_of_mem _ (h2 j e)⟩
 |[],.r _::l,x,h=>by
  rcases List.mem_cons.1 (show x∈AV.sv .any::cX [] l from h)with rfl|h'
  ·exact⟨λj e=>e,λj e=>e.elim⟩
  exact wK x h'
def Lv(S:AS):List Nat->List Row->Prop
 |[],[]=>True
 |j::js,R::Rs=>S.r j=.live R/\Lv S js Rs
 |_,_=>False
theorem Lv.len{S:AS}:∀{js:List Nat} {Rs:List Row},Lv S js Rs->js.length=Rs.length
 |[],[],_=>rfl
 |_::_,_::_,h=>congrArg (· +1) (Lv.len h.2)
 |[],_::_,h=>h.elim
 |_::_,[],h=>h.elim
theorem Lv.mem{S:AS}:∀{js:List Nat} {Rs:List Row},Lv S js Rs->∀j∈js,∃R,S.r j=.live R
 |j::js,R::Rs,h,k,hk=>by
  rcases List.mem_cons.1 hk with rfl|hk
  ·exact⟨R,h.1⟩
  exact Lv.mem h.2 k hk
 |[],_,_,k,hk=>by cases hk
 |_::_,[],h,_,_=>h.elim
theorem Bg{C:Ctx}{S:AS}{E:Env}{a:Act}{w:World}(h:bz C S E a w):∀{js:List Nat} {c:List Oc} {us:List Value},Lv S js (rowsOf c)->ei E (cX js c) us->xK E.M w c us/\cS c us=(rowsOf c).zip (js.map E.ν)
 |[],[],[],_,_=>⟨aq,Y⟩
 |js,.s x::l,v::vs,hL,hv=>by
  have Cb:ei E (AV.sv x::cX js l) (v::vs):=by cases js<;>exact hv
  obtain⟨h1,h2⟩:=Bg h (js:=js) (c:=l) (us:=vs) hL Cb.2;exact⟨⟨Cb.1,h1⟩,h2⟩
 |j::js,.r R::l,v::vs,hL,hv=>by
  have hL:S.r j=.live R/\Lv S js (rowsOf l):=hL;have Cb:ei E (AV.row j::cX js l) (v::vs):=hv;obtain⟨h1,h2⟩:=Bg h (js:=js) (c:=l) (us:=vs) hL.2 Cb.2;have e:v=E.ν j:=Cb.1;obtain⟨q1,_⟩:=h.rx j R hL.1;rw[<-e]at q1;refine⟨⟨q1,h1⟩,?_⟩;rw[cS,h2,e];rfl
 |[],.r _::_,_,hL,_=>hL.elim
 |_::_,[],_,hL,_=>hL.elim
 |[],[],_::_,_,hv=>by simp[cX]at hv;exact hv.elim
 |js,.s x::l,[],_,hv=>by
  have Cb:ei E (AV.sv x::cX js l) []:=by cases js<;>exact hv
  exact Cb.elim
 |_::_,.r _::_,[],_,hv=>hv.elim
theorem Bh{α β:Type}:∀{l:List α} {k:List β} {b:β},l.length=k.length->b∈k->∃a,(a,b)∈l.zip k
 |a::l,c::k,b,h,hb=>by
  rcases List.mem_cons.1 hb with rfl|hb
  ·exact⟨a,by rw[List.zip_cons_cons];simp⟩
  obtain⟨a',h'⟩:=Bh (l:=l) (k:=k) (by simpa using h) hb;exact⟨a',by rw[List.zip_cons_cons];exact List.mem_cons_of_mem _ h'⟩
 |[],[],_,_,hb=>by cases hb
 |[],_::_,_,h,_=>by simp at h
theorem uf{C:Ctx}{S:AS}{E:Env}{a:Act}{w:World}(h:bz C S E a w){i:Nat}{T:TypeId}{js:List Nat}{c:List Oc}(hB:S.b i=some ⟨T,cX js c⟩)(hL:Lv S js (rowsOf c))(hn:js.Nodup):
  ∃us,xL E.M w (E.β i) T c us/\(∀g,fj c us g↔∃j∈js,(E.ν j).ownBlock=some g):=by
 obtain⟨_,q1,_,us,q2,q3⟩:=h.bx i _ hB;obtain⟨p1,p2⟩:=Bg h hL q3;have hlen:=hL.len;have Mj:∀g,fj c us g↔∃j∈js,(E.ν j).ownBlock=some g:=λg=>by
  unfold fj;rw[p2];constructor
  ·rintro⟨⟨R,v⟩,hm,hg⟩;obtain⟨j,hj,rfl⟩:=List.mem_map.1 (nA hm).2;exact⟨j,hj,hg⟩
  rintro⟨j,hj,hg⟩;obtain⟨R,hR⟩:=Bh (l:=rowsOf c) (k:=js.map E.ν) (by simp[hlen]) (List.mem_map.2 ⟨j,hj,Y⟩);exact⟨(R,E.ν j),hR,hg⟩
 refine⟨us,⟨q2,p1,q1,λg hg=>?_,?_⟩,Mj⟩
 ·obtain⟨j,hj,F6⟩:=(Mj g).1 hg;obtain⟨R,hR⟩:=hL.mem j hj;obtain⟨_,q4⟩:=h.rx j R hR;obtain⟨_,q5,_,q6⟩:=q4 g F6;exact⟨λe=>q6 i _ hB e.symm,q5⟩
 rw[p2];have key:∀(js:List Nat) (Rs:List Row),Lv S js Rs->js.Nodup->S4 (Rs.zip (js.map E.ν)):=by
  intro js
  induction js with
  |nil=>intro Rs hL _;cases Rs with|nil=>exact List.Pairwise.nil|cons _ _=>exact hL.elim
  |cons j js ih=>
   intro Rs hL hn;cases Rs with
   |nil=>exact hL.elim
   |cons R Rs=>
    rw[List.nodup_cons]at hn;rw[List.map_cons,List.zip_cons_cons];refine List.pairwise_cons.2 ⟨λp hp g e1 e2=>?_,ih Rs hL.2 hn.2⟩;obtain⟨R',v'⟩:=p;obtain⟨j',hj',rfl⟩:=List.mem_map.1 (nA hp).2;obtain⟨R2,hR2⟩:=hL.2.mem j' hj';have:=h.iL j j' R R2 hL.1 hR2 g e1 e2;subst this;exact hn.1 hj'
 exact key js _ hL hn
def wL(M:Mem)(β:Nat):Env:=⟨λ_=>β,λ_=>.nilIface,λ_=>False,M⟩
def Fc.oy:Fc->Bool
 |.val _=>true
 |.box i=>Nat.beq i 1000
 |.row _=>false
def AV.oy:AV->Bool
 |.sv _=>true
 |.ptr i _=>Nat.beq i 1000
 |.cmp _ js=>js.all Fc.oy
 |_=>false
def Fc.rnb(i:Nat):Fc->Fc
 |.box _=>.box i
 |c=>c
def AV.rnb(i:Nat):AV->AV
 |.ptr _ o=>.ptr i o
 |.cmp t js=>.cmp t (js.map (Fc.rnb i))
 |x=>x
theorem UF{E:Env}{i:Nat}{x:AV}{v:Value}(hx:x.oy=true)(h:(x.rnb i).holds E v):x.holds (wL E.M (E.β i)) v:=by
 cases x with
 |sv s=>exact h
 |ptr k o=>exact h
 |cmp t js=>
  obtain⟨vs,rfl,h⟩:=h;refine⟨vs,Y,?_⟩;have key:∀(l:List Fc) (vs:List Value),(l.all Fc.oy)=true->HV E (l.map (Fc.rnb i)) vs->HV (wL E.M (E.β i)) l vs:=by
   intro l
   induction l with
   |nil=>intro vs _ h;cases vs with|nil=>trivial|cons _ _=>exact h.elim
   |cons c l ih=>
    intro vs ho h;rw[List.all_cons,Bool.and_eq_true]at ho;cases vs with
    |nil=>exact h.elim
    |cons u vs=>
     refine⟨?_,ih vs ho.2 h.2⟩;cases c with
     |val s=>exact h.1
     |box k=>exact h.1
     |row k=>exact(Bool.false_ne_true ho.1).elim
  exact key js vs hx h
 |_=>exact(Bool.false_ne_true hx).elim
theorem Hx{E:Env}{i:Nat}:∀{l:List AV} {vs:List Value},(l.all AV.oy)=true->ei E (l.map (AV.rnb i)) vs->ei (wL E.M (E.β i)) l vs
 |[],[],_,_=>trivial
 |x::l,v::vs,h,hv=>by
  rw[List.all_cons,Bool.and_eq_true]at h;exact⟨UF h.1 hv.1,Hx h.2 hv.2⟩
 |[],_::_,_,h=>h.elim
 |_::_,[],_,h=>h.elim
def Rw(P:Program)(f:FuncId)(args:List AV)(T:TypeId)(c0:List Oc)(res:SV)(c1:List Oc):Prop:=
 ∀(M:Mem) (w:World) (β:Nat) (vs us:List Value),M.ef w->xL M w β T c0 us->ei (wL M β) args vs->
  Calls P f ⟨vs⟩ w λe w'=>∃v M' us',e=.returned v/\M.le M'/\(∀b o x,M' b o=some x->M b o=some x\/w.heap.size<=b\/fj c0 us b)/\M'.ef w'/\res.h M' v/\
   xL M' w' β T c1 us'/\(∀g,fj c1 us' g->fj c0 us g\/w.heap.size<=g)/\w'.os=w.os/\w'.tape=w.tape/\w'.output=w.output/\w.heap.size<=w'.heap.size/\
   ∀k,k<w.heap.size->k≠β->¬fj c0 us k->w'.heap[k]? =w.heap[k]?
def afT(w:World)(M:Mem)(β:Nat)(c:List Oc)(us:List Value):Ctx:={w0:=w,M0:=M,own:=λk=>k=β\/fj c us k,BN:=λk=>k=β\/fj c us k,kU:=λi=>bif Nat.beq i 1000 then some β else none,gj:=λ_=>none,ro:=none,J:=λ_ _ _ _ _=>True,Ke:=λ_ h=>h,Ua:=λ_ _ h=>(by cases h),jf:=λ_ _ _ _ _ _ _ _ _ _ _ _ _ _ _ _=>trivial}
theorem D7{M:Mem}{w:World}:∀{ids:List Nat} {c:List Oc} {us:List Value},xK M w c us->∀{i:Nat} {R:Row},(i,R)∈ids.zip (rowsOf c)->∃v,(i,R,v)∈ids.zip (cS c us)
 |ids,.s x::l,v::vs,h,i,R,hm=>by
  have hm':(i,R)∈ids.zip (rowsOf l):=hm;exact D7 (c:=l) (us:=vs) h.2 hm'
 |k::ids,.r R'::l,v::vs,h,i,R,hm=>by
  have hm':(i,R)∈(k,R')::ids.zip (rowsOf l):=hm;rw[cS,List.zip_cons_cons];rcases List.mem_cons.1 hm' with e|e
  ·cases e;exact⟨v,by simp⟩
  obtain⟨v',h'⟩:=D7 (ids:=ids) (c:=l) (us:=vs) h.2 e;exact⟨v',List.mem_cons_of_mem _ h'⟩
 |[],.r _::_,_::_,_,_,_,hm=>by simp at hm
 |_,[],[],_,_,_,hm=>by simp[rowsOf]at hm
 |_,[],_::_,h,_,_,_=>h.elim
 |_,.s _::_,[],h,_,_,_=>h.elim
 |_,.r _::_,[],h,_,_,_=>h.elim
theorem S5{n:Nat}{args:List AV}{T:TypeId}{c:List Oc}{M:Mem}{w:World}{β:Nat}{vs us:List Value}(ids:List Nat)(hM:M.ef w)(ho:xL M w β T c us)(hv:ei (wL M β) args vs)(S6:args.all AV.oy=true)(hn:args.length<=n)(Kh:ids.Nodup)(hil:ids.length=(rowsOf c).length):
  bz (afT w M β c us) (AS.J8 n args [(1000,⟨T,cX ids c⟩)] (ids.zip (rowsOf c))) ⟨λ_=>β,pV (ids.zip (cS c us)) (λ_=>.nilIface),λ_=>False,M⟩ {tmps:=⟨vs⟩++Array.replicate (n-(⟨vs⟩:Array Value).size) undef,defers:=[]} w:=by
 have hl:=hv.length;have hrv:(cS c us).length=(rowsOf c).length:=by rw[<-l8 ho.al,List.length_map]
 have hnd:((ids.zip (cS c us)).map (·.1)).Nodup:=by rw[Hw (by omega)];exact Kh
 have ac1:∀s,(zA args s).oy=true:=λs=>by
  rcases DI (l:=args) (k:=s)with e|e
  ·rw[e];rfl
  exact List.all_eq_true.1 S6 _ e
 have oyB:∀x:AV,x.oy=true->(∀j,x.mb j->j=1000)/\∀j,¬x.mr j:=λx hx=>by
  cases x with
  |sv s=>exact⟨λj e=>e.elim,λj e=>e⟩
  |ptr k o=>exact⟨λj e=>by cases e;exact Nat.eq_of_beq_eq_true hx,λj e=>e⟩
  |cmp t js=>
   refine⟨λj e=>?_,λj e=>?_⟩
   ·exact Nat.eq_of_beq_eq_true (List.all_eq_true.1 hx _ e)
   exact Bool.false_ne_true (List.all_eq_true.1 hx _ e)
  |_=>exact(Bool.false_ne_true hx).elim
 have hall:ei ⟨λ_=>β,pV (ids.zip (cS c us)) (λ_=>.nilIface),λ_=>False,M⟩ args vs:=by
  refine hv.imp (λx hx v hh=>?_);exact AV.dL (E:=wL M β) (E':=⟨λ_=>β,pV (ids.zip (cS c us)) (λ_=>.nilIface),λ_=>False,M⟩) (Mem.le_refl _) (λ_ _=>rfl) (λj hj=>absurd hj ((oyB x (List.all_eq_true.1 S6 x hx)).2 j)) hh
 have live:∀j R,(AS.J8 n args [(1000,⟨T,cX ids c⟩)] (ids.zip (rowsOf c))).r j=.live R->(j,R)∈ids.zip (rowsOf c):=λj R hj=>by
  have hj:(match J5 (ids.zip (rowsOf c)) j with|some R=>qG.live R|none=>.un)=.live R:=hj;cases e:J5 (ids.zip (rowsOf c)) j with
  |none=>rw[e]at hj;cases hj
  |some R'=>rw[e]at hj;cases hj;exact Hl e
 have isLive:∀j∈ids,(AS.J8 n args [(1000,⟨T,cX ids c⟩)] (ids.zip (rowsOf c))).r j≠ .un:=λj hj=>by
  have key:∀(ids:List Nat) (Rs:List Row),ids.length=Rs.length->j∈ids->∃R,J5 (ids.zip Rs) j=some R:=by
   intro ids
   induction ids with
   |nil=>intro _ _ h;cases h
   |cons k ids ih=>
    intro Rs hl hm;cases Rs with
    |nil=>simp at hl
    |cons R Rs=>
     rw[List.zip_cons_cons,J5];by_cases e:j=k
     ·subst e;exact⟨R,by simp⟩
     rw[bV e];rcases List.mem_cons.1 hm with q|q
     ·exact absurd q e
     exact ih Rs (by simpa using hl) q
  obtain⟨R,hR⟩:=key ids _ hil hj;show(match J5 (ids.zip (rowsOf c)) j with|some R=>qG.live R|none=>.un)≠ .un;rw[hR];simp
 have box:∀j B,(AS.J8 n args [(1000,⟨T,cX ids c⟩)] (ids.zip (rowsOf c))).b j=some B->j=1000/\B=⟨T,cX ids c⟩:=λj B h=>by
  have:=xu h;simpa using this
 have VP:(AS.J8 n args [(1000,⟨T,cX ids c⟩)] (ids.zip (rowsOf c))).b 1000=some ⟨T,cX ids c⟩:=rfl
 exact{
  wf:=by
   refine⟨λs j hj=>?_,λs j hj=>?_,λi B hB x hx j hj=>?_,λi B hB x hx j hj=>?_⟩
   ·have:=(oyB _ (ac1 s)).1 j hj;subst this;exact⟨_,VP⟩
   ·exact absurd hj ((oyB _ (ac1 s)).2 j)
   ·obtain⟨rfl,rfl⟩:=box i B hB;exact absurd hj ((wK x hx).1 j)
   obtain⟨rfl,rfl⟩:=box i B hB;exact isLive j ((wK x hx).2 j hj)
  marks:=⟨[],Y,List.nodup_nil,by simp⟩
  size:=by simp[AS.J8];omega
  os:=rfl
  tape:=rfl
  output:=rfl
  grown:=Nat.le_refl _
  frame:=λ_ _ _=>rfl
  m0:=Mem.le_refl _
  gE:=λ_ _ _ e=>.inl e
  ef:=hM
  tm:=λs=>QN hall s
  bx:=λi B h=>by
   obtain⟨rfl,rfl⟩:=box i B h;refine⟨.inr (.inl Y),ho.nb,λh=>h,us,ho.hp,?_⟩;exact wJ (w:=w) hil ho.al (λj p hm=>mU (R:=p.1) (v:=p.2) hnd hm)
  inj:=λi j B1 B2 hi hj _=>by rw[(box i B1 hi).1,(box j B2 hj).1]
  rx:=λj R hj=>by
   obtain⟨v,hm⟩:=D7 ho.al (live j R hj);have hν:pV (ids.zip (cS c us)) (λ_=>Value.nilIface) j=v:=mU hnd hm;show(∃vs:List Value,w.ownsRow 0 R.E R.sz (pV (ids.zip (cS c us)) (λ_=>.nilIface) j) R.n vs/\SV.fX M R.cells vs)/\_;rw[hν];refine⟨pW ho.al (R,v) (nA hm).2,λg hg=>?_⟩;have hg:v.ownBlock=some g:=by rw[<-hν];exact hg
   have hb:fj c us g:=⟨(R,v),(nA hm).2,hg⟩;obtain⟨q1,q2⟩:=ho.nr g hb;refine⟨.inr (.inr hb),q2,λh=>h,λk B _ e=>q1 e.symm⟩
  iL:=λj j' R R' h1 h2 g e1 e2=>by
   obtain⟨v,hm⟩:=D7 ho.al (live j R h1);obtain⟨v',hm'⟩:=D7 ho.al (live j' R' h2);have hν:pV (ids.zip (cS c us)) (λ_=>Value.nilIface) j=v:=mU hnd hm;have aoD:pV (ids.zip (cS c us)) (λ_=>Value.nilIface) j'=v':=mU hnd hm';exact Fz Kh ho.ap j R v j' R' v' g hm hm' (by rw[<-hν];exact e1) (by rw[<-aoD];exact e2)
  kU:=λi b e=>by
   simp only[afT]at e;cases h:Nat.beq i 1000 with
   |false=>rw[h]at e;cases e
   |true=>rw[h]at e;cases e;rfl
  gj:=λi v e=>by cases e
  qf:=λb e=>e.elim
  jj:=trivial}
theorem wM{P:Program}{f:FuncId}{fn:Func}{code:Code}{args:List AV}{T:TypeId}{c0 c1:List Oc}{res:SV}(ids:List Nat)(hf:P.funcs[f]? =some fn)(hb:fn.body=some code)(hn:args.length<=fn.ntmps)(S6:args.all AV.oy=true)(Kh:ids.Nodup)(hil:ids.length=(rowsOf c0).length)
  (h:∀(w:World) (M:Mem) (β:Nat) (us:List Value),Ok P (afT w M β c0 us) code (AS.J8 fn.ntmps args [(1000,⟨T,cX ids c0⟩)] (ids.zip (rowsOf c0))) (λe S=>(e=.normal\/e=.ret)/\VD P S fn.results.toList res/\∃ks:List Nat,S.b 1000=some ⟨T,cX ks c1⟩/\Lv S ks (rowsOf c1)/\ks.Nodup)):Rw P f args T c0 res c1:=by
 intro M w β vs us hM ho hv;refine jv Y hf hb (S5 ids hM ho hv S6 hn Kh hil) (h w M β us) ?_;rintro S' E a w' ⟨hr,ks,hB,hL,hk⟩ hh;obtain⟨v,hv,hx⟩:=(E5.sv hr).run hh;have hβ:E.β 1000=β:=hh.kU 1000 β Y;obtain⟨us',ho',pN⟩:=uf hh hB hL hk;rw[hβ]at ho';refine⟨v,hv,v,E.M,us',Y,hh.m0,λb o x e=>?_,hh.ef,hx,ho',λg hg=>?_,hh.os,hh.tape,hh.output,hh.grown,λk hk hne hno=>hh.frame k hk (λe=>e.elim hne hno)⟩
 ·rcases hh.gE b o x e with q|q|q|q
  ·exact .inl q
  ·exact .inr (.inl q)
  ·rw[show b=β from q,ho'.nb o]at e;cases e
  exact .inr (.inr q)
 obtain⟨j,hj,F6⟩:=(pN g).1 hg;obtain⟨R,hR⟩:=hL.mem j hj;obtain⟨_,q⟩:=hh.rx j R hR;rcases(q g F6).1 with q1|q1|q1
 ·exact .inr q1
 ·exact absurd q1 (ho'.nr g hg).1
 exact .inl q1
end
section
open Go.RowKit
def Un(S:AS):List Nat->Prop
 |[]=>True
 |k::ks=>(S.r k=.un/\k<1000)/\Un S ks
theorem Un.mem{S:AS}:∀{ks:List Nat},Un S ks->∀k∈ks,S.r k=.un/\k<1000
 |k::ks,h,j,hj=>by
  rcases List.mem_cons.1 hj with rfl|hj
  ·exact h.1
  exact Un.mem h.2 j hj
 |[],_,j,hj=>by cases hj
theorem Un.congr{S S':AS}:∀{ks:List Nat},(∀k∈ks,S'.r k=S.r k)->Un S ks->Un S' ks
 |[],_,_=>trivial
 |k::ks,h,hu=>⟨by rw[h k (by simp)];exact hu.1,Un.congr (λj hj=>h j (List.mem_cons_of_mem _ hj)) hu.2⟩
theorem Lv.congr{S S':AS}:∀{js:List Nat} {Rs:List Row},(∀k∈js,S'.r k=S.r k)->Lv S js Rs->Lv S' js Rs
 |[],[],_,_=>trivial
 |j::js,R::Rs,h,hl=>⟨by rw[h j (by simp)];exact hl.1,Lv.congr (λk hk=>h k (List.mem_cons_of_mem _ hk)) hl.2⟩
 |[],_::_,_,h=>h.elim
 |_::_,[],_,h=>h.elim
def D8(js ks:List Nat)(c:List Oc):List (Nat×qG):=js.map (λj=>(j,qG.dead))++(ks.zip (rowsOf c)).map (λp=>(p.1,.live p.2))
theorem Pg:∀(ks:List Nat) (l:List (Row×Value)),(ks.zip l).map (λn=>(n.1,qG.live n.2.1))=(ks.zip (l.map (·.1))).map (λp=>(p.1,.live p.2))
 |[],_=>rfl
 |_::_,[]=>rfl
 |k::ks,p::l=>by rw[List.map_cons,List.zip_cons_cons,List.zip_cons_cons,List.map_cons,List.map_cons,Pg ks l]
theorem Ph{M:Mem}{w:World}{c:List Oc}{us:List Value}(h:xK M w c us)(js ks:List Nat):D6 js (ks.zip (cS c us))=D8 js ks c:=by
 unfold D6 D8;rw[Pg,l8 h]
section steps
variable {P:Program}{C:Ctx}{ops:Array Oper}{S:AS}{nd:Bool}{K:List Ac->AS->Prop}{rest:List Oper}{acc:List Ac}
variable {gd:Option (Nat×Bool)}{rg:List Nat}{d:Nat}{ty:TypeId}{pos:String}{aft:Array Edge}{x y z:Operand}{T U E0:TypeId}
theorem bz.aaC{E:Env}{a:Act}{w w':World}(h:bz C S E a w){i:Nat}{js ks:List Nat}{c0 c1:List Oc}{us us':List Value}{M':Mem}(hB:S.b i=some ⟨T,cX js c0⟩)(hL:Lv S js (rowsOf c0))(hks:ks.Nodup)(J7:ks.length=(rowsOf c1).length)(hku:Un S ks)
  (IS:∀g,fj c0 us g↔∃j∈js,(E.ν j).ownBlock=some g) (hM:E.M.le M') (hn:∀b o x,M' b o=some x->E.M b o=some x\/w.heap.size<=b\/fj c0 us b) (hin:M'.ef w') (ho:xL M' w' (E.β i) T c1 us') (hg:∀g,fj c1 us' g->fj c0 us g\/w.heap.size<=g)
  (hos:w'.os=w.os) (yT:w'.tape=w.tape) (hout:w'.output=w.output) (hsize:w.heap.size<=w'.heap.size) (pN:∀k,k<w.heap.size->k≠E.β i->¬fj c0 us k->w'.heap[k]? =w.heap[k]?):
  ∃E':Env,E'.M=M'/\E'.β=E.β/\bz C (AS.cL (D8 js ks c1) (AS.iO [(i,⟨T,cX ks c1⟩)] S)) E' a w':=by
 have hrv:(cS c1 us').length=(rowsOf c1).length:=by rw[<-l8 ho.al,List.length_map]
 have hnd:((ks.zip (cS c1 us')).map (·.1)).Nodup:=by rw[Hw (by omega)];exact hks
 rw[<-Ph ho.al js ks];refine⟨{E with M:=M',ν:=pV (ks.zip (cS c1 us')) E.ν},Y,Y,h.ajP hB js (ks.zip (cS c1 us')) (λj hj=>hL.mem j hj) (λk R v hm=>hku.mem k (nA hm).1) hnd hM (λb o x e=>?_) hin ho.hp ho.nb ?_ (λx hx=>?_) (λk R v hm=>?_) (Fz hks ho.ap) hos yT hout hsize (λk hk hne hno=>pN k hk hne (λq=>?_))⟩
 ·rcases hn b o x e with q|q|q
  ·exact .inl q
  ·exact .inr (.inl q)
  exact .inr (.inr ((IS b).1 q))
 ·exact wJ (E:={E with M:=M',ν:=pV (ks.zip (cS c1 us')) E.ν}) (w:=w') J7 ho.al (λj p hm=>mU (R:=p.1) (v:=p.2) hnd hm)
 ·obtain⟨q1,q2⟩:=wK x hx;refine⟨q1,λj hj=>?_⟩;have hj:=q2 j hj;have key:∀(ks:List Nat) (l:List (Row×Value)),ks.length=l.length->j∈ks->∃R v,(j,R,v)∈ks.zip l:=by
   intro ks
   induction ks with
   |nil=>intro _ _ h;cases h
   |cons k ks ih=>
    intro l hl hm;cases l with
    |nil=>simp at hl
    |cons p l=>
     rw[List.zip_cons_cons];rcases List.mem_cons.1 hm with q|q
     ·subst q;exact⟨p.1,p.2,by simp⟩
     obtain⟨R,v,h⟩:=ih l (by simpa using hl) q;exact⟨R,v,List.mem_cons_of_mem _ h⟩
  exact key ks _ (by omega) hj
 ·refine⟨pW ho.al (R,v) (nA hm).2,λg N0=>?_⟩;have hb:fj c1 us' g:=⟨(R,v),(nA hm).2,N0⟩;obtain⟨q1,q2⟩:=ho.nr g hb;refine⟨?_,q2,q1⟩;rcases hg g hb with q|q
  ·exact .inl ((IS g).1 q)
  exact .inr q
 obtain⟨j,hj,e⟩:=(IS k).1 q;exact hno j hj e
theorem RT.IT(hg:Gd ops S gd rg){f:FuncId}[cZ P f]{g:Operand}{xs:Array Operand}{at_:Array TypeId}{args:List AV}{T:TypeId}{c0 c1:List Oc}{res:SV}(hp:Rw P f args T c0 res c1)(i:Nat)(js ks:List Nat)(hB:S.b i=some ⟨T,cX js c0⟩)(hL:Lv S js (rowsOf c0))(hjs:js.Nodup)(hks:ks.Nodup)(J7:ks.length=(rowsOf c1).length)(hku:Un S ks)
  (S6:args.all AV.oy=true) (hf:S.ev g=.sv (.v (.func (.func f) #[] #[]))) (hargs:CM S xs.toList (args.map (AV.rnb i))) (hd:d<S.n)
  (next:RunT P C ops nd K rest (⟨rg++(bk g++xs.toList.flatMap bk),[i],js++ks,⟨some (d,.sv res),[(i,⟨T,cX ks c1⟩)],D8 js ks c1⟩⟩::acc) ((AS.cL (D8 js ks c1) (AS.iO [(i,⟨T,cX ks c1⟩)] S)).set d (.sv res))):RunT P C ops nd K (⟨some d,.call ⟨.value g,xs,at_⟩,ty,pos,aft,gd⟩::rest) acc S:=by
 refine .inl ⟨_,[i],js++ks,_,?_,next⟩;rintro S' hn ht hb hr k a w L Q ho ⟨E,h⟩ hLL;refine dw (C:=C) ho (hg.wanted h (λs hs=>ht s (List.mem_append_left _ hs)) Y) ?_;have As:a.eval g=.func (.func f) #[] ⟨[]⟩:=by
  have h1:=h.ev g;rw[bR (λ_ h=>List.mem_append_right _ (List.mem_append_left _ h)) ht,hf]at h1;exact h1
 have hall:=Hx S6 (CM.vals h hargs (λs hs=>ht s (List.mem_append_right _ (List.mem_append_right _ hs))));have iP:S'.b i=some ⟨T,cX js c0⟩:=by rw[hb i (by simp)];exact hB
 have hL':Lv S' js (rowsOf c0):=hL.congr (λk hk=>hr k (List.mem_append_left _ hk));have aoE:Un S' ks:=hku.congr (λk hk=>hr k (List.mem_append_right _ hk));obtain⟨us,ho1,IS⟩:=uf h iP hL' hjs;refine dm (C:=C) (by intro c h;cases h) (qQ As) ?_;rw[List.append_nil];refine⟨λh=>by simp at h,jN ((hp E.M w (E.β i) _ us h.ef ho1 hall).mono ?_)⟩;rintro e w' ⟨v,M',us',rfl,hM,hnew,hin,hv,SW,ZI,hos,yT,hout,hsize,pN⟩;obtain⟨E',e1,e2,h1⟩:=h.aaC iP hL' hks J7 aoE IS hM hnew hin SW ZI hos yT hout hsize pN;refine hLL _ _ ⟨_,h1.put (x:=.sv res) (v:=v) (by show res.h E'.M v;rw[e1];exact hv) ?_ ik⟩;rw[(ij _ _).1];show d<S'.n;omega
theorem RT.dh(hg:Gd ops S gd rg){i o:Nat}(hx:S.ev x=.ptr i o)(hd:d<S.n)
  (next:RunT P C ops nd K rest (⟨rg++bk x,[],[],⟨some (d,.ptr i o),[],[]⟩⟩::acc) (S.set d (.ptr i o))):RunT P C ops nd K (⟨some d,.nilCheck x,ty,pos,aft,gd⟩::rest) acc S:=
 RT.value hg (bk x) [] [] (.ptr i o) hd (by intro c h;cases h) (λS' ht _ _ E a w h=>by
  have hx':S'.ev x=.ptr i o:=by rw[bR (λ_ h=>h) ht,hx]
  have h1:=h.ev x;rw[hx']at h1;have h2:a.eval x=.pointer (some ⟨E.β i,o,none⟩):=h1;exact⟨a.eval x,by simp[execOp,h2],h1,qM h.wf hx'⟩) next
class S7 (P:Program) (T:TypeId):Prop where
 u:P.underlying T=some (.pointer (P.pointee T))
theorem RT.WS(hg:Gd ops S gd rg)[tT:S7 P T]{i o:Nat}(hx:S.ev x=.ptr i o)(hy:S.ev y=.sv (.v (.pointer none)))(hd:d<S.n)
  (next:RunT P C ops nd K rest (⟨rg++(bk x++bk y),[],[],⟨some (d,.sv (.v (.bool false))),[],[]⟩⟩::acc) (S.set d (.sv (.v (.bool false))))):RunT P C ops nd K (⟨some d,.binOp .eql T x y U,ty,pos,aft,gd⟩::rest) acc S:=
 RT.value hg (bk x++bk y) [] [] (.sv (.v (.bool false))) hd (by intro c h;cases h) (λS' ht _ _ E a w h=>by
  have h1:=h.ev x;rw[bR (λ_ h=>List.mem_append_left _ h) ht,hx]at h1;have h2:=h.ev y;rw[bR (λ_ h=>List.mem_append_right _ h) ht,hy]at h2;have h1:a.eval x=.pointer (some ⟨E.β i,o,none⟩):=h1;have h2:a.eval y=.pointer none:=h2;have e:=run_eql_pointer_nil (P:=P) w T (some ⟨E.β i,o,none⟩) tT.u;refine⟨.bool false,?_,Y,ik⟩;simp[execOp,h1,h2,eqGuard,e]) next
theorem RT.Rx(hg:Gd ops S gd rg)[tT:S7 P T](hx:S.ev x=.sv (.v (.pointer none)))(hy:S.ev y=.sv (.v (.pointer none)))(hd:d<S.n)
  (next:RunT P C ops nd K rest (⟨rg++(bk x++bk y),[],[],⟨some (d,.sv (.v (.bool true))),[],[]⟩⟩::acc) (S.set d (.sv (.v (.bool true))))):RunT P C ops nd K (⟨some d,.binOp .eql T x y U,ty,pos,aft,gd⟩::rest) acc S:=
 RT.N4 hg (by intro c h;cases h) hx hy hd (λρ w h1 h2=>by
  have e:=run_eql_pointer_nil (P:=P) w T none tT.u;simp[execOp,h1,h2,eqGuard,e]) next
def Fc.av:Fc->AV
 |.val s=>.sv s
 |.box i=>.ptr i 0
 |.row i=>.row i
theorem RT.D9(hg:Gd ops S gd rg){i:Nat}{js:List Fc}{s:Fc}(hx:S.ev x=.cmp .Cn js)(hi:js[i]? =some s)(hd:d<S.n)
  (next:RunT P C ops nd K rest (⟨rg++bk x,[],[],⟨some (d,s.av),[],[]⟩⟩::acc) (S.set d s.av)):RunT P C ops nd K (⟨some d,.extract x i,ty,pos,aft,gd⟩::rest) acc S:=
 RT.value hg (bk x) [] [] s.av hd (by intro c h;cases h) (λS' ht _ _ E a w h=>by
  have hx':S'.ev x=.cmp .Cn js:=by rw[bR (λ_ h=>h) ht,hx]
  have h1:=h.ev x;rw[hx']at h1;obtain⟨l1,l2⟩:=qM h.wf hx';obtain⟨vs,hv,hall⟩:=h1;have hv:a.eval x=.tuple ⟨vs⟩:=hv;obtain⟨u,hu,hs⟩:=hall.get hi;have hm:=List.mem_of_getElem? hi;refine⟨u,by simp[execOp,hv,Instr.extract,hu],?_,λj e=>?_,λj e=>?_⟩
  ·cases s<;>exact hs
  ·cases s with
   |val s=>exact e.elim
   |box k=>have e:j=k:=e;subst e;exact l1 j hm
   |row k=>exact e.elim
  cases s with
  |val s=>exact e.elim
  |box k=>exact e.elim
  |row k=>have e:j=k:=e;subst e;exact l2 j hm) next
def aoF(tp:Bool)(p:Value)(rs:List Value):Value:=bif tp then .tuple ⟨p::rs⟩else p
def Ry(P:Program)(f:FuncId)(args:List SV)(tp:Bool)(rest:List SV)(T:TypeId)(c:List Oc):Prop:=
 ∀(M:Mem) (w:World) (vs:List Value),M.ef w->SV.fX M args vs->
  Calls P f ⟨vs⟩ w λe w'=>∃β rs M' us,e=.returned (aoF tp (.pointer (some ⟨β,0,none⟩)) rs)/\M.le M'/\(∀b o x,M' b o=some x->M b o=some x\/w.heap.size<=b)/\M'.ef w'/\SV.fX M' rest rs/\
   xL M' w' β T c us/\w.heap.size<=β/\(∀g,fj c us g->w.heap.size<=g)/\Below w.heap.size w w'
theorem Pj{w:World}{M:Mem}{S':AS}{E:Env}{a:Act}{w':World}{k:Nat}{ks:List Nat}{c:List Oc}(hB:S'.b k=some ⟨T,cX ks c⟩)(hL:Lv S' ks (rowsOf c))(hk:ks.Nodup)(hh:bz (Mh w M) S' E a w'):
  ∃us,M.le E.M/\(∀b o x,E.M b o=some x->M b o=some x\/w.heap.size<=b)/\E.M.ef w'/\xL E.M w' (E.β k) T c us/\w.heap.size<=E.β k/\(∀g,fj c us g->w.heap.size<=g)/\Below w.heap.size w w':=by
 obtain⟨us,ho,pN⟩:=uf hh hB hL hk;refine⟨us,hh.m0,λb o x e=>?_,hh.ef,ho,(hh.bx k _ hB).1.elim id (λh=>h.elim),λg hg=>?_,hh.os,hh.tape,hh.output,hh.grown,λk hk=>hh.frame k hk (λh=>h)⟩
 ·rcases hh.gE b o x e with h|h|h
  ·exact .inl h
  ·exact .inr h
  exact h.elim
 obtain⟨j,hj,F6⟩:=(pN g).1 hg;obtain⟨R,hR⟩:=hL.mem j hj;exact((hh.rx j R hR).2 g F6).1.elim id (λh=>h.elim)
theorem Gm{f:FuncId}{fn:Func}{code:Code}{args:List SV}{c:List Oc}(hf:P.funcs[f]? =some fn)(hb:fn.body=some code)(hn:args.length<=fn.ntmps)
  (h:∀(w:World) (M:Mem) (vs:List Value),SV.fX M args vs->Ok P (Mh w M) code (AS.init fn.ntmps args) (λe S=>(e=.normal\/e=.ret)/\∃(k:Nat) (ks:List Nat),E5 P S fn.results.toList (.ptr k 0)/\S.b k=some ⟨T,cX ks c⟩/\Lv S ks (rowsOf c)/\ks.Nodup)):Ry P f args false [] T c:=by
 intro M w vs hM hvs;refine jv Y hf hb (nJ hM hvs hn) (h w M vs hvs) ?_;rintro S' E a w' ⟨k,ks,hr,hB,hL,hk⟩ hh;obtain⟨v,hv,hx⟩:=hr.run hh;obtain rfl:v=.pointer (some ⟨E.β k,0,none⟩):=hx;obtain⟨us,q1,q2,q3,q4,q5,q6,q7⟩:=Pj hB hL hk hh;exact⟨_,hv,E.β k,[],E.M,us,Y,q1,q2,q3,aq,q4,q5,q6,q7⟩
theorem Pk{f:FuncId}{fn:Func}{code:Code}{args:List SV}{s:SV}{c:List Oc}{t1 t2:Nat}(hf:P.funcs[f]? =some fn)(hb:fn.body=some code)(hn:args.length<=fn.ntmps)(hres:fn.results=#[.tmp t1,.tmp t2])
  (h:∀(w:World) (M:Mem) (vs:List Value),SV.fX M args vs->Ok P (Mh w M) code (AS.init fn.ntmps args) (λe S=>(e=.normal\/e=.ret)/\∃(k:Nat) (ks:List Nat),S.t t1=.ptr k 0/\S.t t2=.sv s/\S.b k=some ⟨T,cX ks c⟩/\Lv S ks (rowsOf c)/\ks.Nodup)):Ry P f args true [s] T c:=by
 intro M w vs hM hvs;refine jv Y hf hb (nJ hM hvs hn) (h w M vs hvs) ?_;rintro S' E a w' ⟨k,ks,hr1,hr2,hB,hL,hk⟩ hh;have h1:=hh.tm t1;rw[hr1]at h1;have h1:a.tmps.getD t1 undef=.pointer (some ⟨E.β k,0,none⟩):=h1;have h2:=hh.tm t2;rw[hr2]at h2;obtain⟨us,q1,q2,q3,q4,q5,q6,q7⟩:=Pj hB hL hk hh;refine⟨.tuple #[.pointer (some ⟨E.β k,0,none⟩),a.tmps.getD t2 undef],?_,E.β k,[a.tmps.getD t2 undef],E.M,us,Y,q1,q2,q3,⟨h2,aq⟩,q4,q5,q6,q7⟩;rw[Array.getD_eq_getD_getElem?]at h1;simp[results,hres,h1]
theorem bz.S8{a:Act}{w:World}:∀(ks:List Nat) (l:List (Row×Value)) {S:AS} {E:Env},bz C S E a w->ks.length=l.length->ks.Nodup->Un S ks->(∀p∈l,∃vs:List Value,w.ownsRow 0 p.1.E p.1.sz p.2 p.1.n vs/\SV.fX E.M p.1.cells vs)->S4 l->(∀p∈l,∀g,p.2.ownBlock=some g->Uf C S E g)->
  ∃E':Env,E'.M=E.M/\E'.β=E.β/\E'.O=E.O/\(∀i p,(i,p)∈ks.zip l->E'.ν i=p.2)/\(∀i,i∉ks->E'.ν i=E.ν i)/\bz C (AS.cL ((ks.zip l).map (λn=>(n.1,.live n.2.1))) S) E' a w
 |[],[],S,E,h,_,_,_,_,_,_=>⟨E,Y,Y,Y,λi p hm=>(by simp at hm),λ_ _=>Y,h⟩
 |k::ks,p::l,S,E,h,hl,hn,hu,ho,ha,hf=>by
  obtain⟨R,v⟩:=p;rw[List.nodup_cons]at hn;obtain⟨ha1,ha2⟩:=List.pairwise_cons.1 ha;obtain⟨vs,ho1,SW⟩:=ho (R,v) (by simp);have h1:=h.Mi hu.1.1 hu.1.2 [] none (.inl ⟨Y,Y⟩) (R':=R) ho1 SW (λg hg=>.inr (hf (R,v) (by simp) g hg)) (zB w none);have hu':Un (AS.cL ([]++[(k,.live R)]) S) ks:=hu.2.congr (λj hj=>by
   show(AS.xX S k _).r j=_;exact AS.pL _ _ _ _ (λe=>hn.1 (e▸hj)))
  obtain⟨E',q1,q2,q3,q4,q5,q6⟩:=bz.S8 ks l h1 (by simpa using hl) hn.2 hu' (λp hp=>ho p (List.mem_cons_of_mem _ hp)) ha2 (λp hp g hg=>by
   obtain⟨f1,f2,f3,f4,f5⟩:=hf p (List.mem_cons_of_mem _ hp) g hg;refine⟨f1,f2,f3,f4,λj R' u0 e=>?_⟩;have u0:(AS.xX S k (.live R)).r j=.live R':=u0;by_cases ej:j=k
   ·subst ej;have e:(if j=j then v else E.ν j).ownBlock=some g:=e;rw[if_pos rfl]at e;exact ha1 p hp g e hg
   rw[AS.pL _ _ _ _ ej]at u0;have e:(if j=k then v else E.ν j).ownBlock=some g:=e;rw[if_neg ej]at e;exact f5 j R' u0 e)
  refine⟨E',q1,q2,q3,λi p hm=>?_,λi hi=>?_,q6⟩
  ·rw[List.zip_cons_cons]at hm;rcases List.mem_cons.1 hm with e|e
   ·cases e;rw[q5 k hn.1];show(if k=k then v else E.ν k)=v;rw[if_pos rfl]
   exact q4 i p e
  rw[q5 i (λhm=>hi (List.mem_cons_of_mem _ hm))];show(if i=k then v else E.ν i)=E.ν i;rw[if_neg (λe=>hi (by rw[e];simp))]
 |[],_::_,_,_,_,hl,_,_,_,_,_=>by simp at hl
 |_::_,[],_,_,_,hl,_,_,_,_,_=>by simp at hl
theorem IU(i:Nat)(B:vS):∀(l:List (Nat×qG)) (S:AS),AS.cL l (S.oz i B)=(AS.cL l S).oz i B
 |[],_=>rfl
 |(j,R)::l,S=>IU i B l (S.xX j R)
theorem Bi{α β:Type}:∀{l:List α} {k:List β} {a:α},l.length=k.length->a∈l->∃b,(a,b)∈l.zip k
 |a::l,c::k,b,h,hb=>by
  rcases List.mem_cons.1 hb with rfl|hb
  ·exact⟨c,by rw[List.zip_cons_cons];simp⟩
  obtain⟨a',h'⟩:=Bi (l:=l) (k:=k) (by simpa using h) hb;exact⟨a',by rw[List.zip_cons_cons];exact List.mem_cons_of_mem _ h'⟩
 |[],_,_,_,hb=>by cases hb
 |_::_,[],_,h,_=>by simp at h
theorem bz.newObj{E:Env}{a:Act}{w w':World}(h:bz C S E a w){i:Nat}(hi:S.b i=none)(hp:C.kU i=none){ks:List Nat}{c:List Oc}{us:List Value}{M':Mem}{β:Nat}(hks:ks.Nodup)(J7:ks.length=(rowsOf c).length)(hku:Un S ks)
  (hM:E.M.le M') (hn:∀b o x,M' b o=some x->E.M b o=some x\/w.heap.size<=b) (hin:M'.ef w') (ho:xL M' w' β T c us) (hβ:w.heap.size<=β) (hg:∀g,fj c us g->w.heap.size<=g) (Oh:Below w.heap.size w w'):
  ∃E':Env,E'.M=M'/\E'.β i=β/\bz C (AS.cL (D8 [] ks c) (AS.iO [(i,⟨T,cX ks c⟩)] S)) E' a w':=by
 have hrv:(cS c us).length=(rowsOf c).length:=by rw[<-l8 ho.al,List.length_map]
 have h0:=h.grow hM hn hin Oh;obtain⟨E1,q1,q2,q3,q4,q5,h1⟩:=bz.S8 ks (cS c us) h0 (by omega) hks hku (pW ho.al) ho.ap (λp hp g N0=>h.Hp (hg g ⟨p,hp,N0⟩) (ho.nr g ⟨p,hp,N0⟩).2);have hS1:AS.cL ((ks.zip (cS c us)).map (λn=>(n.1,.live n.2.1))) S=AS.cL (D8 [] ks c) S:=by rw[<-Ph ho.al [] ks];rfl
 rw[hS1]at h1;obtain⟨f1,f2,f3,f4,f5⟩:=h.Hp (M':=M') hβ ho.nb;have hi1:(AS.cL (D8 [] ks c) S).b i=none:=by rw[(ij _ _).2.2.1];exact hi
 have hfree:Uf C (AS.cL (D8 [] ks c) S) E1 β:=by
  refine⟨f1,by rw[q1];exact f2,by rw[q3];exact f3,λj B hB=>?_,λj R hR e=>?_⟩
  ·rw[(ij _ _).2.2.1]at hB;rw[q2];exact f4 j B hB
  by_cases hj:j∈ks
  ·obtain⟨p,hm⟩:=Bi (l:=ks) (k:=cS c us) (by omega) hj;rw[q4 j p hm]at e;exact(ho.nr β ⟨p,(nA hm).2,e⟩).1 Y
  rw[pB,C8 (λR hm=>by
   obtain⟨x,hx,e⟩:=List.mem_map.1 (show(j,R)∈(ks.zip (rowsOf c)).map (λp=>(p.1,qG.live p.2))from hm);obtain⟨k,R2⟩:=x;have e:k=j:=congrArg Prod.fst e;exact hj (e▸(nA hx).1))]at hR
  rw[q5 j hj]at e;exact f5 j R hR e
 have h2:=h1.SM hi1 hp hfree ho.hp (wJ (w:=w') J7 (by rw[q1];exact ho.al) q4) (λx hx=>by
  obtain⟨p1,p2⟩:=wK x hx;refine⟨λj e=>absurd e (p1 j),λj e=>?_⟩;obtain⟨R,hm⟩:=Bi (l:=ks) (k:=rowsOf c) J7 (p2 j e);obtain⟨R',u0⟩:=IQ (l:=D8 [] ks c) (j:=j) (R:=.live R) (List.mem_map.2 ⟨(j,R),hm,Y⟩);rw[pB,u0];obtain⟨x,hx,e⟩:=List.mem_map.1 (show(j,R')∈(ks.zip (rowsOf c)).map (λp=>(p.1,qG.live p.2))from C9 u0);rw[<-show qG.live x.2=R' from congrArg Prod.snd e];simp)
 refine⟨{E1 with β:=λj=>if j=i then β else E1.β j},q1,?_,?_⟩
 rotate_left 1
 ·rw[show AS.iO [(i,(⟨T,cX ks c⟩:vS))] S=S.oz i ⟨T,cX ks c⟩from Y,IU];exact h2
 show(if i=i then β else E1.β i)=β;rw[if_pos rfl]
theorem RT.FA(hg:Gd ops S gd rg){f:FuncId}[cZ P f]{g:Operand}{xs:Array Operand}{at_:Array TypeId}{args:List SV}{T:TypeId}{c:List Oc}(hp:Ry P f args false [] T c)(ks:List Nat)(hks:ks.Nodup)(J7:ks.length=(rowsOf c).length)(hku:Un S ks)(hf:S.ev g=.sv (.v (.func (.func f) #[] #[])))(hargs:kj S xs.toList args)(hd:d<S.n)(hdb:S.b d=none)(QU:C.kU d=none)
  (next:RunT P C ops nd K rest (⟨rg++(bk g++xs.toList.flatMap bk),[d],ks,⟨some (d,.ptr d 0),[(d,⟨T,cX ks c⟩)],D8 [] ks c⟩⟩::acc) ((AS.cL (D8 [] ks c) (AS.iO [(d,⟨T,cX ks c⟩)] S)).set d (.ptr d 0))):RunT P C ops nd K (⟨some d,.call ⟨.value g,xs,at_⟩,ty,pos,aft,gd⟩::rest) acc S:=by
 refine .inl ⟨_,[d],ks,_,?_,next⟩;rintro S' hn ht hb hr i a w L Q ho ⟨E,h⟩ hL;refine dw (C:=C) ho (hg.wanted h (λs hs=>ht s (List.mem_append_left _ hs)) Y) ?_;have As:a.eval g=.func (.func f) #[] ⟨[]⟩:=by
  have h1:=h.ev g;rw[bR (λ_ h=>List.mem_append_right _ (List.mem_append_left _ h)) ht,hf]at h1;exact h1
 have hall:=kj.vals h hargs (λs hs=>ht s (List.mem_append_right _ (List.mem_append_right _ hs)));have hdn:S'.b d=none:=by rw[hb d (by simp)];exact hdb
 refine dm (C:=C) (by intro c h;cases h) (qQ As) ?_;rw[List.append_nil];refine⟨λh=>by simp at h,jN ((hp E.M w _ h.ef hall).mono ?_)⟩;rintro e w' ⟨β,rs,M',us,rfl,hM,hnew,hin,hrs,SW,hβ,ZI,Oh⟩;obtain⟨E',e1,e2,h1⟩:=h.newObj hdn QU hks J7 (hku.congr hr) hM hnew hin SW hβ ZI Oh;refine hL _ _ ⟨_,h1.put (x:=.ptr d 0) (v:=.pointer (some ⟨β,0,none⟩)) (by show _=Value.pointer (some ⟨E'.β d,0,none⟩);rw[e2]) ?_ ⟨λj e=>?_,λj e=>e.elim⟩⟩
 ·rw[(ij _ _).1];show d<S'.n;omega
 have e:j=d:=e;subst e;rw[(ij _ _).2.2.1];exact⟨_,AS.dO _ _ _⟩
theorem RT.S9(hg:Gd ops S gd rg){f:FuncId}[cZ P f]{g:Operand}{xs:Array Operand}{at_:Array TypeId}{args:List SV}{T:TypeId}{c:List Oc}{s:SV}(hp:Ry P f args true [s] T c)(ks:List Nat)(hks:ks.Nodup)(J7:ks.length=(rowsOf c).length)(hku:Un S ks)(hf:S.ev g=.sv (.v (.func (.func f) #[] #[])))(hargs:kj S xs.toList args)(hd:d<S.n)(hdb:S.b d=none)(QU:C.kU d=none)
  (next:RunT P C ops nd K rest (⟨rg++(bk g++xs.toList.flatMap bk),[d],ks,⟨some (d,.cmp .Cn [.box d,.val s]),[(d,⟨T,cX ks c⟩)],D8 [] ks c⟩⟩::acc) ((AS.cL (D8 [] ks c) (AS.iO [(d,⟨T,cX ks c⟩)] S)).set d (.cmp .Cn [.box d,.val s]))):RunT P C ops nd K (⟨some d,.call ⟨.value g,xs,at_⟩,ty,pos,aft,gd⟩::rest) acc S:=by
 refine .inl ⟨_,[d],ks,_,?_,next⟩;rintro S' hn ht hb hr i a w L Q ho ⟨E,h⟩ hL;refine dw (C:=C) ho (hg.wanted h (λs hs=>ht s (List.mem_append_left _ hs)) Y) ?_;have As:a.eval g=.func (.func f) #[] ⟨[]⟩:=by
  have h1:=h.ev g;rw[bR (λ_ h=>List.mem_append_right _ (List.mem_append_left _ h)) ht,hf]at h1;exact h1
 have hall:=kj.vals h hargs (λs hs=>ht s (List.mem_append_right _ (List.mem_append_right _ hs)));have hdn:S'.b d=none:=by rw[hb d (by simp)];exact hdb
 refine dm (C:=C) (by intro c h;cases h) (qQ As) ?_;rw[List.append_nil];refine⟨λh=>by simp at h,jN ((hp E.M w _ h.ef hall).mono ?_)⟩;rintro e w' ⟨β,rs,M',us,rfl,hM,hnew,hin,hrs,SW,hβ,ZI,Oh⟩;obtain⟨E',e1,e2,h1⟩:=h.newObj hdn QU hks J7 (hku.congr hr) hM hnew hin SW hβ ZI Oh
 match rs,hrs with
 |[r],hrs=>
  refine hL _ _ ⟨_,h1.put (x:=.cmp .Cn [.box d,.val s]) (v:=.tuple #[.pointer (some ⟨β,0,none⟩),r]) ⟨[.pointer (some ⟨β,0,none⟩),r],Y,by show _=Value.pointer (some ⟨E'.β d,0,none⟩);rw[e2],by show s.h E'.M r;rw[e1];exact hrs.1,aq⟩ ?_ ⟨λj e=>?_,λj e=>?_⟩⟩
  ·rw[(ij _ _).1];show d<S'.n;omega
  ·have e:j=d:=by simpa[AV.mb]using e
   subst e;rw[(ij _ _).2.2.1];exact⟨_,AS.dO _ _ _⟩
  simp[AV.mr]at e
end steps
end
section
open Go.RowKit
def FB(P:Program)(f:FuncId)(args:List AV)(T:TypeId)(c:List Oc)(res:SV):Prop:=
 ∀(M:Mem) (w:World) (β:Nat) (vs us:List Value),M.ef w->xL M w β T c us->ei (wL M β) args vs->
  Calls P f ⟨vs⟩ w λe w'=>∃v M',e=.returned v/\M.le M'/\(∀b o x,M' b o=some x->M b o=some x\/w.heap.size<=b)/\M'.ef w'/\res.h M' v/\
   xL M' w' β T c us/\w'.os=w.os/\w'.tape=w.tape/\w'.output=w.output/\w.heap.size<=w'.heap.size/\∀k,k<w.heap.size->k≠β->¬fj c us k->w'.heap[k]? =w.heap[k]?
def lkV:List (Nat×Row×Value)->Nat->Option Value
 |[],_=>none
 |(k,_,v)::l,j=>if j=k then some v else lkV l j
theorem MN:∀{l:List (Nat×Row×Value)} {j:Nat} {v:Value},lkV l j=some v->∃R,(j,R,v)∈l
 |(k,R,u)::l,j,v,h=>by
  rw[lkV]at h;by_cases e:j=k
  ·rw[if_pos e]at h;cases h;subst e;exact⟨R,by simp⟩
  rw[if_neg e]at h;obtain⟨R',hm⟩:=MN h;exact⟨R',List.mem_cons_of_mem _ hm⟩
 |[],_,_,h=>by cases h
theorem WT:∀{l:List (Nat×Row×Value)} {j:Nat} {R:Row} {v:Value},(l.map (·.1)).Nodup->(j,R,v)∈l->lkV l j=some v
 |(k,R',v')::l,j,R,v,hn,h=>by
  rw[List.map_cons,List.nodup_cons]at hn;rw[lkV];rcases List.mem_cons.1 h with e|e
  ·cases e;rw[if_pos rfl]
  have:j≠k:=λq=>hn.1 (List.mem_map.2 ⟨(j,R,v),e,q⟩);rw[if_neg this];exact WT hn.2 e
theorem afW{ids:List Nat}(h:(ids.all λi=>Nat.ble 1000 i)=true):∀i∈ids,1000<=i:=λi hi=>af (List.all_eq_true.1 h i hi)
def aaF(w:World)(M:Mem)(β:Nat)(c:List Oc)(us:List Value)(ids:List Nat)(Kh:(ids.all λi=>Nat.ble 1000 i)=true):Ctx:={w0:=w,M0:=M,own:=λk=>k=β\/fj c us k,BN:=λk=>k=β\/fj c us k,kU:=λi=>bif Nat.beq i 1000 then some β else none,gj:=lkV (ids.zip (cS c us)),ro:=none,J:=λ_ _ _ _ _=>True,Ke:=λ_ h=>h,Ua:=λ_ _ h=>(by obtain⟨R,hm⟩:=MN h;exact afW Kh _ (nA hm).1),jf:=λ_ _ _ _ _ _ _ _ _ _ _ _ _ _ _ _=>trivial}
def Oc.cst:Oc->Prop
 |.s x=>∃v,x=.v v
 |.r _=>True
def MO:List Oc->Prop
 |[]=>True
 |c::l=>c.cst/\MO l
theorem MP{M M':Mem}{w w':World}:∀{c:List Oc} {us us':List Value},MO c->xK M w c us->xK M' w' c us'->cS c us=cS c us'->us=us'
 |[],[],[],_,_,_,_=>rfl
 |.s x::l,v::vs,v'::vs',hc,h,h',e=>by
  obtain⟨y,rfl⟩:=hc.1;have e1:v=y:=h.1;have e2:v'=y:=h'.1;rw[e1,e2,MP hc.2 h.2 h'.2 e]
 |.r R::l,v::vs,v'::vs',hc,h,h',e=>by
  rw[cS,cS]at e;have e1:=(List.cons.inj e).1;have e2:=(List.cons.inj e).2;rw[MP hc.2 h.2 h'.2 e2];rw[(Prod.mk.inj e1).2]
 |[],[],_::_,_,_,h,_=>h.elim
 |[],_::_,_,_,h,_,_=>h.elim
 |.s _::_,[],_,_,h,_,_=>h.elim
 |.r _::_,[],_,_,h,_,_=>h.elim
 |.s _::_,_::_,[],_,_,h,_=>h.elim
 |.r _::_,_::_,[],_,_,h,_=>h.elim
section steps
variable {P:Program}{C:Ctx}{ops:Array Oper}{S:AS}{nd:Bool}{K:List Ac->AS->Prop}{rest:List Oper}{acc:List Ac}
variable {gd:Option (Nat×Bool)}{rg:List Nat}{d:Nat}{ty:TypeId}{pos:String}{aft:Array Edge}{x y z:Operand}{T U E0:TypeId}
theorem bz.Ta{E:Env}{a:Act}{w w':World}(h:bz C S E a w){i:Nat}{js:List Nat}{c:List Oc}{us:List Value}{M':Mem}(hB:S.b i=some ⟨T,cX js c⟩)(hL:Lv S js (rowsOf c))(hjs:js.Nodup)(EY:xL E.M w (E.β i) T c us)
  (hM:E.M.le M') (hn:∀b o x,M' b o=some x->E.M b o=some x\/w.heap.size<=b) (hin:M'.ef w') (ho:xL M' w' (E.β i) T c us)
  (hos:w'.os=w.os) (yT:w'.tape=w.tape) (hout:w'.output=w.output) (hsize:w.heap.size<=w'.heap.size) (pN:∀k,k<w.heap.size->k≠E.β i->¬fj c us k->w'.heap[k]? =w.heap[k]?):
  bz C S {E with M:=M'} a w':=by
 obtain⟨UD,aoy,aaB,us0,UE,ajX⟩:=h.bx i _ hB;obtain rfl:us0=us:=by
  rw[EY.hp]at UE;have:=Option.some.inj UE;injection this with e
  injection e with e
  exact e.symm
 obtain⟨_,hrv⟩:=Bg h hL ajX;have hlen:=hL.len;have Mj:∀g,fj c us0 g↔∃j∈js,(E.ν j).ownBlock=some g:=λg=>by
  unfold fj;rw[hrv];constructor
  ·rintro⟨⟨R,v⟩,hm,hg⟩;obtain⟨j,hj,rfl⟩:=List.mem_map.1 (nA hm).2;exact⟨j,hj,hg⟩
  rintro⟨j,hj,hg⟩;obtain⟨R,hR⟩:=Bh (l:=rowsOf c) (k:=js.map E.ν) (by simp[hlen]) (List.mem_map.2 ⟨j,hj,Y⟩);exact⟨(R,E.ν j),hR,hg⟩
 have Fy:∀g,fj c us0 g->(C.w0.heap.size<=g\/C.BN g)/\¬E.O g/\(∀n B,S.b n=some B->E.β n≠g)/\∃c e,w.heap[g]? =some (Obj.cells c e (0,0)):=λg hg=>by
  obtain⟨j,hj,F6⟩:=(Mj g).1 hg;obtain⟨R,hR⟩:=hL.mem j hj;obtain⟨⟨us,q1,_⟩,q2⟩:=h.rx j R hR;obtain⟨q3,q4,q5,q6⟩:=q2 g F6;refine⟨q3,q5,q6,?_⟩;rcases q1.2 with⟨q7,_⟩|⟨g',cap,cur,q7,_,q8,_⟩
  ·rw[q7]at F6;cases F6
  rw[q7]at F6;cases F6;exact⟨_,_,q8⟩
 have keep:∀x:AV,∀v,x.holds E v->x.holds {E with M:=M'} v:=λx v hv=>AV.dL (E:=E) (E':={E with M:=M'}) hM (λ_ _=>rfl) (λ_ _=>rfl) hv;have noM:∀b,b<w.heap.size->(∀o,E.M b o=none)->∀o,M' b o=none:=λb h1 h2 o=>by
  cases e:M' b o with
  |none=>rfl
  |some v=>
   rcases hn b o v e with q|q
   ·rw[h2 o]at q;cases q
   omega
 exact{
  wf:=h.wf
  marks:=by
   obtain⟨ds,d1,d2,d3⟩:=h.marks;refine⟨ds,d1,d2,λr hr=>?_⟩;obtain⟨p1,p2,p3⟩:=d3 r hr;refine⟨p1,p2,?_⟩;rw[pN r (Array.getElem?_eq_some_iff.1 p3).1 (λe=>by rw[e,UE]at p3;cases p3) (λe=>by
    obtain⟨_,_,_,c,e2,q⟩:=Fy r e;rw[q]at p3;cases p3)]
   exact p3
  size:=h.size
  os:=hos.trans h.os
  tape:=yT.trans h.tape
  output:=hout.trans h.output
  grown:=Nat.le_trans h.grown hsize
  frame:=λk hk hown=>by
   rw[pN k (Nat.lt_of_lt_of_le hk h.grown) (λe=>by
    rcases UD with q|q
    ·omega
    ·exact hown (C.Ke _ (by rw[e];exact q))) (λe=>by
    rcases(Fy k e).1 with q|q
    ·omega
    exact hown (C.Ke _ q))]
   exact h.frame k hk hown
  m0:=Mem.le_trans h.m0 hM
  gE:=λb o v e=>by
   rcases hn b o v e with q|q
   ·exact h.gE b o v q
   exact .inr (.inl (Nat.le_trans h.grown q))
  ef:=hin
  tm:=λs=>keep _ _ (h.tm s)
  bx:=λj B iP=>by
   obtain⟨p1,p2,p3,vs,p4,p5⟩:=h.bx j B iP;have hlt:=(Array.getElem?_eq_some_iff.1 p4).1;by_cases e:j=i
   ·subst e;rw[hB]at iP;cases iP;refine⟨p1,ho.nb,p3,us0,ho.hp,?_⟩;exact ajX.imp (λx _ v hv=>keep x v hv)
   refine⟨p1,noM _ hlt p2,p3,vs,?_,p5.imp (λx _ v hv=>keep x v hv)⟩;show w'.heap[E.β j]? =_;rw[pN _ hlt (λq=>e (h.inj j i B _ iP hB q)) (λq=>(Fy _ q).2.2.1 j B iP Y)];exact p4
  inj:=h.inj
  rx:=λj R hR=>by
   obtain⟨⟨vs,p1,p2⟩,p3⟩:=h.rx j R hR;by_cases hj:j∈js
   ·have hz:(R,E.ν j)∈cS c us0:=by
     rw[hrv];have key:∀(js:List Nat) (Rs:List Row),Lv S js Rs->j∈js->(R,E.ν j)∈Rs.zip (js.map E.ν):=by
      intro js
      induction js with
      |nil=>intro _ _ h;cases h
      |cons k js ih=>
       intro Rs hl hm;cases Rs with
       |nil=>exact hl.elim
       |cons R' Rs=>
        rw[List.map_cons,List.zip_cons_cons];rcases List.mem_cons.1 hm with q|q
        ·subst q;have:=hl.1;rw[hR]at this;cases this;simp
        exact List.mem_cons_of_mem _ (ih Rs hl.2 q)
     exact key js _ hL hj
    refine⟨pW ho.al _ hz,λg hg=>?_⟩;obtain⟨p4,p5,p6,p7⟩:=p3 g hg;exact⟨p4,(ho.nr g ⟨_,hz,hg⟩).2,p6,p7⟩
   have oth:∀g,(E.ν j).ownBlock=some g->¬fj c us0 g:=λg hg q=>by
    obtain⟨j',hj',e⟩:=(Mj g).1 q;obtain⟨R',u0⟩:=hL.mem j' hj';have:=h.iL j j' R R' hR u0 g hg e;subst this;exact hj hj'
   refine⟨⟨vs,eT p1 λg hg=>pN g (nI h hR hg) (λe=>(p3 g hg).2.2.2 i _ hB e.symm) (oth g hg),p2.mono hM⟩,λg hg=>?_⟩;obtain⟨p4,p5,p6,p7⟩:=p3 g hg;exact⟨p4,noM g (nI h hR hg) p5,p6,p7⟩
  iL:=h.iL
  kU:=h.kU
  gj:=h.gj
  qf:=λb hb=>by
   obtain⟨p1,p2,p3⟩:=h.qf b hb;exact⟨Nat.lt_of_lt_of_le p1 hsize,noM b p1 p2,p3⟩
  jj:=C.jf S.g S.go E.O E.M M' w w' h.jj hM hin (λb o v e=>by
    rcases hn b o v e with q|q
    ·exact .inl q
    ·exact .inr ⟨.inl (Nat.le_trans h.grown q),λq2=>by have:=(h.qf b q2).1;omega⟩) (λb hb=>by
    have hb':b<w.heap.size:=by
     rcases hb with⟨q,_⟩|q
     ·exact Nat.lt_of_lt_of_le q h.grown
     exact(h.qf b q).1
    refine pN b hb' (λe=>?_) (λe=>?_)
    ·subst e;rcases hb with⟨q1,q2⟩|q
     ·rcases UD with p|p
      ·omega
      exact q2 p
     exact aaB q
    obtain⟨o1,o3,_⟩:=Fy b e;rcases hb with⟨q1,q2⟩|q
    ·rcases o1 with p|p
     ·omega
     exact q2 p
    exact o3 q) hos yT hout hsize}
theorem RT.nW(hg:Gd ops S gd rg){f:FuncId}[cZ P f]{g:Operand}{xs:Array Operand}{at_:Array TypeId}{args:List AV}{T:TypeId}{c:List Oc}{res:SV}(hp:FB P f args T c res)(i:Nat)(js:List Nat)(hB:S.b i=some ⟨T,cX js c⟩)(hL:Lv S js (rowsOf c))(hjs:js.Nodup)
  (S6:args.all AV.oy=true) (hf:S.ev g=.sv (.v (.func (.func f) #[] #[]))) (hargs:CM S xs.toList (args.map (AV.rnb i))) (hd:d<S.n)
  (next:RunT P C ops nd K rest (⟨rg++(bk g++xs.toList.flatMap bk),[i],js,⟨some (d,.sv res),[],[]⟩⟩::acc) (S.set d (.sv res))):RunT P C ops nd K (⟨some d,.call ⟨.value g,xs,at_⟩,ty,pos,aft,gd⟩::rest) acc S:=by
 refine .inl ⟨_,[i],js,_,?_,next⟩;rintro S' hn ht hb hr k a w L Q ho ⟨E,h⟩ hLL;refine dw (C:=C) ho (hg.wanted h (λs hs=>ht s (List.mem_append_left _ hs)) Y) ?_;have As:a.eval g=.func (.func f) #[] ⟨[]⟩:=by
  have h1:=h.ev g;rw[bR (λ_ h=>List.mem_append_right _ (List.mem_append_left _ h)) ht,hf]at h1;exact h1
 have hall:=Hx S6 (CM.vals h hargs (λs hs=>ht s (List.mem_append_right _ (List.mem_append_right _ hs))));have iP:S'.b i=some ⟨T,cX js c⟩:=by rw[hb i (by simp)];exact hB
 have hL':Lv S' js (rowsOf c):=hL.congr (λk hk=>hr k hk);obtain⟨us,ho1,IS⟩:=uf h iP hL' hjs;refine dm (C:=C) (by intro c h;cases h) (qQ As) ?_;rw[List.append_nil];refine⟨λh=>by simp at h,jN ((hp E.M w (E.β i) _ us h.ef ho1 hall).mono ?_)⟩;rintro e w' ⟨v,M',rfl,hM,hnew,hin,hv,SW,hos,yT,hout,hsize,pN⟩;have h1:=h.Ta iP hL' hjs ho1 hM hnew hin SW hos yT hout hsize pN;exact hLL _ _ ⟨_,h1.put (x:=.sv res) (v:=v) hv (by show d<S'.n;omega) ik⟩
end steps
end
end Go.Fw
namespace Go.Proofs.YtningmnklfpfjaaGreat
section
open Go.Fw
noncomputable def rj(x0:Lr):Option (Sz):=match x0 with|⟨bn,bp,bB,bD⟩=>(some (bp.length:Int)).bind λx7=>(some (bB.length:Int)).bind λdG=>(some (bD.length:Int)).bind λeY=>some ⟨bn,x7,dG,eY⟩
noncomputable def mG(x0:Lr):Option (Bool):=match x0 with|⟨bn,bp,bB,bD⟩=>(rj ⟨bn,bp,bB,bD⟩).bind λ⟨A5,C4,Fu,GU⟩=>cJ (λ(WU:Bool)=>(bif WU then some false else cJ (λ(Rz:Bool)=>(bif Rz then some false else cJ (λ(ac4:Bool)=>some ac4) λK16=>(sJ bp).bind λnF=>(some (decide ((nF:Int)<=A5))).bind λyg=>(bif yg then(sJ bB).bind λyz=>(some (decide ((yz:Int)<=A5))).bind λyI=>some yI else some false).bind λWV=>K16 WV)) λGK=>(some (decide ((128:Int)<Fu))).bind λji=>(bif ji then some true else(some (decide ((GU:Int)≠Fu))).bind λjY=>some jY).bind λWW=>GK WW)) λUG=>(some (decide ((A5:Int)<0))).bind λx8=>(bif x8 then some true else(some (decide ((64:Int)<A5))).bind λc8=>some c8).bind λWX=>(bif WX then some true else(some (decide ((C4:Int)<1))).bind λdR=>some dR).bind λafX=>(bif afX then some true else(some (decide ((4:Int)<C4))).bind λiK=>some iK).bind λafY=>UG afY
end
section
open Go.Fw Go.Fw.Z Go.RowKit
theorem KB{x0:Lr}{r:Sz}(h:rj x0=some r):Pure ah 83 [.agg (Ol x0)] (.agg (eSz r)):=by
 obtain⟨bn,bp,bB,bD⟩:=x0;refine bj Tryz.func83 Y (af Y) (λc9 M vs hvs=>?_);unfold rj at h;refine sr<|bx Y<|al (cs:=[ay 0,ay 0,ay 0,ay 0]) (by exact⟨au,au,au,au,aq⟩) Y<|dn<|sr<|fa Y Y<|lV Y Y Y<|fa Y Y<|lV Y Y Y<|lE h λx7 h7 h=>ln Y h7<|fa Y Y<|lV Y Y Y<|lE h λdG fY h=>ln Y fY<|fa Y Y ?_;refine lV Y Y Y<|lE h λeY iX h=>ln Y iX<|bI (cs:=[_,_,_,_]) (cs':=[ay bn,ay x7,ay dG,ay eY]) (.one Y (.one Y (.one Y (.one Y (.nil))))) ⟨au,au,au,au,aq⟩<|so Y Y Y<|dn<|aY ?_;obtain rfl:=O h;exact RZ (.agg Y Y (.k4 Y Y Y Y) Y (.nil))
theorem Gn{x0:Lr}{r:Bool}(h:mG x0=some r):Pure ah 34 [.agg (Ol x0)] (aA r):=by
 obtain⟨bn,bp,bB,bD⟩:=x0;refine bj Tryz.func34 Y (af Y) (λc9 M vs hvs=>?_);unfold mG at h;refine sr<|bx Y<|ag Y<|dn<|sr<|ld Y Y (.k4 Y Y Y Y) ?_;obtain⟨⟨A5,C4,Fu,GU⟩,h5,h⟩:=bS h;refine cl (KB h5) ⟨Y,aq⟩<|al (cs:=[ay 0,ay 0,ay 0,ay 0]) (by exact⟨au,au,au,au,aq⟩) Y<|so Y Y Y<|dn<|qq<|qq ?_;refine bL h (λQC=>AS.cu 48 [(1,.ptr 1 0),(3,.ptr 3 0),(23,aj QC)] [(3,⟨97,[ai A5,ai C4,ai Fu,ai GU]⟩),(1,⟨25,[ai bn,.sv (slc 1 (List.map (eS 4 eQ) bp)),.sv (slc 1 (List.map (eS 4 eQ) bB)),.sv (slc 4 (List.map eQ bD))]⟩)] []) (λh=>?_) (λWU h=>?_);refine aX<|fa Y Y<|lV Y Y Y<|lE h λx8 h8 h=>ls _ Y Y h8<|mv Y<|bE h λWX wN h=>?_;cases x8;refine RT.fieldAddr (.some Y Y) Y T Y<|RT.zo (.some Y Y) Y Y Y T<|lE (F wN) λc8 fI wN=>gg _ Y Y fI ?_;obtain rfl:=O wN;refine pF Y<|mv Y<|bE h λaoG IV h=>?_;cases c8;refine RT.fieldAddr (.some Y Y) Y T Y<|RT.zo (.some Y Y) Y Y Y T<|lE (F IV) λdR jK IV=>RT.lss (.some Y Y) _ Y Y T jK ?_;obtain rfl:=O IV;refine pF Y<|mv Y<|bE h λaoH Da h=>?_;cases dR;refine RT.fieldAddr (.some Y Y) Y T Y<|RT.zo (.some Y Y) Y Y Y T<|lE (F Da) λiK oA Da=>gg _ Y Y oA ?_;obtain rfl:=O Da;exact pF Y<|dn<|⟨iK,h,wR []⟩;obtain rfl:=O (V Da);exact ww<|ww<|ww<|pT Y<|dn<|⟨true,h,wR []⟩
 obtain rfl:=O (V IV);refine ww<|ww<|ww<|pT Y<|mv Y<|bE h λafZ Ea h=>?_;obtain rfl:=O (V Ea);exact ww<|ww<|ww<|pT Y<|dn<|⟨true,h,wR []⟩;obtain rfl:=O (V wN);refine ww<|ww<|ww<|pT Y<|mv Y<|bE h λRA mH h=>?_;obtain rfl:=O (V mH);refine ww<|ww<|ww<|pT Y<|mv Y<|bE h λaoI nX h=>?_;obtain rfl:=O (V nX);exact ww<|ww<|ww<|pT Y<|dn<|⟨true,h,wR []⟩
 try dsimp only
 refine aW.n ?_;cases WU;refine fs<|qq<|qq ?_;refine bL (F h) (λGO=>AS.cu 48 [(1,.ptr 1 0),(3,.ptr 3 0),(33,aj GO)] [(3,⟨97,[ai A5,ai C4,ai Fu,ai GU]⟩),(1,⟨25,[ai bn,.sv (slc 1 (List.map (eS 4 eQ) bp)),.sv (slc 1 (List.map (eS 4 eQ) bB)),.sv (slc 4 (List.map eQ bD))]⟩)] []) (λh=>?_) (λRz h=>?_);refine aX<|fa Y Y<|lV Y Y Y<|lE h λji qS h=>gt _ Y Y qS<|mv Y<|bE h λWW kC h=>?_;cases ji;refine RT.fieldAddr (.some Y Y) Y T Y<|RT.zo (.some Y Y) Y Y Y T<|RT.fieldAddr (.some Y Y) Y T Y<|RT.zo (.some Y Y) Y Y Y T<|lE (F kC) λjY qT kC=>gq _ Y Y (Lf (p:=GU) (q:=Fu) qT) ?_;obtain rfl:=O kC;exact pF Y<|dn<|⟨jY,h,wR []⟩;obtain rfl:=O (V kC);exact ww<|ww<|ww<|ww<|ww<|pT Y<|dn<|⟨true,h,wR []⟩
 try dsimp only
 refine aW.n ?_;cases Rz;refine fs<|qq ?_;refine bL (F h) (λS3=>AS.cu 48 [(2,aj S3)] [] []) (λh=>?_) (λac4 h=>?_);refine aZ mixed<|fa Y Y<|lV Y Y Y<|bE h λnF xn h=>cl (Gl xn) ⟨Y,aq⟩<|fa Y Y<|lV Y Y Y<|lE h λyg Fo h=>RT.leq .none _ Y Y T Fo<|mv Y<|bE h λWV qH h=>?_;cases yg;obtain rfl:=O (F qH);refine ww<|ww<|ww<|ww<|ww<|ww<|pF Y<|ag Y ?_;refine RT.done ⟨by kernel_rfl,?_⟩;exact aW.n<|⟨false,h,wR []⟩;refine RT.fieldAddr (.some Y Y) Y T Y<|RT.zo (.some Y Y) Y Y Y T<|bE (V qH) λyz ET qH=>gc (Gl ET) ⟨Y,aq⟩<|RT.fieldAddr (.some Y Y) Y T Y<|RT.zo (.some Y Y) Y Y Y T<|lE qH λyI h46 qH=>RT.leq (.some Y Y) _ Y Y T h46 ?_;obtain rfl:=O qH;refine pT Y<|ag Y ?_;refine RT.done ⟨by kernel_rfl,?_⟩;exact aW.n<|⟨yI,h,wR []⟩
 try dsimp only
 refine aW.n<|aY ?_;obtain rfl:=O h;exact R1 Y;refine cT<|sr<|ag Y<|dn<|aY<|aW.r ?_;obtain rfl:=O (V h);exact R1 Y;refine cT<|sr<|ag Y<|dn<|aY<|aW.r ?_;obtain rfl:=O (V h);exact R1 Y
end
end Go.Proofs.YtningmnklfpfjaaGreat
namespace Go.Fw
section
open Go.RowKit
def Tc(P:Program)(f:FuncId)(args:Nat->List AV)(T:TypeId)(c:List Oc)(Post:Nat->Mem->World->Value->Prop):Prop:=
 ∀(M:Mem) (w:World) (β:Nat) (vs us:List Value),M.ef w->xL M w β T c us->ei (wL M β) (args β) vs->
  Calls P f ⟨vs⟩ w λe w'=>∃v M',e=.returned v/\M.le M'/\(∀b o x,M' b o=some x->M b o=some x\/w.heap.size<=b)/\M'.ef w'/\Post w.heap.size M' w' v/\
   xL M' w' β T c us/\w'.os=w.os/\w'.tape=w.tape/\w'.output=w.output/\w.heap.size<=w'.heap.size/\∀k,k<w.heap.size->k≠β->¬fj c us k->w'.heap[k]? =w.heap[k]?
theorem Pm{P:Program}{f:FuncId}{fn:Func}{code:Code}{args:Nat->List AV}{T:TypeId}{c:List Oc}{Post:Nat->Mem->World->Value->Prop}(ids:List Nat)(hf:P.funcs[f]? =some fn)(hb:fn.body=some code)(hn:∀β,(args β).length<=fn.ntmps)(S6:∀β,(args β).all AV.oy=true)(Kh:ids.Nodup)(hil:ids.length=(rowsOf c).length)(hge:(ids.all λi=>Nat.ble 1000 i)=true)(af0:MO c)(Rq:AS->Prop)
  (h:∀(w:World) (M:Mem) (β:Nat) (us:List Value),Ok P (aaF w M β c us ids hge) code (AS.J8 fn.ntmps (args β) [(1000,⟨T,cX ids c⟩)] (ids.zip (rowsOf c))) (λe S=>(e=.normal\/e=.ret)/\Rq S/\S.b 1000=some ⟨T,cX ids c⟩/\Lv S ids (rowsOf c)))
  (hr:∀(w:World) (M:Mem) (β:Nat) (us:List Value) (S':AS) (E:Env) (a:Act) (w':World),Rq S'->bz (aaF w M β c us ids hge) S' E a w'->S'.b 1000=some ⟨T,cX ids c⟩->(∀g,fj c us g->∃j∈ids,(E.ν j).ownBlock=some g)->(∀j∈ids,∃R,S'.r j=.live R)->∃v,(results fn a.tmps).run P w'=.ok v w'/\Post w.heap.size E.M w' v):Tc P f args T c Post:=by
 intro M w β vs us hM ho hv;have hrv:(cS c us).length=(rowsOf c).length:=by rw[<-l8 ho.al,List.length_map]
 have hnd:((ids.zip (cS c us)).map (·.1)).Nodup:=by rw[Hw (by omega)];exact Kh
 have aeG:bz (aaF w M β c us ids hge) (AS.J8 fn.ntmps (args β) [(1000,⟨T,cX ids c⟩)] (ids.zip (rowsOf c))) ⟨λ_=>β,pV (ids.zip (cS c us)) (λ_=>.nilIface),λ_=>False,M⟩ {tmps:=⟨vs⟩++Array.replicate (fn.ntmps-(⟨vs⟩:Array Value).size) undef,defers:=[]} w:=by
  have h0:=S5 (n:=fn.ntmps) ids hM ho hv (S6 β) (hn β) Kh hil
  exact{wf:=h0.wf,marks:=h0.marks,size:=h0.size,os:=h0.os,tape:=h0.tape,output:=h0.output,grown:=h0.grown,frame:=h0.frame,m0:=h0.m0,gE:=h0.gE,ef:=h0.ef,tm:=h0.tm,bx:=h0.bx,inj:=h0.inj,rx:=h0.rx,iL:=h0.iL,kU:=h0.kU,gj:=λi v e=>(by
   obtain⟨R,hm⟩:=MN e
   exact mU hnd hm),qf:=h0.qf,jj:=trivial}
 refine jv Y hf hb aeG (h w M β us) ?_;rintro S' E a w' ⟨hq,hB,hL⟩ hh;have hβ:E.β 1000=β:=hh.kU 1000 β Y;obtain⟨us',ho',pN⟩:=uf hh hB hL Kh;rw[hβ]at ho';obtain⟨_,_,_,Zw,q2,q3⟩:=hh.bx 1000 _ hB;rw[hβ,ho'.hp]at q2;obtain rfl:us'=Zw:=by
  have:=Option.some.inj q2;injection this with e
  injection e
 obtain⟨_,aoJ⟩:=Bg hh hL q3;have nK:cS c us=cS c us':=by
  rw[aoJ];have key:∀(ids:List Nat) (l:List (Row×Value)) (Rs:List Row),ids.length=l.length->l.map (·.1)=Rs->(∀i R v,(i,R,v)∈ids.zip l->E.ν i=v)->l=Rs.zip (ids.map E.ν):=by
   intro ids
   induction ids with
   |nil=>intro l Rs hl hm _;cases l with|nil=>cases hm;rfl|cons _ _=>simp at hl
   |cons i ids ih=>
    intro l Rs hl hm hν;cases l with
    |nil=>simp at hl
    |cons p l=>
     cases hm;obtain⟨R,v⟩:=p;rw[List.map_cons,List.map_cons,List.zip_cons_cons,hν i R v (by rw[List.zip_cons_cons];simp),<-ih l _ (by simpa using hl) Y (λi R v hm=>hν i R v (by rw[List.zip_cons_cons];exact List.mem_cons_of_mem _ hm))]
  exact key ids _ _ (by omega) (l8 ho.al) (λi R v hm=>hh.gj i v (WT hnd hm))
 obtain rfl:us=us':=MP af0 ho.al ho'.al nK;obtain⟨v,hv,hx⟩:=hr w M β us S' E a w' hq hh hB (λg hg=>(pN g).1 hg) (λj hj=>hL.mem j hj);refine⟨v,hv,v,E.M,Y,hh.m0,λb o x e=>?_,hh.ef,hx,ho',hh.os,hh.tape,hh.output,hh.grown,λk hk hne hno=>hh.frame k hk (λe=>e.elim hne hno)⟩;rcases hh.gE b o x e with q|q|q|q
 ·exact .inl q
 ·exact .inr q
 ·rw[show b=β from q,ho'.nb o]at e;cases e
 rw[(ho'.nr b q).2 o]at e;cases e
section steps
variable {P:Program}{C:Ctx}{ops:Array Oper}{S:AS}{nd:Bool}{K:List Ac->AS->Prop}{rest:List Oper}{acc:List Ac}
variable {gd:Option (Nat×Bool)}{rg:List Nat}{d:Nat}{ty:TypeId}{pos:String}{aft:Array Edge}{x y z:Operand}{T U E0:TypeId}
end steps
end
section
open Go.RowKit
instance{cs:List SV}:One (ref cs):=⟨λ_ _ h=>by obtain⟨b,o,rfl,_⟩:=h;rfl⟩
section steps
variable {P:Program}{C:Ctx}{ops:Array Oper}{S:AS}{nd:Bool}{K:List Ac->AS->Prop}{rest:List Oper}{acc:List Ac}
variable {gd:Option (Nat×Bool)}{rg:List Nat}{d:Nat}{ty:TypeId}{pos:String}{aft:Array Edge}{x y z:Operand}{T U E0:TypeId}
theorem RT.cq(hg:Gd ops S gd rg){cs:List SV}(hx:S.ev x=.sv (ref cs))(hd:d<S.n)
  (next:RunT P C ops nd K rest (⟨rg++bk x,[],[],⟨some (d,.sv (ref cs)),[],[]⟩⟩::acc) (S.set d (.sv (ref cs)))):RunT P C ops nd K (⟨some d,.nilCheck x,ty,pos,aft,gd⟩::rest) acc S:=
 RT.value hg (bk x) [] [] (.sv (ref cs)) hd (by intro c h;cases h) (λS' ht _ _ E a w h=>by
  have h1:=h.ev x;rw[bR (λ_ h=>h) ht,hx]at h1;have h1:(ref cs).h E.M (a.eval x):=h1;obtain⟨b,o,e,h2⟩:=h1;exact⟨a.eval x,by simp[execOp,e],⟨b,o,e,h2⟩,ik⟩) next
theorem RT.WY(hg:Gd ops S gd rg)[tT:S7 P T]{cs:List SV}(hx:S.ev x=.sv (ref cs))(hy:S.ev y=.sv (.v (.pointer none)))(hd:d<S.n)
  (next:RunT P C ops nd K rest (⟨rg++(bk x++bk y),[],[],⟨some (d,.sv (.v (.bool false))),[],[]⟩⟩::acc) (S.set d (.sv (.v (.bool false))))):RunT P C ops nd K (⟨some d,.binOp .eql T x y U,ty,pos,aft,gd⟩::rest) acc S:=
 RT.value hg (bk x++bk y) [] [] (.sv (.v (.bool false))) hd (by intro c h;cases h) (λS' ht _ _ E a w h=>by
  have h1:=h.ev x;rw[bR (λ_ h=>List.mem_append_left _ h) ht,hx]at h1;have h2:=h.ev y;rw[bR (λ_ h=>List.mem_append_right _ h) ht,hy]at h2;have h1:(ref cs).h E.M (a.eval x):=h1;obtain⟨b,o,h1,_⟩:=h1;have h2:a.eval y=.pointer none:=h2;have e:=run_eql_pointer_nil (P:=P) w T (some ⟨b,o,none⟩) tT.u;refine⟨.bool false,?_,Y,ik⟩;simp[execOp,h1,h2,eqGuard,e]) next
end steps
end
section
open Go.RowKit
noncomputable def yU(M:Mem)(w:World)(p:Nat->Prop):Mem:=λb o=>@ite _ (p b) (Classical.propDecidable _) (match w.cell? ⟨b,o,none⟩with|some v=>if v.oneCell'=true then some v else none|none=>none) (M b o)
noncomputable def Eb(M:Mem)(p:Nat->Prop):Mem:=λb o=>@ite _ (p b) (Classical.propDecidable _) none (M b o)
theorem Ec{M:Mem}{w:World}{p:Nat->Prop}{b o:Nat}{v:Value}(hb:p b)(hc:w.cell? ⟨b,o,none⟩=some v)(h1:v.oneCell'=true):yU M w p b o=some v:=by
 unfold yU;rw[if_pos hb,hc];simp[h1]
theorem LB{M:Mem}{w:World}{p:Nat->Prop}(h:M.ef w):(yU M w p).ef w:=λb o v e=>by
 unfold yU at e;split at e
 ·split at e
  ·rename_i q;split at e
   ·rename_i h1;cases e;exact Fact.of q h1
   cases e
  cases e
 exact h b o v e
theorem Bj{M:Mem}{w:World}{p:Nat->Prop}(h:∀b,p b->∀o,M b o=none):M.le (yU M w p):=λb o v e=>by
 unfold yU;rw[if_neg];exact e;intro hb;rw[h b hb o]at e;cases e
theorem Pn{M:Mem}{p:Nat->Prop}:(Eb M p).le M:=λb o v e=>by
 unfold Eb at e;split at e
 ·cases e
 exact e
theorem Po{M:Mem}{p:Nat->Prop}{b o:Nat}{v:Value}(hb:¬p b)(e:M b o=some v):Eb M p b o=some v:=by unfold Eb;rw[if_neg hb];exact e
theorem IW{M:Mem}{p:Nat->Prop}{b:Nat}(hb:p b)(o:Nat):Eb M p b o=none:=by unfold Eb;rw[if_pos hb]
def OcI:List Oc->List SV->Prop
 |[],[]=>True
 |.s x::l,y::k=>(SV.imp x y/\∀M v,x.h M v->v.oneCell'=true)/\OcI l k
 |.r R::l,y::k=>(∃rows,Rows R.sz rows R.cells/\rows.length=R.n/\(∀M vs,SV.fX M R.cells vs->∀v∈vs,v.oneCell'=true)/\SV.imp (slc R.sz rows) y)/\OcI l k
 |_,_=>False
theorem dJ{E:TypeId}{n:Nat}{α:Type}{e:α->List SV}{l:List α}[el:EL e n]:∃rows,Rows (TR E n e l).sz rows (TR E n e l).cells/\rows.length=(TR E n e l).n/\(∀M vs,SV.fX M (TR E n e l).cells vs->∀v∈vs,v.oneCell'=true)/\SV.imp (slc (TR E n e l).sz rows) (slc n (l.map e)):=
 ⟨l.map e,yF l,by simp,sD l,au⟩
theorem WZ{M:Mem}{w:World}{p:Nat->Prop}{R:Row}{v:Value}{rows:List (List SV)}(hno:∀b,p b->∀o,M b o=none)(hb:∀g,v.ownBlock=some g->p g)(ho:∃vs:List Value,w.ownsRow 0 R.E R.sz v R.n vs/\SV.fX M R.cells vs)
  (nK:Rows R.sz rows R.cells) (hn:rows.length=R.n) (hone:∀M vs,SV.fX M R.cells vs->∀v∈vs,v.oneCell'=true):(slc R.sz rows).h (yU M w p) v/\v.oneCell'=true:=by
 obtain⟨vs,hown,hvs⟩:=ho;have uF:=AF nK;rcases hown.2 with⟨h1,h2⟩|⟨g,cap,cur,h1,_,h2,h3,h4,h5,h6⟩
 ·rw[h2]at hn;exact⟨.inl ⟨none,h1,List.length_eq_zero_iff.1 hn⟩,by rw[h1];rfl⟩
 have hg:p g:=hb g (by rw[h1];rfl);have hm:maxLen=9223372036854775807:=by decide
 refine⟨.inr ⟨g,0,cap,by rw[h1,hn],by rw[hn];exact h3,by omega,λk row hk=>?_⟩,by rw[h1];rfl⟩;obtain⟨q1,q2⟩:=yC nK k row hk;refine⟨q1,λj s hs=>?_⟩;have ES:=q2 j s hs;obtain⟨y,hy,hys⟩:=hvs.get ES;have hlt:k*R.sz+j<R.n*R.sz:=by
  have:=(List.getElem?_eq_some_iff.1 ES).1;rw[uF,hn]at this;exact this
 have h1':=hone _ _ hvs y (List.mem_of_getElem? hy);refine⟨y,Ec hg ?_ h1',h1',s.mono (Bj hno) hys⟩;rw[<-h6,List.getElem?_take,if_pos hlt]at hy;simp only[World.cell?,h2];simpa using hy
theorem Ed{M:Mem}{w:World}{p:Nat->Prop}(hno:∀b,p b->∀o,M b o=none):∀{c:List Oc} {cs:List SV} {us:List Value} {k:Nat} {s:SV},OcI c cs->xK M w c us->(∀q∈cS c us,∀g,q.2.ownBlock=some g->p g)->cs[k]? =some s->∃y,us[k]? =some y/\y.oneCell'=true/\s.h (yU M w p) y
 |.s x::l,y::cs,u::us,k,s,hi,ho,hb,hk=>by
  cases k with
  |zero=>cases hk;exact⟨u,rfl,hi.1.2 _ _ ho.1,y.mono (Bj hno) (hi.1.1 _ _ ho.1)⟩
  |succ k=>exact Ed hno (c:=l) (cs:=cs) (us:=us) (k:=k) hi.2 ho.2 hb hk
 |.r R::l,y::cs,u::us,k,s,hi,ho,hb,hk=>by
  cases k with
  |zero=>
   cases hk;obtain⟨rows,q1,q2,q3,q4⟩:=hi.1;obtain⟨r1,r2⟩:=WZ hno (λg hg=>hb (R,u) (by rw[cS];simp) g hg) ho.1 q1 q2 q3;exact⟨u,Y,r2,q4 _ _ r1⟩
  |succ k=>exact Ed hno (c:=l) (cs:=cs) (us:=us) (k:=k) hi.2 ho.2 (λq hq=>hb q (by rw[cS];exact List.mem_cons_of_mem _ hq)) hk
 |[],[],_,_,_,_,_,_,hk=>by simp at hk
 |[],_::_,_,_,_,hi,_,_,_=>hi.elim
 |.s _::_,[],_,_,_,hi,_,_,_=>hi.elim
 |.r _::_,[],_,_,_,hi,_,_,_=>hi.elim
 |.s _::_,_::_,[],_,_,_,ho,_,_=>ho.elim
 |.r _::_,_::_,[],_,_,_,ho,_,_=>ho.elim
theorem Db{M M':Mem}{w w':World}(hM:M.le M'):∀{c:List Oc} {us:List Value},xK M w c us->(∀q∈cS c us,∀g,q.2.ownBlock=some g->w'.heap[g]? =w.heap[g]?)->xK M' w' c us
 |[],[],_,_=>trivial
 |.s x::l,u::us,h,hs=>⟨x.mono hM h.1,Db hM (c:=l) (us:=us) h.2 hs⟩
 |.r R::l,u::us,h,hs=>by
  obtain⟨vs,h1,h2⟩:=h.1;exact⟨⟨vs,eT h1 (λg hg=>hs (R,u) (by rw[cS];simp) g hg),h2.mono hM⟩,Db hM (c:=l) (us:=us) h.2 (λq hq=>hs q (by rw[cS];exact List.mem_cons_of_mem _ hq))⟩
 |[],_::_,h,_=>h.elim
 |.s _::_,[],h,_=>h.elim
 |.r _::_,[],h,_=>h.elim
def AV.ajY(cells:List SV):AV->SV
 |.sv s=>s
 |_=>ref cells
def AV.ac5:AV->Bool
 |.sv _=>true
 |.ptr i o=>Nat.beq i 1000&&Nat.beq o 0
 |_=>false
theorem Pp{M M':Mem}{β:Nat}{cells:List SV}(hM:M.le M')(hc:(ref cells).h M' (.pointer (some ⟨β,0,none⟩))):∀{args:List AV} {vs:List Value},(args.all AV.ac5)=true->ei (wL M β) args vs->SV.fX M' (args.map (AV.ajY cells)) vs
 |[],[],_,_=>trivial
 |x::l,v::vs,hy,h=>by
  rw[List.all_cons,Bool.and_eq_true]at hy;refine⟨?_,Pp hM hc hy.2 h.2⟩;cases x with
  |sv s=>exact s.mono hM h.1
  |ptr i o=>
   have h1:=Bool.and_eq_true_iff.1 hy.1;have e:v=.pointer (some ⟨β,o,none⟩):=h.1;rw[e,Nat.eq_of_beq_eq_true h1.2];exact hc
  |_=>exact(Bool.false_ne_true hy.1).elim
 |[],_::_,_,h=>h.elim
 |_::_,[],_,h=>h.elim
theorem fK{P:Program}{f:FuncId}{args:List AV}{T:TypeId}{c:List Oc}{cells:List SV}{r:Nat->SV}{res:SV}(hp:∀N,dB P f N (args.map (AV.ajY cells)) (r N))(hy:args.all AV.ac5=true)(hi:OcI c cells)(hr:∀N M v,(r N).h M v->res.h (M.fr N) v):FB P f args T c res:=by
 intro M w β vs us hM ho hv;have hno:∀b,(b=β\/fj c us b)->∀o,M b o=none:=λb hb o=>by
  rcases hb with rfl|hb
  ·exact ho.nb o
  exact(ho.nr b hb).2 o
 have hlt:∀b,(b=β\/fj c us b)->b<w.heap.size:=λb hb=>by
  rcases hb with rfl|⟨q,hq,hg⟩
  ·exact(Array.getElem?_eq_some_iff.1 ho.hp).1
  obtain⟨ws,h1,_⟩:=pW ho.al q hq;rcases h1.2 with⟨h2,_⟩|⟨g,cap,cur,h2,_,h3,_⟩
  ·rw[h2]at hg;cases hg
  rw[h2]at hg;cases hg;exact(Array.getElem?_eq_some_iff.1 h3).1
 have uF:(ref cells).h (yU M w (λb=>b=β\/fj c us b)) (.pointer (some ⟨β,0,none⟩)):=⟨β,0,Y,λk s hk=>by
  obtain⟨y,h1,h2,h3⟩:=Ed hno hi ho.al (λq hq g hg=>.inr ⟨q,hq,hg⟩) hk;refine⟨y,Ec (.inl Y) ?_ h2,h2,h3⟩;simp only[World.cell?,ho.hp];simpa using h1⟩
 refine(hp w.heap.size _ w vs (Nat.le_refl _) (LB hM) (Pp (Bj hno) uF hy hv)).mono ?_;rintro e w' ⟨v,M',rfl,hM',hnew,aoK,hres,hb⟩;have hMM:M.le (Eb M' (λb=>b=β\/fj c us b)):=λb o x e=>Po (λhb=>by rw[hno b hb o]at e;cases e) (hM' b o x (Bj hno b o x e));refine⟨v,Eb M' (λb=>b=β\/fj c us b),Y,hMM,λb o x e=>?_,λb o x e=>aoK b o x (Pn b o x e),res.mono (λb o x e=>?_) (hr _ _ _ hres),?_,hb.os,hb.tape,hb.output,hb.size,λk hk _ _=>hb.block k hk⟩
 ·rcases hnew b o x (Pn b o x e)with q|q
  ·refine .inl ?_;unfold yU at q;split at q
   ·rename_i J6;have e2:Eb M' (λb=>b=β\/fj c us b) b o=none:=IW (p:=λb=>b=β\/fj c us b) J6 o;rw[e2]at e;cases e
   exact q
  exact .inr q
 ·unfold Mem.fr at e;split at e
  ·rename_i hN;exact Po (λJ6=>by have:=hlt b J6;omega) e
  cases e
 exact⟨by rw[hb.block β (hlt β (.inl Y))];exact ho.hp,Db hMM ho.al (λq hq g hg=>hb.block g (hlt g (.inr ⟨q,hq,hg⟩))),λo=>IW (p:=λb=>b=β\/fj c us b) (.inl Y) o,λg hg=>⟨(ho.nr g hg).1,λo=>IW (p:=λb=>b=β\/fj c us b) (.inr hg) o⟩,ho.ap⟩
theorem oY{P:Program}{f:FuncId}{args:List SV}{r:SV}(h:Pure P f args r)(N:Nat):dB P f N args r:=λM w vs _ hM hv=>h M w vs hM hv
theorem af1{s:SV}:∀(N:Nat) (M:Mem) (v:Value),(nw N s).h M v->s.h (M.fr N) v:=λ_ _ _ h=>h.1
theorem Hy{l:List Qr}:∀(N:Nat) (M:Mem) (v:Value),(nw N (slc 4 (l.map (fQ N)))).h M v->(slc 4 (l.map eQ)).h (M.fr N) v:=λN M v h=>Um (M.fr N) v (by
 obtain⟨h1,h2⟩:=h;rw[<-Mem.Wa]at h1;exact⟨h1,λg e=>by rw[Mem.Wa];exact h2 g e⟩)
theorem Pq{x:Value}:∀(N:Nat) (M:Mem) (v:Value),(SV.v x).h M v->(SV.v x).h (M.fr N) v:=λ_ _ _ h=>h
theorem MQ{P:Program}{f:FuncId}{fn:Func}{code:Code}{args:Nat->List AV}{T:TypeId}{c:List Oc}{res:SV}(ids:List Nat)(hf:P.funcs[f]? =some fn)(hb:fn.body=some code)(hn:∀β,(args β).length<=fn.ntmps)(S6:∀β,(args β).all AV.oy=true)(Kh:ids.Nodup)(hil:ids.length=(rowsOf c).length)(hge:(ids.all λi=>Nat.ble 1000 i)=true)(af0:MO c)
  (h:∀(w:World) (M:Mem) (β:Nat) (us:List Value),Ok P (aaF w M β c us ids hge) code (AS.J8 fn.ntmps (args β) [(1000,⟨T,cX ids c⟩)] (ids.zip (rowsOf c))) (λe S=>(e=.normal\/e=.ret)/\VD P S fn.results.toList res/\S.b 1000=some ⟨T,cX ids c⟩/\Lv S ids (rowsOf c))):Tc P f args T c (λ_ M' _ v=>res.h M' v):=
 Pm ids hf hb hn S6 Kh hil hge af0 _ h (λw M β us S' E a w' hr hh _ _ _=>by
  obtain⟨v,hv,hx⟩:=(E5.sv hr).run hh;exact⟨v,hv,hx⟩)
section steps
variable {P:Program}{C:Ctx}{ops:Array Oper}{S:AS}{nd:Bool}{K:List Ac->AS->Prop}{rest:List Oper}{acc:List Ac}{Q:Exit->AS->Prop}
variable {gd:Option (Nat×Bool)}{rg:List Nat}{d:Nat}{ty:TypeId}{pos:String}{aft:Array Edge}{x y z:Operand}{T U E0:TypeId}
theorem aaG{c:Code}{i k β:Nat}(hp:C.kU k=some β)(hB:S.b i=some ⟨T,[.ptr k 0]⟩)(h:Ok P C c (S.oz i ⟨T,[.sv (.v (.pointer (some ⟨β,0,none⟩)))]⟩) Q):Ok P C c S Q:=λa w ⟨E,hh⟩=>by
 refine h a w ⟨E,?_⟩;have hβ:E.β k=β:=hh.kU k β hp;have GD:∀j B,(S.oz i ⟨T,[.sv (.v (.pointer (some ⟨β,0,none⟩)))]⟩).b j=some B->(j=i/\B=⟨T,[.sv (.v (.pointer (some ⟨β,0,none⟩)))]⟩)\/(j≠i/\S.b j=some B):=λj B e=>by
  by_cases hj:j=i
  ·subst hj;rw[AS.dO]at e;cases e;exact .inl ⟨rfl,rfl⟩
  rw[AS.cG _ _ _ _ hj]at e;exact .inr ⟨hj,e⟩
 have bTo:∀j,(∃B,S.b j=some B)->∃B,(S.oz i ⟨T,[.sv (.v (.pointer (some ⟨β,0,none⟩)))]⟩).b j=some B:=λj ⟨B,e⟩=>by
  by_cases hj:j=i
  ·subst hj;exact⟨_,AS.dO _ _ _⟩
  exact⟨B,by rw[AS.cG _ _ _ _ hj];exact e⟩
 have af2:∀j B,(S.oz i ⟨T,[.sv (.v (.pointer (some ⟨β,0,none⟩)))]⟩).b j=some B->∃B',S.b j=some B':=λj B e=>by
  rcases GD j B e with⟨rfl,_⟩|⟨_,q⟩
  ·exact⟨_,hB⟩
  exact⟨_,q⟩
 exact{hh with
  wf:=⟨λs j hj=>bTo j (hh.wf.tb s j hj),hh.wf.tr,λj B e y hy m hm=>by
    rcases GD j B e with⟨rfl,rfl⟩|⟨_,q⟩
    ·obtain rfl:y=_:=by simpa using hy
     exact(hm:False).elim
    ·exact bTo m (hh.wf.bb j B q y hy m hm),λj B e y hy m hm=>by
    rcases GD j B e with⟨rfl,rfl⟩|⟨_,q⟩
    ·obtain rfl:y=_:=by simpa using hy
     exact(hm:False).elim
    exact hh.wf.br j B q y hy m hm⟩
  bx:=λj B e=>by
   rcases GD j B e with⟨rfl,rfl⟩|⟨_,q⟩
   ·obtain⟨h1,h2,h3,vs,h4,h5⟩:=hh.bx j _ hB;refine⟨h1,h2,h3,vs,h4,?_⟩
    match vs,h5 with
    |[v],h5=>exact⟨(show v=.pointer (some ⟨β,0,none⟩)from hβ▸h5.1),aq⟩
   exact hh.bx j B q
  inj:=λj j' B B' e e' q=>by
   obtain⟨_,h1⟩:=af2 j B e;obtain⟨_,h2⟩:=af2 j' B' e';exact hh.inj j j' _ _ h1 h2 q
  rx:=λj R hR=>by
   obtain⟨p1,p2⟩:=hh.rx j R hR;refine⟨p1,λg hg=>?_⟩;obtain⟨q1,q2,q3,q4⟩:=p2 g hg;refine⟨q1,q2,q3,λm B e=>?_⟩;obtain⟨_,h1⟩:=af2 m B e
   exact q4 m _ h1}
theorem RT.FC(hg:Gd ops S gd rg)[tV:zm P T]{k β:Nat}{B:vS}(hx:S.ev x=.sv (ref [.v (.pointer (some ⟨β,0,none⟩))]))(hp:C.kU k=some β)(hB:S.b k=some B)(hd:d<S.n)
  (next:RunT P C ops nd K rest (⟨rg++bk x,[k],[],⟨some (d,.ptr k 0),[],[]⟩⟩::acc) (S.set d (.ptr k 0))):RunT P C ops nd K (⟨some d,.load T x,ty,pos,aft,gd⟩::rest) acc S:=
 RT.value hg (bk x) [k] [] (.ptr k 0) hd (by intro c h;cases h) (λS' ht hb _ E a w h=>by
  have h1:=h.ev x;rw[bR (λ_ h=>h) ht,hx]at h1;obtain⟨b,o,e,hc⟩:=h1;obtain⟨u,hu,hu1,hs⟩:=hc 0 _ Y;have hβ:E.β k=β:=h.kU k β hp;have hs:u=.pointer (some ⟨β,0,none⟩):=hs;refine⟨u,?_,by show u=.pointer (some ⟨E.β k,0,none⟩);rw[hβ];exact hs,λj e=>?_,λj e=>e.elim⟩
  ·have hcc:w.cell? ⟨b,o,none⟩=some u:=(h.ef _ _ _ hu).cell hu1;simp[execOp,e,Instr.loadAt,Instr.sureAddr,loadVar,tV.isAgg,hcc]
  have e:j=k:=e;subst e;exact⟨B,by rw[hb j (by simp)];exact hB⟩) next
theorem RT.aaH(hg:Gd ops S gd rg){f:FuncId}[cZ P f]{g:Operand}{xs:Array Operand}{at_:Array TypeId}{args:List AV}{caps:Nat->List SV}{β:Nat}{T:TypeId}{c:List Oc}{res:SV}(hp:Tc P f (λβ=>args++(caps β).map AV.sv) T c (λ_ M' _ v=>res.h M' v))(i:Nat)(js:List Nat)(QU:C.kU i=some β)(hB:S.b i=some ⟨T,cX js c⟩)(hL:Lv S js (rowsOf c))(hjs:js.Nodup)
  (S6:args.all AV.oy=true) (hf:S.ev g=.sv (oO f (caps β))) (hargs:CM S xs.toList (args.map (AV.rnb i))) (hd:d<S.n)
  (next:RunT P C ops nd K rest (⟨rg++(bk g++xs.toList.flatMap bk),[i],js,⟨some (d,.sv res),[],[]⟩⟩::acc) (S.set d (.sv res))):RunT P C ops nd K (⟨some d,.call ⟨.value g,xs,at_⟩,ty,pos,aft,gd⟩::rest) acc S:=by
 refine .inl ⟨_,[i],js,_,?_,next⟩;rintro S' hn ht hb hr k a w L Q ho ⟨E,h⟩ hLL;refine dw (C:=C) ho (hg.wanted h (λs hs=>ht s (List.mem_append_left _ hs)) Y) ?_;have As:(oO f (caps β)).h E.M (a.eval g):=by
  have h1:=h.ev g;rw[bR (λ_ h=>List.mem_append_right _ (List.mem_append_left _ h)) ht,hf]at h1;exact h1
 obtain⟨xw,As,Kb⟩:=As;have hβ:E.β i=β:=h.kU i β QU;have hall:=Hx S6 (CM.vals h hargs (λs hs=>ht s (List.mem_append_right _ (List.mem_append_right _ hs))));have iP:S'.b i=some ⟨T,cX js c⟩:=by rw[hb i (by simp)];exact hB
 have hL':Lv S' js (rowsOf c):=hL.congr (λk hk=>hr k hk);obtain⟨us,ho1,IS⟩:=uf h iP hL' hjs;have ajZ:ei (wL E.M (E.β i)) (args++(caps (E.β i)).map AV.sv) (xs.toList.map a.eval++xw):=hall.append (ei.DC (E:=wL E.M (E.β i)) (by rw[hβ];exact Kb));have hrun:(execOp a.eval ⟨some d,.call ⟨.value g,xs,at_⟩,ty,pos,aft,gd⟩).run P w=.ok (.enter f ⟨xs.toList.map a.eval++xw⟩) w:=by
  have e2:xs.map a.eval++⟨xw⟩=⟨xs.toList.map a.eval++xw⟩:=by apply Array.ext';simp
  have e1:=cZ.run (P:=P) (f:=f) (xs.map a.eval++⟨xw⟩) w;rw[<-e2];simp[execOp,resolve,As,Deferred.ofValue,invoke,e1]
 refine dm (C:=C) (by intro c h;cases h) hrun ?_;refine⟨λh=>by simp at h,jN ((hp E.M w (E.β i) _ us h.ef ho1 ajZ).mono ?_)⟩;rintro e w' ⟨v,M',rfl,hM,hnew,hin,hv,SW,hos,yT,hout,hsize,pN⟩;have h1:=h.Ta iP hL' hjs ho1 hM hnew hin SW hos yT hout hsize pN;exact hLL _ _ ⟨_,h1.put (x:=.sv res) (v:=v) hv (by show d<S'.n;omega) ik⟩
theorem aaI{α:Type}(l k:List α):(N1 l k).length=l.length:=by unfold N1;simp;omega
theorem LC{M:Mem}{b:Nat}{α:Type}{e:α->List SV}[el:EL e 1]:∀(k:List α) (o:Nat),(∀(i:Nat) (row:List SV),(k.map e)[i]? =some row->∀(q:Nat) (s:SV),row[q]? =some s->∃y,M b (o+i*1+q)=some y/\y.oneCell'=true/\s.h M y)->∃cs:List Value,cs.length=k.length/\SV.fX M (k.flatMap e) cs/\∀j v,cs[j]? =some v->M b (o+j)=some v/\v.oneCell'=true
 |[],_,_=>⟨[],Y,aq,λj v h=>by simp at h⟩
 |x::k,o,h=>by
  obtain⟨cs,h1,h2,h3⟩:=LC k (o+1) (λi row hr q s hs=>by
   have:=h (i+1) row (by simpa using hr) q s hs;rwa[show o+(i+1)*1+q=o+1+i*1+q by omega]at this)
  have hl:=el.len x
  match he:e x,hl with
  |[s],_=>
   obtain⟨y,q1,q2,q3⟩:=h 0 [s] (by simp[he]) 0 s Y;refine⟨y::cs,by simp[h1],?_,λj v hj=>?_⟩
   ·rw[List.flatMap_cons,he];exact⟨q3,h2⟩
   cases j with
   |zero=>cases hj;exact⟨by simpa using q1,q2⟩
   |succ j=>rw[show o+(j+1)=o+1+j by omega];exact h3 j v (by simpa using hj)
theorem Pr{M:Mem}{α:Type}{e:α->List SV}[el:EL e 1]:∀(l:List α) (vs:List Value) (m:Nat),SV.fX M (l.flatMap e) vs->SV.fX M ((l.drop m).flatMap e) (vs.drop m)
 |l,vs,0,h=>by simpa using h
 |[],vs,m+1,h=>by
  cases vs with
  |nil=>trivial
  |cons _ _=>exact h.elim
 |x::l,vs,m+1,h=>by
  have hl:=el.len x
  match he:e x,hl with
  |[s],_=>
   rw[List.flatMap_cons,he]at h
   match vs,h with
   |v::vs,h=>exact Pr l vs m h.2
theorem RT.aj0(hg:Gd ops S gd rg)[tS:gG P T E0 1]{α:Type}{e:α->List SV}[el:EL e 1]{i:Nat}{E1:TypeId}{l k:List α}{m:Int}(hx:S.ev x=.row i)(hR:S.r i=.live (TR E1 1 e l))(hy:S.ev y=.sv (slc 1 (k.map e)))(hd:d<S.n)(hm:((Min.min k.length l.length:Nat):Int)=m)
  (next:RunT P C ops nd K rest (⟨rg++(bk x++bk y),[],[i],⟨some (d,.sv (.v (.int .i64 m))),[],[(i,.live (TR E1 1 e (N1 l k)))]⟩⟩::acc) ((AS.cL [(i,.live (TR E1 1 e (N1 l k)))] S).set d (.sv (.v (.int .i64 m))))):RunT P C ops nd K (⟨some d,.call ⟨.builtin .copy,#[x,y],#[T,U]⟩,ty,pos,aft,gd⟩::rest) acc S:=by
 subst hm;refine .inl ⟨_,[],[i],_,?_,next⟩;rintro S' hn' ht _ VA ix a w L Q ho ⟨E,h⟩ hL;refine dw (C:=C) ho (hg.wanted h (λs hs=>ht s (List.mem_append_left _ hs)) Y) ?_;have u0:S'.r i=.live (TR E1 1 e l):=by rw[VA i (by simp)];exact hR
 have h1:a.eval x=E.ν i:=by
  have h1:=h.ev x;rw[bR (λ_ h=>List.mem_append_right _ (List.mem_append_left _ h)) ht,hx]at h1;exact h1
 have h2:(slc 1 (k.map e)).h E.M (a.eval y):=by
  have h2:=h.ev y;rw[bR (λ_ h=>List.mem_append_right _ (List.mem_append_right _ h)) ht,hy]at h2;exact h2
 have hsrc:∃sa sc,a.eval y=.slice sa k.length sc:=by
  rcases h2 with⟨sa,q1,q2⟩|⟨b,o,c,q1,_⟩
  ·have:k=[]:=List.map_eq_nil_iff.1 q2;subst this;exact⟨sa,0,q1⟩
  rw[List.length_map]at q1;exact⟨_,c,q1⟩
 obtain⟨⟨us,hown,EY⟩,_⟩:=h.rx i _ u0;have aoL:∃da dc,E.ν i=.slice da l.length dc:=by
  rcases hown.2 with⟨q1,q2⟩|⟨g,cap,cur,q1,_⟩
  ·have q2:l.length=0:=q2;exact⟨none,0,by rw[q2];exact q1⟩
  exact⟨_,cap,q1⟩
 obtain⟨sa,sc,hs⟩:=hsrc;by_cases h0:Nat.min k.length l.length=0
 ·obtain⟨da,dc,hdv⟩:=aoL;have hc:N1 l k=l:=by
   rcases Nat.eq_zero_or_pos l.length with q|q
   ·have:=List.length_eq_zero_iff.1 q;subst this;simp[N1]
   have:k.length=0:=by
    have h0:Min.min k.length l.length=0:=h0;omega
   have:=List.length_eq_zero_iff.1 this;subst this;simp[N1]
  have hr:(execOp a.eval ⟨some d,.call ⟨.builtin .copy,#[x,y],#[T,U]⟩,ty,pos,aft,gd⟩).run P w=.ok (.value (goInt 0)) w:=by
   have:=run_copy_none (P:=P) w T U ty E0 da sa l.length dc k.length sc tS.u tS.s h0;simp[execOp,resolve,invoke,builtin,h1,hs,hdv,this]
  refine dm (C:=C) (by intro c h;cases h) hr (hL _ _ ⟨E,?_⟩);rw[hc];have e0:((Min.min k.length l.length:Nat):Int)=0:=by
   have h0:Min.min k.length l.length=0:=h0;rw[h0];rfl
  rw[e0];have:AS.app S' ⟨some (d,.sv (.v (.int .i64 0))),[],[(i,.live (TR E1 1 e l))]⟩=S'.set d (.sv (.v (.int .i64 0))):=by
   show(AS.xX S' i _).set d _=_;rw[AS.Ld u0]
  rw[this];exact h.put (x:=.sv (.v (.int .i64 0))) (v:=.int .i64 0) Y (by show d<S'.n;omega) ik
 have hpos:0<Min.min k.length l.length:=Nat.pos_of_ne_zero h0;obtain⟨g,F6⟩:∃g,(E.ν i).ownBlock=some g:=by
  rcases hown.2 with⟨_,q2⟩|⟨g,cap,cur,q1,_⟩
  ·have q2:l.length=0:=q2;omega
  exact⟨g,by rw[q1];rfl⟩
 obtain⟨cur,vs,q1,q2,q3,q4,cap,q5,q6,q7,q8⟩:=Ia h u0 F6;replace q2:cur.take (l.length*1)=vs:=q2;replace q3:vs.length=l.length*1:=q3;replace q6:l.length<=cap:=q6;replace q8:cur.length=cap*1:=q8;rcases h2 with⟨sa',r1,r2⟩|⟨b,o,c,r1,_,_,r4⟩
 ·have:k=[]:=List.map_eq_nil_iff.1 r2;subst this;simp at hpos
 rw[List.length_map]at r1;rw[hs]at r1;cases r1;obtain⟨cs,c1,c2,c3⟩:=LC (M:=E.M) (b:=b) (e:=e) (k.take (Min.min k.length l.length)) o (λj row hr q s hq=>by
  refine(r4 j row ?_).2 q s hq;rw[List.map_take,List.getElem?_take]at hr;split at hr
  ·exact hr
  cases hr)
 have uF:cs.length=Nat.min k.length l.length:=by rw[c1,List.length_take];show Min.min (Min.min k.length l.length) k.length=Min.min k.length l.length;omega
 have af3:cs.length=Min.min k.length l.length:=uF;have hrun:=run_copy_row (P:=P) w T U ty E0 g 0 l.length cap ⟨b,o,none⟩ k.length sc ⟨cur⟩ E1 cs tS.u tS.s q1 uF (λj v hj=>by
  rw[jO];exact(h.ef _ _ _ (c3 j v hj).1).cell (c3 j v hj).2) (by simp;omega) (λv hv=>by
  obtain⟨j,hj,rfl⟩:=List.getElem_of_mem hv;exact(c3 j _ (List.getElem?_eq_getElem hj)).2)
 have hr:(execOp a.eval ⟨some d,.call ⟨.builtin .copy,#[x,y],#[T,U]⟩,ty,pos,aft,gd⟩).run P w=.ok (.value (goInt cs.length)) (w.setRow g (cs++cur.drop cs.length).toArray):=by
  have hrun:(Builtin.copy_ #[T,U] ty #[.slice (some ⟨g,0,none⟩) l.length cap,.slice (some ⟨b,o,none⟩) k.length sc]).run P w=.ok (goInt cs.length) (w.setRow g (cs++cur.drop cs.length).toArray):=by simpa using hrun
  have q5:E.ν i=.slice (some ⟨g,0,none⟩) l.length cap:=q5;simp[execOp,resolve,invoke,builtin,h1,hs,q5,hrun]
 have aoM:N1 l k=k.take (Min.min k.length l.length)++l.drop (Min.min k.length l.length):=by
  unfold N1;have e1:k.take l.length=k.take (Min.min k.length l.length):=by rw[List.take_eq_take_iff];omega
  have e2:l.drop k.length=l.drop (Min.min k.length l.length):=by rw[List.drop_eq_drop_iff];omega
  rw[e1,e2]
 have hall:SV.fX E.M ((N1 l k).flatMap e) (cs++vs.drop cs.length):=by
  rw[aoM,List.flatMap_append,<-af3];rw[<-af3]at c2;exact SV.fX.append c2 (Pr l vs cs.length q4)
 have hh:=setRow_heap w g ⟨cur⟩ (cs++cur.drop cs.length).toArray E1 (0,0) q1;have aj1:(w.setRow g (cs++cur.drop cs.length).toArray).ownsRow 0 E1 1 (E.ν i) l.length (cs++vs.drop cs.length):=by
  refine⟨by simp;omega,.inr ⟨g,cap,_,q5,Nat.zero_le _,hh,q6,q7,by simp;omega,?_⟩⟩;rw[<-q2];simp only[List.take_append,List.length_take,List.drop_take];congr 1;rw[List.take_of_length_le (by omega)]
 have hp:=h.QM u0 F6 (w':=w.setRow g (cs++cur.drop cs.length).toArray) ⟨_,_,q1⟩ Y Y Y (by simp[World.setRow]) (λk' hk'=>setRow_other w g k' _ hk') aj1 hall;refine dm (C:=C) (by intro c h;cases h) hr (hL _ _ ⟨E,?_⟩);have hrow:(⟨(TR E1 1 e l).E,(TR E1 1 e l).sz,(TR E1 1 e l).n,(N1 l k).flatMap e⟩:Row)=TR E1 1 e (N1 l k):=by
  show Row.mk _ _ l.length _=Row.mk _ _ (N1 l k).length _;rw[aaI]
 rw[hrow]at hp;rw[<-af3];exact hp.put (x:=.sv (.v (.int .i64 cs.length))) (v:=.int .i64 cs.length) Y (by show d<S'.n;omega) ik
end steps
end
end Go.Fw
namespace Go.Proofs.YtningmnklfpfjaaGreat
section
open Go.Fw
noncomputable def di(x0:Tb):Option (Bool):=match x0 with|⟨bn,bp,bB,bD,cC⟩=>cJ (λ(aj2:Bool)=>some aj2) λK3=>(bif false then none else(some (!bn)).bind λdG=>some dG).bind λac6=>K3 ac6
noncomputable def gM(x0:Tb):Option (Int):=match x0 with|⟨bn,bp,bB,bD,cC⟩=>(some (cC.length:Int)).bind λff=>(some (IntKind.i64.wrap (bp+ff))).bind λc8=>some c8
noncomputable def oC(x0:Tb)(x1:Int):Option (List Qr):=match x0 with|⟨bn,bp,bB,bD,cC⟩=>(some (cC.length:Int)).bind λc8=>(J9 64 c8 (⟨⟨false,[]⟩,⟨false,[]⟩⟩:Qr)).bind λeY=>(some (cC.length:Int)).bind λeE=>(b9 (λ(s8:Int×(List Qr))=>match s8 with|⟨Ps,Pt⟩=>(show Option ((Int×(List Qr))⊕((List Qr)))from(some (decide ((Ps:Int)<eE))).bind λgK=>(bif gK then(cM cC Ps).bind λiK=>(cM iK x1).bind λ⟨⟨ac7,ac8⟩,⟨ac9,ada⟩⟩=>(dP ⟨⟨ac7,ac8⟩,⟨ac9,ada⟩⟩).bind λ⟨⟨sn,sq⟩,⟨Gp,Gq⟩⟩=>(qg Pt Ps).bind λnu=>(stM Pt nu ⟨⟨sn,sq⟩,⟨Gp,Gq⟩⟩).bind λCc=>(some (IntKind.i64.wrap (Ps+1))).bind λjY=>some (.inl (jY,Cc))else some (.inr Pt)))) (0,eY)).bind λIX=>some IX
noncomputable def m8(x0:Tb)(x1:Int):Option (List Qr):=match x0 with|⟨bn,bp,bB,bD,cC⟩=>(some (bB.length:Int)).bind λc8=>(some (IntKind.i64.wrap (c8+bp))).bind λdR=>(J9 64 dR (⟨⟨false,[]⟩,⟨false,[]⟩⟩:Qr)).bind λeE=>(some (decide ((x1:Int)<bp))).bind λgV=>cJ (λ(W0:(List Qr))=>some W0) λUG=>(bif gV then(some (bB.length:Int)).bind λiM=>(b9 (λ(Td:Int×(List Qr))=>match Td with|⟨IY,IZ⟩=>(show Option ((Int×(List Qr))⊕((List Qr)))from(some (decide ((IY:Int)<iM))).bind λnu=>(bif nu then(cM bB IY).bind λow=>(cM ow x1).bind λ⟨⟨Ee,Ef⟩,⟨LD,LF⟩⟩=>(qg IZ IY).bind λyH=>(stM IZ yH ⟨⟨Ee,Ef⟩,⟨LD,LF⟩⟩).bind λZJ=>(some (IntKind.i64.wrap (IY+1))).bind λpD=>some (.inl (pD,ZJ))else some (.inr IZ)))) (0,eE)).bind λDc=>(some (bB.length:Int)).bind λuN=>(some (IntKind.i64.wrap (uN+x1))).bind λAu=>(dK (-1)).bind λ⟨⟨Lp,Lq⟩,⟨W2,W4⟩⟩=>(qg Dc Au).bind λAy=>(stM Dc Ay ⟨⟨Lp,Lq⟩,⟨W2,W4⟩⟩).bind λl22=>UG l22 else UG eE)
noncomputable def lS(x0:Tb)(x1:List Qr):Option (List Qr):=match x0 with|⟨bn,bp,bB,bD,cC⟩=>(some (bB.length:Int)).bind λc8=>(some (IntKind.i64.wrap (c8+bp))).bind λdR=>(J9 64 dR (⟨⟨false,[]⟩,⟨false,[]⟩⟩:Qr)).bind λeE=>(some (x1.length:Int)).bind λgK=>(b9 (λ(nB:(List Qr)×Int)=>match nB with|⟨I0,zM⟩=>(show Option (((List Qr)×Int)⊕((List Qr)))from(some (decide ((zM:Int)<gK))).bind λiK=>(bif iK then(cM x1 zM).bind λ⟨⟨kE,kF⟩,⟨qm,qo⟩⟩=>cJ (λ(RB:Bool)=>cJ (λ(W5:(List Qr))=>(some (IntKind.i64.wrap (zM+1))).bind λCX=>some (.inl (W5,CX))) λK21=>(bif RB then(cM bD zM).bind λAu=>(m8 ⟨bn,bp,bB,bD,cC⟩ Au).bind λAy=>(iY ⟨⟨kE,kF⟩,⟨qm,qo⟩⟩ Ay I0).bind λGN=>K21 GN else K21 I0)) λK19=>(cM bD zM).bind λnu=>(some (decide ((nu:Int)<bp))).bind λpE=>(bif pE then(kD ⟨⟨kE,kF⟩,⟨qm,qo⟩⟩).bind λlj=>(some (decide ((lj:Int)≠0))).bind λyH=>some yH else some false).bind λW6=>K19 W6 else some (.inr I0)))) (eE,0)).bind λyV=>some yV
noncomputable def jz(x0:Tb):Option (List Int):=match x0 with|⟨bn,bp,bB,bD,cC⟩=>(di ⟨bn,bp,bB,bD,cC⟩).bind λx5=>(bif x5 then some []else(some (bD.length:Int)).bind λdG=>(J9 8 dG (0:Int)).bind λff=>some (N1 ff bD))
noncomputable def jL(x0:Tb):Option (List Qr):=match x0 with|⟨bn,bp,bB,bD,cC⟩=>(di ⟨bn,bp,bB,bD,cC⟩).bind λx4=>(bif x4 then some []else(gM ⟨bn,bp,bB,bD,cC⟩).bind λx7=>(oC ⟨bn,bp,bB,bD,cC⟩ x7).bind λx8=>some x8)
noncomputable def dz(x0:Tb)(x1:Int):Option (List Qr):=match x0 with|⟨bn,bp,bB,bD,cC⟩=>cJ (λ(W7:Bool)=>(bif W7 then some []else(oC ⟨bn,bp,bB,bD,cC⟩ x1).bind λgK=>(lS ⟨bn,bp,bB,bD,cC⟩ gK).bind λgh=>(m8 ⟨bn,bp,bB,bD,cC⟩ x1).bind λgV=>(yP gh gV).bind λke=>some ke)) λK6=>(di ⟨bn,bp,bB,bD,cC⟩).bind λx6=>(bif x6 then some true else(some (decide ((x1:Int)<0))).bind λx9=>some x9).bind λadb=>(bif adb then some true else(gM ⟨bn,bp,bB,bD,cC⟩).bind λdV=>(some (decide ((dV:Int)<=x1))).bind λdN=>some dN).bind λaf4=>K6 af4
noncomputable def kG(x0:Tb):Option (List Qr):=match x0 with|⟨bn,bp,bB,bD,cC⟩=>(di ⟨bn,bp,bB,bD,cC⟩).bind λx4=>(bif x4 then some []else(jL ⟨bn,bp,bB,bD,cC⟩).bind λx7=>(lS ⟨bn,bp,bB,bD,cC⟩ x7).bind λx8=>some x8)
noncomputable def iF(x0:Tb):Option (List Qr):=match x0 with|⟨bn,bp,bB,bD,cC⟩=>(di ⟨bn,bp,bB,bD,cC⟩).bind λx7=>(bif x7 then some []else(J9 64 bp (⟨⟨false,[]⟩,⟨false,[]⟩⟩:Qr)).bind λc8=>(jL ⟨bn,bp,bB,bD,cC⟩).bind λdV=>(some (dV.length:Int)).bind λdN=>(b9 (λ(uG:Int×(List Qr))=>match uG with|⟨I1,I2⟩=>(show Option ((Int×(List Qr))⊕((List Qr)))from(some (decide ((I1:Int)<dN))).bind λdR=>(bif dR then(cM dV I1).bind λ⟨⟨lM,lO⟩,⟨wH,wI⟩⟩=>(cM bD I1).bind λji=>(some (decide ((ji:Int)<bp))).bind λjY=>cJ (λ(RC:(List Qr))=>(some (IntKind.i64.wrap (I1+1))).bind λyz=>some (.inl (yz,RC))) λGK=>(bif jY then(cM bD I1).bind λyg=>(qg I2 yg).bind λpD=>(stM I2 pD ⟨⟨lM,lO⟩,⟨wH,wI⟩⟩).bind λTe=>GK Te else GK I2)else some (.inr I2)))) (0,c8)).bind λI3=>some I3)
noncomputable def sK(x0:Tb):Option (List (List Qr)):=match x0 with|⟨bn,bp,bB,bD,cC⟩=>(di ⟨bn,bp,bB,bD,cC⟩).bind λx7=>(bif x7 then some []else(some (cC.length:Int)).bind λc8=>(b9 (λ(s6:Int×(List (List Qr)))=>match s6 with|⟨Tf,gB⟩=>(show Option ((Int×(List (List Qr)))⊕((List (List Qr))))from(some (decide ((Tf:Int)<c8))).bind λdV=>(bif dV then(cM cC Tf).bind λdN=>(gM ⟨bn,bp,bB,bD,cC⟩).bind λgK=>(mE dN gK).bind λgh=>(mQ 24 gB [gh]).bind λgU=>(some (IntKind.i64.wrap (Tf+1))).bind λgV=>some (.inl (gV,gU))else some (.inr gB)))) (0,[])).bind λdr=>some dr)
noncomputable def jS(x0:Tb):Option (Bool):=match x0 with|⟨bn,bp,bB,bD,cC⟩=>(di ⟨bn,bp,bB,bD,cC⟩).bind λx6=>(bif x6 then some false else(jL ⟨bn,bp,bB,bD,cC⟩).bind λx8=>(some (x8.length:Int)).bind λx9=>(b9 (λ(Tg:Int)=>(show Option ((Int)⊕((Unit)⊕(Bool)))from(some (decide ((Tg:Int)<x9))).bind λff=>(bif ff then(cM x8 Tg).bind λ⟨⟨jg,iT⟩,⟨Th,Ti⟩⟩=>(kD ⟨⟨jg,iT⟩,⟨Th,Ti⟩⟩).bind λdN=>(some (decide ((dN:Int)<0))).bind λeX=>(bif eX then some (.inr (.inr false))else(some (IntKind.i64.wrap (Tg+1))).bind λdR=>some (.inl dR))else some (.inr (.inl ()))))) 0).bind λe6=>match e6 with|.inr v6=>some v6|.inl _=>some true)
noncomputable def jA(x0:Tb):Option (Bool):=match x0 with|⟨bn,bp,bB,bD,cC⟩=>(di ⟨bn,bp,bB,bD,cC⟩).bind λx5=>(bif x5 then some false else(vX (λ(k:Nat) (s3:Unit)=>(show Option ((Unit)⊕(Bool))from(some ((k:Nat):Int)).bind λp8=>(dz ⟨bn,bp,bB,bD,cC⟩ p8).bind λff=>(wG ff).bind λc8=>(some (decide ((c8:Int)<0))).bind λeY=>(bif eY then some (.inr false)else some (.inl ())))) ((IntKind.i64.wrap (Tb.vars ⟨bn,bp,bB,bD,cC⟩+((Tb.rows ⟨bn,bp,bB,bD,cC⟩).length:Int))).toNat) ()).bind λe3=>match e3 with|.inr v3=>some v3|.inl _=>some true)
noncomputable def gZ(x0:Tb):Option (List (List Qr)):=match x0 with|⟨bn,bp,bB,bD,cC⟩=>(di ⟨bn,bp,bB,bD,cC⟩).bind λx6=>(bif x6 then some []else(uK (λ(k:Nat) (wO:(List (List Qr)))=>(show Option ((List (List Qr)))from(some ((k:Nat):Int)).bind λp9=>(dz ⟨bn,bp,bB,bD,cC⟩ p9).bind λeY=>(mQ 24 wO [eY]).bind λdN=>some dN)) ((IntKind.i64.wrap (Tb.vars ⟨bn,bp,bB,bD,cC⟩+((Tb.rows ⟨bn,bp,bB,bD,cC⟩).length:Int))).toNat) []).bind λwO=>some wO)
noncomputable def ga(x0:Lr):Option (Bool×Int×(List (List Qr))×(List Int)×(List (List Qr))):=match x0 with|⟨bn,bp,bB,bD⟩=>(some (bp.length:Int)).bind λdN=>(b9 (λ(s6:Int×(List (List Qr)))=>match s6 with|⟨Tj,MR⟩=>(show Option ((Int×(List (List Qr)))⊕((List (List Qr))))from(some (decide ((Tj:Int)<dN))).bind λdR=>(bif dR then(cM bp Tj).bind λeE=>(mE eE bn).bind λlp=>(mQ 24 MR [lp]).bind λuM=>(some (IntKind.i64.wrap (Tj+1))).bind λow=>some (.inl (ow,uM))else some (.inr MR)))) (0,[])).bind λyn=>(some (bB.length:Int)).bind λnF=>(b9 (λ(s30:Int×(List Int)×(List (List Qr)))=>match s30 with|⟨wP,BV,BW⟩=>(show Option ((Int×(List Int)×(List (List Qr)))⊕((List Int)×(List (List Qr))))from(some (decide ((wP:Int)<nF))).bind λuL=>(bif uL then(some (bB.length:Int)).bind λsj=>(some (IntKind.i64.wrap (bn+sj))).bind λyd=>(some (IntKind.i64.wrap (yd+1))).bind λyI=>(J9 64 yI (⟨⟨false,[]⟩,⟨false,[]⟩⟩:Qr)).bind λxl=>(b9 (λ(SX:Int×(List Qr))=>match SX with|⟨I4,I5⟩=>(show Option ((Int×(List Qr))⊕((List Qr)))from(some (decide ((I4:Int)<bn))).bind λBS=>(bif BS then(Bf bB wP I4).bind λ⟨⟨LG,LH⟩,⟨LI,LJ⟩⟩=>(qg I5 I4).bind λQz=>(stM I5 Qz ⟨⟨LG,LH⟩,⟨LI,LJ⟩⟩).bind λZA=>(some (IntKind.i64.wrap (I4+1))).bind λN2=>some (.inl (N2,ZA))else some (.inr I5)))) (0,xl)).bind λDd=>(some (IntKind.i64.wrap (bn+wP))).bind λMv=>(dK 1).bind λ⟨⟨LK,LM⟩,⟨LN,LO⟩⟩=>(qg Dd Mv).bind λQ2=>(stM Dd Q2 ⟨⟨LK,LM⟩,⟨LN,LO⟩⟩).bind λl42=>(some (l42.length:Int)).bind λVl=>(some (IntKind.i64.wrap (Vl-1))).bind λOy=>(cM bD wP).bind λ⟨⟨ade,adf⟩,⟨adg,adh⟩⟩=>(dP ⟨⟨ade,adf⟩,⟨adg,adh⟩⟩).bind λ⟨⟨W8,W9⟩,⟨Xa,Xb⟩⟩=>(qg l42 Oy).bind λUs=>(stM l42 Us ⟨⟨W8,W9⟩,⟨Xa,Xb⟩⟩).bind λl44=>(mQ 24 BW [l44]).bind λx87=>(some (IntKind.i64.wrap (bn+wP))).bind λZK=>(mQ 8 BV [ZK]).bind λaf6=>(some (IntKind.i64.wrap (wP+1))).bind λKp=>some (.inl (Kp,af6,x87))else some (.inr (BV,BW))))) (0,[],[])).bind λe30=>match e30 with|⟨Tk,Tl⟩=>some (true,bn,yn,Tk,Tl)
noncomputable def kW(x0:Lr):Option (Bool×Int×(List (List Qr))×(List Int)×(List (List Qr))):=match x0 with|⟨bn,bp,bB,bD⟩=>(mG ⟨bn,bp,bB,bD⟩).bind λx5=>(some (!x5)).bind λx6=>(bif x6 then none else(ga ⟨bn,bp,bB,bD⟩).bind λ⟨qJ,qK,Ba,Bb,aaJ⟩=>some (qJ,qK,Ba,Bb,aaJ))
noncomputable def ug(x0:List Qr)(O5:Qr):Option (List Qr):=match O5 with|⟨⟨O6,O7⟩,⟨O8,O9⟩⟩=>(nV ⟨⟨O6,O7⟩,⟨O8,O9⟩⟩ x0).bind λx6=>some x6
noncomputable def oD(o0:Bool)(o1:Int)(o2:List (List Qr))(o3:List Int)(o4:List (List Qr))(x0:List Qr)(O5:Int)(c_2:Int):Option (List Qr):=(cM x0 O5).bind λ⟨⟨qJ,qK⟩,⟨Ba,Bb⟩⟩=>(kD ⟨⟨qJ,qK⟩,⟨Ba,Bb⟩⟩).bind λdG=>(some (decide ((dG:Int)=0))).bind λff=>(bif ff then some x0 else(cM x0 O5).bind λ⟨⟨jQ,jR⟩,⟨xG,xH⟩⟩=>(sH ⟨⟨jQ,jR⟩,⟨xG,xH⟩⟩).bind λ⟨⟨qY,qZ⟩,⟨Ak,Al⟩⟩=>(qg o4 c_2).bind λgU=>(o4[gU]?).bind λgV=>(iY ⟨⟨qY,qZ⟩,⟨Ak,Al⟩⟩ gV x0).bind λji=>some ji)
noncomputable def fk(o0:Bool)(o1:Int)(o2:List (List Qr))(o3:List Int)(o4:List (List Qr))(x1:Int)(x2:Int):Option ((List (List Qr))×(List Int)×(List (List Qr))):=(dK 1).bind λ⟨⟨AL,AM⟩,⟨adi,adj⟩⟩=>(qg o4 x1).bind λjb=>(o4[jb]?).bind λgK=>(cM gK x2).bind λ⟨⟨wB,wC⟩,⟨wD,wE⟩⟩=>(wz ⟨⟨AL,AM⟩,⟨adi,adj⟩⟩ ⟨⟨wB,wC⟩,⟨wD,wE⟩⟩).bind λ⟨⟨⟨FD,FE⟩,⟨FF,FG⟩⟩,UB⟩=>(qg o4 x1).bind λyH=>(o4[yH]?).bind λpD=>(ug pD ⟨⟨FD,FE⟩,⟨FF,FG⟩⟩).bind λyz=>(qg o4 x1).bind λsj=>(stM o4 sj yz).bind λl2=>(some (l2.length:Int)).bind λBS=>(b9 (λ(Ah:Int×(List (List Qr)))=>match Ah with|⟨xM,j0⟩=>(show Option ((Int×(List (List Qr)))⊕((List (List Qr))))from(some (decide ((xM:Int)<BS))).bind λVm=>(bif Vm then(qg j0 xM).bind λCX=>(j0[CX]?).bind λGL=>(some (decide ((xM:Int)≠x1))).bind λLn=>cJ (λ(Bk:(List (List Qr)))=>(some (IntKind.i64.wrap (xM+1))).bind λx70=>some (.inl (x70,Bk))) λXc=>(bif Ln then(oD o0 o1 o2 o3 j0 GL x2 x1).bind λQ2=>(qg j0 xM).bind λWd=>(stM j0 Wd Q2).bind λl17=>Xc l17 else Xc j0)else some (.inr j0)))) (0,l2)).bind λyW=>some (o2,o3,yW)
noncomputable def bY(o0:Bool)(o1:Int)(o2:List (List Qr))(o3:List Int)(o4:List (List Qr))(x1:Int)(x2:Int):Option (Int×(List (List Qr))×(List Int)×(List (List Qr))):=(di (⟨o0,o1,o2,o3,o4⟩:Tb)).bind λdG=>(bif dG then some (2,o2,o3,o4)else cJ (λ(Xd:Bool)=>(bif Xd then some (1,o2,o3,o4)else(some (o3.length:Int)).bind λnF=>(b9 (λ(MS:Int)=>(show Option ((Int)⊕((Unit)⊕(Int×(List (List Qr))×(List Int)×(List (List Qr)))))from(some (decide ((MS:Int)<nF))).bind λuL=>(bif uL then(qg o3 MS).bind λyg=>(o3[yg]?).bind λlj=>(some (decide ((lj:Int)=x2))).bind λyz=>(bif yz then some (.inr (.inr (1,o2,o3,o4)))else(some (IntKind.i64.wrap (MS+1))).bind λsj=>some (.inl sj))else some (.inr (.inl ()))))) 0).bind λBl=>match Bl with|.inr jM=>some jM|.inl _=>(qg o4 x1).bind λAu=>(o4[Au]?).bind λBS=>(cM BS x2).bind λ⟨⟨Cy,Cz⟩,⟨CA,CB⟩⟩=>(kD ⟨⟨Cy,Cz⟩,⟨CA,CB⟩⟩).bind λCX=>(some (decide ((CX:Int)=0))).bind λGL=>(bif GL then some (7,o2,o3,o4)else(fk o0 o1 o2 o3 o4 x1 x2).bind λ⟨ZJ,l21,l22⟩=>(qg l21 x1).bind λVh=>(stM l21 Vh x2).bind λl24=>some (0,ZJ,l24,l22)))) λUG=>(some (decide ((x1:Int)<0))).bind λc8=>(bif c8 then some true else(some (o4.length:Int)).bind λjb=>(some (decide ((jb:Int)<=x1))).bind λgK=>some gK).bind λXe=>(bif Xe then some true else(some (decide ((x2:Int)<0))).bind λgV=>some gV).bind λaf7=>(bif af7 then some true else(gM (⟨o0,o1,o2,o3,o4⟩:Tb)).bind λiM=>(some (decide ((iM:Int)<=x2))).bind λuM=>some uM).bind λaf8=>UG af8)
end
section
open Go.Fw Go.Fw.Z Go.RowKit
instance:S7 ah 30:=⟨by kernel_rfl⟩
theorem fm{x0:Tb}{r:Bool}(h:di x0=some r):Pure ah 57 [ref (xk x0)] (aA r):=by
 obtain⟨bn,bp,bB,bD,cC⟩:=x0;refine bj Tryz.func57 Y (af Y) (λc9 M vs hvs=>?_);unfold di at h;refine sr<|ag Y<|dn<|qq ?_;refine bL h (λj3=>AS.cu 12 [(2,aj j3)] [] []) (λh=>?_) (λaj2 h=>?_);refine aX<|mv Y<|RT.WY .none Y Y T<|mv Y<|bE h λac6 r6 h=>gm Y<|RT.cq (.some Y Y) Y T<|RT.bQ (.some Y Y) Y T Y<|gr Y Y<|lE (F r6) λdG fY r6=>Qy Y _ fY ?_;obtain rfl:=O r6;exact pF Y<|ag Y<|dn<|⟨dG,h,wR []⟩
 try dsimp only
 refine aW.n<|aY ?_;obtain rfl:=O h;exact R1 Y
theorem ry{x0:Tb}{r:Int}(h:gM x0=some r):Pure ah 58 [ref (xk x0)] (ay r):=by
 obtain⟨bn,bp,bB,bD,cC⟩:=x0;refine bj Tryz.func58 Y (af Y) (λc9 M vs hvs=>?_);unfold gM at h;refine sr<|ag Y<|dn<|qq<|aZ mixed<|mv Y<|RT.cq .none Y T<|RT.bQ .none Y T Y<|lr Y Y<|mv Y<|RT.cq .none Y T<|RT.bQ .none Y T Y<|lr Y Y<|lE h λff kz h=>ln Y kz<|lE h λc8 fI h=>ad _ Y Y fI<|ag Y ?_;refine RT.done ⟨by kernel_rfl,?_⟩;refine aW.n<|aY ?_;obtain rfl:=O h;exact R1 Y
theorem CC{x0:Tb}{x1:Int}(N:Nat){r:List Qr}(h:oC x0 x1=some r):dB ah 64 N [ref (xk x0),ay x1] (nw N (slc 4 (List.map (fQ N) r))):=by
 obtain⟨bn,bp,bB,bD,cC⟩:=x0;refine bT Tryz.func64 Y (af Y) (λc9 M vs hN hvs=>?_);unfold oC at h;refine sr<|aI Y (bt (N:=N) (n:=4) (e:=(fQ N)))<|dn<|sr<|mv Y<|RT.cq .none Y T<|RT.bQ .none Y T Y<|lr Y Y<|lE h λc8 fI h=>ln Y fI<|bE h λeY iX h=>RT.vW (n:=4) (e:=(fQ N)) .none Y Y T Y T (by rfl) (by decide) (by exact⟨au,bt,au,bt,aq⟩) iX<|an (s:=.row _) Y<|dn<|qq<|sr<|mv Y<|RT.cq .none Y T ?_;refine RT.bQ .none Y T Y<|lr Y Y<|lE h λeE jd h=>ln Y jd<|mv Y<|dn<|bE h λe8 Kt AX=>?_;refine bJ (λ(IX:(List Qr))=>AS.cu 34 [(5,.row 13)] [] [(13,TR 43 4 (fQ N) IX)]) (λIX=>IX=e8) ?_ (λIX Ku=>?_);refine bf ?_;refine bK Kt (λs8=>AS.cu 34 [(1,ai x1),(5,.row 13),(17,.sv (slc 1 (List.map (eS 4 eQ) cC))),(18,ai eE),(19,ai s8.1)] [] [(13,TR 43 4 (fQ N) s8.2)]) (wR []) (λs8 y8 G8 h Kv Kw=>?_);obtain⟨Ps,Pt⟩:=s8
 try dsimp only
 refine sr<|lE h λgK oP h=>ls _ Y Y oP<|dn<|qq ?_;cases gK;refine cF<|bP<|aW.x<|aW.x<|bF.x<|aW.n ?_;obtain rfl:=O (F h);exact⟨Pt,Kw _ Y,wR []⟩;refine cT<|bu<|aW.n<|qq<|bf<|sr<|mv Y<|bE (V h) λiK oA h=>ix Y Y oA<|lr Y Y<|ag Y<|ag Y<|dn<|aX<|mo (s:=.row _) Y<|mv Y<|mv Y<|mv Y ?_;obtain⟨⟨⟨ac7,ac8⟩,⟨ac9,ada⟩⟩,vA,h⟩:=bS h;refine ix Y Y vA<|RT.gJ (cs:=[_,_,_,_]) .none Y T Y Y ?_;obtain⟨⟨⟨sn,sq⟩,⟨Gp,Gq⟩⟩,zH,h⟩:=bS h;refine RT.bX .none (ny N zH) hN Y ⟨Y,aq⟩ T<|bE h λnu xy h=>iR Y Y Y xy<|bE h λCc vZ h=>sA ⟨⟨sn,sq⟩,⟨Gp,Gq⟩⟩ Y Y Y vZ<|RT.done<|bF.n<|aW.n<|aX<|lE h λjY qT h=>ad _ Y Y qT<|mv Y<|RT.done ?_;obtain rfl:=O h;exact aW.n ⟨(jY,Cc),Kv _ Y,wR []⟩;subst Ku
 try dsimp only
 refine aW.n<|sr<|mo (s:=.row _) Y<|an (s:=.row _) Y<|dn<|ku (i:=13) (E1:=43) (n:=4) (e:=(fQ N)) (l:=IX) hN (λ_ h=>h) Y<|aY ?_;obtain rfl:=O AX;exact R1 Y
theorem Bm{x0:Tb}{x1:Int}{r:List Qr}(h:m8 x0 x1=some r):Pure ah 78 [ref (xk x0),ay x1] (slc 4 (List.map eQ r)):=by
 obtain⟨bn,bp,bB,bD,cC⟩:=x0;refine bj Tryz.func78 Y (af Y) (λc9 M vs hvs=>?_);unfold m8 at h;refine sr<|aI Y (aC (n:=4) (e:=eQ))<|dn<|qq<|aZ mixed<|mv Y<|RT.cq .none Y T<|RT.bQ .none Y T Y<|lr Y Y<|lE h λc8 fI h=>ln Y fI<|mv Y<|RT.cq .none Y T<|RT.bQ .none Y T Y<|lr Y Y<|lE h λdR jK h=>ad _ Y Y jK<|bE h λeE jd h=>RT.vW (n:=4) (e:=eQ) .none Y Y T Y T (by rfl) (by decide) (by exact⟨au,aC,au,aC,aq⟩) jd ?_;refine an (s:=.row _) Y ?_;refine RT.done ⟨by kernel_rfl,?_⟩;refine aW.n<|qq<|sr<|mv Y<|mv Y<|RT.cq .none Y T<|RT.bQ .none Y T Y<|lr Y Y<|lE h λgV nG h=>ls _ Y Y nG<|dn ?_;refine bL h (λQC=>AS.cu 54 [(5,.row 18)] [] [(18,TR 43 4 eQ QC)]) (λh=>?_) (λW0 h=>?_);cases gV;exact fs<|⟨eE,(F h),wR []⟩;refine cT<|qq<|sr<|mv Y<|RT.cq .none Y T<|RT.bQ .none Y T Y<|lr Y Y<|lE (V h) λiM oN h=>ln Y oN<|mv Y<|dn<|bE h λe18 af9 Bn=>?_;refine bJ (λ(Dc:(List Qr))=>AS.cu 54 [(0,.sv (ref [aA bn,ay bp,slc 1 (List.map (eS 4 eQ) bB),slc 1 (List.map bH bD),slc 1 (List.map (eS 4 eQ) cC)])),(1,ai x1),(5,.row 18)] [] [(18,TR 43 4 eQ Dc)]) (λDc=>Dc=e18) ?_ (λDc aga=>?_);refine bf ?_
 refine bK af9 (λTd=>AS.cu 54 [(0,.sv (ref [aA bn,ay bp,slc 1 (List.map (eS 4 eQ) bB),slc 1 (List.map bH bD),slc 1 (List.map (eS 4 eQ) cC)])),(1,ai x1),(5,.row 18),(28,.sv (slc 1 (List.map (eS 4 eQ) bB))),(29,ai iM),(30,ai Td.1)] [] [(18,TR 43 4 eQ Td.2)]) (wR []) (λTd y18 G18 h agb agc=>?_);obtain⟨IY,IZ⟩:=Td
 try dsimp only
 refine sr<|lE h λnu xy h=>ls _ Y Y xy<|dn<|qq ?_;cases nu;refine cF<|bP<|aW.x<|aW.x<|bF.x<|aW.n ?_;obtain rfl:=O (F h);exact⟨IZ,agc _ Y,wR []⟩;refine cT<|bu<|aW.n<|qq<|bf<|sr<|mv Y<|bE (V h) λow xj h=>ix Y Y xj<|lr Y Y<|ag Y<|ag Y<|dn<|aX<|mo (s:=.row _) Y<|mv Y<|mv Y<|mv Y ?_;obtain⟨⟨⟨Ee,Ef⟩,⟨LD,LF⟩⟩,Fo,h⟩:=bS h;refine ix Y Y Fo<|RT.gJ (cs:=[_,_,_,_]) .none Y T Y Y<|bE h λyH GQ h=>iR Y Y Y GQ<|bE h λZJ Xf h=>sA ⟨⟨Ee,Ef⟩,⟨LD,LF⟩⟩ Y Y Y Xf<|RT.done<|bF.n<|aW.n<|aX<|lE h λpD Av h=>ad _ Y Y Av<|mv Y<|RT.done ?_;obtain rfl:=O h;exact aW.n ⟨(pD,ZJ),agb _ Y,wR []⟩;subst aga
 try dsimp only
 refine aW.n<|aZ mixed<|mo (s:=.row _) Y<|mv Y<|RT.cq .none Y T<|RT.bQ .none Y T Y<|lr Y Y<|lE Bn λuN h48 Bn=>ln Y h48<|mv Y<|lE Bn λAu Ks Bn=>ad _ Y Y Ks ?_;obtain⟨⟨⟨Lp,Lq⟩,⟨W2,W4⟩⟩,Iy,Bn⟩:=bS Bn;refine cl (nx Iy) ⟨Y,aq⟩<|bE Bn λAy GS Bn=>iR Y Y Y GS<|bE Bn λl22 aj6 Bn=>sA ⟨⟨Lp,Lq⟩,⟨W2,W4⟩⟩ Y Y Y aj6 ?_;refine RT.done ⟨by kernel_rfl,?_⟩;exact aW.n<|⟨l22,Bn,wR []⟩
 try dsimp only
 refine aW.n<|sr<|mo (s:=.row _) Y<|an (s:=.row _) Y<|dn<|bU (cP (i:=18) (E1:=43) (n:=4) (e:=eQ) (l:=W0) Y)<|aY ?_;obtain rfl:=O h;exact R1 Y
theorem Am{x0:Tb}{x1:List Qr}(N:Nat){r:List Qr}(h:lS x0 x1=some r):dB ah 77 N [ref (xk x0),slc 4 (List.map eQ x1)] (nw N (slc 4 (List.map (fQ N) r))):=by
 obtain⟨bn,bp,bB,bD,cC⟩:=x0;refine bT Tryz.func77 Y (af Y) (λc9 M vs hN hvs=>?_);unfold lS at h;refine sr<|aI Y (bt (N:=N) (n:=4) (e:=(fQ N)))<|dn<|qq<|aZ mixed<|mv Y<|RT.cq .none Y T<|RT.bQ .none Y T Y<|lr Y Y<|lE h λc8 fI h=>ln Y fI<|mv Y<|RT.cq .none Y T<|RT.bQ .none Y T Y<|lr Y Y<|lE h λdR jK h=>ad _ Y Y jK<|bE h λeE jd h=>RT.vW (n:=4) (e:=(fQ N)) .none Y Y T Y T (by rfl) (by decide) (by exact⟨au,bt,au,bt,aq⟩) jd ?_;refine an (s:=.row _) Y ?_;refine RT.done ⟨by kernel_rfl,?_⟩;refine aW.n<|qq<|sr<|mv Y<|lE h λgK oP h=>ln Y oP<|mv Y<|dn<|ku (i:=18) (E1:=43) (n:=4) (e:=(fQ N)) (l:=eE) hN (λ_ h=>h) Y<|bE h λBl sL fC=>?_;refine bJ (λ(yV:(List Qr))=>AS.cu 57 [(5,.sv (nw N (slc 4 (List.map (fQ N) yV))))] [] []) (λyV=>yV=Bl) ?_ (λyV rz=>?_);refine bf ?_;refine bK sL (λnB=>AS.cu 57 [(0,.sv (ref [aA bn,ay bp,slc 1 (List.map (eS 4 eQ) bB),slc 1 (List.map bH bD),slc 1 (List.map (eS 4 eQ) cC)])),(5,.sv (nw N (slc 4 (List.map (fQ N) nB.1)))),(19,.sv (slc 4 (List.map eQ x1))),(20,ai gK),(21,ai nB.2)] [] []) (wR []) (λnB Vn Vo h uT rB=>?_);obtain⟨I0,zM⟩:=nB
 try dsimp only
 refine sr<|lE h λiK oA h=>ls _ Y Y oA<|dn<|qq ?_;cases iK;refine cF<|bP<|aW.x<|aW.x<|bF.x<|aW.n ?_;obtain rfl:=O (F h);exact⟨I0,rB _ Y,wR []⟩;refine cT<|bu<|aW.n<|qq<|bf<|sr<|mv Y ?_;obtain⟨⟨⟨kE,kF⟩,⟨qm,qo⟩⟩,nG,h⟩:=bS (V h);refine ix Y Y nG<|RT.gJ (cs:=[_,_,_,_]) .none Y T Y Y<|al (cs:=[aA false,nw N ax,aA false,nw N ax]) (by exact⟨au,bt,au,bt,aq⟩) Y<|ag Y<|so Y Y Y<|dn<|qq ?_;refine bL h (λj19=>AS.cu 57 [(0,.sv (ref [aA bn,ay bp,slc 1 (List.map (eS 4 eQ) bB),slc 1 (List.map bH bD),slc 1 (List.map (eS 4 eQ) cC)])),(5,.sv (nw N (slc 4 (List.map (fQ N) I0)))),(6,ai zM),(7,.ptr 7 0),(19,.sv (slc 4 (List.map eQ x1))),(20,ai gK),(21,ai zM),(42,aj j19)] [(7,⟨43,[aj kE,.sv (slc 1 (List.map bh kF)),aj qm,.sv (slc 1 (List.map bh qo))]⟩)] []) (λh=>?_) (λRB h=>?_);refine aZ mixed<|mv Y<|RT.cq .none Y T<|RT.bQ .none Y T Y<|lr Y Y<|mv Y<|bE h λnu xy h=>ix Y Y xy<|lr Y Y<|mv Y<|RT.cq .none Y T<|RT.bQ .none Y T Y<|lr Y Y<|lE h λpE AY h=>ls _ Y Y AY<|mv Y<|bE h λW6 Ea h=>?_;cases pE;obtain rfl:=O (F Ea);refine ww<|ww<|ww<|pF Y ?_;refine RT.done ⟨by kernel_rfl,?_⟩;exact aW.n<|⟨false,h,wR []⟩
 refine gl Y Y (.k4 Y Y Y Y)<|bE (V Ea) λlj tf Ea=>gc (q9 tf) ⟨Y,aq⟩<|lE Ea λyH GQ Ea=>gq _ Y Y (Lf (p:=lj) (q:=0) GQ) ?_;obtain rfl:=O Ea;refine pT Y ?_;refine RT.done ⟨by kernel_rfl,?_⟩;exact aW.n<|⟨yH,h,wR []⟩
 try dsimp only
 refine aW.n ?_;refine bL h (λj21=>AS.cu 57 [(0,.sv (ref [aA bn,ay bp,slc 1 (List.map (eS 4 eQ) bB),slc 1 (List.map bH bD),slc 1 (List.map (eS 4 eQ) cC)])),(5,.sv (nw N (slc 4 (List.map (fQ N) j21)))),(19,.sv (slc 4 (List.map eQ x1))),(20,ai gK),(21,ai zM)] [] []) (λh=>?_) (λW5 h=>?_);cases RB;exact fs<|⟨I0,(F h),wR []⟩;refine cT<|aZ mixed<|ld Y Y (.k4 Y Y Y Y)<|mv Y<|mv Y<|RT.cq .none Y T<|RT.bQ .none Y T Y<|lr Y Y<|mv Y<|bE (V h) λAu Ks h=>ix Y Y Ks<|lr Y Y<|bE h λAy GS h=>cl (Bm GS) ⟨Y,Y,aq⟩<|mv Y<|bE h λGN QB h=>RT.bX .none ((yQ N QB).w (args':=[_,_,_]) ⟨au,au,Um,aq⟩) hN Y ⟨Y,Y,Y,aq⟩ T ?_;refine ag Y ?_;refine RT.done ⟨by kernel_rfl,?_⟩;exact aW.n<|⟨GN,h,wR []⟩
 try dsimp only
 refine bF.n<|aW.n<|aX<|lE h λCX Re h=>ad _ Y Y Re<|mv Y<|RT.done ?_;obtain rfl:=O h;exact aW.n ⟨(W5,CX),uT _ Y,wR []⟩;subst rz
 try dsimp only
 refine aW.n<|sr<|mv Y<|ag Y<|dn<|aY ?_;obtain rfl:=O fC;exact R1 Y
theorem zN{x0:Tb}(N:Nat){r:List Int}(h:jz x0=some r):dB ah 17 N [ref (xk x0)] (nw N (slc 1 (List.map bH r))):=by
 obtain⟨bn,bp,bB,bD,cC⟩:=x0;refine bT Tryz.func17 Y (af Y) (λc9 M vs hN hvs=>?_);unfold jz at h;refine sr<|aI Y (bt (N:=N) (n:=1) (e:=bH))<|dn<|qq<|sr<|mv Y<|bE h λx5 h5 h=>cl (fm h5) ⟨Y,aq⟩<|dn ?_;cases x5;refine fs<|sr<|mv Y<|RT.cq .none Y T<|RT.bQ .none Y T Y<|lr Y Y<|lE (F h) λdG fY h=>ln Y fY<|bE h λff kz h=>RT.vW (n:=1) (e:=bH) .none Y Y T Y T (by rfl) (by decide) (by exact⟨au,aq⟩) kz<|an (s:=.row _) Y<|dn<|sr<|mo (s:=.row _) Y<|mv Y<|RT.cq .none Y T<|RT.bQ .none Y T Y<|lr Y Y ?_;refine RT.aj0 (l:=ff) (k:=bD) (e:=bH) .none Y Y Y T Y<|dn<|sr<|mo (s:=.row _) Y<|an (s:=.row _) Y<|dn<|ku (i:=11) (E1:=3) (n:=1) (e:=bH) (l:=(N1 ff bD)) hN (λ_ h=>h) Y<|aY ?_;obtain rfl:=O h;exact R1 Y;refine cT<|sr<|aI Y (bt (N:=N) (n:=1) (e:=bH))<|dn<|aY<|aW.r ?_;obtain rfl:=O (V h);exact R1 Y
theorem MT{x0:Tb}{r:List Int}(h:jz x0=some r):Pure ah 17 [ref (xk x0)] (slc 1 (List.map bH r)):=eM (λN=>zN N h) (λN=>fe)
theorem zO{x0:Tb}(N:Nat){r:List Qr}(h:jL x0=some r):dB ah 19 N [ref (xk x0)] (nw N (slc 4 (List.map (fQ N) r))):=by
 obtain⟨bn,bp,bB,bD,cC⟩:=x0;refine bT Tryz.func19 Y (af Y) (λc9 M vs hN hvs=>?_);unfold jL at h;refine sr<|aI Y (bt (N:=N) (n:=4) (e:=(fQ N)))<|dn<|qq<|sr<|mv Y<|bE h λx4 h4 h=>cl (fm h4) ⟨Y,aq⟩<|dn ?_;cases x4;refine fs<|sr<|mv Y<|mv Y<|bE (F h) λx7 h7 h=>cl (ry h7) ⟨Y,aq⟩<|bE h λx8 h8 h=>RT.bX .none (CC N h8) hN Y ⟨Y,Y,aq⟩ T<|ag Y<|dn<|aY ?_;obtain rfl:=O h;exact R1 Y;refine cT<|sr<|aI Y (bt (N:=N) (n:=4) (e:=(fQ N)))<|dn<|aY<|aW.r ?_;obtain rfl:=O (V h);exact R1 Y
theorem I6{x0:Tb}{r:List Qr}(h:jL x0=some r):Pure ah 19 [ref (xk x0)] (slc 4 (List.map eQ r)):=eM (λN=>zO N h) (λN=>Um)
theorem pX{x0:Tb}{x1:Int}(N:Nat){r:List Qr}(h:dz x0 x1=some r):dB ah 28 N [ref (xk x0),ay x1] (nw N (slc 4 (List.map (fQ N) r))):=by
 obtain⟨bn,bp,bB,bD,cC⟩:=x0;refine bT Tryz.func28 Y (af Y) (λc9 M vs hN hvs=>?_);unfold dz at h;refine sr<|aI Y (bt (N:=N) (n:=4) (e:=(fQ N)))<|dn<|qq<|qq ?_;refine bL h (λj6=>AS.cu 26 [(0,.sv (ref [aA bn,ay bp,slc 1 (List.map (eS 4 eQ) bB),slc 1 (List.map bH bD),slc 1 (List.map (eS 4 eQ) cC)])),(1,ai x1),(16,aj j6)] [] []) (λh=>?_) (λW7 h=>?_);refine aX<|mv Y<|bE h λx6 h6 h=>cl (fm h6) ⟨Y,aq⟩<|mv Y<|bE h λadb hg7 h=>?_;cases x6;refine gm Y<|lE (F hg7) λx9 h9 hg7=>RT.lss (.some Y Y) _ Y Y T h9 ?_;obtain rfl:=O hg7;refine pF Y<|mv Y<|bE h λasW WJ h=>?_;cases x9;refine gm Y<|gm Y<|bE (F WJ) λdV jy WJ=>gc (ry jy) ⟨Y,aq⟩<|lE WJ λdN gH WJ=>RT.geq (.some Y Y) _ Y Y T gH ?_;obtain rfl:=O WJ;exact pF Y<|dn<|⟨dN,h,wR []⟩;obtain rfl:=O (V WJ);exact ww<|ww<|ww<|ww<|pT Y<|dn<|⟨true,h,wR []⟩;obtain rfl:=O (V hg7);refine ww<|ww<|pT Y<|mv Y<|bE h λasX hg9 h=>?_;obtain rfl:=O (V hg9);exact ww<|ww<|ww<|ww<|pT Y<|dn<|⟨true,h,wR []⟩
 try dsimp only
 refine aW.n ?_;cases W7;refine fs<|sr<|mv Y<|mv Y<|mv Y<|bE (F h) λgK oP h=>RT.bX .none (CC N oP) hN Y ⟨Y,Y,aq⟩ T<|bE h λgh kA h=>RT.bX .none ((Am N kA).w (args':=[_,_]) ⟨au,Um,aq⟩) hN Y ⟨Y,Y,aq⟩ T<|mv Y<|mv Y<|bE h λgV nG h=>cl (Bm nG) ⟨Y,Y,aq⟩<|bE h λke nO h=>RT.bX .none ((Ru N nO).w (args':=[_,_]) ⟨Um,au,aq⟩) hN Y ⟨Y,Y,aq⟩ T ?_;refine ag Y<|dn<|aY ?_;obtain rfl:=O h;exact R1 Y;refine cT<|sr<|aI Y (bt (N:=N) (n:=4) (e:=(fQ N)))<|dn<|aY<|aW.r ?_;obtain rfl:=O (V h);exact R1 Y
theorem De{x0:Tb}{x1:Int}{r:List Qr}(h:dz x0 x1=some r):Pure ah 28 [ref (xk x0),ay x1] (slc 4 (List.map eQ r)):=eM (λN=>pX N h) (λN=>Um)
theorem Eg{x0:Tb}(N:Nat){r:List Qr}(h:kG x0=some r):dB ah 38 N [ref (xk x0)] (nw N (slc 4 (List.map (fQ N) r))):=by
 obtain⟨bn,bp,bB,bD,cC⟩:=x0;refine bT Tryz.func38 Y (af Y) (λc9 M vs hN hvs=>?_);unfold kG at h;refine sr<|aI Y (bt (N:=N) (n:=4) (e:=(fQ N)))<|dn<|qq<|sr<|mv Y<|bE h λx4 h4 h=>cl (fm h4) ⟨Y,aq⟩<|dn ?_;cases x4;refine fs<|sr<|mv Y<|mv Y<|bE (F h) λx7 h7 h=>RT.bX .none (zO N h7) hN Y ⟨Y,aq⟩ T<|bE h λx8 h8 h=>RT.bX .none ((Am N h8).w (args':=[_,_]) ⟨au,Um,aq⟩) hN Y ⟨Y,Y,aq⟩ T<|ag Y<|dn<|aY ?_;obtain rfl:=O h;exact R1 Y;refine cT<|sr<|aI Y (bt (N:=N) (n:=4) (e:=(fQ N)))<|dn<|aY<|aW.r ?_;obtain rfl:=O (V h);exact R1 Y
theorem MU{x0:Tb}{r:List Qr}(h:kG x0=some r):Pure ah 38 [ref (xk x0)] (slc 4 (List.map eQ r)):=eM (λN=>Eg N h) (λN=>Um)
theorem An{x0:Tb}(N:Nat){r:List Qr}(h:iF x0=some r):dB ah 21 N [ref (xk x0)] (nw N (slc 4 (List.map (fQ N) r))):=by
 obtain⟨bn,bp,bB,bD,cC⟩:=x0;refine bT Tryz.func21 Y (af Y) (λc9 M vs hN hvs=>?_);unfold iF at h;refine sr<|aI Y (bt (N:=N) (n:=4) (e:=(fQ N)))<|dn<|qq<|sr<|mv Y<|bE h λx7 h7 h=>cl (fm h7) ⟨Y,aq⟩<|dn ?_;cases x7;refine fs<|sr<|mv Y<|RT.cq .none Y T<|RT.bQ .none Y T Y<|lr Y Y<|bE (F h) λc8 fI h=>RT.vW (n:=4) (e:=(fQ N)) .none Y Y T Y T (by rfl) (by decide) (by exact⟨au,bt,au,bt,aq⟩) fI<|an (s:=.row _) Y<|dn<|qq<|sr<|mv Y<|bE h λdV jy h=>RT.bX .none (zO N jy) hN Y ⟨Y,aq⟩ T<|lE h λdN gH h=>RT.Lm .none Y T gH<|mv Y ?_;refine dn<|bE h λFk yh oW=>?_;refine bJ (λ(I3:(List Qr))=>AS.cu 45 [(3,.row 12)] [] [(12,TR 43 4 (fQ N) I3)]) (λI3=>I3=Fk) ?_ (λI3 yj=>?_);refine bf ?_;refine bK yh (λuG=>AS.cu 45 [(0,.sv (ref [aA bn,ay bp,slc 1 (List.map (eS 4 eQ) bB),slc 1 (List.map bH bD),slc 1 (List.map (eS 4 eQ) cC)])),(3,.row 12),(14,.sv (nw N (slc 4 (List.map (fQ N) dV)))),(15,ai dN),(16,ai uG.1)] [] [(12,TR 43 4 (fQ N) uG.2)]) (wR []) (λuG ZD ZE h yl uO=>?_);obtain⟨I1,I2⟩:=uG
 try dsimp only
 refine sr<|lE h λdR jK h=>ls _ Y Y jK<|dn<|qq ?_;cases dR;refine cF<|bP<|aW.x<|aW.x<|bF.x<|aW.n ?_;obtain rfl:=O (F h);exact⟨I2,uO _ Y,wR []⟩;refine cT<|bu<|aW.n<|qq<|bf<|sr<|mv Y ?_;obtain⟨⟨⟨lM,lO⟩,⟨wH,wI⟩⟩,lZ,h⟩:=bS (V h);refine RT.ajc .none Y Y T lZ<|RT.gJ (cs:=[_,_,_,_]) .none Y T Y Y<|al (cs:=[aA false,nw N ax,aA false,nw N ax]) (by exact⟨au,bt,au,bt,aq⟩) Y<|ag Y<|so Y Y Y<|dn<|qq<|aZ mixed<|mv Y<|RT.cq .none Y T<|RT.bQ .none Y T Y<|lr Y Y<|mv Y<|bE h λji qS h=>ix Y Y qS ?_;refine lr Y Y<|mv Y<|RT.cq .none Y T<|RT.bQ .none Y T Y<|lr Y Y<|lE h λjY qT h=>ls _ Y Y qT ?_;refine RT.done ⟨by kernel_rfl,?_⟩;refine aW.n ?_;refine bL h (λGO=>AS.cu 45 [(0,.sv (ref [aA bn,ay bp,slc 1 (List.map (eS 4 eQ) bB),slc 1 (List.map bH bD),slc 1 (List.map (eS 4 eQ) cC)])),(3,.row 12),(14,.sv (nw N (slc 4 (List.map (fQ N) dV)))),(15,ai dN),(16,ai I1)] [] [(12,TR 43 4 (fQ N) GO)]) (λh=>?_) (λRC h=>?_);cases jY;exact fs<|⟨I2,(F h),wR []⟩;refine cT<|aZ mixed<|mo (s:=.row _) Y<|mv Y<|RT.cq .none Y T<|RT.bQ .none Y T Y<|lr Y Y<|mv Y<|bE (V h) λyg Fo h=>ix Y Y Fo<|lr Y Y<|ld Y Y (.k4 Y Y Y Y)<|bE h λpD Av h=>iR Y Y Y Av<|bE h λTe Xg h=>sA ⟨⟨lM,lO⟩,⟨wH,wI⟩⟩ Y Y Y Xg ?_;refine RT.done ⟨by kernel_rfl,?_⟩
 exact aW.n<|⟨Te,h,wR []⟩
 try dsimp only
 refine bF.n<|aW.n<|aX<|lE h λyz ET h=>ad _ Y Y ET<|mv Y<|RT.done ?_;obtain rfl:=O h;exact aW.n ⟨(yz,RC),yl _ Y,wR []⟩;subst yj
 try dsimp only
 refine aW.n<|sr<|mo (s:=.row _) Y<|an (s:=.row _) Y<|dn<|ku (i:=12) (E1:=43) (n:=4) (e:=(fQ N)) (l:=I3) hN (λ_ h=>h) Y<|aY ?_;obtain rfl:=O oW;exact R1 Y;refine cT<|sr<|aI Y (bt (N:=N) (n:=4) (e:=(fQ N)))<|dn<|aY<|aW.r ?_;obtain rfl:=O (V h);exact R1 Y
theorem G0{x0:Tb}{r:List Qr}(h:iF x0=some r):Pure ah 21 [ref (xk x0)] (slc 4 (List.map eQ r)):=eM (λN=>An N h) (λN=>Um)
theorem Pu{x0:Tb}(N:Nat){r:List (List Qr)}(h:sK x0=some r):dB ah 18 N [ref (xk x0)] (nw N (slc 1 (List.map (fS N 4 (fQ N)) r))):=by
 obtain⟨bn,bp,bB,bD,cC⟩:=x0;refine bT Tryz.func18 Y (af Y) (λc9 M vs hN hvs=>?_);unfold sK at h;refine sr<|aI Y (bt (N:=N) (n:=1) (e:=(fS N 4 (fQ N))))<|dn<|qq<|sr<|mv Y<|bE h λx7 h7 h=>cl (fm h7) ⟨Y,aq⟩<|dn ?_;cases x7;refine fs<|sr<|ag Y<|dn<|bU (cY 3 304 23 1 Y Y T)<|qq<|sr<|mv Y<|RT.cq .none Y T<|RT.bQ .none Y T Y<|lr Y Y<|lE (F h) λc8 fI h=>ln Y fI<|mv Y<|dn<|bE h λe6 uP je=>?_;refine bJ (λ(dr:(List (List Qr)))=>AS.cu 26 [(3,.row 306)] [] [(306,TR 23 1 (fS N 4 (fQ N)) dr)]) (λdr=>dr=e6) ?_ (λdr uQ=>?_);refine bf ?_;refine bK uP (λs6=>AS.cu 26 [(0,.sv (ref [aA bn,ay bp,slc 1 (List.map (eS 4 eQ) bB),slc 1 (List.map bH bD),slc 1 (List.map (eS 4 eQ) cC)])),(3,.row 306),(11,.sv (slc 1 (List.map (eS 4 eQ) cC))),(12,ai c8),(13,ai s6.1)] [] [(306,TR 23 1 (fS N 4 (fQ N)) s6.2)]) (cz (λi=>bif Nat.beq i 306 then 304 else i) Y Y Y Y Y ⟨.sv au,.row Y,.sv au,.sv au,.sv au,aq⟩ trivial ⟨⟨_,Y,cg.refl _⟩,aq⟩ (λi hi=>by rw[bV (show i≠306 by omega)];rfl)) (λs6 y6 G6 h uR pG=>?_);obtain⟨Tf,gB⟩:=s6
 try dsimp only
 refine sr<|lE h λdV jy h=>ls _ Y Y jy<|dn<|qq ?_;cases dV;refine cF<|bP<|aW.x<|aW.x<|bF.x<|aW.n ?_;obtain rfl:=O (F h);exact⟨gB,pG _ Y,wR []⟩;refine cT<|bu<|aW.n<|qq<|bf<|sr<|bE (V h) λdN gH h=>ix Y Y gH<|lr Y Y<|ag Y<|dn<|aX<|mo (s:=.row _) Y<|mv Y<|mv Y<|bE h λgK oP h=>cl (ry oP) ⟨Y,aq⟩<|bE h λgh kA h=>RT.bX .none (Cx N kA) hN Y ⟨Y,Y,aq⟩ T<|bl (l:=[gh]) (e:=(fS N 4 (fQ N))) (.one Y (.nil)) Y Y Y Y Y Y<|bE h λgU oQ h=>aR (k:=[gh]) (e:=(fS N 4 (fQ N))) Y Y Y oQ ?_;refine an (s:=.row _) Y<|RT.done<|bF.n<|aW.n<|aX<|lE h λgV nG h=>ad _ Y Y nG<|mv Y<|RT.done ?_;obtain rfl:=O h;exact aW.n ⟨(gV,gU),uR _ Y,cz (λi=>bif Nat.beq i 306 then 23 else i) Y Y Y Y Y ⟨.sv au,.row Y,.sv au,.sv au,.sv au,aq⟩ trivial ⟨⟨_,Y,cg.refl _⟩,aq⟩ (λi hi=>by rw[bV (show i≠306 by omega)];rfl)⟩;subst uQ
 try dsimp only
 refine aW.n<|sr<|mo (s:=.row _) Y<|an (s:=.row _) Y<|dn<|ku (i:=306) (E1:=23) (n:=1) (e:=(fS N 4 (fQ N))) (l:=dr) hN (λ_ h=>h) Y<|aY ?_;obtain rfl:=O je;exact R1 Y;refine cT<|sr<|aI Y (bt (N:=N) (n:=1) (e:=(fS N 4 (fQ N))))<|dn<|aY<|aW.r ?_;obtain rfl:=O (V h);exact R1 Y
theorem Pw{x0:Tb}{r:List (List Qr)}(h:sK x0=some r):Pure ah 18 [ref (xk x0)] (slc 1 (List.map (eS 4 eQ) r)):=eM (λN=>Pu N h) (λN=>aam)
theorem Ao{x0:Tb}{r:Bool}(h:jS x0=some r):Pure ah 35 [ref (xk x0)] (aA r):=by
 obtain⟨bn,bp,bB,bD,cC⟩:=x0;refine bj Tryz.func35 Y (af Y) (λc9 M vs hvs=>?_);unfold jS at h;refine sr<|ag Y<|dn<|qq<|sr<|mv Y<|bE h λx6 h6 h=>cl (fm h6) ⟨Y,aq⟩<|dn ?_;cases x6;refine fs<|qq<|sr<|mv Y<|bE (F h) λx8 h8 h=>cl (I6 h8) ⟨Y,aq⟩<|lE h λx9 h9 h=>ln Y h9<|mv Y<|dn<|bE h λe6 uP je=>?_;refine bJ (λ(uH:Unit)=>AS.cu 18 [] [] []) (λuH=>.inl uH=e6) ?_ (λuH uQ=>?_);refine bf ?_;refine bK uP (λs6=>AS.cu 18 [(8,.sv (slc 4 (List.map eQ x8))),(9,ai x9),(10,ai s6)] [] []) (wR []) (λTg y6 G6 h uR pG=>?_)
 try dsimp only
 refine sr<|lE h λff kz h=>ls _ Y Y kz<|dn<|qq ?_;cases ff;refine cF<|bP<|aW.x<|aW.x<|bF.x<|aW.n ?_;obtain rfl:=O (F h);exact⟨(),pG _ Y,wR []⟩;refine cT<|bu<|aW.n<|qq<|bf<|sr ?_;obtain⟨⟨⟨jg,iT⟩,⟨Th,Ti⟩⟩,fI,h⟩:=bS (V h);refine ix Y Y fI<|RT.gJ (cs:=[_,_,_,_]) .none Y T Y Y<|al (cs:=[aA false,ax,aA false,ax]) (by exact⟨au,aC,au,aC,aq⟩) Y<|so Y Y Y<|dn<|sr<|ld Y Y (.k4 Y Y Y Y)<|bE h λdN gH h=>cl (q9 gH) ⟨Y,aq⟩<|lE h λeX kf h=>ls _ Y Y kf<|dn ?_;cases eX;refine cF<|bu<|bF.n<|aW.n<|aX<|lE (F h) λdR jK h=>ad _ Y Y jK<|mv Y<|RT.done ?_;obtain rfl:=O h;exact aW.n ⟨dR,uR _ Y,wR []⟩;refine cT<|sr<|ag Y<|dn<|aY<|bF.r<|aW.r ?_;obtain rfl:=O (V h);have GP:=pG _ Y;subst GP;refine aW.r<|bF.r<|aW.r<|aW.r ?_;obtain rfl:=O je;exact R1 Y;subst uQ
 try dsimp only
 refine aW.n<|sr<|ag Y<|dn<|aY ?_;obtain rfl:=O je;exact R1 Y;refine cT<|sr<|ag Y<|dn<|aY<|aW.r ?_;obtain rfl:=O (V h);exact R1 Y
theorem Bo(t:Tb):Pure ah 65 [ref (xk t)] (oO 114 [ref [ref (xk t)]]):=by
 refine bj Tryz.func65 Y (af Y) (λc9 M vs hvs=>?_);exact sr<|RT.CI .none (s:=.sv _) Y T Y Y<|ag Y<|dn<|sr<|RT.makeFunc .none (.box Y (.nil)) T<|an (s:=.kT _ _) Y<|dn<|bU (lH (i:=1) Y [ref (xk t)] (.cons Y .nil) .any 0 [(2,.kT 114 [.val (ref [ref (xk t)])])] (λ_ _ _=>trivial) (yB.h (l:=[ref (xk t)])) ⟨@FT.kT _ _ _ _ _ 2 114 [.box 1] Y,aq⟩)<|bU (QX 2 (oO 114 [ref [ref (xk t)]]) (λ_ _ h=>QY h))<|aY<|⟨.inr Y,QL (.tmp Y (.nil)) Y⟩
theorem aaK(n:Int):IntKind.i64.wrap n<=9223372036854775807:=by
 show(if(true&&decide (n%18446744073709551616≥9223372036854775808))=true then n%18446744073709551616-18446744073709551616 else n%18446744073709551616)<=9223372036854775807;by_cases h:n%18446744073709551616≥9223372036854775808
 ·simp only[h,decide_true,Bool.and_self,if_true];omega
 simp only[h,decide_false,Bool.and_false,Bool.false_eq_true,if_false];omega
theorem width_eq(t:Tb):gM t=some (IntKind.i64.wrap (t.vars+(t.rows.length:Int))):=by
 cases t;rfl
theorem Bp(t:Tb):Iter ah 114 [ref [ref (xk t)]] (IntKind.i64.wrap (t.vars+(t.rows.length:Int))).toNat (λk=>[ay (k:Int)]):=by
 refine CN Tryz.func114 Y Y (af Y) (λc9 M O l J hJ Kb hr=>?_);have hw:=aaK (t.vars+(t.rows.length:Int));have hwd:=width_eq t;generalize (IntKind.i64.wrap (t.vars+(t.rows.length:Int)))=W at hw hwd hr⊢;refine cm ?_;refine aX ?_;refine RT.fT .none Y Y (tl Y) ?_;refine RT.call .none (ry hwd) Y ⟨Y,aq⟩ (tl Y) ?_;refine RT.mv .none Y (tl Y) ?_;refine RT.done ?_;refine aW.n ?_;refine bf ?_
 refine Hi (I:=λx:{i:Nat//i<=W.toNat}=>AS.cu 14 [(0,.sv (.v (.func (.yield l) #[] #[]))),(1,.sv (ref [ref (xk t)])),(5,ai W),(6,ai ((x.1:Nat):Int))] [] [] (x.1)) (μ:=λx=>W.toNat-x.1) ⟨0,by omega⟩ (by(try dsimp only);exact cz id Y Y Y Y Y ⟨.sv (by first|exact au|exact SV.bw (by omega)|exact SV.bw (by push_cast;omega)|exact SV.bw (by dsimp only;omega)|exact SV.imp_eq (by simp)),.sv (by first|exact au|exact SV.bw (by omega)|exact SV.bw (by push_cast;omega)|exact SV.bw (by dsimp only;omega)|exact SV.imp_eq (by simp)),.sv (by first|exact au|exact SV.bw (by omega)|exact SV.bw (by push_cast;omega)|exact SV.bw (by dsimp only;omega)|exact SV.imp_eq (by simp)),.sv (by first|exact au|exact SV.bw (by omega)|exact SV.bw (by push_cast;omega)|exact SV.bw (by dsimp only;omega)|exact SV.imp_eq (by simp)),aq⟩ trivial trivial (λ_ _=>Y)) ?_;rintro⟨i,hi0⟩
 try dsimp only
 rcases Nat.lt_or_eq_of_le hi0 with hi|hi
 ·
  refine cm ?_;refine aX ?_;refine RT.lss .none (true) Y Y (tl Y) (by simp;omega) ?_;refine RT.done ?_;refine aW.n ?_;refine cm ?_;refine e5 Y ?_;refine bu ?_;refine aW.n ?_;refine cm ?_;refine bf ?_;refine cm ?_;refine aX ?_;refine RT.mv .none Y (tl Y) ?_;refine RT.Mk .none Y (tl Y) ?_;refine RT.done ?_;refine aW.n ?_;refine cm ?_;refine aX ?_;refine RT.mv .none Y (tl Y) ?_;refine RT.mv .none Y (tl Y) ?_;refine RT.yield .none hr Y (λ_ h=>h) Y (i) Y Y (by omega) (by exact⟨Y,aq⟩) (tl Y) (λyb=>?_);cases yb
  ·
   refine RT.not .none Y (tl Y) true Y ?_;refine RT.done ?_;refine aW.n ?_;refine e5 Y ?_;refine aY ?_;refine bF.r ?_;refine aW.r ?_;refine aW.r ?_;refine bF.r ?_;exact⟨.inr rfl,(λh=>by cases h)⟩
  refine RT.not .none Y (tl Y) false Y ?_;refine RT.done ?_;refine aW.n ?_;refine jc Y ?_;refine bu ?_;refine bF.n ?_;refine aW.n ?_;refine aX ?_;refine RT.add .none (((i:Nat):Int)+1) Y Y (tl Y) (uJ (by omega)) ?_;refine RT.mv .none Y (tl Y) ?_;refine RT.done ?_;refine aW.n ?_;refine⟨⟨i+1,by omega⟩,(by dsimp only;omega),?_⟩
  try dsimp only
  exact cz id Y Y Y Y Y ⟨.sv (by first|exact au|exact SV.bw (by omega)|exact SV.bw (by push_cast;omega)|exact SV.bw (by dsimp only;omega)|exact SV.imp_eq (by simp)),.sv (by first|exact au|exact SV.bw (by omega)|exact SV.bw (by push_cast;omega)|exact SV.bw (by dsimp only;omega)|exact SV.imp_eq (by simp)),.sv (by first|exact au|exact SV.bw (by omega)|exact SV.bw (by push_cast;omega)|exact SV.bw (by dsimp only;omega)|exact SV.imp_eq (by simp)),.sv (by first|exact au|exact SV.bw (by omega)|exact SV.bw (by push_cast;omega)|exact SV.bw (by dsimp only;omega)|exact SV.imp_eq (by simp)),aq⟩ trivial trivial (λ_ _=>Y)
 subst hi;refine cm ?_;refine aX ?_;refine RT.lss .none (false) Y Y (tl Y) (by simp;omega) ?_;refine RT.done ?_;refine aW.n ?_;refine cm ?_;refine jc Y ?_;refine bP ?_;refine aW.x ?_;refine aW.x ?_;refine bF.x ?_;exact⟨.inl Y,(λ_=>Y)⟩
theorem Bq{x0:Tb}{r:Bool}(h:jA x0=some r):Pure ah 42 [ref (xk x0)] (aA r):=by
 obtain⟨bn,bp,bB,bD,cC⟩:=x0;refine bj Tryz.func42 Y (af Y) (λc9 M vs hvs=>?_);unfold jA at h;refine sr<|RT.CI .none (s:=.sv _) Y T Y Y<|al (cs:=[aA false]) (by exact⟨au,aq⟩) Y<|dn<|qq<|sr<|lV Y Y Y<|bE h λx5 h5 h=>cl (fm h5) ⟨Y,aq⟩<|dn ?_;cases x5;refine fs<|qq<|sr<|lV Y Y Y<|cl (Bo ⟨bn,bp,bB,bD,cC⟩) ⟨Y,aq⟩<|dn<|bf<|bE (F h) λe3 hl3 ho3=>?_;obtain⟨m3,st3,hs3,ht3,hn3⟩:=Lk hl3;refine yc (Bp ⟨bn,bp,bB,bD,cC⟩) (λ_ _ _ _ _=>trivial) Y (λk=>AS.cu 14 [(1,.ptr 1 0),(2,.ptr 2 0),(7,.sv (oO 114 [ref [ref [aA bn,ay bp,slc 1 (List.map (eS 4 eQ) bB),slc 1 (List.map bH bD),slc 1 (List.map (eS 4 eQ) cC)]]]))] [(2,⟨4,[aj false]⟩),(1,⟨30,[.sv (ref [aA bn,ay bp,slc 1 (List.map (eS 4 eQ) bB),slc 1 (List.map bH bD),slc 1 (List.map (eS 4 eQ) cC)])]⟩)] []) [2,1] Y (λ_=>⟨Y,Y⟩) (CO Y) (λ_=>Y) (CP Y) (by(try dsimp only);(try dsimp only);exact cz id Y Y Y Y Y ⟨.ptr,.ptr,.sv au,aq⟩ ⟨⟨_,Y,⟨.sv au,aq⟩⟩,⟨_,Y,⟨.sv au,aq⟩⟩,aq⟩ trivial (λ_ _=>Y)) m3 (λk hk hkm D hD=>?_) (λhdn=>?_);obtain⟨y3,h,hG3,hE3⟩:=ht3 k hk hkm;dsimp only[AS.Z3,Cq]
 try dsimp only at h
 refine lE h λp8 hp8 h=>?_;rw[hp8];refine aX<|ag Y<|RT.done ?_;refine aW.n ⟨Y,?_⟩;dsimp only[AS.Ml];refine bf<|sr<|lV Y Y Y<|mv Y<|bE h λff kz h=>cl (De kz) ⟨Y,Y,aq⟩<|bE h λc8 fI h=>cl (Pe fI) ⟨Y,aq⟩<|lE h λeY iX h=>ls _ Y Y iX<|dn ?_;cases eY;refine cF<|bu<|bF.n ?_;obtain rfl:=O (F h);obtain⟨hm3,hq3⟩:=hG3 _ Y;exact⟨hm3,Y,Y,wR []⟩;refine cT<|sr<|RT.zy (cells:=[_]) .none (s:=.sv _) Y Y Y T Y<|dn<|aY<|bF.r ?_;obtain rfl:=O (V h);have he3:=hE3 _ Y;subst he3;refine⟨Y,Y,?_⟩;refine bF.r<|aW.r ?_;obtain rfl:=O ho3;exact RZ (.one Y Y Y (.nil));have hd3:=hn3 hdn;subst hd3;obtain⟨ee3,afR⟩:∃q,st3 ((IntKind.i64.wrap (Tb.vars ⟨bn,bp,bB,bD,cC⟩+((Tb.rows ⟨bn,bp,bB,bD,cC⟩).length:Int))).toNat)=q:=⟨_,Y⟩;rw[afR]at ho3
 try dsimp only
 refine bF.n<|aW.n<|sr<|RT.zy (cells:=[_]) .none (s:=.sv _) Y Y Y T Y<|dn<|aY ?_;obtain rfl:=O ho3;exact RZ (.one Y Y Y (.nil));refine cT<|sr<|RT.zy (cells:=[_]) .none (s:=.sv _) Y Y Y T Y<|dn<|aY<|aW.r ?_;obtain rfl:=O (V h);exact RZ (.one Y Y Y (.nil))
theorem Cg{x0:Tb}(N:Nat){r:List (List Qr)}(h:gZ x0=some r):dB ah 20 N [ref (xk x0)] (nw N (slc 1 (List.map (fS N 4 (fQ N)) r))):=by
 obtain⟨bn,bp,bB,bD,cC⟩:=x0;refine bT Tryz.func20 Y (af Y) (λc9 M vs hN hvs=>?_);unfold gZ at h;refine sr<|RT.CI .none (s:=.sv _) Y T Y Y<|aI Y (bt (N:=N) (n:=1) (e:=(fS N 4 (fQ N))))<|dn<|qq<|sr<|lV Y Y Y<|bE h λx6 h6 h=>cl (fm h6) ⟨Y,aq⟩<|dn ?_;cases x6;refine fs<|sr<|RT.alloc .none T Y Y<|dn<|bU (yG 3 0 302 23 1 Y Y Y T)<|qq<|sr<|lV Y Y Y<|cl (Bo ⟨bn,bp,bB,bD,cC⟩) ⟨Y,aq⟩<|dn<|bf<|bE (F h) λwO hl5 ho5=>?_;obtain⟨st5,hs5,ht5,hn5⟩:=vQ hl5;refine qR (Bp ⟨bn,bp,bB,bD,cC⟩) (λ_ _ _ _ _=>trivial) Y (λk=>AS.cu 17 [(1,.ptr 1 0),(3,.ptr 3 0),(8,.sv (oO 114 [ref [ref [aA bn,ay bp,slc 1 (List.map (eS 4 eQ) bB),slc 1 (List.map bH bD),slc 1 (List.map (eS 4 eQ) cC)]]]))] [(3,⟨22,[.row 304]⟩),(1,⟨30,[.sv (ref [aA bn,ay bp,slc 1 (List.map (eS 4 eQ) bB),slc 1 (List.map bH bD),slc 1 (List.map (eS 4 eQ) cC)])]⟩)] [(304,TR 23 1 (fS N 4 (fQ N)) (st5 k))]) [3,1] Y (λ_=>⟨Y,Y⟩) (CO Y) (λ_=>Y) (CP Y) (by(try dsimp only);rw[hs5];(try dsimp only);exact cz (λi=>bif Nat.beq i 304 then 302 else i) Y Y Y Y Y ⟨.ptr,.ptr,.sv au,aq⟩ ⟨⟨_,Y,⟨.row Y,aq⟩⟩,⟨_,Y,⟨.sv au,aq⟩⟩,aq⟩ ⟨⟨_,Y,cg.refl _⟩,aq⟩ (λi hi=>by rw[bV (show i≠304 by omega)];rfl)) (λk hk D hD=>?_) ?_;have h:=ht5 k hk;obtain⟨wO,hsk⟩:∃q,st5 k=q:=⟨_,Y⟩
 rw[hsk]at h⊢;dsimp only[AS.Z3,Cq]
 try dsimp only at h
 refine lE h λp9 hp9 h=>?_;rw[hp9];refine aX<|ag Y<|RT.done ?_;refine aW.n ⟨Y,?_⟩;dsimp only[AS.Ml];refine bf<|aZ mixed<|RT.lf .none (s:=.row _) Y Y Y T<|lV Y Y Y<|mv Y<|bE h λeY iX h=>RT.bX .none (pX N iX) (Nat.le_trans hN hD) Y ⟨Y,Y,aq⟩ T<|bl (l:=[eY]) (e:=(fS N 4 (fQ N))) (.one Y (.nil)) Y Y Y Y Y Y<|bE h λdN gH h=>aR (k:=[eY]) (e:=(fS N 4 (fQ N))) Y Y Y gH<|RT.qO (cells:=[_]) .none Y Y Y Y T Y ?_;refine RT.done ⟨by kernel_rfl,?_⟩;refine bF.n ?_;replace h:=Option.some.inj h;refine⟨aq,Y,Y,?_⟩
 try dsimp only
 rw[<-h]
 try dsimp only
 exact cz (λi=>bif Nat.beq i 304 then 15 else i) Y Y Y Y Y ⟨.ptr,.ptr,.sv au,aq⟩ ⟨⟨_,Y,⟨.row Y,aq⟩⟩,⟨_,Y,⟨.sv au,aq⟩⟩,aq⟩ ⟨⟨_,Y,cg.refl _⟩,aq⟩ (λi hi=>by rw[bV (show i≠304 by omega)];rfl);rw[hn5]
 try dsimp only
 refine bF.n<|aW.n<|sr<|RT.lf .none (s:=.row _) Y Y Y T<|an (s:=.row _) Y<|dn<|ku (i:=304) (E1:=23) (n:=1) (e:=(fS N 4 (fQ N))) (l:=wO) hN (λ_ h=>h) Y<|aY ?_;obtain rfl:=O ho5;exact R1 Y;refine cT<|sr<|aI Y (bt (N:=N) (n:=1) (e:=(fS N 4 (fQ N))))<|dn<|aY<|aW.r ?_;obtain rfl:=O (V h);exact R1 Y
theorem Ch{x0:Tb}{r:List (List Qr)}(h:gZ x0=some r):Pure ah 20 [ref (xk x0)] (slc 1 (List.map (eS 4 eQ) r)):=eM (λN=>Cg N h) (λN=>aam)
theorem I7{o0:Bool}{o1:Int}{o2:List (List Qr)}{o3:List Int}{o4:List (List Qr)}{r:Bool}(h:di (⟨o0,o1,o2,o3,o4⟩:Tb)=some r):FB ah 57 [.ptr 1000 0] 79 [.s (aA o0),.s (ay o1),.r (TR 23 1 (eS 4 eQ) o2),.r (TR 3 1 bH o3),.r (TR 23 1 (eS 4 eQ) o4)] (aA r):=fK (cells:=xk (⟨o0,o1,o2,o3,o4⟩:Tb)) (r:=λN=>(aA r)) (λN=>by exact oY (fm h) N) Y ⟨⟨au,λ_ _ q=>One.h _ _ q⟩,⟨au,λ_ _ q=>One.h _ _ q⟩,dJ,dJ,dJ,aq⟩ Pq
theorem MV{o0:Bool}{o1:Int}{o2:List (List Qr)}{o3:List Int}{o4:List (List Qr)}{r:Int}(h:gM (⟨o0,o1,o2,o3,o4⟩:Tb)=some r):FB ah 58 [.ptr 1000 0] 79 [.s (aA o0),.s (ay o1),.r (TR 23 1 (eS 4 eQ) o2),.r (TR 3 1 bH o3),.r (TR 23 1 (eS 4 eQ) o4)] (ay r):=fK (cells:=xk (⟨o0,o1,o2,o3,o4⟩:Tb)) (r:=λN=>(ay r)) (λN=>by exact oY (ry h) N) Y ⟨⟨au,λ_ _ q=>One.h _ _ q⟩,⟨au,λ_ _ q=>One.h _ _ q⟩,dJ,dJ,dJ,aq⟩ Pq
theorem MW{o0:Bool}{o1:Int}{o2:List (List Qr)}{o3:List Int}{o4:List (List Qr)}{r:List Int}(h:jz (⟨o0,o1,o2,o3,o4⟩:Tb)=some r):FB ah 17 [.ptr 1000 0] 79 [.s (aA o0),.s (ay o1),.r (TR 23 1 (eS 4 eQ) o2),.r (TR 3 1 bH o3),.r (TR 23 1 (eS 4 eQ) o4)] (slc 1 (List.map bH r)):=fK (cells:=xk (⟨o0,o1,o2,o3,o4⟩:Tb)) (r:=λN=>nw N (slc 1 (List.map bH r))) (λN=>by exact zN N h) Y ⟨⟨au,λ_ _ q=>One.h _ _ q⟩,⟨au,λ_ _ q=>One.h _ _ q⟩,dJ,dJ,dJ,aq⟩ af1
theorem Df{o0:Bool}{o1:Int}{o2:List (List Qr)}{o3:List Int}{o4:List (List Qr)}{r:List Qr}(h:jL (⟨o0,o1,o2,o3,o4⟩:Tb)=some r):FB ah 19 [.ptr 1000 0] 79 [.s (aA o0),.s (ay o1),.r (TR 23 1 (eS 4 eQ) o2),.r (TR 3 1 bH o3),.r (TR 23 1 (eS 4 eQ) o4)] (slc 4 (List.map eQ r)):=fK (cells:=xk (⟨o0,o1,o2,o3,o4⟩:Tb)) (r:=λN=>nw N (slc 4 (List.map (fQ N) r))) (λN=>by exact zO N h) Y ⟨⟨au,λ_ _ q=>One.h _ _ q⟩,⟨au,λ_ _ q=>One.h _ _ q⟩,dJ,dJ,dJ,aq⟩ Hy
theorem wQ{o0:Bool}{o1:Int}{o2:List (List Qr)}{o3:List Int}{o4:List (List Qr)}{x1:Int}{r:List Qr}(h:dz (⟨o0,o1,o2,o3,o4⟩:Tb) x1=some r):FB ah 28 [.ptr 1000 0,ai x1] 79 [.s (aA o0),.s (ay o1),.r (TR 23 1 (eS 4 eQ) o2),.r (TR 3 1 bH o3),.r (TR 23 1 (eS 4 eQ) o4)] (slc 4 (List.map eQ r)):=fK (cells:=xk (⟨o0,o1,o2,o3,o4⟩:Tb)) (r:=λN=>nw N (slc 4 (List.map (fQ N) r))) (λN=>by exact pX N h) Y ⟨⟨au,λ_ _ q=>One.h _ _ q⟩,⟨au,λ_ _ q=>One.h _ _ q⟩,dJ,dJ,dJ,aq⟩ Hy
theorem Eh{o0:Bool}{o1:Int}{o2:List (List Qr)}{o3:List Int}{o4:List (List Qr)}{r:List Qr}(h:kG (⟨o0,o1,o2,o3,o4⟩:Tb)=some r):FB ah 38 [.ptr 1000 0] 79 [.s (aA o0),.s (ay o1),.r (TR 23 1 (eS 4 eQ) o2),.r (TR 3 1 bH o3),.r (TR 23 1 (eS 4 eQ) o4)] (slc 4 (List.map eQ r)):=fK (cells:=xk (⟨o0,o1,o2,o3,o4⟩:Tb)) (r:=λN=>nw N (slc 4 (List.map (fQ N) r))) (λN=>by exact Eg N h) Y ⟨⟨au,λ_ _ q=>One.h _ _ q⟩,⟨au,λ_ _ q=>One.h _ _ q⟩,dJ,dJ,dJ,aq⟩ Hy
theorem G1{o0:Bool}{o1:Int}{o2:List (List Qr)}{o3:List Int}{o4:List (List Qr)}{r:List Qr}(h:iF (⟨o0,o1,o2,o3,o4⟩:Tb)=some r):FB ah 21 [.ptr 1000 0] 79 [.s (aA o0),.s (ay o1),.r (TR 23 1 (eS 4 eQ) o2),.r (TR 3 1 bH o3),.r (TR 23 1 (eS 4 eQ) o4)] (slc 4 (List.map eQ r)):=fK (cells:=xk (⟨o0,o1,o2,o3,o4⟩:Tb)) (r:=λN=>nw N (slc 4 (List.map (fQ N) r))) (λN=>by exact An N h) Y ⟨⟨au,λ_ _ q=>One.h _ _ q⟩,⟨au,λ_ _ q=>One.h _ _ q⟩,dJ,dJ,dJ,aq⟩ Hy
theorem G2{o0:Bool}{o1:Int}{o2:List (List Qr)}{o3:List Int}{o4:List (List Qr)}{r:Bool}(h:jS (⟨o0,o1,o2,o3,o4⟩:Tb)=some r):FB ah 35 [.ptr 1000 0] 79 [.s (aA o0),.s (ay o1),.r (TR 23 1 (eS 4 eQ) o2),.r (TR 3 1 bH o3),.r (TR 23 1 (eS 4 eQ) o4)] (aA r):=fK (cells:=xk (⟨o0,o1,o2,o3,o4⟩:Tb)) (r:=λN=>(aA r)) (λN=>by exact oY (Ao h) N) Y ⟨⟨au,λ_ _ q=>One.h _ _ q⟩,⟨au,λ_ _ q=>One.h _ _ q⟩,dJ,dJ,dJ,aq⟩ Pq
theorem Br{o0:Bool}{o1:Int}{o2:List (List Qr)}{o3:List Int}{o4:List (List Qr)}{r:Bool}(h:jA (⟨o0,o1,o2,o3,o4⟩:Tb)=some r):FB ah 42 [.ptr 1000 0] 79 [.s (aA o0),.s (ay o1),.r (TR 23 1 (eS 4 eQ) o2),.r (TR 3 1 bH o3),.r (TR 23 1 (eS 4 eQ) o4)] (aA r):=fK (cells:=xk (⟨o0,o1,o2,o3,o4⟩:Tb)) (r:=λN=>(aA r)) (λN=>by exact oY (Bq h) N) Y ⟨⟨au,λ_ _ q=>One.h _ _ q⟩,⟨au,λ_ _ q=>One.h _ _ q⟩,dJ,dJ,dJ,aq⟩ Pq
end
section
open Go.Fw Go.Fw.Z Go.RowKit
set_option maxHeartbeats 4000000 in
theorem su{x0:Lr}{r:Bool×Int×(List (List Qr))×(List Int)×(List (List Qr))}(h:ga x0=some r):Ry ah 56 [.agg (Ol x0)] false [] 79 [.s (aA r.1),.s (ay r.2.1),.r (TR 23 1 (eS 4 eQ) r.2.2.1),.r (TR 3 1 bH r.2.2.2.1),.r (TR 23 1 (eS 4 eQ) r.2.2.2.2)]:=by
 obtain⟨bn,bp,bB,bD⟩:=x0;refine Gm Tryz.func56 Y (af Y) (λc9 M vs hvs=>?_);unfold ga at h;refine sr<|bx Y<|ag Y<|dn<|sr<|fa Y Y<|lV Y Y Y<|bI (cs:=[_,_,_,_,_]) (cs':=[aA true,ay bn,.v (.slice none 0 0),.v (.slice none 0 0),.v (.slice none 0 0)]) (.one Y (.one Y (.nil))) ⟨au,au,au,au,au,aq⟩<|bx Y<|an (s:=.ptr _ _) Y<|dn<|bU (yG 12 2 304 23 1 Y Y Y T)<|bU (yG 12 3 305 3 1 Y Y Y T) ?_;refine bU (yG 12 4 306 23 1 Y Y Y T)<|qq<|sr<|fa Y Y<|lV Y Y Y<|lE h λdN gH h=>ln Y gH<|mv Y<|dn<|bE h λe6 uP je=>?_;refine bJ (λ(yn:(List (List Qr)))=>AS.cu 105 [(1,.ptr 1 0),(3,.ptr 12 0)] [(12,⟨79,[aj true,ai bn,.row 308,.row 305,.row 306]⟩),(1,⟨25,[ai bn,.sv (slc 1 (List.map (eS 4 eQ) bp)),.sv (slc 1 (List.map (eS 4 eQ) bB)),.sv (slc 4 (List.map eQ bD))]⟩)] [(308,TR 23 1 (eS 4 eQ) yn),(305,TR 3 1 bH []),(306,TR 23 1 (eS 4 eQ) [])]) (λyn=>yn=e6) ?_ (λyn uQ=>?_);refine bf ?_
 refine bK uP (λs6=>AS.cu 105 [(1,.ptr 1 0),(3,.ptr 12 0),(14,.sv (slc 1 (List.map (eS 4 eQ) bp))),(15,ai dN),(16,ai s6.1)] [(12,⟨79,[aj true,ai bn,.row 308,.row 305,.row 306]⟩),(1,⟨25,[ai bn,.sv (slc 1 (List.map (eS 4 eQ) bp)),.sv (slc 1 (List.map (eS 4 eQ) bB)),.sv (slc 4 (List.map eQ bD))]⟩)] [(308,TR 23 1 (eS 4 eQ) s6.2),(305,TR 3 1 bH []),(306,TR 23 1 (eS 4 eQ) [])]) (cz (λi=>bif Nat.beq i 308 then 304 else i) Y Y Y Y Y ⟨.ptr,.ptr,.sv au,.sv au,.sv au,aq⟩ ⟨⟨_,Y,⟨.sv au,.sv au,.row Y,.row Y,.row Y,aq⟩⟩,⟨_,Y,⟨.sv au,.sv au,.sv au,.sv au,aq⟩⟩,aq⟩ ⟨⟨_,Y,cg.refl _⟩,⟨_,Y,cg.refl _⟩,⟨_,Y,cg.refl _⟩,aq⟩ (λi hi=>by rw[bV (show i≠308 by omega)];rfl)) (λs6 y6 G6 h uR pG=>?_);obtain⟨Tj,MR⟩:=s6
 try dsimp only
 refine sr<|lE h λdR jK h=>ls _ Y Y jK<|dn<|qq ?_;cases dR;refine cF<|bP<|aW.x<|aW.x<|bF.x<|aW.n ?_;obtain rfl:=O (F h);exact⟨MR,pG _ Y,wR []⟩;refine cT<|bu<|aW.n<|qq<|bf<|sr<|bE (V h) λeE jd h=>ix Y Y jd<|lr Y Y<|ag Y<|dn<|aZ mixed<|mo (s:=.ptr _ _) Y<|mo (s:=.ptr _ _) Y<|RT.dh .none Y T<|fa Y Y<|RT.lf .none (s:=.row _) Y Y Y T<|mv Y<|fa Y Y<|lV Y Y Y<|bE h λlp vA h=>cl (KA vA) ⟨Y,Y,aq⟩<|bl (l:=[lp]) (e:=(eS 4 eQ)) (.one Y (.nil)) Y Y Y Y Y Y ?_;refine bE h λuM zH h=>aR (k:=[lp]) (e:=(eS 4 eQ)) Y Y Y zH<|RT.dh .none Y T<|fa Y Y<|RT.qO (cells:=[_,_,_,_,_]) .none Y Y Y Y T Y ?_;refine RT.done ⟨by kernel_rfl,?_⟩;refine bF.n<|aW.n<|aX<|lE h λow xj h=>ad _ Y Y xj<|mv Y<|RT.done ?_;obtain rfl:=O h;exact aW.n ⟨(ow,uM),uR _ Y,cz (λi=>bif Nat.beq i 308 then 30 else i) Y Y Y Y Y ⟨.ptr,.ptr,.sv au,.sv au,.sv au,aq⟩ ⟨⟨_,Y,⟨.sv au,.sv au,.row Y,.row Y,.row Y,aq⟩⟩,⟨_,Y,⟨.sv au,.sv au,.sv au,.sv au,aq⟩⟩,aq⟩ ⟨⟨_,Y,cg.refl _⟩,⟨_,Y,cg.refl _⟩,⟨_,Y,cg.refl _⟩,aq⟩ (λi hi=>by rw[bV (show i≠308 by omega)];rfl)⟩;subst uQ
 try dsimp only
 refine aW.n<|qq<|sr<|fa Y Y<|lV Y Y Y<|lE je λnF xn je=>ln Y xn<|mv Y<|dn<|bE je λe30 aoP aoQ=>?_;refine bJ (λ(UH:(List Int)×(List (List Qr)))=>AS.cu 105 [(3,.ptr 12 0)] [(12,⟨79,[aj true,ai bn,.row 308,.row 312,.row 313]⟩)] [(308,TR 23 1 (eS 4 eQ) yn),(312,TR 3 1 bH UH.1),(313,TR 23 1 (eS 4 eQ) UH.2)]) (λUH=>UH=e30) ?_ (λUH aoR=>?_);refine bf ?_;refine bK aoP (λs30=>AS.cu 105 [(1,.ptr 1 0),(3,.ptr 12 0),(36,ai nF),(37,ai s30.1)] [(12,⟨79,[aj true,ai bn,.row 308,.row 312,.row 313]⟩),(1,⟨25,[ai bn,.sv (slc 1 (List.map (eS 4 eQ) bp)),.sv (slc 1 (List.map (eS 4 eQ) bB)),.sv (slc 4 (List.map eQ bD))]⟩)] [(308,TR 23 1 (eS 4 eQ) yn),(312,TR 3 1 bH s30.2.1),(313,TR 23 1 (eS 4 eQ) s30.2.2)]) (cz (λi=>bif Nat.beq i 312 then 305 else bif Nat.beq i 313 then 306 else i) Y Y Y Y Y ⟨.ptr,.ptr,.sv au,.sv au,aq⟩ ⟨⟨_,Y,⟨.sv au,.sv au,.row Y,.row Y,.row Y,aq⟩⟩,⟨_,Y,⟨.sv au,.sv au,.sv au,.sv au,aq⟩⟩,aq⟩ ⟨⟨_,Y,cg.refl _⟩,⟨_,Y,cg.refl _⟩,⟨_,Y,cg.refl _⟩,aq⟩ (λi hi=>by rw[bV (show i≠312 by omega)];rw[bV (show i≠313 by omega)];rfl)) (λs30 y30 G30 h aoS aoT=>?_);obtain⟨wP,BV,BW⟩:=s30
 try dsimp only
 refine sr<|lE h λuL AU h=>ls _ Y Y AU<|dn<|qq ?_;cases uL;refine cF<|bP<|aW.x<|aW.x<|bF.x<|aW.n ?_;obtain rfl:=O (F h);exact⟨(BV,BW),aoT _ Y,wR []⟩;refine cT<|bu<|aW.n<|qq<|bf<|sr<|mv Y<|ag Y<|dn<|sr<|fa Y Y<|lV Y Y Y<|fa Y Y<|lV Y Y Y<|lE (V h) λsj Aw h=>ln Y Aw<|lE h λyd GR h=>ad _ Y Y GR<|lE h λyI h46 h=>ad _ Y Y h46<|bE h λxl AW h=>RT.vW (n:=4) (e:=eQ) .none Y Y T Y T (by rfl) (by decide) (by exact⟨au,aC,au,aC,aq⟩) AW ?_;refine an (s:=.row _) Y<|dn<|qq<|sr<|fa Y Y<|lV Y Y Y<|mv Y<|dn<|bE h λe38 afi kV=>?_;refine bJ (λ(Dd:(List Qr))=>AS.cu 105 [(1,.ptr 1 0),(3,.ptr 12 0),(6,ai wP),(7,.row 47),(36,ai nF),(37,ai wP)] [(12,⟨79,[aj true,ai bn,.row 308,.row 312,.row 313]⟩),(1,⟨25,[ai bn,.sv (slc 1 (List.map (eS 4 eQ) bp)),.sv (slc 1 (List.map (eS 4 eQ) bB)),.sv (slc 4 (List.map eQ bD))]⟩)] [(47,TR 43 4 eQ Dd),(308,TR 23 1 (eS 4 eQ) yn),(312,TR 3 1 bH BV),(313,TR 23 1 (eS 4 eQ) BW)]) (λDd=>Dd=e38) ?_ (λDd afj=>?_);refine bf ?_
 refine bK afi (λSX=>AS.cu 105 [(1,.ptr 1 0),(3,.ptr 12 0),(6,ai wP),(7,.row 47),(36,ai nF),(37,ai wP),(49,ai bn),(50,ai SX.1)] [(12,⟨79,[aj true,ai bn,.row 308,.row 312,.row 313]⟩),(1,⟨25,[ai bn,.sv (slc 1 (List.map (eS 4 eQ) bp)),.sv (slc 1 (List.map (eS 4 eQ) bB)),.sv (slc 4 (List.map eQ bD))]⟩)] [(47,TR 43 4 eQ SX.2),(308,TR 23 1 (eS 4 eQ) yn),(312,TR 3 1 bH BV),(313,TR 23 1 (eS 4 eQ) BW)]) (wR []) (λSX y38 G38 h afk afl=>?_);obtain⟨I4,I5⟩:=SX
 try dsimp only
 refine sr<|lE h λBS Iy h=>ls _ Y Y Iy<|dn<|qq ?_;cases BS;refine cF<|bP<|aW.x<|aW.x<|bF.x<|aW.n ?_;obtain rfl:=O (F h);exact⟨I5,afl _ Y,wR []⟩;refine cT<|bu<|aW.n<|qq<|bf<|sr<|mv Y<|ag Y<|dn<|aX<|mo (s:=.row _) Y<|mv Y<|fa Y Y<|lV Y Y Y<|mv Y<|mv Y ?_;obtain⟨⟨⟨LG,LH⟩,⟨LI,LJ⟩⟩,Uw,h⟩:=bS (V h);refine cl (UC Uw) ⟨Y,Y,Y,aq⟩<|bE h λQz Vj h=>iR Y Y Y Vj<|bE h λZA aj7 h=>sA ⟨⟨LG,LH⟩,⟨LI,LJ⟩⟩ Y Y Y aj7<|RT.done<|bF.n<|aW.n<|aX<|lE h λN2 Wr h=>ad _ Y Y Wr<|mv Y<|RT.done ?_;obtain rfl:=O h;exact aW.n ⟨(N2,ZA),afk _ Y,wR []⟩;subst afj
 try dsimp only
 refine aW.n<|qq<|aZ mixed<|mo (s:=.row _) Y<|fa Y Y<|lV Y Y Y<|mv Y<|lE kV λMv h66 kV=>ad _ Y Y h66 ?_;obtain⟨⟨⟨LK,LM⟩,⟨LN,LO⟩⟩,h67,kV⟩:=bS kV;refine cl (nx h67) ⟨Y,aq⟩<|bE kV λQ2 h68 kV=>iR Y Y Y h68<|bE kV λl42 Wq kV=>sA ⟨⟨LK,LM⟩,⟨LN,LO⟩⟩ Y Y Y Wq ?_;refine RT.done ⟨by kernel_rfl,?_⟩;refine aW.n<|sr<|mo (s:=.row _) Y<|mo (s:=.row _) Y<|lE kV λVl h71 kV=>lL Y Y h71<|lE kV λOy h72 kV=>sb _ Y Y h72<|fa Y Y<|lV Y Y Y<|mv Y ?_;obtain⟨⟨⟨ade,adf⟩,⟨adg,adh⟩⟩,h76,kV⟩:=bS kV;refine ix Y Y h76<|RT.gJ (cs:=[_,_,_,_]) .none Y T Y Y ?_;obtain⟨⟨⟨W8,W9⟩,⟨Xa,Xb⟩⟩,h78,kV⟩:=bS kV;refine cl (xJ h78) ⟨Y,aq⟩<|bE kV λUs h79 kV=>iR Y Y Y h79<|bE kV λl44 aj8 kV=>sA ⟨⟨W8,W9⟩,⟨Xa,Xb⟩⟩ Y Y Y aj8<|dn<|qq<|bU (cP (i:=47) (E1:=43) (n:=4) (e:=eQ) (l:=l44) Y)<|aX<|mo (s:=.ptr _ _) Y<|mo (s:=.ptr _ _) Y<|RT.dh .none Y T<|fa Y Y<|RT.lf .none (s:=.row _) Y Y Y T<|mv Y<|bl (l:=[l44]) (e:=(eS 4 eQ)) (.one Y (.nil)) Y Y Y Y Y Y ?_
 refine bE kV λx87 h87 kV=>aR (k:=[l44]) (e:=(eS 4 eQ)) Y Y Y h87<|RT.dh .none Y T<|fa Y Y<|RT.qO (cells:=[_,_,_,_,_]) .none Y Y Y Y T Y<|dn<|aZ mixed<|mo (s:=.ptr _ _) Y<|mo (s:=.ptr _ _) Y<|RT.dh .none Y T<|fa Y Y<|RT.lf .none (s:=.row _) Y Y Y T<|fa Y Y<|lV Y Y Y<|mv Y<|lE kV λZK h98 kV=>ad _ Y Y h98 ?_;refine bl (l:=[ZK]) (e:=bH) (.one Y (.nil)) Y Y Y Y Y Y<|bE kV λaf6 aoU kV=>aR (k:=[ZK]) (e:=bH) Y Y Y aoU<|RT.dh .none Y T<|fa Y Y<|RT.qO (cells:=[_,_,_,_,_]) .none Y Y Y Y T Y ?_;refine RT.done ⟨by kernel_rfl,?_⟩;refine bF.n<|aW.n<|aX<|lE kV λKp Wu kV=>ad _ Y Y Wu<|mv Y<|RT.done ?_;obtain rfl:=O kV;exact aW.n ⟨(Kp,af6,x87),aoS _ Y,cz (λi=>bif Nat.beq i 312 then 100 else bif Nat.beq i 313 then 87 else i) Y Y Y Y Y ⟨.ptr,.ptr,.sv au,.sv au,aq⟩ ⟨⟨_,Y,⟨.sv au,.sv au,.row Y,.row Y,.row Y,aq⟩⟩,⟨_,Y,⟨.sv au,.sv au,.sv au,.sv au,aq⟩⟩,aq⟩ ⟨⟨_,Y,cg.refl _⟩,⟨_,Y,cg.refl _⟩,⟨_,Y,cg.refl _⟩,aq⟩ (λi hi=>by rw[bV (show i≠312 by omega)];rw[bV (show i≠313 by omega)];rfl)⟩;subst aoR;obtain⟨Tk,Tl⟩:=UH
 try dsimp only
 refine aW.n<|sr<|mo (s:=.ptr _ _) Y<|an (s:=.ptr _ _) Y<|dn<|aY ?_;obtain rfl:=O aoQ;exact⟨.inr Y,12,[308,312,313],.tmp Y,Y,⟨Y,Y,Y,aq⟩,by decide⟩
theorem Bs{x0:Lr}{r:Bool×Int×(List (List Qr))×(List Int)×(List (List Qr))}(h:kW x0=some r):Ry ah 12 [.agg (Ol x0)] true [ay 0] 79 [.s (aA r.1),.s (ay r.2.1),.r (TR 23 1 (eS 4 eQ) r.2.2.1),.r (TR 3 1 bH r.2.2.2.1),.r (TR 23 1 (eS 4 eQ) r.2.2.2.2)]:=by
 obtain⟨bn,bp,bB,bD⟩:=x0;refine Pk (t1:=2) (t2:=3) Tryz.func12 Y (af Y) Y (λc9 M vs hvs=>?_);unfold kW at h;refine sr<|bx Y<|ag Y<|ag Y<|dn<|qq<|sr<|ld Y Y (.k4 Y Y Y Y)<|bE h λx5 h5 h=>cl (Gn h5) ⟨Y,aq⟩<|lE h λx6 h6 h=>nt Y _ h6<|dn ?_;cases x6;refine fs<|sr<|ld Y Y (.k4 Y Y Y Y) ?_;obtain⟨⟨qJ,qK,Ba,Bb,aaJ⟩,h8,h⟩:=bS (F h);refine RT.FA .none (su h8) [304,305,306] (by decide) Y ⟨⟨Y,T⟩,⟨Y,T⟩,⟨Y,T⟩,aq⟩ Y ⟨Y,aq⟩ T Y Y<|an (s:=.ptr _ _) Y<|ag Y<|dn<|aY ?_;obtain rfl:=O h;exact⟨.inr Y,8,[304,305,306],Y,Y,Y,⟨Y,Y,Y,aq⟩,by decide⟩;refine cT<|sr<|ag Y<|ag Y<|dn<|aY<|aW.r ?_;replace h:=V h;cases h
theorem MX{x0:List Qr}{O5:Qr}{r:List Qr}(h:ug x0 O5=some r):Pure ah 106 [slc 4 (List.map eQ x0),ref (eQ O5)] (slc 4 (List.map eQ r)):=by
 obtain⟨⟨O6,O7⟩,⟨O8,O9⟩⟩:=O5;refine bj Tryz.func106 Y (af Y) (λc9 M vs hvs=>?_);unfold ug at h;refine sr<|aI Y (aC (n:=4) (e:=eQ))<|dn<|sr<|RT.gJ (cs:=[_,_,_,_]) .none Y T Y Y<|mv Y<|bE h λx6 h6 h=>cl (ML h6) ⟨Y,Y,aq⟩<|ag Y<|dn<|aY ?_;obtain rfl:=O h;exact R1 Y
theorem KC{o0:Bool}{o1:Int}{o2:List (List Qr)}{o3:List Int}{o4:List (List Qr)}{x0:List Qr}{O5:Int}{c_2:Int}{r:List Qr}(h:oD o0 o1 o2 o3 o4 x0 O5 c_2=some r):Tc ah 107 (λβ=>[.sv (slc 4 (List.map eQ x0)),.sv (ref [ay O5]),.sv (ref [.v (.pointer (some ⟨β,0,none⟩))]),.sv (ref [ay c_2])]) 79 [.s (aA o0),.s (ay o1),.r (TR 23 1 (eS 4 eQ) o2),.r (TR 3 1 bH o3),.r (TR 23 1 (eS 4 eQ) o4)] (λ_ M' _ v=>SV.h (slc 4 (List.map eQ r)) M' v):=by
 refine MQ [1001,1002,1003] Tryz.func107 Y (λ_=>(af Y)) (λ_=>Y) (by decide) Y Y ⟨⟨_,Y⟩,⟨_,Y⟩,aq,aq,aq,aq⟩ (λc9 M β us=>?_);unfold oD at h;refine sr<|aI Y (aC (n:=4) (e:=eQ))<|dn<|qq<|sr<|mv Y<|lr Y Y ?_;obtain⟨⟨⟨qJ,qK⟩,⟨Ba,Bb⟩⟩,h8,h⟩:=bS h;refine ix Y Y h8<|RT.gJ (cs:=[_,_,_,_]) .none Y T Y Y<|bE h λdG fY h=>cl (q9 fY) ⟨Y,aq⟩<|lE h λff kz h=>eq _ Y Y (xh (p:=dG) (q:=0) kz)<|dn ?_;cases ff;refine fs<|qq<|aZ mixed<|mv Y<|lr Y Y ?_;obtain⟨⟨⟨jQ,jR⟩,⟨xG,xH⟩⟩,gH,h⟩:=bS (F h);refine ix Y Y gH<|RT.gJ (cs:=[_,_,_,_]) .none Y T Y Y ?_;obtain⟨⟨⟨qY,qZ⟩,⟨Ak,Al⟩⟩,jK,h⟩:=bS h;refine cl (OV jK) ⟨Y,aq⟩<|RT.FC (k:=1000) .none Y Y Y T<|RT.dh .none Y T<|fa Y Y<|RT.lf .none (s:=.row _) Y Y Y T<|lr Y Y<|bE h λgU oQ h=>iR Y Y Y oQ<|bE h λgV nG h=>lR (e:=(eS 4 eQ)) Y Y nG Y<|mv Y<|bE h λji qS h=>cl (Fx qS) ⟨Y,Y,Y,aq⟩<|ag Y ?_;refine RT.done ⟨by kernel_rfl,?_⟩;refine aW.n<|aY ?_;obtain rfl:=O h;exact⟨.inr Y,gR (.tmp Y (.nil)) au,Y,⟨Y,Y,Y,aq⟩⟩;refine cT<|sr<|mv Y<|ag Y<|dn<|aY<|aW.r ?_;obtain rfl:=O (V h);exact⟨.inr Y,gR (.tmp Y (.nil)) au,Y,⟨Y,Y,Y,aq⟩⟩
set_option maxHeartbeats 4000000 in
theorem vD{o0:Bool}{o1:Int}{o2:List (List Qr)}{o3:List Int}{o4:List (List Qr)}{x1:Int}{x2:Int}{r:(List (List Qr))×(List Int)×(List (List Qr))}(h:fk o0 o1 o2 o3 o4 x1 x2=some r):Rw ah 60 [.ptr 1000 0,ai x1,ai x2] 79 [.s (aA o0),.s (ay o1),.r (TR 23 1 (eS 4 eQ) o2),.r (TR 3 1 bH o3),.r (TR 23 1 (eS 4 eQ) o4)] (.any) [.s (aA o0),.s (ay o1),.r (TR 23 1 (eS 4 eQ) r.1),.r (TR 3 1 bH r.2.1),.r (TR 23 1 (eS 4 eQ) r.2.2)]:=by
 refine wM [1001,1002,1003] Tryz.func60 Y (af Y) Y (by decide) Y (λc9 M β us=>?_);unfold fk at h;refine sr<|RT.CI .none (s:=.ptr _ _) Y T Y Y<|RT.CI .none (s:=.sv _) Y T Y Y<|RT.CI .none (s:=.sv _) Y T Y Y<|dn<|aaG (i:=3) Y Y<|bU (lH (i:=3) Y [.v (.pointer (some ⟨β,0,none⟩))] (.cons Y (.nil)) .any 0 [(3,.sv (ref [.v (.pointer (some ⟨β,0,none⟩))]))] (λ_ _ _=>trivial) (yB.h (l:=[.v (.pointer (some ⟨β,0,none⟩))])) ⟨@FT.ptr _ _ _ _ _ 3 0 Y,aq⟩)<|bU (lH (i:=4) Y [ay x1] (.cons Y (.nil)) .any 0 [(4,.sv (ref [ay x1]))] (λ_ _ _=>trivial) (yB.h (l:=[ay x1])) ⟨@FT.ptr _ _ _ _ _ 4 0 Y,aq⟩) ?_;refine bU (lH (i:=5) Y [ay x2] (.cons Y (.nil)) .any 0 [(5,.sv (ref [ay x2]))] (λ_ _ _=>trivial) (yB.h (l:=[ay x2])) ⟨@FT.ptr _ _ _ _ _ 5 0 Y,aq⟩)<|qq<|aZ mixed ?_;obtain⟨⟨⟨AL,AM⟩,⟨adi,adj⟩⟩,iX,h⟩:=bS h;refine cl (nx iX) ⟨Y,aq⟩<|RT.FC (k:=1000) .none Y Y Y T<|RT.dh .none Y T<|fa Y Y<|RT.lf .none (s:=.row _) Y Y Y T<|lr Y Y<|bE h λjb lZ h=>iR Y Y Y lZ<|bE h λgK oP h=>lR (e:=(eS 4 eQ)) Y Y oP Y<|lr Y Y ?_;obtain⟨⟨⟨wB,wC⟩,⟨wD,wE⟩⟩,oA,h⟩:=bS h;refine ix Y Y oA<|RT.gJ (cs:=[_,_,_,_]) .none Y T Y Y ?_;obtain⟨⟨⟨⟨FD,FE⟩,⟨FF,FG⟩⟩,UB⟩,nG,h⟩:=bS h
 refine cl (OT nG) ⟨Y,Y,aq⟩<|mv Y<|ex Y Y<|ex Y Y<|al (cs:=[aA false,ax,aA false,ax]) (by exact⟨au,aC,au,aC,aq⟩) Y<|so Y Y Y<|ag Y ?_;refine RT.done ⟨by kernel_rfl,?_⟩;refine aW.n ?_;refine bU (lH (i:=6) Y [aA FD,slc 1 (List.map bh FE),aA FF,slc 1 (List.map bh FG)] (.k4 Y Y Y Y) .any 0 [(6,.sv (ref [aA FD,slc 1 (List.map bh FE),aA FF,slc 1 (List.map bh FG)]))] (λ_ _ _=>trivial) (yB.h (l:=[aA FD,slc 1 (List.map bh FE),aA FF,slc 1 (List.map bh FG)])) ⟨@FT.ptr _ _ _ _ _ 6 0 Y,aq⟩)<|sr<|RT.Fe (caps:=[_]) .none ⟨Y,aq⟩ T<|bI (cs:=[_]) (cs':=[oO 106 [ref [aA FD,slc 1 (List.map bh FE),aA FF,slc 1 (List.map bh FG)]]]) (.one Y (.nil)) ⟨au,aq⟩ ?_;refine RT.alloc .none T Y Y<|so Y Y Y<|dn<|qq<|aZ mixed<|RT.FC (k:=1000) .none Y Y Y T<|RT.dh .none Y T<|fa Y Y<|RT.lf .none (s:=.row _) Y Y Y T<|lr Y Y<|fa Y Y<|lV Y Y Y<|RT.FC (k:=1000) .none Y Y Y T<|RT.dh .none Y T<|fa Y Y<|RT.lf .none (s:=.row _) Y Y Y T<|lr Y Y<|bE h λyH GQ h=>iR Y Y Y GQ ?_;refine bE h λpD Av h=>lR (e:=(eS 4 eQ)) Y Y Av Y<|bE h λyz ET h=>RT.ai9 (args:=[_]) (caps:=[_]) .none (MX ET) Y ⟨Y,aq⟩ T<|bE h λsj Aw h=>iR Y Y Y Aw<|bE h λl2 aoV h=>sR yz Y Y Y Y aoV ?_;refine RT.done ⟨by kernel_rfl,?_⟩
 refine aW.n<|sr<|RT.Fe (caps:=[_,_,_]) .none ⟨Y,Y,Y,aq⟩ T<|bI (cs:=[_]) (cs':=[oO 107 [ref [ay x2],ref [.v (.pointer (some ⟨β,0,none⟩))],ref [ay x1]]]) (.one Y (.nil)) ⟨au,aq⟩<|RT.alloc .none T Y Y<|so Y Y Y<|dn<|sr<|RT.FC (k:=1000) .none Y Y Y T<|RT.dh .none Y T<|fa Y Y<|RT.lf .none (s:=.row _) Y Y Y T<|lE h λBS Iy h=>lL Y Y Iy ?_;refine mv Y<|dn<|bE h λUr Mz tQ=>?_;refine bJ (λ(yW:(List (List Qr)))=>AS.cu 71 [] [(1000,⟨79,[aj o0,ai o1,.row 1001,.row 1002,.row 1003]⟩)] [(1001,TR 23 1 (eS 4 eQ) o2),(1002,TR 3 1 bH o3),(1003,TR 23 1 (eS 4 eQ) yW)]) (λyW=>yW=Ur) ?_ (λyW MA=>?_);refine bf ?_;refine bK Mz (λAh=>AS.cu 71 [(3,.sv (ref [.v (.pointer (some ⟨β,0,none⟩))])),(4,.sv (ref [ay x1])),(9,.ptr 9 0),(50,.row 1003),(51,ai BS),(52,ai Ah.1)] [(1000,⟨79,[aj o0,ai o1,.row 1001,.row 1002,.row 1003]⟩),(9,⟨124,[.sv (oO 107 [ref [ay x2],ref [.v (.pointer (some ⟨β,0,none⟩))],ref [ay x1]])]⟩)] [(1003,TR 23 1 (eS 4 eQ) Ah.2),(1001,TR 23 1 (eS 4 eQ) o2),(1002,TR 3 1 bH o3)]) (wR []) (λAh y12 G12 h MB MC=>?_);obtain⟨xM,j0⟩:=Ah
 try dsimp only
 refine sr<|lE h λVm Wt h=>ls _ Y Y Wt<|dn<|qq ?_;cases Vm;refine cF<|bP<|aW.x<|aW.x<|bF.x<|aW.n ?_;obtain rfl:=O (F h);exact⟨j0,MC _ Y,wR []⟩;refine cT<|bu<|aW.n<|qq<|bf<|sr<|mv Y<|bE (V h) λCX Re h=>iR Y Y Y Re<|bE h λGL Rc h=>lR (e:=(eS 4 eQ)) Y Y Rc Y<|ag Y<|ag Y<|dn<|sr<|mv Y<|lr Y Y<|lE h λLn Uw h=>ne _ Y Y (Lf (p:=xM) (q:=x1) Uw)<|dn ?_;refine bL h (λj15=>AS.cu 71 [(3,.sv (ref [.v (.pointer (some ⟨β,0,none⟩))])),(4,.sv (ref [ay x1])),(9,.ptr 9 0),(50,.row 1003),(51,ai BS),(52,ai xM)] [(1000,⟨79,[aj o0,ai o1,.row 1001,.row 1002,.row 1003]⟩),(9,⟨124,[.sv (oO 107 [ref [ay x2],ref [.v (.pointer (some ⟨β,0,none⟩))],ref [ay x1]])]⟩)] [(1003,TR 23 1 (eS 4 eQ) j15),(1001,TR 23 1 (eS 4 eQ) o2),(1002,TR 3 1 bH o3)]) (λh=>?_) (λBk h=>?_);cases Ln;exact fs<|⟨j0,(F h),wR []⟩;refine cT<|aZ mixed<|RT.FC (k:=1000) .none Y Y Y T<|RT.dh .none Y T<|fa Y Y<|RT.lf .none (s:=.row _) Y Y Y T<|mv Y<|fa Y Y<|lV Y Y Y<|mv Y<|bE (V h) λQ2 h68 h=>RT.aaH (args:=[.sv (slc 4 (List.map eQ GL))]) (caps:=λβ=>[ref [ay x2],ref [.v (.pointer (some ⟨β,0,none⟩))],ref [ay x1]]) .none (KC h68) 1000 [1001,1002,1003] Y Y ⟨Y,Y,Y,aq⟩ (by decide) Y Y (.cons Y (.nil)) T ?_
 refine bE h λWd h69 h=>iR Y Y Y h69<|bE h λl17 aka h=>sR Q2 Y Y Y Y aka ?_;refine RT.done ⟨by kernel_rfl,?_⟩;exact aW.n<|⟨l17,h,wR []⟩
 try dsimp only
 refine bF.n<|aW.n<|aX<|lE h λx70 h70 h=>ad _ Y Y h70<|mv Y<|RT.done ?_;obtain rfl:=O h;exact aW.n ⟨(x70,Bk),MB _ Y,wR []⟩;subst MA
 try dsimp only
 obtain rfl:=O tQ;exact⟨.inl Y,gR .nil (λ_ _ _=>trivial),[1001,1002,1003],Y,⟨Y,Y,Y,aq⟩,by decide⟩
set_option maxHeartbeats 4000000 in
theorem kX{o0:Bool}{o1:Int}{o2:List (List Qr)}{o3:List Int}{o4:List (List Qr)}{x1:Int}{x2:Int}{r:Int×(List (List Qr))×(List Int)×(List (List Qr))}(h:bY o0 o1 o2 o3 o4 x1 x2=some r):Rw ah 14 [.ptr 1000 0,ai x1,ai x2] 79 [.s (aA o0),.s (ay o1),.r (TR 23 1 (eS 4 eQ) o2),.r (TR 3 1 bH o3),.r (TR 23 1 (eS 4 eQ) o4)] (ay r.1) [.s (aA o0),.s (ay o1),.r (TR 23 1 (eS 4 eQ) r.2.1),.r (TR 3 1 bH r.2.2.1),.r (TR 23 1 (eS 4 eQ) r.2.2.2)]:=by
 refine wM [1001,1002,1003] Tryz.func14 Y (af Y) Y (by decide) Y (λc9 M β us=>?_);unfold bY at h;refine sr<|ag Y<|dn<|qq<|sr<|mo (s:=.ptr _ _) Y<|bE h λdG fY h=>RT.nW .none (I7 fY) 1000 [1001,1002,1003] Y ⟨Y,Y,Y,aq⟩ (by decide) Y Y (.cons Y (.nil)) T<|dn ?_;cases dG;refine fs<|qq<|qq ?_;refine bL (F h) (λQC=>AS.cu 68 [(0,.ptr 1000 0),(1,ai x1),(2,ai x2),(31,aj QC)] [(1000,⟨79,[aj o0,ai o1,.row 1001,.row 1002,.row 1003]⟩)] [(1001,TR 23 1 (eS 4 eQ) o2),(1002,TR 3 1 bH o3),(1003,TR 23 1 (eS 4 eQ) o4)]) (λh=>?_) (λXd h=>?_);refine aX<|mv Y<|lE h λc8 fI h=>ls _ Y Y fI<|mv Y<|bE h λXe r7 h=>?_;cases c8;refine gm Y<|RT.move (.some Y Y) (s:=.ptr _ _) Y T<|RT.dh (.some Y Y) Y T<|RT.fieldAddr (.some Y Y) Y T Y<|RT.lf (.some Y Y) (s:=.row _) Y Y Y T<|lE (F r7) λjb lZ r7=>RT.ack (.some Y Y) Y Y T lZ<|lE r7 λgK oP r7=>RT.geq (.some Y Y) _ Y Y T oP ?_;obtain rfl:=O r7;refine pF Y<|mv Y<|bE h λaoW I8 h=>?_;cases gK;refine gm Y<|lE (F I8) λgV nG I8=>RT.lss (.some Y Y) _ Y Y T nG ?_;obtain rfl:=O I8;refine pF Y<|mv Y<|bE h λaoX yO h=>?_;cases gV
 refine gm Y<|RT.move (.some Y Y) (s:=.ptr _ _) Y T<|bE (F yO) λiM oN yO=>RT.nW (.some Y Y) (MV oN) 1000 [1001,1002,1003] Y ⟨Y,Y,Y,aq⟩ (by decide) Y Y (.cons Y (.nil)) T<|lE yO λuM zH yO=>RT.geq (.some Y Y) _ Y Y T zH ?_;obtain rfl:=O yO;exact pF Y<|dn<|⟨uM,h,wR []⟩;obtain rfl:=O (V yO);exact ww<|ww<|ww<|ww<|pT Y<|dn<|⟨true,h,wR []⟩;obtain rfl:=O (V I8);refine ww<|ww<|pT Y<|mv Y<|bE h λaoY C5 h=>?_;obtain rfl:=O (V C5);exact ww<|ww<|ww<|ww<|pT Y<|dn<|⟨true,h,wR []⟩;obtain rfl:=O (V r7);refine ww<|ww<|ww<|ww<|ww<|ww<|ww<|pT Y<|mv Y<|bE h λaoZ Fv h=>?_;obtain rfl:=O (V Fv);refine ww<|ww<|pT Y<|mv Y<|bE h λao0 xo h=>?_;obtain rfl:=O (V xo);exact ww<|ww<|ww<|ww<|pT Y<|dn<|⟨true,h,wR []⟩
 try dsimp only
 refine aW.n ?_;cases Xd;refine fs<|qq<|sr<|mo (s:=.ptr _ _) Y<|RT.dh .none Y T<|fa Y Y<|RT.lf .none (s:=.row _) Y Y Y T<|lE (F h) λnF xn h=>lL Y Y xn<|mv Y<|dn<|bE h λBl sL fC=>?_;refine bJ (λ(vE:Unit)=>AS.cu 68 [(0,.ptr 1000 0),(1,ai x1),(2,ai x2)] [(1000,⟨79,[aj o0,ai o1,.row 1001,.row 1002,.row 1003]⟩)] [(1001,TR 23 1 (eS 4 eQ) o2),(1002,TR 3 1 bH o3),(1003,TR 23 1 (eS 4 eQ) o4)]) (λvE=>.inl vE=Bl) ?_ (λvE rz=>?_);refine bf ?_;refine bK sL (λnB=>AS.cu 68 [(0,.ptr 1000 0),(1,ai x1),(2,ai x2),(35,.row 1002),(36,ai nF),(37,ai nB)] [(1000,⟨79,[aj o0,ai o1,.row 1001,.row 1002,.row 1003]⟩)] [(1002,TR 3 1 bH o3),(1001,TR 23 1 (eS 4 eQ) o2),(1003,TR 23 1 (eS 4 eQ) o4)]) (wR []) (λMS Vn Vo h uT rB=>?_)
 try dsimp only
 refine sr<|lE h λuL AU h=>ls _ Y Y AU<|dn<|qq ?_;cases uL;refine cF<|bP<|aW.x<|aW.x<|bF.x<|aW.n ?_;obtain rfl:=O (F h);exact⟨(),rB _ Y,wR []⟩;refine cT<|bu<|aW.n<|qq<|bf<|sr<|bE (V h) λyg Fo h=>iR Y Y Y Fo<|bE h λlj tf h=>lR Y Y tf Y<|ag Y<|dn<|sr<|mv Y<|mv Y<|lE h λyz ET h=>eq _ Y Y (xh (p:=lj) (q:=x2) ET)<|dn ?_;cases yz;refine cF<|bu<|bF.n<|aW.n<|aX<|lE (F h) λsj Aw h=>ad _ Y Y Aw<|mv Y<|RT.done ?_;obtain rfl:=O h;exact aW.n ⟨sj,uT _ Y,wR []⟩;refine cT<|sr<|ag Y<|dn<|aY<|bF.r<|aW.r ?_;obtain rfl:=O (V h);have RE:=rB _ Y;subst RE;refine aW.r<|bF.r<|aW.r<|aW.r ?_;obtain rfl:=O fC;exact⟨.inr Y,gR (.tmp Y (.nil)) au,[1001,1002,1003],Y,⟨Y,Y,Y,aq⟩,by decide⟩;subst rz
 try dsimp only
 refine aW.n<|qq<|sr<|mo (s:=.ptr _ _) Y<|RT.dh .none Y T<|fa Y Y<|RT.lf .none (s:=.row _) Y Y Y T<|mv Y<|bE fC λAu Ks fC=>iR Y Y Y Ks<|bE fC λBS Iy fC=>lR (e:=(eS 4 eQ)) Y Y Iy Y<|mv Y ?_;obtain⟨⟨⟨Cy,Cz⟩,⟨CA,CB⟩⟩,Wt,fC⟩:=bS fC;refine ix Y Y Wt<|RT.gJ (cs:=[_,_,_,_]) .none Y T Y Y<|bE fC λCX Re fC=>cl (q9 Re) ⟨Y,aq⟩<|lE fC λGL Rc fC=>eq _ Y Y (xh (p:=CX) (q:=0) Rc)<|dn ?_;cases GL;refine fs<|sr<|mo (s:=.ptr _ _) Y<|mv Y<|mv Y ?_;obtain⟨⟨ZJ,l21,l22⟩,Vj,fC⟩:=bS (F fC);refine RT.IT .none (vD Vj) 1000 [1001,1002,1003] [304,305,306] Y ⟨Y,Y,Y,aq⟩ (by decide) (by decide) Y ⟨⟨Y,T⟩,⟨Y,T⟩,⟨Y,T⟩,aq⟩ Y Y (.k3 Y Y Y) T<|dn<|sr<|mo (s:=.ptr _ _) Y<|RT.dh .none Y T<|fa Y Y<|RT.lf .none (s:=.row _) Y Y Y T<|mv Y<|mv Y<|bE fC λVh h67 fC=>iR Y Y Y h67<|bE fC λl24 akb fC=>sR x2 Y Y Y Y akb ?_;refine dn<|sr<|ag Y<|dn<|aY ?_;obtain rfl:=O fC;exact⟨.inr Y,gR (.tmp Y (.nil)) au,[304,305,306],Y,⟨Y,Y,Y,aq⟩,by decide⟩;refine cT<|sr<|ag Y<|dn<|aY<|aW.r ?_;obtain rfl:=O (V fC);exact⟨.inr Y,gR (.tmp Y (.nil)) au,[1001,1002,1003],Y,⟨Y,Y,Y,aq⟩,by decide⟩;refine cT<|sr<|ag Y<|dn<|aY<|aW.r ?_;obtain rfl:=O (V h);exact⟨.inr Y,gR (.tmp Y (.nil)) au,[1001,1002,1003],Y,⟨Y,Y,Y,aq⟩,by decide⟩
 refine cT<|sr<|ag Y<|dn<|aY<|aW.r ?_;obtain rfl:=O (V h);exact⟨.inr Y,gR (.tmp Y (.nil)) au,[1001,1002,1003],Y,⟨Y,Y,Y,aq⟩,by decide⟩
end
section
open Go.Fw
noncomputable def dY(x0:List Int):Option (List Int):=(some (x0.length:Int)).bind λx5=>(b9 (λ(Ei:Int)=>(show Option ((Int)⊕(Int))from cJ (λ(RF:Bool)=>(bif RF then(some (IntKind.i64.wrap (Ei-1))).bind λdR=>some (.inl dR)else some (.inr Ei))) λGK=>(some (decide ((0:Int)<Ei))).bind λx7=>(bif x7 then(some (IntKind.i64.wrap (Ei-1))).bind λff=>(cM x0 ff).bind λc8=>(some (decide ((c8:Int)=0))).bind λdV=>some dV else some false).bind λXh=>GK Xh)) x5).bind λRG=>(GH x0 0 RG).bind λgK=>some gK
noncomputable def cQ(x0:List Nat):Option (List Int):=(b9 (λ(s6:Int×(List Int))=>match s6 with|⟨nY,gB⟩=>(show Option ((Int×(List Int))⊕((List Int)))from(some (x0.length:Int)).bind λx7=>(some (decide ((nY:Int)<x7))).bind λx8=>(bif x8 then(cM x0 nY).bind λdV=>(some (dV%65536)).bind λeX=>(some (IntKind.i64.wrap (eX:Int))).bind λdR=>(cM x0 nY).bind λgK=>(some (gK/65536%4294967296)).bind λiK=>(some (IntKind.i64.wrap (iK:Int))).bind λgU=>(mQ 8 gB [dR,gU]).bind λke=>(some (IntKind.i64.wrap (nY+1))).bind λdG=>some (.inl (dG,ke))else some (.inr gB)))) (0,[])).bind λdr=>(dY dr).bind λir=>some ir
noncomputable def fV(x0:List Int)(x1:Int):Option (Int):=(some (x0.length:Int)).bind λx7=>(some (decide ((x1:Int)<x7))).bind λx8=>(bif x8 then(cM x0 x1).bind λff=>some ff else some 0)
noncomputable def dZ(x0:Bool)(x1:List Int):Option (Zr):=(dY x1).bind λx8=>(b9 (λ(s6:Int×(List Nat))=>match s6 with|⟨l7,gB⟩=>(show Option ((Int×(List Nat))⊕((List Nat)))from(some (x8.length:Int)).bind λff=>(some (decide ((l7:Int)<ff))).bind λc8=>(bif c8 then(fV x8 l7).bind λeE=>(some ((eE%4294967296).toNat)).bind λjb=>(some (IntKind.i64.wrap (l7+1))).bind λiK=>(fV x8 iK).bind λgU=>(some ((gU%4294967296).toNat)).bind λgV=>(some ((gV*65536)%4294967296)).bind λke=>(some ((jb+ke)%4294967296)).bind λji=>(mQ 4 gB [ji]).bind λlp=>(some (IntKind.i64.wrap (l7+2))).bind λdV=>some (.inl (dV,lp))else some (.inr gB)))) (0,[])).bind λdr=>cJ (λ(Xi:Bool)=>some ⟨Xi,dr⟩) λK9=>(bif x0 then(some (dr.length:Int)).bind λjY=>(some (decide ((0:Int)<jY))).bind λow=>some ow else some false).bind λXj=>K9 Xj
noncomputable def kY(x0:Zr):Option (Zr):=match x0 with|⟨bn,bp⟩=>(cQ bp).bind λx7=>(dZ bn x7).bind λ⟨qJ,qK⟩=>some ⟨qJ,qK⟩
noncomputable def oE(x0:Zr)(x1:Zr):Option (Bool):=match x0 with|⟨bn,bp⟩=>match x1 with|⟨ct,cj⟩=>cJ (λ(Xk:Bool)=>(bif Xk then some false else(b9 (λ(GM:Int)=>(show Option ((Int)⊕((Unit)⊕(Bool)))from(some (bp.length:Int)).bind λgU=>(some (decide ((GM:Int)<gU))).bind λgV=>(bif gV then(cM bp GM).bind λuM=>(cM cj GM).bind λpC=>(some (decide ((uM:Nat)≠pC))).bind λpE=>(bif pE then some (.inr (.inr false))else(some (IntKind.i64.wrap (GM+1))).bind λji=>some (.inl ji))else some (.inr (.inl ()))))) 0).bind λe9=>match e9 with|.inr v9=>some v9|.inl _=>some true)) λK3=>(some (!(bn==ct))).bind λdG=>(bif dG then some true else(some (bp.length:Int)).bind λdV=>(some (cj.length:Int)).bind λdR=>(some (decide ((dV:Int)≠dR))).bind λeE=>some eE).bind λXl=>K3 Xl
noncomputable def oF(x0:Int):Option (Zr):=(some ((x0%18446744073709551616).toNat)).bind λx5=>(some (decide ((x0:Int)<0))).bind λx7=>cJ (λ(OB:Nat)=>(some (decide ((x0:Int)<0))).bind λff=>(some (OB%4294967296)).bind λeY=>(some (eY%4294967296)).bind λdV=>(some (OB/4294967296%18446744073709551616)).bind λeX=>(some (eX%4294967296)).bind λdR=>(kY ⟨ff,[dV,dR]⟩).bind λ⟨OJ,OK⟩=>some ⟨OJ,OK⟩) λK2=>(bif x7 then(some (vV 18446744073709551616 0 x5)).bind λx9=>K2 x9 else K2 x5)
noncomputable def l9(x0:List Int)(x1:List Int):Option (Int):=(some (x0.length:Int)).bind λx7=>(some (x1.length:Int)).bind λx9=>(some (max (x7:Int) x9)).bind λdG=>(some (IntKind.i64.wrap (dG-1))).bind λff=>(b9 (λ(iA:Int)=>(show Option ((Int)⊕((Unit)⊕(Int)))from(some (decide ((0:Int)<=iA))).bind λeY=>(bif eY then(fV x0 iA).bind λeE=>(fV x1 iA).bind λgh=>(some (decide ((eE:Int)<gh))).bind λiK=>(bif iK then some (.inr (.inr (-1)))else(fV x0 iA).bind λke=>(fV x1 iA).bind λlp=>(some (decide ((lp:Int)<ke))).bind λiM=>(bif iM then some (.inr (.inr 1))else(some (IntKind.i64.wrap (iA-1))).bind λdN=>some (.inl dN)))else some (.inr (.inl ()))))) ff).bind λe6=>match e6 with|.inr v6=>some v6|.inl _=>some 0
noncomputable def kH(x0:List Int)(x1:List Int):Option (List Int):=(b9 (λ(nB:Int×Int×(List Int))=>match nB with|⟨G3,RH,I9⟩=>(show Option ((Int×Int×(List Int))⊕((List Int)))from cJ (λ(RI:Bool)=>(bif RI then(fV x0 RH).bind λir=>(fV x1 RH).bind λuM=>(some (IntKind.i64.wrap (ir+uM))).bind λnu=>(some (IntKind.i64.wrap (nu+G3))).bind λow=>(some (Int.tmod ow 65536)).bind λnF=>(mQ 8 I9 [nF]).bind λuL=>(some (IntKind.i64.wrap (Int.tdiv ow 65536))).bind λlj=>(some (IntKind.i64.wrap (RH+1))).bind λgV=>some (.inl (lj,gV,uL))else some (.inr I9))) λK22=>(some (x0.length:Int)).bind λff=>(some (decide ((RH:Int)<ff))).bind λc8=>(bif c8 then some true else(some (x1.length:Int)).bind λeX=>(some (decide ((RH:Int)<eX))).bind λdR=>some dR).bind λRA=>(bif RA then some true else(some (decide ((0:Int)<G3))).bind λgh=>some gh).bind λagj=>K22 agj)) (0,0,[])).bind λzP=>(dY zP).bind λpD=>some pD
noncomputable def jB(x0:List Int)(x1:List Int):Option (List Int):=(b9 (λ(s8:Int×Int×(List Int))=>match s8 with|⟨Ox,UI,ye⟩=>(show Option ((Int×Int×(List Int))⊕((List Int)))from(some (x0.length:Int)).bind λff=>(some (decide ((UI:Int)<ff))).bind λc8=>(bif c8 then(fV x0 UI).bind λdR=>(fV x1 UI).bind λgK=>(some (IntKind.i64.wrap (dR-gK))).bind λgh=>(some (IntKind.i64.wrap (gh-Ox))).bind λgU=>(some (decide ((gU:Int)<0))).bind λke=>cJ (λ(QC:Int×Int)=>match QC with|⟨agk,aaL⟩=>(mQ 8 ye [aaL]).bind λnu=>(some (IntKind.i64.wrap (UI+1))).bind λdV=>some (.inl (agk,dV,nu))) λUG=>(bif ke then(some (IntKind.i64.wrap (gU+65536))).bind λir=>UG (1,ir)else UG (0,gU))else some (.inr ye)))) (0,0,[])).bind λyf=>(dY yf).bind λow=>some ow
noncomputable def gw(x0:List Int):Option (Int):=(some (x0.length:Int)).bind λx6=>(some (IntKind.i64.wrap (x6-1))).bind λx7=>(b9 (λ(s6:Int×Int)=>match s6 with|⟨uc,nY⟩=>(show Option ((Int×Int)⊕(Int))from(some (decide ((0:Int)<=nY))).bind λx9=>(bif x9 then(some (IntKind.i64.wrap (uc*65536))).bind λeY=>(cM x0 nY).bind λeX=>(some (IntKind.i64.wrap (eY+eX))).bind λeE=>(some (IntKind.i64.wrap (nY-1))).bind λff=>some (.inl (eE,ff))else some (.inr uc)))) (0,x7)).bind λyS=>some yS
noncomputable def mI(x0:Int):Option (List Int):=(some (Int.tmod x0 65536)).bind λx4=>(some (IntKind.i64.wrap (Int.tdiv x0 65536))).bind λx6=>(some (Int.tmod x6 65536)).bind λx7=>(some (IntKind.i64.wrap (Int.tdiv x0 65536))).bind λx9=>(some (IntKind.i64.wrap (Int.tdiv x9 65536))).bind λdG=>(dY [x4,x7,dG]).bind λc8=>some c8
noncomputable def gy(x0:List Int)(x1:Int):Option (List Int):=(b9 (λ(uG:Int×Int×(List Int))=>match uG with|⟨KD,Xm,nZ⟩=>(show Option ((Int×Int×(List Int))⊕((List Int)))from cJ (λ(Dg:Bool)=>(bif Dg then(fV x0 Xm).bind λgh=>(some (IntKind.i64.wrap (gh*x1))).bind λgU=>(some (IntKind.i64.wrap (gU+KD))).bind λke=>(some (Int.tmod ke 65536)).bind λlp=>(mQ 8 nZ [lp]).bind λuM=>(some (IntKind.i64.wrap (Int.tdiv ke 65536))).bind λjY=>(some (IntKind.i64.wrap (Xm+1))).bind λeE=>some (.inl (jY,eE,uM))else some (.inr nZ))) λGK=>(some (x0.length:Int)).bind λff=>(some (decide ((Xm:Int)<ff))).bind λc8=>(bif c8 then some true else(some (decide ((0:Int)<KD))).bind λdN=>some dN).bind λJa=>GK Ja)) (0,0,[])).bind λjT=>(dY jT).bind λyy=>some yy
noncomputable def uh(x0:List Int)(x1:List Int):Option (List Int):=(some (x0.length:Int)).bind λx9=>(some (x1.length:Int)).bind λff=>(some (IntKind.i64.wrap (x9+ff))).bind λc8=>(some (decide ((c8:Int)<=3))).bind λeY=>(bif eY then(gw x0).bind λdN=>(gw x1).bind λdR=>(some (IntKind.i64.wrap (dN*dR))).bind λeE=>(mI eE).bind λjb=>some jb else(some (x0.length:Int)).bind λgh=>(some (IntKind.i64.wrap (gh-1))).bind λiK=>(b9 (λ(nB:(List Int)×Int)=>match nB with|⟨sM,G3⟩=>(show Option (((List Int)×Int)⊕((List Int)))from(some (decide ((0:Int)<=G3))).bind λgV=>(bif gV then(mQ 8 [0] sM).bind λiM=>(b9 (λ(yo:(List Int)×Int)=>match yo with|⟨Jb,n7⟩=>(show Option (((List Int)×Int)⊕((List Int)))from(cM x0 G3).bind λow=>(some (decide ((n7:Int)<ow))).bind λpC=>(bif pC then(cM x0 G3).bind λpD=>(some (IntKind.i64.wrap (pD-n7))).bind λyd=>(some (min (1024:Int) yd)).bind λyI=>(gy x1 yI).bind λxl=>(kH Jb xl).bind λuN=>(some (IntKind.i64.wrap (n7+1024))).bind λpE=>some (.inl (uN,pE))else some (.inr Jb)))) (iM,0)).bind λEj=>(some (IntKind.i64.wrap (G3-1))).bind λji=>some (.inl (Ej,ji))else some (.inr sM)))) ([],iK)).bind λyV=>(dY yV).bind λAu=>some Au)
noncomputable def qp(x0:List Int)(x1:List Int):Option ((List Int)×(List Int)):=cJ (λ(Xn:Bool)=>(bif Xn then(gw x0).bind λgU=>(gw x1).bind λke=>(At gU ke).bind λji=>(mI ji).bind λir=>(gw x0).bind λiM=>(gw x1).bind λnu=>(Kk iM nu).bind λjY=>(mI jY).bind λow=>some (ir,ow)else(some (x0.length:Int)).bind λpC=>(J9 8 pC (0:Int)).bind λnF=>(some (x1.length:Int)).bind λuL=>(some (decide ((uL:Int)=1))).bind λyg=>(bif yg then(some (x0.length:Int)).bind λyH=>(some (IntKind.i64.wrap (yH-1))).bind λpD=>(b9 (λ(Td:Int×Int×(List Int))=>match Td with|⟨Tm,Px,Jc⟩=>(show Option ((Int×Int×(List Int))⊕(Int×(List Int)))from(some (decide ((0:Int)<=Px))).bind λsj=>(bif sj then(some (IntKind.i64.wrap (Tm*65536))).bind λuN=>(cM x0 Px).bind λBS=>(some (IntKind.i64.wrap (uN+BS))).bind λVm=>(cM x1 0).bind λQA=>(At Vm QA).bind λQz=>(cM x1 0).bind λx63=>(Kk Vm x63).bind λSY=>(qg Jc Px).bind λMv=>(stM Jc Mv Qz).bind λZJ=>(some (IntKind.i64.wrap (Px-1))).bind λyI=>some (.inl (SY,yI,ZJ))else some (.inr (Tm,Jc))))) (0,pD,nF)).bind λe18=>match e18 with|⟨Xo,RJ⟩=>(dY RJ).bind λQ2=>(dY [Xo]).bind λVl=>some (Q2,Vl)else(some (x0.length:Int)).bind λx73=>(some (IntKind.i64.wrap (x73-1))).bind λx74=>(b9 (λ(s44:(List Int)×Int×(List Int))=>match s44 with|⟨Py,zQ,zR⟩=>(show Option (((List Int)×Int×(List Int))⊕((List Int)×(List Int)))from(some (decide ((0:Int)<=zQ))).bind λx76=>(bif x76 then(cM x0 zQ).bind λx81=>(mQ 8 [x81] Py).bind λx85=>(dY x85).bind λQ5=>(some (Q5.length:Int)).bind λx88=>(some (x1.length:Int)).bind λVi=>(some (decide ((x88:Int)<Vi))).bind λx91=>cJ (λ(Xp:Int)=>(b9 (λ(s54:Int×Int)=>match s54 with|⟨rC,wS⟩=>(show Option ((Int×Int)⊕(Int))from(some (IntKind.i64.wrap (wS-rC))).bind λx94=>(some (decide ((1:Int)<x94))).bind λx95=>(bif x95 then(some (IntKind.i64.wrap (rC+wS))).bind λZK=>(some (IntKind.i64.wrap (Int.tdiv ZK 2))).bind λx99=>(gy x1 x99).bind λDS=>(l9 DS Q5).bind λKq=>(some (decide ((Kq:Int)<=0))).bind λKr=>cJ (λ(j56:Int×Int)=>match j56 with|⟨RK,RL⟩=>some (.inl (RK,RL))) λK56=>(bif Kr then K56 (x99,wS)else K56 (rC,x99))else some (.inr rC)))) (0,Xp)).bind λBt=>(gy x1 Bt).bind λIu=>(jB Q5 Iu).bind λXq=>(qg zR zQ).bind λaaN=>(stM zR aaN Bt).bind λl58=>(some (IntKind.i64.wrap (zQ-1))).bind λx78=>some (.inl (Xq,x78,l58))) λK46=>(bif x91 then K46 1 else K46 65536)else some (.inr (Py,zR))))) ([],x74,nF)).bind λe44=>match e44 with|⟨adm,RM⟩=>(dY RM).bind λakf=>some (akf,adm)))) λK3=>(some (x0.length:Int)).bind λdN=>(some (decide ((dN:Int)<=3))).bind λeX=>(bif eX then(some (x1.length:Int)).bind λjb=>(some (decide ((jb:Int)<=3))).bind λgK=>some gK else some false).bind λXr=>K3 Xr
noncomputable def fO(x0:Zr):Option (Int):=match x0 with|⟨bn,bp⟩=>(cQ bp).bind λx5=>(some (x5.length:Int)).bind λx6=>(some (decide ((x6:Int)=0))).bind λx7=>(bif x7 then some 0 else(bif bn then some (-1)else some 1))
noncomputable def uj(x0:Zr)(x1:Zr):Option (Int):=match x0 with|⟨bn,bp⟩=>match x1 with|⟨ct,cj⟩=>(fO ⟨bn,bp⟩).bind λx7=>(fO ⟨ct,cj⟩).bind λx9=>(some (decide ((x7:Int)≠x9))).bind λdG=>(bif dG then(fO ⟨bn,bp⟩).bind λc8=>(fO ⟨ct,cj⟩).bind λdV=>(some (decide ((c8:Int)<dV))).bind λdN=>(bif dN then some (-1)else some 1)else(cQ bp).bind λeE=>(cQ cj).bind λgh=>(l9 eE gh).bind λiK=>(fO ⟨bn,bp⟩).bind λgV=>(some (decide ((gV:Int)<0))).bind λke=>(bif ke then(some (IntKind.i64.wrap (0-iK))).bind λir=>some ir else some iK))
noncomputable def qt(x0:Zr):Option (Zr):=match x0 with|⟨bn,bp⟩=>(some (!bn)).bind λx5=>(cQ bp).bind λx8=>(dZ x5 x8).bind λ⟨Pz,PA⟩=>some ⟨Pz,PA⟩
noncomputable def uo(x0:Zr):Option (Zr):=match x0 with|⟨bn,bp⟩=>(cQ bp).bind λx5=>(dZ false x5).bind λ⟨Jd,Je⟩=>some ⟨Jd,Je⟩
noncomputable def ur(x0:Zr)(x1:Zr):Option (Zr):=match x0 with|⟨bn,bp⟩=>match x1 with|⟨ct,cj⟩=>(cQ bp).bind λx9=>(cQ cj).bind λc8=>(some (bn==ct)).bind λdR=>(bif dR then(kH x9 c8).bind λiK=>(dZ bn iK).bind λ⟨Ap,Aq⟩=>some ⟨Ap,Aq⟩else(l9 x9 c8).bind λji=>(some (decide ((0:Int)<=ji))).bind λir=>(bif ir then(jB x9 c8).bind λjY=>(dZ bn jY).bind λ⟨Cv,Cw⟩=>some ⟨Cv,Cw⟩else(jB c8 x9).bind λuL=>(dZ ct uL).bind λ⟨Ee,Ef⟩=>some ⟨Ee,Ef⟩))
noncomputable def kI(x0:Zr)(x1:Zr):Option (Zr):=match x0 with|⟨bn,bp⟩=>match x1 with|⟨ct,cj⟩=>(some (!(bn==ct))).bind λx9=>(cQ bp).bind λc8=>(cQ cj).bind λdN=>(uh c8 dN).bind λeX=>(dZ x9 eX).bind λ⟨qY,qZ⟩=>some ⟨qY,qZ⟩
noncomputable def qu(x0:Zr)(x1:Zr):Option (Zr×Zr×Int):=match x0 with|⟨bn,bp⟩=>match x1 with|⟨ct,cj⟩=>(cQ bp).bind λeY=>(cQ cj).bind λeX=>(some (eX.length:Int)).bind λeE=>(some (decide ((eE:Int)=0))).bind λjb=>(bif jb then some (⟨false,[]⟩,⟨false,[]⟩,7)else(qp eY eX).bind λ⟨Iw,My⟩=>cJ (λ(j3:Bool×Bool)=>match j3 with|⟨Xs,C0⟩=>cJ (λ(j5:(List Int)×(List Int))=>match j5 with|⟨Wj,OF⟩=>(some (!(C0==ct))).bind λyd=>(dZ yd Wj).bind λ⟨Gc,Ge⟩=>(dZ false OF).bind λ⟨OG,OH⟩=>some (⟨Gc,Ge⟩,⟨OG,OH⟩,0)) λK5=>(bif Xs then(kH Iw [1]).bind λpE=>(jB eX My).bind λlj=>K5 (pE,lj)else K5 (Iw,My))) λK3=>(bif bn then(some (My.length:Int)).bind λjY=>(some (decide ((0:Int)<jY))).bind λow=>some ow else some false).bind λadn=>K3 (adn,bn))
noncomputable def uu(x0:Zr)(x1:Zr):Option (Zr):=match x0 with|⟨bn,bp⟩=>match x1 with|⟨ct,cj⟩=>(cQ bp).bind λff=>(cQ cj).bind λdV=>(b9 (λ(s6:(List Int)×(List Int))=>match s6 with|⟨iA,l7⟩=>(show Option (((List Int)×(List Int))⊕((List Int)))from(some (l7.length:Int)).bind λeX=>(some (decide ((0:Int)<eX))).bind λdR=>(bif dR then(qp iA l7).bind λ⟨ao2,agn⟩=>some (.inl (l7,agn))else some (.inr iA)))) (ff,dV)).bind λwj=>(dZ false wj).bind λ⟨SZ,OA⟩=>some ⟨SZ,OA⟩
end
section
open Go.Fw Go.Fw.Z Go.RowKit
theorem fL{x0:List Int}{r:List Int}(h:dY x0=some r):Pure ah 176 [slc 1 (List.map bH x0)] (slc 1 (List.map bH r)):=by
 refine bj Tryz.func176 Y (af Y) (λc9 M vs hvs=>?_);unfold dY at h;refine sr<|aI Y (aC (n:=1) (e:=bH))<|dn<|sr<|mv Y<|lE h λx5 h5 h=>ln Y h5<|ag Y<|dn<|qq<|bE h λFk yh oW=>?_;refine bJ (λ(RG:Int)=>AS.cu 21 [(0,.sv (slc 1 (List.map bH x0))),(3,ai RG)] [] []) (λRG=>RG=Fk) ?_ (λRG yj=>?_);refine bf ?_;refine bK yh (λuG=>AS.cu 21 [(0,.sv (slc 1 (List.map bH x0))),(3,ai uG)] [] []) (wR []) (λEi ZD ZE h yl uO=>?_)
 try dsimp only
 refine qq<|qq ?_;refine bL h (λGO=>AS.cu 21 [(0,.sv (slc 1 (List.map bH x0))),(3,ai Ei),(15,aj GO)] [] []) (λh=>?_) (λRF h=>?_);refine aX<|mv Y<|lE h λx7 h7 h=>gt _ Y Y h7<|mv Y<|bE h λXh dH h=>?_;cases x7;obtain rfl:=O (F dH);exact ww<|ww<|ww<|ww<|ww<|ww<|pF Y<|dn<|⟨false,h,wR []⟩;refine gm Y<|gm Y<|lE (V dH) λff kz dH=>RT.sub (.some Y Y) _ Y Y T kz<|bE dH λc8 fI dH=>RT.Z7 (.some Y Y) Y Y T fI<|gr Y Y<|lE dH λdV jy dH=>ge_ _ Y Y (xh (p:=c8) (q:=0) jy) ?_;obtain rfl:=O dH;exact pT Y<|dn<|⟨dV,h,wR []⟩
 try dsimp only
 refine aW.n ?_;cases RF;refine cF<|bP<|aW.x<|aW.x<|bF.x<|aW.n ?_;obtain rfl:=O (F h);exact⟨Ei,uO _ Y,wR []⟩;refine cT<|bu<|aW.n<|bf<|aX<|mv Y<|lE (V h) λdR jK h=>sb _ Y Y jK<|ag Y<|RT.done<|bF.n ?_;obtain rfl:=O h;exact aW.n ⟨dR,yl _ Y,wR []⟩;subst yj
 try dsimp only
 refine aW.n<|sr<|mv Y<|mv Y<|bE oW λgK oP oW=>RT.Il .none 0 RG Y Y ⟨_,Y⟩ T oP<|ag Y<|dn<|aY ?_;obtain rfl:=O oW;exact R1 Y
theorem dA{x0:List Nat}{r:List Int}(h:cQ x0=some r):Pure ah 146 [slc 1 (List.map bh x0)] (slc 1 (List.map bH r)):=by
 refine bj Tryz.func146 Y (af Y) (λc9 M vs hvs=>?_);unfold cQ at h;refine sr<|aI Y (aC (n:=1) (e:=bH))<|dn<|sr<|ag Y<|dn<|bU (cY 3 304 3 1 Y Y T)<|qq<|sr<|ag Y<|dn<|bE h λe6 uP je=>?_;refine bJ (λ(dr:(List Int))=>AS.cu 28 [(3,.row 306)] [] [(306,TR 3 1 bH dr)]) (λdr=>dr=e6) ?_ (λdr uQ=>?_);refine bf ?_;refine bK uP (λs6=>AS.cu 28 [(0,.sv (slc 1 (List.map bh x0))),(3,.row 306),(4,ai s6.1)] [] [(306,TR 3 1 bH s6.2)]) (cz (λi=>bif Nat.beq i 306 then 304 else i) Y Y Y Y Y ⟨.sv au,.row Y,.sv au,aq⟩ trivial ⟨⟨_,Y,cg.refl _⟩,aq⟩ (λi hi=>by rw[bV (show i≠306 by omega)];rfl)) (λs6 y6 G6 h uR pG=>?_);obtain⟨nY,gB⟩:=s6
 try dsimp only
 refine qq<|sr<|mv Y<|mv Y<|lE h λx7 h7 h=>ln Y h7<|lE h λx8 h8 h=>ls _ Y Y h8<|dn ?_;cases x8;refine cF<|bP<|aW.x<|aW.x<|bF.x<|aW.n ?_;obtain rfl:=O (F h);exact⟨gB,pG _ Y,wR []⟩;refine cT<|bu<|aW.n<|qq<|bf<|aZ mixed<|mo (s:=.row _) Y<|mv Y<|mv Y<|bE (V h) λdV jy h=>ix Y Y jy<|lr Y Y<|lE h λeX kf h=>RT.rem .none _ Y Y T (by decide) (acj (a:=dV) (b:=65536) kf)<|lE h λdR jK h=>cv _ Y jK<|mv Y<|mv Y<|bE h λgK oP h=>ix Y Y oP<|lr Y Y<|lE h λiK oA h=>RT.quo .none _ Y Y T (by decide) (UK.ai0 (a:=gK) (b:=65536) oA) ?_;refine lE h λgU oQ h=>cv _ Y oQ<|bl (l:=[dR,gU]) (e:=bH) (.one Y (.one Y (.nil))) Y Y Y Y Y Y<|bE h λke nO h=>aR (k:=[dR,gU]) (e:=bH) Y Y Y nO<|an (s:=.row _) Y ?_;refine RT.done ⟨by kernel_rfl,?_⟩;refine bF.n<|aW.n<|aX<|mv Y<|lE h λdG fY h=>ad _ Y Y fY<|ag Y<|RT.done ?_;obtain rfl:=O h;exact aW.n ⟨(dG,ke),uR _ Y,cz (λi=>bif Nat.beq i 306 then 25 else i) Y Y Y Y Y ⟨.sv au,.row Y,.sv au,aq⟩ trivial ⟨⟨_,Y,cg.refl _⟩,aq⟩ (λi hi=>by rw[bV (show i≠306 by omega)];rfl)⟩;subst uQ
 try dsimp only
 refine aW.n<|qq<|bU (cP (i:=306) (E1:=3) (n:=1) (e:=bH) (l:=dr) Y)<|aX<|mv Y<|bE je λir oV je=>cl (fL oV) ⟨Y,aq⟩<|ag Y<|dn<|aY ?_;obtain rfl:=O je;exact R1 Y
theorem iG{x0:List Int}{x1:Int}{r:Int}(h:fV x0 x1=some r):Pure ah 179 [slc 1 (List.map bH x0),ay x1] (ay r):=by
 refine bj Tryz.func179 Y (af Y) (λc9 M vs hvs=>?_);unfold fV at h;refine sr<|ag Y<|dn<|qq<|sr<|mv Y<|mv Y<|lE h λx7 h7 h=>ln Y h7<|lE h λx8 h8 h=>ls _ Y Y h8<|dn ?_;cases x8;refine fs<|sr<|ag Y<|dn<|aY ?_;obtain rfl:=O (F h);exact R1 Y;refine cT<|sr<|mv Y<|mv Y<|bE (V h) λff kz h=>ix Y Y kz<|lr Y Y<|ag Y<|dn<|aY<|aW.r ?_;obtain rfl:=O h;exact R1 Y
theorem jC{x0:Bool}{x1:List Int}{r:Zr}(h:dZ x0 x1=some r):Pure ah 152 [aA x0,slc 1 (List.map bH x1)] (.agg (eZ r)):=by
 refine bj Tryz.func152 Y (af Y) (λc9 M vs hvs=>?_);unfold dZ at h;refine sr<|al (cs:=[aA false,ax]) (by exact⟨au,aC,aq⟩) Y<|dn<|sr<|mv Y<|bE h λx8 h8 h=>cl (fL h8) ⟨Y,aq⟩<|ag Y<|dn<|sr<|ag Y<|dn<|bU (cY 5 304 130 1 Y Y T)<|qq<|sr<|ag Y<|dn<|bE h λe6 uP je=>?_;refine bJ (λ(dr:(List Nat))=>AS.cu 37 [(0,aj x0),(4,.ptr 4 0),(5,.row 306)] [(4,⟨41,[aj false,.sv ax]⟩)] [(306,TR 130 1 bh dr)]) (λdr=>dr=e6) ?_ (λdr uQ=>?_);refine bf ?_;refine bK uP (λs6=>AS.cu 37 [(0,aj x0),(1,.sv (slc 1 (List.map bH x8))),(4,.ptr 4 0),(5,.row 306),(6,ai s6.1)] [(4,⟨41,[aj false,.sv ax]⟩)] [(306,TR 130 1 bh s6.2)]) (cz (λi=>bif Nat.beq i 306 then 304 else i) Y Y Y Y Y ⟨.sv au,.sv au,.ptr,.row Y,.sv au,aq⟩ ⟨⟨_,Y,⟨.sv au,.sv au,aq⟩⟩,aq⟩ ⟨⟨_,Y,cg.refl _⟩,aq⟩ (λi hi=>by rw[bV (show i≠306 by omega)];rfl)) (λs6 y6 G6 h uR pG=>?_);obtain⟨l7,gB⟩:=s6
 try dsimp only
 refine qq<|sr<|mv Y<|mv Y<|lE h λff kz h=>ln Y kz<|lE h λc8 fI h=>ls _ Y Y fI<|dn ?_;cases c8;refine cF<|bP<|aW.x<|aW.x<|bF.x<|aW.n ?_;obtain rfl:=O (F h);exact⟨gB,pG _ Y,wR []⟩;refine cT<|bu<|aW.n<|qq<|bf<|aX<|mo (s:=.row _) Y<|mv Y<|mv Y<|bE (V h) λeE jd h=>cl (iG jd) ⟨Y,Y,aq⟩<|lE h λjb lZ h=>cv _ Y (UK.conv lZ)<|mv Y<|mv Y<|lE h λiK oA h=>ad _ Y Y oA<|bE h λgU oQ h=>cl (iG oQ) ⟨Y,Y,aq⟩<|lE h λgV nG h=>cv _ Y (UK.conv nG)<|lE h λke nO h=>RT.mul .none _ Y Y T (UK.mul (a:=gV) (b:=65536) nO) ?_;refine lE h λji qS h=>ad _ Y Y (UK.add (a:=jb) (b:=ke) qS)<|bl (l:=[ji]) (e:=bh) (.one Y (.nil)) Y Y Y Y Y Y<|bE h λlp vA h=>aR (k:=[ji]) (e:=bh) Y Y Y vA<|an (s:=.row _) Y<|RT.done<|bF.n<|aW.n<|aX<|mv Y<|lE h λdV jy h=>ad _ Y Y jy<|ag Y<|RT.done ?_;obtain rfl:=O h;exact aW.n ⟨(dV,lp),uR _ Y,cz (λi=>bif Nat.beq i 306 then 28 else i) Y Y Y Y Y ⟨.sv au,.sv au,.ptr,.row Y,.sv au,aq⟩ ⟨⟨_,Y,⟨.sv au,.sv au,aq⟩⟩,aq⟩ ⟨⟨_,Y,cg.refl _⟩,aq⟩ (λi hi=>by rw[bV (show i≠306 by omega)];rfl)⟩;subst uQ
 try dsimp only
 refine aW.n<|qq ?_;refine bL je (λj9=>AS.cu 37 [(4,.ptr 4 0)] [(4,⟨41,[aj j9,.sv (slc 1 (List.map bh dr))]⟩)] []) (λje=>?_) (λXi je=>?_);refine bU (cP (i:=306) (E1:=130) (n:=1) (e:=bh) (l:=dr) Y)<|aX<|mv Y<|mv Y<|bE je λXj Dh je=>?_;cases x0;obtain rfl:=O (F Dh);exact ww<|ww<|ww<|pF Y<|mv Y<|bI (cs:=[_,_]) (cs':=[aA false,slc 1 (List.map bh dr)]) (.one Y (.one Y (.nil))) ⟨au,au,aq⟩<|so Y Y Y<|dn<|⟨false,je,wR []⟩;refine gm Y<|lE (V Dh) λjY qT Dh=>gn Y qT<|lE Dh λow xj Dh=>gg _ Y Y xj ?_;obtain rfl:=O Dh;exact pT Y<|mv Y<|bI (cs:=[_,_]) (cs':=[aA ow,slc 1 (List.map bh dr)]) (.one Y (.one Y (.nil))) ⟨au,au,aq⟩<|so Y Y Y<|dn<|⟨ow,je,wR []⟩
 try dsimp only
 refine aW.n<|aY ?_;obtain rfl:=O je;exact RZ (.agg Y Y (.k2 Y Y) Y (.nil))
theorem Bu{x0:Zr}{r:Zr}(h:kY x0=some r):Pure ah 113 [.agg (eZ x0)] (.agg (eZ r)):=by
 obtain⟨bn,bp⟩:=x0;refine bj Tryz.func113 Y (af Y) (λc9 M vs hvs=>?_);unfold kY at h;refine sr<|bx Y<|al (cs:=[aA false,ax]) (by exact⟨au,aC,aq⟩) Y<|dn<|qq<|aZ mixed<|fa Y Y<|lV Y Y Y<|fa Y Y<|lV Y Y Y<|bE h λx7 h7 h=>cl (dA h7) ⟨Y,aq⟩ ?_;obtain⟨⟨qJ,qK⟩,h8,h⟩:=bS h;refine cl (jC h8) ⟨Y,Y,aq⟩<|so Y Y Y ?_;refine RT.done ⟨by kernel_rfl,?_⟩;refine aW.n<|aY ?_;obtain rfl:=O h;exact RZ (.agg Y Y (.k2 Y Y) Y (.nil))
theorem CD{x0:Zr}{x1:Zr}{r:Bool}(h:oE x0 x1=some r):Pure ah 122 [.agg (eZ x0),.agg (eZ x1)] (aA r):=by
 obtain⟨bn,bp⟩:=x0;obtain⟨ct,cj⟩:=x1;refine bj Tryz.func122 Y (af Y) (λc9 M vs hvs=>?_);unfold oE at h;refine sr<|bx Y<|bx Y<|ag Y<|dn<|qq<|qq ?_;refine bL h (λj3=>AS.cu 38 [(2,.ptr 2 0),(3,.ptr 3 0),(19,aj j3)] [(3,⟨41,[aj ct,.sv (slc 1 (List.map bh cj))]⟩),(2,⟨41,[aj bn,.sv (slc 1 (List.map bh bp))]⟩)] []) (λh=>?_) (λXk h=>?_);refine aX<|fa Y Y<|lV Y Y Y<|fa Y Y<|lV Y Y Y<|lE h λdG fY h=>RT.Ud .none _ Y Y T fY<|mv Y<|bE h λXl Dh h=>?_;cases dG;refine RT.fieldAddr (.some Y Y) Y T Y<|RT.zo (.some Y Y) Y Y Y T<|lE (F Dh) λdV jy Dh=>gn Y jy<|RT.fieldAddr (.some Y Y) Y T Y<|RT.zo (.some Y Y) Y Y Y T<|lE Dh λdR jK Dh=>gn Y jK<|lE Dh λeE jd Dh=>gq _ Y Y (Lf (p:=dV) (q:=dR) jd) ?_;obtain rfl:=O Dh;exact pF Y<|dn<|⟨eE,h,wR []⟩;obtain rfl:=O (V Dh);exact ww<|ww<|ww<|ww<|ww<|ww<|ww<|pT Y<|dn<|⟨true,h,wR []⟩
 try dsimp only
 refine aW.n ?_;cases Xk;refine fs<|qq<|sr<|ag Y<|dn<|bE (F h) λe9 hl9 ho9=>?_;refine bJ (λ(xe9:Unit)=>AS.cu 38 [] [] []) (λxe9=>.inl xe9=e9) ?_ (λxe9 hx9=>?_);refine bf ?_;refine bK hl9 (λs9=>AS.cu 38 [(2,.ptr 2 0),(3,.ptr 3 0),(5,ai s9)] [(3,⟨41,[aj ct,.sv (slc 1 (List.map bh cj))]⟩),(2,⟨41,[aj bn,.sv (slc 1 (List.map bh bp))]⟩)] []) (wR []) (λGM y9 G9 h hG9 hE9=>?_)
 try dsimp only
 refine qq<|sr<|mv Y<|fa Y Y<|lV Y Y Y<|lE h λgU oQ h=>ln Y oQ<|lE h λgV nG h=>ls _ Y Y nG<|dn ?_;cases gV;refine cF<|bP<|aW.x<|aW.x<|bF.x<|aW.n ?_;obtain rfl:=O (F h);exact⟨(),hE9 _ Y,wR []⟩;refine cT<|bu<|aW.n<|qq<|bf<|qq<|aZ mixed<|fa Y Y<|lV Y Y Y<|mv Y<|bE (V h) λuM zH h=>ix Y Y zH<|lr Y Y<|fa Y Y<|lV Y Y Y<|mv Y<|bE h λpC yL h=>ix Y Y yL<|lr Y Y<|lE h λpE AY h=>ne _ Y Y (neN (p:=uM) (q:=pC) AY) ?_;refine RT.done ⟨by kernel_rfl,?_⟩;refine aW.n ?_;cases pE;refine cF<|bu<|bF.n<|aW.n<|aX<|mv Y<|lE (F h) λji qS h=>ad _ Y Y qS<|ag Y<|RT.done ?_;obtain rfl:=O h;exact aW.n ⟨ji,hG9 _ Y,wR []⟩;refine cT<|sr<|ag Y<|dn<|aY<|bF.r<|aW.r ?_;obtain rfl:=O (V h);have he9:=hE9 _ Y;subst he9;refine aW.r<|bF.r<|aW.r<|aW.r ?_;obtain rfl:=O ho9;exact R1 Y;subst hx9
 try dsimp only
 refine aW.n<|sr<|ag Y<|dn<|aY ?_;obtain rfl:=O ho9;exact R1 Y;refine cT<|sr<|ag Y<|dn<|aY<|aW.r ?_;obtain rfl:=O (V h);exact R1 Y
theorem CE{x0:Int}{r:Zr}(h:oF x0=some r):Pure ah 63 [ay x0] (.agg (eZ r)):=by
 refine bj Tryz.func63 Y (af Y) (λc9 M vs hvs=>?_);unfold oF at h;refine sr<|al (cs:=[aA false,ax]) (by exact⟨au,aC,aq⟩) Y<|dn<|sr<|mv Y<|lE h λx5 h5 h=>cv _ Y (UK.conv h5)<|ag Y<|dn<|qq<|sr<|mv Y<|lE h λx7 h7 h=>ls _ Y Y h7<|dn ?_;refine bL h (λj2=>AS.cu 21 [(0,ai x0),(2,.ptr 2 0),(3,.sv (.v (.int .u64 ((j2:Nat):Int))))] [(2,⟨41,[aj false,.sv ax]⟩)] []) (λh=>?_) (λOB h=>?_);cases x7;exact fs<|⟨x5,(F h),wR []⟩;exact cT<|aX<|mv Y<|lE (V h) λx9 h9 h=>RT.neg .none _ Y T (UK.neg h9)<|ag Y<|dn<|⟨x9,h,wR []⟩
 try dsimp only
 refine aW.n<|sr<|mv Y<|lE h λff kz h=>ls _ Y Y kz<|mv Y<|lE h λeY iX h=>RT.rem .none _ Y Y T (by decide) (acj (a:=OB) (b:=4294967296) iX)<|lE h λdV jy h=>cv _ Y (UK.nat jy)<|mv Y<|lE h λeX kf h=>RT.quo .none _ Y Y T (by decide) (UK.ai0 (a:=OB) (b:=4294967296) kf)<|lE h λdR jK h=>cv _ Y (UK.nat jK)<|bl (l:=[dV,dR]) (e:=bh) (.one Y (.one Y (.nil))) Y Y Y Y Y Y<|bI (cs:=[_,_]) (cs':=[aA ff,slc 1 (List.map bh [dV,dR])]) (.one Y (.one Y (.nil))) ⟨au,au,aq⟩ ?_;obtain⟨⟨OJ,OK⟩,oP,h⟩:=bS h;refine cl (Bu oP) ⟨Y,aq⟩<|so Y Y Y<|dn<|aY ?_;obtain rfl:=O h;exact RZ (.agg Y Y (.k2 Y Y) Y (.nil))
end
end Go.Proofs.YtningmnklfpfjaaGreat
