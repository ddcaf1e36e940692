/- A part of the proof: the framework, the plain functions, the followed functions, the plain laws. -/
import Derived.Test.YtningmnklfpfjaaGreatPTN2
set_option linter.unusedVariables false
set_option linter.unusedSimpArgs false
namespace Go.Proofs.YtningmnklfpfjaaGreat
section
open Go.Fw Go.Fw.Z Go.RowKit
abbrev WM:List (Value×Value):=[(.int .u8 43,.agg #[.func (.func 187) #[] #[]]),(.int .u8 45,.agg #[.func (.func 189) #[] #[]]),(.int .u8 42,.agg #[.func (.func 191) #[] #[]]),(.int .u8 47,.agg #[.func (.func 192) #[] #[]])]
theorem mD:Pure af 167 [] (V9 WM):=by
 refine bj Tryz.func167 Y (ae Y) (λc9 M vs hvs=>?_)
 refine cm<|aX<|RT.Mj .none Y T<|RT.done<|aW.n<|cm<|aaf (ae Y) Y Y Y (λS' h0=>?_)
 exact aY (R1 h0)
theorem A8{x0:Zr}{x1:Zr}{x2:Zr}{x3:Zr}(N:Nat){r:Zr×Zr}(h:lq x0 x1 x2 x3=some r):dB af 187 N [.agg (eZ x0),.agg (eZ x1),.agg (eZ x2),.agg (eZ x3)] (.Cp [.agg ((fZ N) r.1),.agg ((fZ N) r.2)]):=by
 obtain⟨bn,bp⟩:=x0
 obtain⟨ct,cj⟩:=x1
 obtain⟨wh,wj⟩:=x2
 obtain⟨qW,qX⟩:=x3
 refine bT Tryz.func187 Y (ae Y) (λc9 M vs hN hvs=>?_)
 unfold lq at h
 refine sr<|bx Y<|bx Y<|bx Y<|bx Y<|al (cs:=[ay false,nw N au]) (by exact⟨aq,bt,ak⟩) Y<|al (cs:=[ay false,nw N au]) (by exact⟨aq,bt,ak⟩) Y<|dn<|qq<|aZ mixed<|ld Y Y (.k2 Y Y)<|ld Y Y (.k2 Y Y) ?_
 obtain⟨⟨jg,iT⟩,fI,h⟩:=bS h
 refine RT.bW .none (gA N fI) hN Y ⟨Y,Y,ak⟩ T<|ld Y Y (.k2 Y Y)<|ld Y Y (.k2 Y Y) ?_
 obtain⟨⟨jQ,jR⟩,gH,h⟩:=bS h
 refine RT.bW .none (gA N gH) hN Y ⟨Y,Y,ak⟩ T ?_
 obtain⟨⟨qh,qi⟩,kf,h⟩:=bS h
 refine RT.bW .none ((MC N kf).w (args':=[_,_]) ⟨(SV.fE (show cg [ay jg,nw N (slc 1 (List.map bh iT))] _ from⟨aq,fe,ak⟩)),(SV.fE (show cg [ay jQ,nw N (slc 1 (List.map bh jR))] _ from⟨aq,fe,ak⟩)),ak⟩) hN Y ⟨Y,Y,ak⟩ T<|ld Y Y (.k2 Y Y)<|ld Y Y (.k2 Y Y) ?_
 obtain⟨⟨lM,lO⟩,lZ,h⟩:=bS h
 refine RT.bW .none (gA N lZ) hN Y ⟨Y,Y,ak⟩ T<|so Y Y Y<|so Y Y Y ?_
 refine RT.done ⟨by kernel_rfl,?_⟩
 refine aW.n<|aY ?_
 obtain rfl:=O h
 exact RZ (.agg Y Y (.k2 Y Y) Y (.agg Y Y (.k2 Y Y) Y (.nil)))
theorem A9{x0:Zr}{x1:Zr}{x2:Zr}{x3:Zr}(N:Nat){r:Zr×Zr}(h:lu x0 x1 x2 x3=some r):dB af 189 N [.agg (eZ x0),.agg (eZ x1),.agg (eZ x2),.agg (eZ x3)] (.Cp [.agg ((fZ N) r.1),.agg ((fZ N) r.2)]):=by
 obtain⟨bn,bp⟩:=x0
 obtain⟨ct,cj⟩:=x1
 obtain⟨wh,wj⟩:=x2
 obtain⟨qW,qX⟩:=x3
 refine bT Tryz.func189 Y (ae Y) (λc9 M vs hN hvs=>?_)
 unfold lu at h
 refine sr<|bx Y<|bx Y<|bx Y<|bx Y<|al (cs:=[ay false,nw N au]) (by exact⟨aq,bt,ak⟩) Y<|al (cs:=[ay false,nw N au]) (by exact⟨aq,bt,ak⟩) Y<|dn<|qq<|aZ mixed<|ld Y Y (.k2 Y Y)<|ld Y Y (.k2 Y Y) ?_
 obtain⟨⟨jg,iT⟩,fI,h⟩:=bS h
 refine RT.bW .none (gA N fI) hN Y ⟨Y,Y,ak⟩ T<|ld Y Y (.k2 Y Y)<|ld Y Y (.k2 Y Y) ?_
 obtain⟨⟨jQ,jR⟩,gH,h⟩:=bS h
 refine RT.bW .none (gA N gH) hN Y ⟨Y,Y,ak⟩ T ?_
 obtain⟨⟨qh,qi⟩,kf,h⟩:=bS h
 refine RT.bW .none ((ME N kf).w (args':=[_,_]) ⟨(SV.fE (show cg [ay jg,nw N (slc 1 (List.map bh iT))] _ from⟨aq,fe,ak⟩)),(SV.fE (show cg [ay jQ,nw N (slc 1 (List.map bh jR))] _ from⟨aq,fe,ak⟩)),ak⟩) hN Y ⟨Y,Y,ak⟩ T<|ld Y Y (.k2 Y Y)<|ld Y Y (.k2 Y Y) ?_
 obtain⟨⟨lM,lO⟩,lZ,h⟩:=bS h
 refine RT.bW .none (gA N lZ) hN Y ⟨Y,Y,ak⟩ T<|so Y Y Y<|so Y Y Y ?_
 refine RT.done ⟨by kernel_rfl,?_⟩
 refine aW.n<|aY ?_
 obtain rfl:=O h
 exact RZ (.agg Y Y (.k2 Y Y) Y (.agg Y Y (.k2 Y Y) Y (.nil)))
theorem Ba{x0:Zr}{x1:Zr}{x2:Zr}{x3:Zr}(N:Nat){r:Zr×Zr}(h:lz x0 x1 x2 x3=some r):dB af 191 N [.agg (eZ x0),.agg (eZ x1),.agg (eZ x2),.agg (eZ x3)] (.Cp [.agg ((fZ N) r.1),.agg ((fZ N) r.2)]):=by
 obtain⟨bn,bp⟩:=x0
 obtain⟨ct,cj⟩:=x1
 obtain⟨wh,wj⟩:=x2
 obtain⟨qW,qX⟩:=x3
 refine bT Tryz.func191 Y (ae Y) (λc9 M vs hN hvs=>?_)
 unfold lz at h
 refine sr<|bx Y<|bx Y<|bx Y<|bx Y<|al (cs:=[ay false,nw N au]) (by exact⟨aq,bt,ak⟩) Y<|al (cs:=[ay false,nw N au]) (by exact⟨aq,bt,ak⟩) Y<|dn<|qq<|aZ mixed<|ld Y Y (.k2 Y Y)<|ld Y Y (.k2 Y Y) ?_
 obtain⟨⟨jg,iT⟩,fI,h⟩:=bS h
 refine RT.bW .none (gA N fI) hN Y ⟨Y,Y,ak⟩ T<|ld Y Y (.k2 Y Y)<|ld Y Y (.k2 Y Y) ?_
 obtain⟨⟨jQ,jR⟩,gH,h⟩:=bS h
 refine RT.bW .none (gA N gH) hN Y ⟨Y,Y,ak⟩ T<|so Y Y Y<|so Y Y Y ?_
 refine RT.done ⟨by kernel_rfl,?_⟩
 refine aW.n<|aY ?_
 obtain rfl:=O h
 exact RZ (.agg Y Y (.k2 Y Y) Y (.agg Y Y (.k2 Y Y) Y (.nil)))
theorem Bb{x0:Zr}{x1:Zr}{x2:Zr}{x3:Zr}(N:Nat){r:Zr×Zr}(h:lB x0 x1 x2 x3=some r):dB af 192 N [.agg (eZ x0),.agg (eZ x1),.agg (eZ x2),.agg (eZ x3)] (.Cp [.agg ((fZ N) r.1),.agg ((fZ N) r.2)]):=by
 obtain⟨bn,bp⟩:=x0
 obtain⟨ct,cj⟩:=x1
 obtain⟨wh,wj⟩:=x2
 obtain⟨qW,qX⟩:=x3
 refine bT Tryz.func192 Y (ae Y) (λc9 M vs hN hvs=>?_)
 unfold lB at h
 refine sr<|bx Y<|bx Y<|bx Y<|bx Y<|al (cs:=[ay false,nw N au]) (by exact⟨aq,bt,ak⟩) Y<|al (cs:=[ay false,nw N au]) (by exact⟨aq,bt,ak⟩) Y<|dn<|qq<|aZ mixed<|ld Y Y (.k2 Y Y)<|ld Y Y (.k2 Y Y) ?_
 obtain⟨⟨jg,iT⟩,fI,h⟩:=bS h
 refine RT.bW .none (gA N fI) hN Y ⟨Y,Y,ak⟩ T<|ld Y Y (.k2 Y Y)<|ld Y Y (.k2 Y Y) ?_
 obtain⟨⟨jQ,jR⟩,gH,h⟩:=bS h
 refine RT.bW .none (gA N gH) hN Y ⟨Y,Y,ak⟩ T<|so Y Y Y<|so Y Y Y ?_
 refine RT.done ⟨by kernel_rfl,?_⟩
 refine aW.n<|aY ?_
 obtain rfl:=O h
 exact RZ (.agg Y Y (.k2 Y Y) Y (.agg Y Y (.k2 Y Y) Y (.nil)))
theorem fJ{x0:Qr}{r:Zr×Zr}(h:dX x0=some r):Pure af 127 [.agg (eQ x0)] (.Cp [.agg (eZ r.1),.agg (eZ r.2)]):=by
 obtain⟨⟨bn,bp⟩,⟨bB,bD⟩⟩:=x0
 refine bj Tryz.func127 Y (ae Y) (λc9 M vs hvs=>?_)
 unfold dX at h
 refine sr<|bx Y<|al (cs:=[ay false,au]) (by exact⟨aq,aB,ak⟩) Y<|al (cs:=[ay false,au]) (by exact⟨aq,aB,ak⟩) Y<|dn<|qq<|sr<|fa Y Y<|ld Y Y (.k2 Y Y)<|bE h λx6 h6 h=>cl (iu h6) ⟨Y,ak⟩<|dn<|bf<|sr<|lE h λx8 h8 h=>eq _ Y Y (xj (p:=x6) (q:=0) h8) ?_
 refine ag Y<|dn ?_
 cases x8
 refine cF<|sr<|lE (F h) λeY iX h=>eq _ Y Y (xj (p:=x6) (q:=(-1)) iX)<|ag Y<|dn ?_
 cases eY
 refine cF<|bu<|bF.n<|aW.n<|qq<|aZ mixed<|fa Y Y<|ld Y Y (.k2 Y Y)<|fa Y Y<|ld Y Y (.k2 Y Y)<|so Y Y Y<|so Y Y Y ?_
 refine RT.done ⟨by kernel_rfl,?_⟩
 refine aW.n<|aY ?_
 obtain rfl:=O (F h)
 exact RZ (.agg Y Y (.k2 Y Y) Y (.agg Y Y (.k2 Y Y) Y (.nil)))
 refine cT<|qq<|aZ mixed<|fa Y Y<|ld Y Y (.k2 Y Y) ?_
 obtain⟨⟨qh,qi⟩,kf,h⟩:=bS (V h)
 refine cl (D1 kf) ⟨Y,ak⟩<|fa Y Y<|ld Y Y (.k2 Y Y) ?_
 obtain⟨⟨lM,lO⟩,lZ,h⟩:=bS h
 refine cl (D1 lZ) ⟨Y,ak⟩<|so Y Y Y<|so Y Y Y ?_
 refine RT.done ⟨by kernel_rfl,?_⟩
 refine aW.n<|aY<|bF.r<|aW.r ?_
 obtain rfl:=O h
 exact RZ (.agg Y Y (.k2 Y Y) Y (.agg Y Y (.k2 Y Y) Y (.nil)))
 refine cT<|qq<|aZ mixed<|fa Y Y<|ld Y Y (.k2 Y Y) ?_
 obtain⟨⟨xD,xE⟩,kz,h⟩:=bS (V h)
 refine cl (C5 kz) ⟨Y,ak⟩<|so Y Y Y<|so Y Y Y ?_
 refine RT.done ⟨by kernel_rfl,?_⟩
 refine aW.n<|aY<|bF.r<|aW.r ?_
 obtain rfl:=O h
 exact RZ (.agg Y Y (.k2 Y Y) Y (.agg Y Y (.k2 Y Y) Y (.nil)))
theorem nT{x0:Zr}{x1:Zr}(N:Nat){r:Qr}(h:iv x0 x1=some r):dB af 140 N [.agg (eZ x0),.agg (eZ x1)] (.agg ((fQ N) r)):=by
 obtain⟨bn,bp⟩:=x0
 obtain⟨ct,cj⟩:=x1
 refine bT Tryz.func140 Y (ae Y) (λc9 M vs hN hvs=>?_)
 unfold iv at h
 refine sr<|bx Y<|bx Y<|al (cs:=[ay false,nw N au,ay false,nw N au]) (by exact⟨aq,bt,aq,bt,ak⟩) Y<|dn<|qq<|sr<|ld Y Y (.k2 Y Y)<|bE h λx9 h9 h=>cl (iu h9) ⟨Y,ak⟩<|lE h λdG fY h=>ls _ Y Y fY<|dn ?_
 refine bL h (λj2=>AS.cu 46 [(2,.ptr 2 0),(3,.ptr 3 0),(4,.ptr 4 0)] [(4,⟨43,[ai false,.sv (nw N au),ai false,.sv (nw N au)]⟩),(3,⟨41,[ai j2.1,.sv (slc 1 (List.map bh j2.2.1))]⟩),(2,⟨41,[ai j2.2.2.1,.sv (slc 1 (List.map bh j2.2.2.2))]⟩)] []) (λh=>?_) (λj2 h=>?_)
 cases dG
 exact fs<|⟨(ct,cj,bn,bp),(F h),wR []⟩
 refine cT<|aZ mixed<|ld Y Y (.k2 Y Y) ?_
 obtain⟨⟨jg,iT⟩,fI,h⟩:=bS (V h)
 refine RT.bW .none (vB N fI) hN Y ⟨Y,ak⟩ T<|ld Y Y (.k2 Y Y) ?_
 obtain⟨⟨xF,xG⟩,jy,h⟩:=bS h
 refine RT.bW .none (vB N jy) hN Y ⟨Y,ak⟩ T<|so Y Y Y<|so Y Y Y ?_
 refine RT.done ⟨by kernel_rfl,?_⟩
 exact aW.n<|⟨(xF,xG,jg,iT),h,cz id Y Y Y Y Y ⟨.ptr,.ptr,.ptr,ak⟩ ⟨⟨_,Y,⟨.sv aq,.sv aq,.sv aq,.sv aq,ak⟩⟩,⟨_,Y,⟨.sv aq,.sv fe,ak⟩⟩,⟨_,Y,⟨.sv aq,.sv fe,ak⟩⟩,ak⟩ trivial (λ_ _=>Y)⟩
 obtain⟨Rk,Rl,Rm,Rn⟩:=j2
 try dsimp only
 refine aW.n<|sr<|ld Y Y (.k2 Y Y)<|ld Y Y (.k2 Y Y) ?_
 obtain⟨⟨qY,qZ⟩,jK,h⟩:=bS h
 refine RT.bW .none (MG N jK) hN Y ⟨Y,Y,ak⟩ T<|al (cs:=[ay false,nw N au]) (by exact⟨aq,bt,ak⟩) Y<|so Y Y Y<|dn<|sr<|ld Y Y (.k2 Y Y)<|ld Y Y (.k2 Y Y) ?_
 obtain⟨⟨⟨IB,IC⟩,⟨afE,afF⟩,aof⟩,kA,h⟩:=bS h
 refine RT.bW .none ((Al N kA).w (args':=[_,_]) ⟨aq,(SV.fE (show cg [ay qY,nw N (slc 1 (List.map bh qZ))] _ from⟨aq,fe,ak⟩)),ak⟩) hN Y ⟨Y,Y,ak⟩ T<|mv Y<|ex Y Y<|ex Y Y<|ex Y Y<|so Y Y Y<|dn<|sr<|ld Y Y (.k2 Y Y)<|ld Y Y (.k2 Y Y) ?_
 obtain⟨⟨⟨Ft,Fu⟩,⟨afG,afH⟩,aog⟩,vz,h⟩:=bS h
 refine RT.bW .none ((Al N vz).w (args':=[_,_]) ⟨aq,(SV.fE (show cg [ay qY,nw N (slc 1 (List.map bh qZ))] _ from⟨aq,fe,ak⟩)),ak⟩) hN Y ⟨Y,Y,ak⟩ T<|mv Y<|ex Y Y<|ex Y Y<|ex Y Y<|so Y Y Y<|dn<|qq<|sr<|ld Y Y (.k2 Y Y) ?_
 obtain⟨⟨afI,afJ⟩,zH,h⟩:=bS h
 refine cl ((jP zH).w (args':=[_]) ⟨(SV.fE (show cg [ay Ft,nw N (slc 1 (List.map bh Fu))] _ from⟨aq,fe,ak⟩)),ak⟩) ⟨Y,ak⟩<|mv Y<|ex Y Y<|ex Y Y<|ag Y<|ag Y<|dn<|qq ?_
 refine bL h (λj5=>AS.cu 46 [(2,.ptr 2 0),(3,.ptr 3 0),(4,.ptr 4 0),(41,ai j5)] [(4,⟨43,[ai false,.sv (nw N au),ai false,.sv (nw N au)]⟩),(3,⟨41,[ai Ft,.sv (nw N (slc 1 (List.map bh Fu)))]⟩),(2,⟨41,[ai IB,.sv (nw N (slc 1 (List.map bh IC)))]⟩)] []) (λh=>?_) (λWC h=>?_)
 refine aX<|mv Y<|mv Y<|bE h λacH WN h=>?_
 cases afJ
 obtain rfl:=O (F WN)
 exact ww<|ww<|pF Y<|dn<|⟨false,h,wR []⟩
 refine gm Y<|lE (V WN) λlj sZ WN=>ge_ _ Y Y (xj (p:=afI) (q:=1) sZ) ?_
 obtain rfl:=O WN
 exact pT Y<|dn<|⟨lj,h,wR []⟩
 try dsimp only
 refine aW.n ?_
 refine bL h (λj7=>AS.cu 46 [(2,.ptr 2 0),(3,.ptr 3 0),(4,.ptr 4 0)] [(4,⟨43,[ai false,.sv (nw N au),ai false,.sv (nw N au)]⟩),(3,⟨41,[ai j7.1,.sv (nw N (slc 1 (List.map bh j7.2)))]⟩),(2,⟨41,[ai IB,.sv (nw N (slc 1 (List.map bh IC)))]⟩)] []) (λh=>?_) (λj7 h=>?_)
 cases WC
 exact fs<|⟨(Ft,Fu),(F h),wR []⟩
 exact cT<|aX<|bI (cs:=[_,_]) (cs':=[ay false,nw N au]) (.nil) ⟨aq,bt,ak⟩<|so Y Y Y<|dn<|⟨(false,[]),(V h),wR []⟩
 obtain⟨Ro,Rp⟩:=j7
 try dsimp only
 refine aW.n<|sr<|ld Y Y (.k2 Y Y)<|ld Y Y (.k2 Y Y)<|bI (cs:=[_,_,_,_]) (cs':=[ay IB,nw N (slc 1 (List.map bh IC)),ay Ro,nw N (slc 1 (List.map bh Rp))]) (.agg Y (.agg Y (.nil))) ⟨aq,aq,aq,aq,ak⟩<|so Y Y Y<|dn<|aY ?_
 obtain rfl:=O h
 exact RZ (.agg Y Y (.k4 Y Y Y Y) Y (.nil))
theorem iy{x0:Qr}{r:Int×Int×Bool}(h:fy x0=some r):Pure af 134 [.agg (eQ x0)] (.Cp [ax r.1,ax r.2.1,ay r.2.2]):=by
 obtain⟨⟨bn,bp⟩,⟨bB,bD⟩⟩:=x0
 refine bj Tryz.func134 Y (ae Y) (λc9 M vs hvs=>?_)
 unfold fy at h
 refine sr<|bx Y<|ag Y<|ag Y<|ag Y<|dn<|sr<|fa Y Y<|ld Y Y (.k2 Y Y) ?_
 obtain⟨⟨MH,aaC⟩,fY,h⟩:=bS h
 refine cl (jP fY) ⟨Y,ak⟩<|mv Y<|ex Y Y<|ex Y Y<|ag Y<|ag Y<|dn<|sr<|fa Y Y<|ld Y Y (.k2 Y Y) ?_
 obtain⟨⟨Kx,ajK⟩,kf,h⟩:=bS h
 refine cl (jP kf) ⟨Y,ak⟩<|mv Y<|ex Y Y<|ex Y Y<|ag Y<|ag Y<|dn<|qq<|qq ?_
 refine bL h (λj21=>AS.cu 53 [(2,ah MH),(3,ah Kx),(40,ai j21)] [] []) (λh=>?_) (λRr h=>?_)
 refine aX<|mv Y<|lE h λgK oO h=>nt Y _ oO<|mv Y<|bE h λWG yQ h=>?_
 cases gK
 refine gm Y<|lE (F yQ) λgU oP yQ=>QC Y _ oP ?_
 obtain rfl:=O yQ
 refine pF Y<|mv Y<|bE h λaoi C7 h=>?_
 cases gU
 refine gm Y<|lE (F C7) λir oU C7=>RT.leq (.some Y Y) _ Y Y T oU ?_
 obtain rfl:=O C7
 refine pF Y<|mv Y<|bE h λaoj Fz h=>?_
 cases ir
 refine gm Y<|lE (F Fz) λnq xA Fz=>RT.geq (.some Y Y) _ Y Y T xA ?_
 obtain rfl:=O Fz
 refine pF Y<|mv Y<|bE h λaok xp h=>?_
 cases nq
 refine gm Y<|lE (F xp) λpB yN xp=>RT.leq (.some Y Y) _ Y Y T yN ?_
 obtain rfl:=O xp
 refine pF Y<|mv Y<|bE h λaol D2 h=>?_
 cases pB
 refine gm Y<|lE (F D2) λyj Fs D2=>RT.geq (.some Y Y) _ Y Y T Fs ?_
 obtain rfl:=O D2
 exact pF Y<|dn<|⟨yj,h,wR []⟩
 obtain rfl:=O (V D2)
 exact ww<|ww<|pT Y<|dn<|⟨true,h,wR []⟩
 obtain rfl:=O (V xp)
 refine ww<|ww<|pT Y<|mv Y<|bE h λaom D3 h=>?_
 obtain rfl:=O (V D3)
 exact ww<|ww<|pT Y<|dn<|⟨true,h,wR []⟩
 obtain rfl:=O (V Fz)
 refine ww<|ww<|pT Y<|mv Y<|bE h λaon D4 h=>?_
 obtain rfl:=O (V D4)
 refine ww<|ww<|pT Y<|mv Y<|bE h λafP D5 h=>?_
 obtain rfl:=O (V D5)
 exact ww<|ww<|pT Y<|dn<|⟨true,h,wR []⟩
 obtain rfl:=O (V C7)
 refine ww<|ww<|pT Y<|mv Y<|bE h λaoo WO h=>?_
 obtain rfl:=O (V WO)
 refine ww<|ww<|pT Y<|mv Y<|bE h λaop WQ h=>?_
 obtain rfl:=O (V WQ)
 refine ww<|ww<|pT Y<|mv Y<|bE h λafQ WR h=>?_
 obtain rfl:=O (V WR)
 exact ww<|ww<|pT Y<|dn<|⟨true,h,wR []⟩
 obtain rfl:=O (V yQ)
 refine ww<|ww<|pT Y<|mv Y<|bE h λaoq afR h=>?_
 obtain rfl:=O (V afR)
 refine ww<|ww<|pT Y<|mv Y<|bE h λWS afS h=>?_
 obtain rfl:=O (V afS)
 refine ww<|ww<|pT Y<|mv Y<|bE h λaor afT h=>?_
 obtain rfl:=O (V afT)
 refine ww<|ww<|pT Y<|mv Y<|bE h λaos aot h=>?_
 obtain rfl:=O (V aot)
 exact ww<|ww<|pT Y<|dn<|⟨true,h,wR []⟩
 try dsimp only
 refine aW.n ?_
 cases Rr
 refine fs<|qq<|bf<|sr<|mv Y<|lE (F h) λyB EV h=>eq _ Y Y (xj (p:=Kx) (q:=0) EV)<|ag Y<|dn ?_
 refine bL h (λZJ=>AS.cu 53 [(2,ah ZJ.1),(3,ah ZJ.2)] [] []) (λh=>?_) (λZJ h=>?_)
 cases yB
 refine cF<|sr<|mv Y<|lE (F h) λyK h46 h=>ls _ Y Y h46<|ag Y<|dn ?_
 refine bL h (λj26=>AS.cu 53 [(2,ah j26.1),(3,ah j26.2)] [] []) (λh=>?_) (λj26 h=>?_)
 cases yK
 exact fs<|⟨(MH,Kx),(F h),wR []⟩
 exact cT<|aX<|mv Y<|lE (V h) λuM h48 h=>RT.neg .none _ Y T h48<|mv Y<|lE h λAx Ks h=>RT.neg .none _ Y T Ks<|ag Y<|ag Y<|dn<|⟨(uM,Ax),h,wR []⟩
 obtain⟨WD,WE⟩:=j26
 try dsimp only
 exact aW.n<|⟨(WD,WE),h,wR []⟩
 exact cT<|aX<|ag Y<|dn<|⟨(MH,1),(V h),wR []⟩
 obtain⟨OJ,acI⟩:=ZJ
 try dsimp only
 refine bF.n<|aW.n<|sr<|mv Y<|mv Y<|ag Y<|ag Y<|ag Y<|dn<|aY ?_
 obtain rfl:=O h
 exact RZ (.tmp Y (.tmp Y (.tmp Y (.nil))))
 refine cT<|sr<|ag Y<|ag Y<|ag Y<|dn<|aY<|aW.r ?_
 obtain rfl:=O (V h)
 exact RZ (.tmp Y (.tmp Y (.tmp Y (.nil))))
theorem oW{x0:Int}{x1:Int}(N:Nat){r:Qr}(h:iw x0 x1=some r):dB af 135 N [ax x0,ax x1] (.agg ((fQ N) r)):=by
 refine bT Tryz.func135 Y (ae Y) (λc9 M vs hN hvs=>?_)
 unfold iw at h
 refine sr<|al (cs:=[ay false,nw N au,ay false,nw N au]) (by exact⟨aq,bt,aq,bt,ak⟩) Y<|dn<|sr<|mv Y<|mv Y<|ag Y<|ag Y<|dn<|qq<|bE h λe6 uO je=>?_
 refine bJ (λ(wm:Int)=>AS.cu 36 [(0,ah x0),(1,ah x1),(4,.ptr 4 0),(5,ah wm)] [(4,⟨43,[ai false,.sv (nw N au),ai false,.sv (nw N au)]⟩)] []) (λwm=>wm=e6) ?_ (λwm uP=>?_)
 refine bf ?_
 refine bK uO (λs6=>AS.cu 36 [(0,ah x0),(1,ah x1),(4,.ptr 4 0),(5,ah s6.1),(6,ah s6.2)] [(4,⟨43,[ai false,.sv (nw N au),ai false,.sv (nw N au)]⟩)] []) (wR []) (λs6 y6 G6 h uQ pE=>?_)
 obtain⟨iA,l7⟩:=s6
 try dsimp only
 refine qq<|sr<|mv Y<|lE h λdG fY h=>ne _ Y Y (Le (p:=l7) (q:=0) fY)<|dn ?_
 cases dG
 refine cF<|bP<|aW.x<|aW.x<|bF.x<|aW.n ?_
 obtain rfl:=O (F h)
 exact⟨iA,pE _ Y,wR []⟩
 refine cT<|bu<|aW.n<|bf<|aZ mixed<|mv Y<|mv Y<|mv Y<|bE (V h) λdV jy h=>RT.rem .none _ Y Y T (aeU jy) (aeV jy)<|ag Y<|ag Y ?_
 refine RT.done ⟨by kernel_rfl,?_⟩
 refine bF.n ?_
 obtain rfl:=O h
 exact aW.n ⟨(l7,dV),uQ _ Y,wR []⟩
 subst uP
 try dsimp only
 refine aW.n<|qq<|sr<|mv Y<|lE je λeX kf je=>ls _ Y Y kf<|dn ?_
 refine bL je (λj8=>AS.cu 36 [(0,ah x0),(1,ah x1),(4,.ptr 4 0),(5,ah j8)] [(4,⟨43,[ai false,.sv (nw N au),ai false,.sv (nw N au)]⟩)] []) (λje=>?_) (λUD je=>?_)
 cases eX
 exact fs<|⟨wm,(F je),wR []⟩
 exact cT<|aX<|mv Y<|lE (V je) λeE jd je=>RT.neg .none _ Y T jd<|ag Y<|dn<|⟨eE,je,wR []⟩
 try dsimp only
 refine aW.n<|qq<|sr<|mv Y<|mv Y<|lE je λgh kA je=>eq _ Y Y (xj (p:=UD) (q:=x1) kA)<|dn ?_
 cases gh
 refine fs<|qq<|aZ mixed<|mv Y<|mv Y<|bE (F je) λiM oM je=>RT.quo .none _ Y Y T (nzI oM) (V5 oM) ?_
 obtain⟨⟨sj,sn⟩,zJ,je⟩:=bS je
 refine RT.bW .none (fU N zJ) hN Y ⟨Y,ak⟩ T<|mv Y<|mv Y<|bE je λou xk je=>RT.quo .none _ Y Y T (nzI xk) (V5 xk) ?_
 obtain⟨⟨qk,ql⟩,zH,je⟩:=bS je
 refine RT.bW .none (fU N zH) hN Y ⟨Y,ak⟩ T<|bI (cs:=[_,_,_,_]) (cs':=[ay sj,nw N (slc 1 (List.map bh sn)),ay qk,nw N (slc 1 (List.map bh ql))]) (.agg Y (.agg Y (.nil))) ⟨aq,aq,aq,aq,ak⟩<|so Y Y Y ?_
 refine RT.done ⟨by kernel_rfl,?_⟩
 refine aW.n<|aY ?_
 obtain rfl:=O je
 exact RZ (.agg Y Y (.k4 Y Y Y Y) Y (.nil))
 refine cT<|sr<|mv Y<|mv Y<|bE (V je) λgV nF je=>RT.quo .none _ Y Y T (nzI nF) (V5 nF) ?_
 obtain⟨⟨nu,mR⟩,nN,je⟩:=bS je
 refine RT.bW .none (fU N nN) hN Y ⟨Y,ak⟩ T<|bI (cs:=[_,_,_,_]) (cs':=[ay nu,nw N (slc 1 (List.map bh mR)),ay false,nw N au]) (.agg Y (.nil)) ⟨aq,aq,aq,bt,ak⟩<|so Y Y Y<|dn<|aY<|aW.r ?_
 obtain rfl:=O je
 exact RZ (.agg Y Y (.k4 Y Y Y Y) Y (.nil))
theorem Kz{x0:Int}{x1:Int}{r:Qr}(h:iw x0 x1=some r):Pure af 135 [ax x0,ax x1] (.agg (eQ r)):=eM (λN=>oW N h) (λN=>(SV.fE (qI _ _)))
theorem MJ{x0:Int}{r:Int}(h:xH x0=some r):Pure af 128 [ax x0] (ax r):=by
 refine bj Tryz.func128 Y (ae Y) (λc9 M vs hvs=>?_)
 unfold xH at h
 refine sr<|ag Y<|dn<|qq<|bf<|sr<|mv Y<|lE h λx5 h5 h=>ls _ Y Y h5<|ag Y<|dn ?_
 cases x5
 refine cF<|sr<|mv Y<|lE (F h) λx8 h8 h=>gt _ Y Y h8<|ag Y<|dn ?_
 cases x8
 refine cF<|bu<|bF.n<|aW.n<|sr<|ag Y<|dn<|aY ?_
 obtain rfl:=O (F h)
 exact R1 Y
 refine cT<|sr<|ag Y<|dn<|aY<|bF.r<|aW.r ?_
 obtain rfl:=O (V h)
 exact R1 Y
 refine cT<|sr<|ag Y<|dn<|aY<|bF.r<|aW.r ?_
 obtain rfl:=O (V h)
 exact R1 Y
theorem GX{x1:Qr}{x2:Qr}(N:Nat){r:Qr}(h:nO x1 x2=some r):dB af 136 N [.v (.int .u8 ((43:Nat):Int)),.agg (eQ x1),.agg (eQ x2)] (.agg ((fQ N) r)):=by
 obtain⟨⟨ct,cj⟩,⟨ek,ep⟩⟩:=x1
 obtain⟨⟨wh,wj⟩,⟨ID,IE⟩⟩:=x2
 refine bT Tryz.func136 Y (ae Y) (λc9 M vs hN hvs=>?_)
 unfold nO at h
 refine sr<|bx Y<|bx Y<|al (cs:=[ay false,nw N au,ay false,nw N au]) (by exact⟨aq,bt,aq,bt,ak⟩) Y<|dn<|sr<|ld Y Y (.k4 Y Y Y Y) ?_
 obtain⟨⟨⟨oQ,oR⟩,⟨pN,pO⟩⟩,iX,h⟩:=bS h
 refine cl (fJ iX) ⟨Y,ak⟩<|mv Y<|ex Y Y<|ex Y Y<|al (cs:=[ay false,nw N au]) (by exact⟨aq,bt,ak⟩) Y<|al (cs:=[ay false,nw N au]) (by exact⟨aq,bt,ak⟩) Y<|so Y Y Y<|so Y Y Y<|dn<|sr<|ld Y Y (.k4 Y Y Y Y) ?_
 obtain⟨⟨⟨kn,ko⟩,⟨nP,nQ⟩⟩,jd,h⟩:=bS h
 refine cl (fJ jd) ⟨Y,ak⟩<|mv Y<|ex Y Y<|ex Y Y<|al (cs:=[ay false,nw N au]) (by exact⟨aq,bt,ak⟩) Y<|al (cs:=[ay false,nw N au]) (by exact⟨aq,bt,ak⟩) Y<|so Y Y Y<|so Y Y Y<|dn<|qq<|aZ mixed<|cl mD trivial<|mv Y ?_
 refine RT.look .none [.func (.func 187) #[] #[]] Y Y Y T<|fl Y Y<|ld Y Y (.k2 Y Y)<|ld Y Y (.k2 Y Y)<|ld Y Y (.k2 Y Y)<|ld Y Y (.k2 Y Y) ?_
 obtain⟨⟨⟨pP,pQ⟩,⟨pR,pS⟩⟩,oM,h⟩:=bS h
 refine RT.bW .none (A8 N oM) hN Y ⟨Y,Y,Y,Y,ak⟩ T<|ex Y Y<|ex Y Y ?_
 obtain⟨⟨⟨yL,xz⟩,⟨A4,A5⟩⟩,qT,h⟩:=bS h
 refine RT.bW .none ((nT N qT).w (args':=[_,_]) ⟨(SV.fE (show cg [ay pP,nw N (slc 1 (List.map bh pQ))] _ from⟨aq,fe,ak⟩)),(SV.fE (show cg [ay pR,nw N (slc 1 (List.map bh pS))] _ from⟨aq,fe,ak⟩)),ak⟩) hN Y ⟨Y,Y,ak⟩ T<|so Y Y Y ?_
 refine RT.done ⟨by kernel_rfl,?_⟩
 refine aW.n<|aY ?_
 obtain rfl:=O h
 exact RZ (.agg Y Y (.k4 Y Y Y Y) Y (.nil))
theorem GY{x1:Qr}{x2:Qr}(N:Nat){r:Qr}(h:nR x1 x2=some r):dB af 136 N [.v (.int .u8 ((45:Nat):Int)),.agg (eQ x1),.agg (eQ x2)] (.agg ((fQ N) r)):=by
 obtain⟨⟨ct,cj⟩,⟨ek,ep⟩⟩:=x1
 obtain⟨⟨wh,wj⟩,⟨ID,IE⟩⟩:=x2
 refine bT Tryz.func136 Y (ae Y) (λc9 M vs hN hvs=>?_)
 unfold nR at h
 refine sr<|bx Y<|bx Y<|al (cs:=[ay false,nw N au,ay false,nw N au]) (by exact⟨aq,bt,aq,bt,ak⟩) Y<|dn<|sr<|ld Y Y (.k4 Y Y Y Y) ?_
 obtain⟨⟨⟨oQ,oR⟩,⟨pN,pO⟩⟩,iX,h⟩:=bS h
 refine cl (fJ iX) ⟨Y,ak⟩<|mv Y<|ex Y Y<|ex Y Y<|al (cs:=[ay false,nw N au]) (by exact⟨aq,bt,ak⟩) Y<|al (cs:=[ay false,nw N au]) (by exact⟨aq,bt,ak⟩) Y<|so Y Y Y<|so Y Y Y<|dn<|sr<|ld Y Y (.k4 Y Y Y Y) ?_
 obtain⟨⟨⟨kn,ko⟩,⟨nP,nQ⟩⟩,jd,h⟩:=bS h
 refine cl (fJ jd) ⟨Y,ak⟩<|mv Y<|ex Y Y<|ex Y Y<|al (cs:=[ay false,nw N au]) (by exact⟨aq,bt,ak⟩) Y<|al (cs:=[ay false,nw N au]) (by exact⟨aq,bt,ak⟩) Y<|so Y Y Y<|so Y Y Y<|dn<|qq<|aZ mixed<|cl mD trivial<|mv Y ?_
 refine RT.look .none [.func (.func 189) #[] #[]] Y Y Y T<|fl Y Y<|ld Y Y (.k2 Y Y)<|ld Y Y (.k2 Y Y)<|ld Y Y (.k2 Y Y)<|ld Y Y (.k2 Y Y) ?_
 obtain⟨⟨⟨pP,pQ⟩,⟨pR,pS⟩⟩,oM,h⟩:=bS h
 refine RT.bW .none (A9 N oM) hN Y ⟨Y,Y,Y,Y,ak⟩ T<|ex Y Y<|ex Y Y ?_
 obtain⟨⟨⟨yL,xz⟩,⟨A4,A5⟩⟩,qT,h⟩:=bS h
 refine RT.bW .none ((nT N qT).w (args':=[_,_]) ⟨(SV.fE (show cg [ay pP,nw N (slc 1 (List.map bh pQ))] _ from⟨aq,fe,ak⟩)),(SV.fE (show cg [ay pR,nw N (slc 1 (List.map bh pS))] _ from⟨aq,fe,ak⟩)),ak⟩) hN Y ⟨Y,Y,ak⟩ T<|so Y Y Y ?_
 refine RT.done ⟨by kernel_rfl,?_⟩
 refine aW.n<|aY ?_
 obtain rfl:=O h
 exact RZ (.agg Y Y (.k4 Y Y Y Y) Y (.nil))
theorem GZ{x1:Qr}{x2:Qr}(N:Nat){r:Qr}(h:nS x1 x2=some r):dB af 136 N [.v (.int .u8 ((42:Nat):Int)),.agg (eQ x1),.agg (eQ x2)] (.agg ((fQ N) r)):=by
 obtain⟨⟨ct,cj⟩,⟨ek,ep⟩⟩:=x1
 obtain⟨⟨wh,wj⟩,⟨ID,IE⟩⟩:=x2
 refine bT Tryz.func136 Y (ae Y) (λc9 M vs hN hvs=>?_)
 unfold nS at h
 refine sr<|bx Y<|bx Y<|al (cs:=[ay false,nw N au,ay false,nw N au]) (by exact⟨aq,bt,aq,bt,ak⟩) Y<|dn<|sr<|ld Y Y (.k4 Y Y Y Y) ?_
 obtain⟨⟨⟨oQ,oR⟩,⟨pN,pO⟩⟩,iX,h⟩:=bS h
 refine cl (fJ iX) ⟨Y,ak⟩<|mv Y<|ex Y Y<|ex Y Y<|al (cs:=[ay false,nw N au]) (by exact⟨aq,bt,ak⟩) Y<|al (cs:=[ay false,nw N au]) (by exact⟨aq,bt,ak⟩) Y<|so Y Y Y<|so Y Y Y<|dn<|sr<|ld Y Y (.k4 Y Y Y Y) ?_
 obtain⟨⟨⟨kn,ko⟩,⟨nP,nQ⟩⟩,jd,h⟩:=bS h
 refine cl (fJ jd) ⟨Y,ak⟩<|mv Y<|ex Y Y<|ex Y Y<|al (cs:=[ay false,nw N au]) (by exact⟨aq,bt,ak⟩) Y<|al (cs:=[ay false,nw N au]) (by exact⟨aq,bt,ak⟩) Y<|so Y Y Y<|so Y Y Y<|dn<|qq<|aZ mixed<|cl mD trivial<|mv Y ?_
 refine RT.look .none [.func (.func 191) #[] #[]] Y Y Y T<|fl Y Y<|ld Y Y (.k2 Y Y)<|ld Y Y (.k2 Y Y)<|ld Y Y (.k2 Y Y)<|ld Y Y (.k2 Y Y) ?_
 obtain⟨⟨⟨pP,pQ⟩,⟨pR,pS⟩⟩,oM,h⟩:=bS h
 refine RT.bW .none (Ba N oM) hN Y ⟨Y,Y,Y,Y,ak⟩ T<|ex Y Y<|ex Y Y ?_
 obtain⟨⟨⟨yL,xz⟩,⟨A4,A5⟩⟩,qT,h⟩:=bS h
 refine RT.bW .none ((nT N qT).w (args':=[_,_]) ⟨(SV.fE (show cg [ay pP,nw N (slc 1 (List.map bh pQ))] _ from⟨aq,fe,ak⟩)),(SV.fE (show cg [ay pR,nw N (slc 1 (List.map bh pS))] _ from⟨aq,fe,ak⟩)),ak⟩) hN Y ⟨Y,Y,ak⟩ T<|so Y Y Y ?_
 refine RT.done ⟨by kernel_rfl,?_⟩
 refine aW.n<|aY ?_
 obtain rfl:=O h
 exact RZ (.agg Y Y (.k4 Y Y Y Y) Y (.nil))
theorem G0{x1:Qr}{x2:Qr}(N:Nat){r:Qr}(h:lP x1 x2=some r):dB af 136 N [.v (.int .u8 ((47:Nat):Int)),.agg (eQ x1),.agg (eQ x2)] (.agg ((fQ N) r)):=by
 obtain⟨⟨ct,cj⟩,⟨ek,ep⟩⟩:=x1
 obtain⟨⟨wh,wj⟩,⟨ID,IE⟩⟩:=x2
 refine bT Tryz.func136 Y (ae Y) (λc9 M vs hN hvs=>?_)
 unfold lP at h
 refine sr<|bx Y<|bx Y<|al (cs:=[ay false,nw N au,ay false,nw N au]) (by exact⟨aq,bt,aq,bt,ak⟩) Y<|dn<|sr<|ld Y Y (.k4 Y Y Y Y) ?_
 obtain⟨⟨⟨oQ,oR⟩,⟨pN,pO⟩⟩,iX,h⟩:=bS h
 refine cl (fJ iX) ⟨Y,ak⟩<|mv Y<|ex Y Y<|ex Y Y<|al (cs:=[ay false,nw N au]) (by exact⟨aq,bt,ak⟩) Y<|al (cs:=[ay false,nw N au]) (by exact⟨aq,bt,ak⟩) Y<|so Y Y Y<|so Y Y Y<|dn<|sr<|ld Y Y (.k4 Y Y Y Y) ?_
 obtain⟨⟨⟨kn,ko⟩,⟨nP,nQ⟩⟩,jd,h⟩:=bS h
 refine cl (fJ jd) ⟨Y,ak⟩<|mv Y<|ex Y Y<|ex Y Y<|al (cs:=[ay false,nw N au]) (by exact⟨aq,bt,ak⟩) Y<|al (cs:=[ay false,nw N au]) (by exact⟨aq,bt,ak⟩) Y<|so Y Y Y<|so Y Y Y<|dn<|qq<|aZ mixed<|cl mD trivial<|mv Y ?_
 refine RT.look .none [.func (.func 192) #[] #[]] Y Y Y T<|fl Y Y<|ld Y Y (.k2 Y Y)<|ld Y Y (.k2 Y Y)<|ld Y Y (.k2 Y Y)<|ld Y Y (.k2 Y Y) ?_
 obtain⟨⟨⟨pP,pQ⟩,⟨pR,pS⟩⟩,oM,h⟩:=bS h
 refine RT.bW .none (Bb N oM) hN Y ⟨Y,Y,Y,Y,ak⟩ T<|ex Y Y<|ex Y Y ?_
 obtain⟨⟨⟨yL,xz⟩,⟨A4,A5⟩⟩,qT,h⟩:=bS h
 refine RT.bW .none ((nT N qT).w (args':=[_,_]) ⟨(SV.fE (show cg [ay pP,nw N (slc 1 (List.map bh pQ))] _ from⟨aq,fe,ak⟩)),(SV.fE (show cg [ay pR,nw N (slc 1 (List.map bh pS))] _ from⟨aq,fe,ak⟩)),ak⟩) hN Y ⟨Y,Y,ak⟩ T<|so Y Y Y ?_
 refine RT.done ⟨by kernel_rfl,?_⟩
 refine aW.n<|aY ?_
 obtain rfl:=O h
 exact RZ (.agg Y Y (.k4 Y Y Y Y) Y (.nil))
theorem G1{x1:Qr}{x2:Qr}{r:Qr}(h:lP x1 x2=some r):Pure af 136 [.v (.int .u8 ((47:Nat):Int)),.agg (eQ x1),.agg (eQ x2)] (.agg (eQ r)):=eM (λN=>G0 N h) (λN=>(SV.fE (qI _ _)))
end
section
open Go.Fw Go.Fw.Z Go.RowKit
theorem xK{x0:Int}(N:Nat){r:Qr}(h:dK x0=some r):dB af 41 N [ax x0] (.agg ((fQ N) r)):=by
 refine bT Tryz.func41 Y (ae Y) (λc9 M vs hN hvs=>?_)
 unfold dK at h
 refine sr<|al (cs:=[ay false,nw N au,ay false,nw N au]) (by exact⟨aq,bt,aq,bt,ak⟩) Y<|dn<|sr<|mv Y ?_
 obtain⟨⟨Cg,Ch⟩,h4,h⟩:=bS h
 refine RT.bW .none (fU N h4) hN Y ⟨Y,ak⟩ T<|bI (cs:=[_,_,_,_]) (cs':=[ay Cg,nw N (slc 1 (List.map bh Ch)),ay false,nw N au]) (.agg Y (.nil)) ⟨aq,aq,aq,bt,ak⟩<|so Y Y Y<|dn<|aY ?_
 obtain rfl:=O h
 exact RZ (.agg Y Y (.k4 Y Y Y Y) Y (.nil))
theorem nv{x0:Int}{r:Qr}(h:dK x0=some r):Pure af 41 [ax x0] (.agg (eQ r)):=eM (λN=>xK N h) (λN=>(SV.fE (qI _ _)))
theorem nx{x0:Qr}(N:Nat){r:Qr}(h:dP x0=some r):dB af 93 N [.agg (eQ x0)] (.agg ((fQ N) r)):=by
 obtain⟨⟨bn,bp⟩,⟨bB,bD⟩⟩:=x0
 refine bT Tryz.func93 Y (ae Y) (λc9 M vs hN hvs=>?_)
 unfold dP at h
 refine sr<|bx Y<|al (cs:=[ay false,nw N au,ay false,nw N au]) (by exact⟨aq,bt,aq,bt,ak⟩) Y<|dn<|qq<|sr<|ld Y Y (.k4 Y Y Y Y) ?_
 obtain⟨⟨Vo,ZK,x8c⟩,h8,h⟩:=bS h
 refine cl (iy h8) ⟨Y,ak⟩<|mv Y<|ex Y Y<|ex Y Y<|ex Y Y<|ag Y<|ag Y<|ag Y<|dn<|sr<|mv Y<|dn ?_
 cases x8c
 refine fs<|sr<|ld Y Y (.k4 Y Y Y Y) ?_
 obtain⟨⟨⟨WH,WI⟩,⟨WJ,WK⟩⟩,jK,h⟩:=bS (F h)
 refine cl (fJ jK) ⟨Y,ak⟩<|ex Y Y<|ex Y Y ?_
 obtain⟨⟨⟨OK,OL⟩,⟨acK,acL⟩⟩,oO,h⟩:=bS h
 refine RT.bW .none (nT N oO) hN Y ⟨Y,Y,ak⟩ T<|so Y Y Y<|dn<|aY ?_
 obtain rfl:=O h
 exact RZ (.agg Y Y (.k4 Y Y Y Y) Y (.nil))
 refine cT<|sr<|mv Y<|mv Y ?_
 obtain⟨⟨⟨jQ,jR⟩,⟨xI,xJ⟩⟩,gH,h⟩:=bS (V h)
 refine RT.bW .none (oW N gH) hN Y ⟨Y,Y,ak⟩ T<|so Y Y Y<|dn<|aY<|aW.r ?_
 obtain rfl:=O h
 exact RZ (.agg Y Y (.k4 Y Y Y Y) Y (.nil))
theorem xL{x0:Qr}{r:Qr}(h:dP x0=some r):Pure af 93 [.agg (eQ x0)] (.agg (eQ r)):=eM (λN=>nx N h) (λN=>(SV.fE (qI _ _)))
theorem q9{x0:Qr}{r:Int}(h:kD x0=some r):Pure af 59 [.agg (eQ x0)] (ax r):=by
 obtain⟨⟨bn,bp⟩,⟨bB,bD⟩⟩:=x0
 refine bj Tryz.func59 Y (ae Y) (λc9 M vs hvs=>?_)
 unfold kD at h
 refine sr<|bx Y<|ag Y<|dn<|qq<|sr<|fa Y Y<|ld Y Y (.k2 Y Y)<|bE h λx5 h5 h=>cl (iu h5) ⟨Y,ak⟩<|lE h λx6 h6 h=>ls _ Y Y h6<|dn ?_
 cases x6
 refine fs<|sr<|fa Y Y<|ld Y Y (.k2 Y Y)<|bE (F h) λeY iX h=>cl (iu iX) ⟨Y,ak⟩<|ag Y<|dn<|aY ?_
 obtain rfl:=O h
 exact R1 Y
 refine cT<|sr<|fa Y Y<|ld Y Y (.k2 Y Y)<|bE (V h) λx9 h9 h=>cl (iu h9) ⟨Y,ak⟩<|lE h λdG fY h=>RT.neg .none _ Y T fY<|ag Y<|dn<|aY<|aW.r ?_
 obtain rfl:=O h
 exact R1 Y
theorem OS{x0:Qr}{x1:Qr}(N:Nat){r:Qr}(h:wv x0 x1=some r):dB af 132 N [.agg (eQ x0),.agg (eQ x1)] (.agg ((fQ N) r)):=by
 obtain⟨⟨bn,bp⟩,⟨bB,bD⟩⟩:=x0
 obtain⟨⟨ct,cj⟩,⟨ek,ep⟩⟩:=x1
 refine bT Tryz.func132 Y (ae Y) (λc9 M vs hN hvs=>?_)
 unfold wv at h
 refine sr<|bx Y<|bx Y<|al (cs:=[ay false,nw N au,ay false,nw N au]) (by exact⟨aq,bt,aq,bt,ak⟩) Y<|dn<|sr<|ld Y Y (.k4 Y Y Y Y) ?_
 obtain⟨⟨IF,Fv,IG⟩,iX,h⟩:=bS h
 refine cl (iy iX) ⟨Y,ak⟩<|mv Y<|ex Y Y<|ex Y Y<|ex Y Y<|ag Y<|ag Y<|ag Y<|dn<|sr<|ld Y Y (.k4 Y Y Y Y) ?_
 obtain⟨⟨II,Fx,IJ⟩,lZ,h⟩:=bS h
 refine cl (iy lZ) ⟨Y,ak⟩<|mv Y<|ex Y Y<|ex Y Y<|ex Y Y<|ag Y<|ag Y<|ag Y<|dn<|qq<|qq ?_
 refine bL h (λj3=>AS.cu 41 [(2,.ptr 2 0),(3,.ptr 3 0),(4,.ptr 4 0),(5,ah IF),(6,ah Fv),(8,ah II),(9,ah Fx),(26,ai j3)] [(4,⟨43,[ai false,.sv (nw N au),ai false,.sv (nw N au)]⟩),(3,⟨43,[ai ct,.sv (slc 1 (List.map bh cj)),ai ek,.sv (slc 1 (List.map bh ep))]⟩),(2,⟨43,[ai bn,.sv (slc 1 (List.map bh bp)),ai bB,.sv (slc 1 (List.map bh bD))]⟩)] []) (λh=>?_) (λA6 h=>?_)
 refine aX<|mv Y<|mv Y<|bE h λGm r5 h=>?_
 cases IG
 obtain rfl:=O (F r5)
 exact ww<|pF Y<|dn<|⟨false,h,wR []⟩
 refine gm Y ?_
 obtain rfl:=O (V r5)
 exact pT Y<|dn<|⟨IJ,h,wR []⟩
 try dsimp only
 refine aW.n ?_
 cases A6
 refine fs<|sr<|ld Y Y (.k4 Y Y Y Y)<|ld Y Y (.k4 Y Y Y Y) ?_
 obtain⟨⟨⟨vg,vh⟩,⟨yO,yP⟩⟩,sZ,h⟩:=bS (F h)
 refine RT.bW .none (GX N sZ) hN Y ⟨Y,Y,Y,ak⟩ T<|so Y Y Y<|dn<|aY ?_
 obtain rfl:=O h
 exact RZ (.agg Y Y (.k4 Y Y Y Y) Y (.nil))
 refine cT<|sr<|mv Y<|mv Y<|lE (V h) λiM oM h=>RT.mul .none _ Y Y T oM<|mv Y<|mv Y<|lE h λjY qT h=>RT.mul .none _ Y Y T qT<|lE h λou xk h=>ad _ Y Y xk<|mv Y<|mv Y<|lE h λnE xo h=>RT.mul .none _ Y Y T xo ?_
 obtain⟨⟨⟨OM,ON⟩,⟨OO,OP⟩⟩,A0,h⟩:=bS h
 refine RT.bW .none (oW N A0) hN Y ⟨Y,Y,ak⟩ T<|so Y Y Y<|dn<|aY<|aW.r ?_
 obtain rfl:=O h
 exact RZ (.agg Y Y (.k4 Y Y Y Y) Y (.nil))
theorem OT{x0:Qr}{x1:Qr}(N:Nat){r:Qr}(h:wz x0 x1=some r):dB af 94 N [.agg (eQ x0),.agg (eQ x1)] (.agg ((fQ N) r)):=by
 obtain⟨⟨bn,bp⟩,⟨bB,bD⟩⟩:=x0
 obtain⟨⟨ct,cj⟩,⟨ek,ep⟩⟩:=x1
 refine bT Tryz.func94 Y (ae Y) (λc9 M vs hN hvs=>?_)
 unfold wz at h
 refine sr<|bx Y<|bx Y<|al (cs:=[ay false,nw N au,ay false,nw N au]) (by exact⟨aq,bt,aq,bt,ak⟩) Y<|dn<|sr<|ld Y Y (.k4 Y Y Y Y) ?_
 obtain⟨⟨IF,Fv,IG⟩,iX,h⟩:=bS h
 refine cl (iy iX) ⟨Y,ak⟩<|mv Y<|ex Y Y<|ex Y Y<|ex Y Y<|ag Y<|ag Y<|ag Y<|dn<|sr<|ld Y Y (.k4 Y Y Y Y) ?_
 obtain⟨⟨II,Fx,IJ⟩,lZ,h⟩:=bS h
 refine cl (iy lZ) ⟨Y,ak⟩<|mv Y<|ex Y Y<|ex Y Y<|ex Y Y<|ag Y<|ag Y<|ag Y<|dn<|qq<|qq ?_
 refine bL h (λj3=>AS.cu 41 [(2,.ptr 2 0),(3,.ptr 3 0),(4,.ptr 4 0),(5,ah IF),(6,ah Fv),(8,ah II),(9,ah Fx),(26,ai j3)] [(4,⟨43,[ai false,.sv (nw N au),ai false,.sv (nw N au)]⟩),(3,⟨43,[ai ct,.sv (slc 1 (List.map bh cj)),ai ek,.sv (slc 1 (List.map bh ep))]⟩),(2,⟨43,[ai bn,.sv (slc 1 (List.map bh bp)),ai bB,.sv (slc 1 (List.map bh bD))]⟩)] []) (λh=>?_) (λA6 h=>?_)
 refine aX<|mv Y<|mv Y<|bE h λGm r5 h=>?_
 cases IG
 obtain rfl:=O (F r5)
 exact ww<|pF Y<|dn<|⟨false,h,wR []⟩
 refine gm Y ?_
 obtain rfl:=O (V r5)
 exact pT Y<|dn<|⟨IJ,h,wR []⟩
 try dsimp only
 refine aW.n ?_
 cases A6
 refine fs<|sr<|ld Y Y (.k4 Y Y Y Y)<|ld Y Y (.k4 Y Y Y Y) ?_
 obtain⟨⟨⟨vg,vh⟩,⟨yO,yP⟩⟩,sZ,h⟩:=bS (F h)
 refine RT.bW .none (GY N sZ) hN Y ⟨Y,Y,Y,ak⟩ T<|so Y Y Y<|dn<|aY ?_
 obtain rfl:=O h
 exact RZ (.agg Y Y (.k4 Y Y Y Y) Y (.nil))
 refine cT<|sr<|mv Y<|mv Y<|lE (V h) λiM oM h=>RT.mul .none _ Y Y T oM<|mv Y<|mv Y<|lE h λjY qT h=>RT.mul .none _ Y Y T qT<|lE h λou xk h=>sb _ Y Y xk<|mv Y<|mv Y<|lE h λnE xo h=>RT.mul .none _ Y Y T xo ?_
 obtain⟨⟨⟨OM,ON⟩,⟨OO,OP⟩⟩,A0,h⟩:=bS h
 refine RT.bW .none (oW N A0) hN Y ⟨Y,Y,ak⟩ T<|so Y Y Y<|dn<|aY<|aW.r ?_
 obtain rfl:=O h
 exact RZ (.agg Y Y (.k4 Y Y Y Y) Y (.nil))
theorem Gn{x0:Qr}{x1:Qr}(N:Nat){r:Qr}(h:sF x0 x1=some r):dB af 89 N [.agg (eQ x0),.agg (eQ x1)] (.agg ((fQ N) r)):=by
 obtain⟨⟨bn,bp⟩,⟨bB,bD⟩⟩:=x0
 obtain⟨⟨ct,cj⟩,⟨ek,ep⟩⟩:=x1
 refine bT Tryz.func89 Y (ae Y) (λc9 M vs hN hvs=>?_)
 unfold sF at h
 refine sr<|bx Y<|bx Y<|al (cs:=[ay false,nw N au,ay false,nw N au]) (by exact⟨aq,bt,aq,bt,ak⟩) Y<|dn<|sr<|ld Y Y (.k4 Y Y Y Y) ?_
 obtain⟨⟨IF,Fv,IG⟩,iX,h⟩:=bS h
 refine cl (iy iX) ⟨Y,ak⟩<|mv Y<|ex Y Y<|ex Y Y<|ex Y Y<|ag Y<|ag Y<|ag Y<|dn<|sr<|ld Y Y (.k4 Y Y Y Y) ?_
 obtain⟨⟨II,Fx,IJ⟩,lZ,h⟩:=bS h
 refine cl (iy lZ) ⟨Y,ak⟩<|mv Y<|ex Y Y<|ex Y Y<|ex Y Y<|ag Y<|ag Y<|ag Y<|dn<|qq<|qq ?_
 refine bL h (λj3=>AS.cu 37 [(2,.ptr 2 0),(3,.ptr 3 0),(4,.ptr 4 0),(5,ah IF),(6,ah Fv),(8,ah II),(9,ah Fx),(26,ai j3)] [(4,⟨43,[ai false,.sv (nw N au),ai false,.sv (nw N au)]⟩),(3,⟨43,[ai ct,.sv (slc 1 (List.map bh cj)),ai ek,.sv (slc 1 (List.map bh ep))]⟩),(2,⟨43,[ai bn,.sv (slc 1 (List.map bh bp)),ai bB,.sv (slc 1 (List.map bh bD))]⟩)] []) (λh=>?_) (λA6 h=>?_)
 refine aX<|mv Y<|mv Y<|bE h λGm r5 h=>?_
 cases IG
 obtain rfl:=O (F r5)
 exact ww<|pF Y<|dn<|⟨false,h,wR []⟩
 refine gm Y ?_
 obtain rfl:=O (V r5)
 exact pT Y<|dn<|⟨IJ,h,wR []⟩
 try dsimp only
 refine aW.n ?_
 cases A6
 refine fs<|sr<|ld Y Y (.k4 Y Y Y Y)<|ld Y Y (.k4 Y Y Y Y) ?_
 obtain⟨⟨⟨Gi,Gj⟩,⟨acM,acN⟩⟩,xo,h⟩:=bS (F h)
 refine RT.bW .none (GZ N xo) hN Y ⟨Y,Y,Y,ak⟩ T<|so Y Y Y<|dn<|aY ?_
 obtain rfl:=O h
 exact RZ (.agg Y Y (.k4 Y Y Y Y) Y (.nil))
 refine cT<|sr<|mv Y<|mv Y<|lE (V h) λiM oM h=>RT.mul .none _ Y Y T oM<|mv Y<|mv Y<|lE h λjY qT h=>RT.mul .none _ Y Y T qT ?_
 obtain⟨⟨⟨Cx,Cy⟩,⟨IK,IL⟩⟩,xk,h⟩:=bS h
 refine RT.bW .none (oW N xk) hN Y ⟨Y,Y,ak⟩ T<|so Y Y Y<|dn<|aY<|aW.r ?_
 obtain rfl:=O h
 exact RZ (.agg Y Y (.k4 Y Y Y Y) Y (.nil))
theorem OU{x0:Qr}{x1:Qr}{r:Qr×Int}(h:wA x0 x1=some r):Pure af 105 [.agg (eQ x0),.agg (eQ x1)] (.Cp [.agg (eQ r.1),ax r.2]):=by
 obtain⟨⟨bn,bp⟩,⟨bB,bD⟩⟩:=x0
 obtain⟨⟨ct,cj⟩,⟨ek,ep⟩⟩:=x1
 refine bj Tryz.func105 Y (ae Y) (λc9 M vs hvs=>?_)
 unfold wA at h
 refine sr<|bx Y<|bx Y<|al (cs:=[ay false,au,ay false,au]) (by exact⟨aq,aB,aq,aB,ak⟩) Y<|ag Y<|dn<|qq<|sr<|ld Y Y (.k4 Y Y Y Y)<|bE h λeY iX h=>cl (q9 iX) ⟨Y,ak⟩<|lE h λdV jy h=>eq _ Y Y (xj (p:=eY) (q:=0) jy)<|RT.done ?_
 refine aW.n ?_
 cases dV
 refine fs<|sr<|ld Y Y (.k4 Y Y Y Y) ?_
 obtain⟨⟨Ky,MI,WL⟩,jd,h⟩:=bS (F h)
 refine cl (iy jd) ⟨Y,ak⟩<|mv Y<|ex Y Y<|ex Y Y<|ex Y Y<|ag Y<|ag Y<|ag Y<|dn<|sr<|ld Y Y (.k4 Y Y Y Y) ?_
 obtain⟨⟨UE,UF,afO⟩,nF,h⟩:=bS h
 refine cl (iy nF) ⟨Y,ak⟩<|mv Y<|ex Y Y<|ex Y Y<|ex Y Y<|ag Y<|ag Y<|ag Y<|dn<|qq<|qq ?_
 refine bL h (λj3=>AS.cu 48 [(2,.ptr 2 0),(3,.ptr 3 0),(4,.ptr 4 0),(6,ah Ky),(7,ah MI),(9,ah UE),(10,ah UF),(31,ai j3)] [(4,⟨43,[ai false,.sv au,ai false,.sv au]⟩),(3,⟨43,[ai ct,.sv (slc 1 (List.map bh cj)),ai ek,.sv (slc 1 (List.map bh ep))]⟩),(2,⟨43,[ai bn,.sv (slc 1 (List.map bh bp)),ai bB,.sv (slc 1 (List.map bh bD))]⟩)] []) (λh=>?_) (λIM h=>?_)
 refine aX<|mv Y<|mv Y<|bE h λacQ hg7 h=>?_
 cases WL
 obtain rfl:=O (F hg7)
 exact ww<|pF Y<|dn<|⟨false,h,wR []⟩
 refine gm Y ?_
 obtain rfl:=O (V hg7)
 exact pT Y<|dn<|⟨afO,h,wR []⟩
 try dsimp only
 refine aW.n ?_
 cases IM
 refine fs<|sr<|ld Y Y (.k4 Y Y Y Y)<|ld Y Y (.k4 Y Y Y Y) ?_
 obtain⟨⟨⟨Gg,Gh⟩,⟨acO,acP⟩⟩,AY,h⟩:=bS (F h)
 refine cl (G1 AY) ⟨Y,Y,Y,ak⟩<|so Y Y Y<|ag Y<|dn<|aY ?_
 obtain rfl:=O h
 exact RZ (.agg Y Y (.k4 Y Y Y Y) Y (.tmp Y (.nil)))
 refine cT<|qq<|sr<|mv Y<|lE (V h) λou xk h=>ls _ Y Y xk<|dn ?_
 refine bL h (λj6=>AS.cu 48 [(4,.ptr 4 0),(6,ah j6.1),(7,ah MI),(9,ah j6.2),(10,ah UF)] [(4,⟨43,[ai false,.sv au,ai false,.sv au]⟩)] []) (λh=>?_) (λj6 h=>?_)
 cases ou
 exact fs<|⟨(Ky,UE),(F h),wR []⟩
 exact cT<|aX<|mv Y<|lE (V h) λpB yN h=>RT.neg .none _ Y T yN<|mv Y<|lE h λpD A0 h=>RT.neg .none _ Y T A0<|ag Y<|ag Y<|dn<|⟨(pB,pD),h,wR []⟩
 obtain⟨ajL,ajM⟩:=j6
 try dsimp only
 refine aW.n<|sr<|mv Y<|mv Y<|lE h λlj sZ h=>RT.mul .none _ Y Y T sZ<|mv Y<|mv Y<|lE h λyB EV h=>RT.mul .none _ Y Y T EV ?_
 obtain⟨⟨⟨Gk,Gl⟩,⟨OQ,OR⟩⟩,Az,h⟩:=bS h
 refine cl (Kz Az) ⟨Y,Y,ak⟩<|so Y Y Y<|ag Y<|dn<|aY<|aW.r ?_
 obtain rfl:=O h
 exact RZ (.agg Y Y (.k4 Y Y Y Y) Y (.tmp Y (.nil)))
 refine cT<|sr<|bI (cs:=[_,_,_,_]) (cs':=[ay false,au,ay false,au]) (.nil) ⟨aq,aB,aq,aB,ak⟩<|so Y Y Y<|ag Y<|dn<|aY<|aW.r ?_
 obtain rfl:=O (V h)
 exact RZ (.agg Y Y (.k4 Y Y Y Y) Y (.tmp Y (.nil)))
theorem OV{x0:Qr}(N:Nat){r:Qr}(h:sG x0=some r):dB af 108 N [.agg (eQ x0)] (.agg ((fQ N) r)):=by
 obtain⟨⟨bn,bp⟩,⟨bB,bD⟩⟩:=x0
 refine bT Tryz.func108 Y (ae Y) (λc9 M vs hN hvs=>?_)
 unfold sG at h
 refine sr<|bx Y<|al (cs:=[ay false,nw N au,ay false,nw N au]) (by exact⟨aq,bt,aq,bt,ak⟩) Y<|dn<|sr<|ld Y Y (.k4 Y Y Y Y) ?_
 obtain⟨⟨⟨A7,C6⟩,⟨Fy,GW⟩⟩,h5,h⟩:=bS h
 refine RT.bW .none (nx N h5) hN Y ⟨Y,ak⟩ T<|al (cs:=[ay false,nw N au,ay false,nw N au]) (by exact⟨aq,bt,aq,bt,ak⟩) Y<|so Y Y Y<|dn<|qq<|aZ mixed<|fa Y Y<|ld Y Y (.k2 Y Y) ?_
 obtain⟨⟨qJ,qK⟩,h8,h⟩:=bS h
 refine RT.bW .none ((vB N h8).w (args':=[_]) ⟨(SV.fE (show cg [ay A7,nw N (slc 1 (List.map bh C6))] _ from⟨aq,fe,ak⟩)),ak⟩) hN Y ⟨Y,ak⟩ T<|fa Y Y<|ld Y Y (.k2 Y Y)<|bI (cs:=[_,_,_,_]) (cs':=[ay qJ,nw N (slc 1 (List.map bh qK)),ay Fy,nw N (slc 1 (List.map bh GW))]) (.agg Y (.agg Y (.nil))) ⟨aq,aq,aq,aq,ak⟩<|so Y Y Y ?_
 refine RT.done ⟨by kernel_rfl,?_⟩
 refine aW.n<|aY ?_
 obtain rfl:=O h
 exact RZ (.agg Y Y (.k4 Y Y Y Y) Y (.nil))
theorem OW{x0:Qr}{r:Qr}(h:sG x0=some r):Pure af 108 [.agg (eQ x0)] (.agg (eQ r)):=eM (λN=>OV N h) (λN=>(SV.fE (qI _ _)))
theorem OX{x0:Qr}{x1:Qr}{r:Int}(h:wB x0 x1=some r):Pure af 86 [.agg (eQ x0),.agg (eQ x1)] (ax r):=by
 obtain⟨⟨bn,bp⟩,⟨bB,bD⟩⟩:=x0
 obtain⟨⟨ct,cj⟩,⟨ek,ep⟩⟩:=x1
 refine bj Tryz.func86 Y (ae Y) (λc9 M vs hvs=>?_)
 unfold wB at h
 refine sr<|bx Y<|bx Y<|ag Y<|dn<|sr<|ld Y Y (.k4 Y Y Y Y) ?_
 obtain⟨⟨⟨oQ,oR⟩,⟨pN,pO⟩⟩,iX,h⟩:=bS h
 refine cl (fJ iX) ⟨Y,ak⟩<|mv Y<|ex Y Y<|ex Y Y<|al (cs:=[ay false,au]) (by exact⟨aq,aB,ak⟩) Y<|al (cs:=[ay false,au]) (by exact⟨aq,aB,ak⟩) Y<|so Y Y Y<|so Y Y Y<|dn<|sr<|ld Y Y (.k4 Y Y Y Y) ?_
 obtain⟨⟨⟨kn,ko⟩,⟨nP,nQ⟩⟩,jd,h⟩:=bS h
 refine cl (fJ jd) ⟨Y,ak⟩<|mv Y<|ex Y Y<|ex Y Y<|al (cs:=[ay false,au]) (by exact⟨aq,aB,ak⟩) Y<|al (cs:=[ay false,au]) (by exact⟨aq,aB,ak⟩) Y<|so Y Y Y<|so Y Y Y<|dn<|qq<|qq<|aZ mixed<|ld Y Y (.k2 Y Y)<|bE h λiK oz h=>?_
 refine cl (iu oz) ⟨Y,ak⟩<|ld Y Y (.k2 Y Y)<|bE h λgV nF h=>cl (iu nF) ⟨Y,ak⟩<|ag Y<|ag Y ?_
 refine RT.done ⟨by kernel_rfl,?_⟩
 refine aW.n<|qq ?_
 refine bL h (λj3=>AS.cu 43 [(5,.ptr 5 0),(6,.ptr 6 0),(7,.ptr 7 0),(8,.ptr 8 0),(9,ah iK),(10,ah gV),(31,ai j3)] [(8,⟨41,[ai nP,.sv (slc 1 (List.map bh nQ))]⟩),(7,⟨41,[ai kn,.sv (slc 1 (List.map bh ko))]⟩),(6,⟨41,[ai pN,.sv (slc 1 (List.map bh pO))]⟩),(5,⟨41,[ai oQ,.sv (slc 1 (List.map bh oR))]⟩)] []) (λh=>?_) (λIM h=>?_)
 refine aX<|mv Y<|mv Y<|lE h λir oU h=>ne _ Y Y (Le (p:=iK) (q:=gV) oU)<|mv Y<|bE h λacR r5 h=>?_
 cases ir
 refine gm Y<|lE (F r5) λuL zJ r5=>ge_ _ Y Y (xj (p:=iK) (q:=0) zJ) ?_
 obtain rfl:=O r5
 exact pF Y<|dn<|⟨uL,h,wR []⟩
 obtain rfl:=O (V r5)
 exact ww<|ww<|pT Y<|dn<|⟨true,h,wR []⟩
 try dsimp only
 refine aW.n ?_
 cases IM
 refine fs<|qq<|aZ mixed<|ld Y Y (.k2 Y Y)<|ld Y Y (.k2 Y Y) ?_
 obtain⟨⟨tQ,tW⟩,AX,h⟩:=bS (F h)
 refine cl (D0 AX) ⟨Y,Y,ak⟩<|ld Y Y (.k2 Y Y)<|ld Y Y (.k2 Y Y) ?_
 obtain⟨⟨Lt,Lu⟩,GS,h⟩:=bS h
 refine cl (D0 GS) ⟨Y,Y,ak⟩<|bE h λpC Ay h=>cl (MF Ay) ⟨Y,Y,ak⟩<|ag Y ?_
 refine RT.done ⟨by kernel_rfl,?_⟩
 refine aW.n<|aY ?_
 obtain rfl:=O h
 exact R1 Y
 refine cT<|sr<|mv Y<|mv Y<|lE (V h) λyA zH h=>sb _ Y Y zH<|bE h λpB yN h=>cl (MJ yN) ⟨Y,ak⟩<|ag Y<|dn<|aY<|aW.r ?_
 obtain rfl:=O h
 exact R1 Y
end
section
open Go.Fw
noncomputable def tf(x0:List Qr)(x1:List Qr):Option (List Qr):=(some (x0.length:Int)).bind λff=>(some (x1.length:Int)).bind λeY=>(some (max (ff:Int) eY)).bind λdV=>(VY (α:=Qr) 64 dV).bind λdN=>(uJ (λ(k:Nat) (sH:(List Qr))=>(show Option ((List Qr))from(some (x0.getD k (⟨⟨false,[]⟩,⟨false,[]⟩⟩:Qr))).bind λ⟨⟨OY,OZ⟩,⟨O0,O1⟩⟩=>(some (x1.getD k (⟨⟨false,[]⟩,⟨false,[]⟩⟩:Qr))).bind λ⟨⟨O2,O3⟩,⟨O4,O5⟩⟩=>(wz ⟨⟨OY,OZ⟩,⟨O0,O1⟩⟩ ⟨⟨O2,O3⟩,⟨O4,O5⟩⟩).bind λ⟨⟨nu,mR⟩,⟨tX,tY⟩⟩=>(mP 64 sH [⟨⟨nu,mR⟩,⟨tX,tY⟩⟩]).bind λir=>some ir)) (max x0.length x1.length) dN).bind λsH=>some sH
noncomputable def rf(x0:Qr)(x1:Qr)(O6:Qr):Option (Qr):=match x0 with|⟨⟨bn,bp⟩,⟨bB,bD⟩⟩=>match x1 with|⟨⟨ct,cj⟩,⟨ek,ep⟩⟩=>match O6 with|⟨⟨O7,O8⟩,⟨O9,Pa⟩⟩=>(sF ⟨⟨O7,O8⟩,⟨O9,Pa⟩⟩ ⟨⟨bn,bp⟩,⟨bB,bD⟩⟩).bind λ⟨⟨qJ,qK⟩,⟨Bc,Bd⟩⟩=>(wv ⟨⟨qJ,qK⟩,⟨Bc,Bd⟩⟩ ⟨⟨ct,cj⟩,⟨ek,ep⟩⟩).bind λ⟨⟨AR,AT⟩,⟨acS,acT⟩⟩=>some ⟨⟨AR,AT⟩,⟨acS,acT⟩⟩
noncomputable def oA(x0:List Qr)(x1:List Qr)(WT:Qr):Option (List Qr):=match WT with|⟨⟨Ru,Rv⟩,⟨Rw,Rx⟩⟩=>(some (x0.length:Int)).bind λff=>(some (x1.length:Int)).bind λeY=>(some (max (ff:Int) eY)).bind λdV=>(VY (α:=Qr) 64 dV).bind λdN=>(uJ (λ(k:Nat) (sH:(List Qr))=>(show Option ((List Qr))from(some (x0.getD k (⟨⟨false,[]⟩,⟨false,[]⟩⟩:Qr))).bind λ⟨⟨OY,OZ⟩,⟨O0,O1⟩⟩=>(some (x1.getD k (⟨⟨false,[]⟩,⟨false,[]⟩⟩:Qr))).bind λ⟨⟨O2,O3⟩,⟨O4,O5⟩⟩=>(rf ⟨⟨OY,OZ⟩,⟨O0,O1⟩⟩ ⟨⟨O2,O3⟩,⟨O4,O5⟩⟩ ⟨⟨Ru,Rv⟩,⟨Rw,Rx⟩⟩).bind λ⟨⟨nu,mR⟩,⟨tX,tY⟩⟩=>(mP 64 sH [⟨⟨nu,mR⟩,⟨tX,tY⟩⟩]).bind λir=>some ir)) (max x0.length x1.length) dN).bind λsH=>some sH
noncomputable def yR(x0:List Qr)(x1:List Qr):Option (List Qr):=(tf x0 x1).bind λx7=>some x7
noncomputable def nU(x0:Qr)(x1:List Qr):Option (List Qr):=match x0 with|⟨⟨bn,bp⟩,⟨bB,bD⟩⟩=>(some (x1.length:Int)).bind λx9=>(Ka 64 x9 (⟨⟨false,[]⟩,⟨false,[]⟩⟩:Qr)).bind λdG=>(some (x1.length:Int)).bind λc8=>(b9 (λ(s8:Int×(List Qr))=>match s8 with|⟨Be,Bf⟩=>(show Option ((Int×(List Qr))⊕((List Qr)))from(some (decide ((Be:Int)<c8))).bind λdV=>(bif dV then(cM x1 Be).bind λ⟨⟨qh,qi⟩,⟨Pb,Pc⟩⟩=>(sF ⟨⟨bn,bp⟩,⟨bB,bD⟩⟩ ⟨⟨qh,qi⟩,⟨Pb,Pc⟩⟩).bind λ⟨⟨wC,wD⟩,⟨wE,wF⟩⟩=>(qg Bf Be).bind λgU=>(stM Bf gU ⟨⟨wC,wD⟩,⟨wE,wF⟩⟩).bind λCe=>(some (IntKind.i64.wrap (Be+1))).bind λgV=>some (.inl (gV,Ce))else some (.inr Bf)))) (0,dG)).bind λwG=>some wG
noncomputable def iY(x0:Qr)(x1:List Qr)(x2:List Qr):Option (List Qr):=match x0 with|⟨⟨bn,bp⟩,⟨bB,bD⟩⟩=>(oA x1 x2 ⟨⟨bn,bp⟩,⟨bB,bD⟩⟩).bind λdG=>some dG
noncomputable def mZ(x0:List Qr)(x1:List Qr):Option (Int):=(vY (λ(k:Nat) (s3:Unit)=>(show Option ((Unit)⊕(Int))from(some (x0.getD k (⟨⟨false,[]⟩,⟨false,[]⟩⟩:Qr))).bind λ⟨⟨acU,acV⟩,⟨acW,acX⟩⟩=>(some (x1.getD k (⟨⟨false,[]⟩,⟨false,[]⟩⟩:Qr))).bind λ⟨⟨acY,acZ⟩,⟨ac0,ac1⟩⟩=>(wB ⟨⟨acU,acV⟩,⟨acW,acX⟩⟩ ⟨⟨acY,acZ⟩,⟨ac0,ac1⟩⟩).bind λdN=>(some (decide ((dN:Int)≠0))).bind λdR=>(bif dR then some (.inr dN)else some (.inl ())))) (max x0.length x1.length) ()).bind λe3=>match e3 with|.inr v3=>some v3|.inl _=>some 0
noncomputable def wH(x0:List Qr):Option (Int):=(mZ x0 []).bind λx4=>some x4
noncomputable def gL(x0:List Qr)(x1:List Qr):Option (Bool):=(mZ x0 x1).bind λx7=>(some (decide ((x7:Int)=0))).bind λx8=>some x8
noncomputable def mE(x0:List Qr)(x1:Int):Option (List Qr):=(some (decide ((x1:Int)<1))).bind λx8=>(bif x8 then some []else(some (min (x1:Int) 65536)).bind λdG=>(Ka 64 dG (⟨⟨false,[]⟩,⟨false,[]⟩⟩:Qr)).bind λff=>(some (x0.length:Int)).bind λeY=>(some (ff.length:Int)).bind λdN=>(some (min (eY:Int) dN)).bind λeX=>(b9 (λ(s8:Int×(List Qr))=>match s8 with|⟨Pd,Pe⟩=>(show Option ((Int×(List Qr))⊕((List Qr)))from(some (decide ((Pd:Int)<eX))).bind λeE=>(bif eE then(cM x0 Pd).bind λ⟨⟨kE,kF⟩,⟨qm,qo⟩⟩=>(dP ⟨⟨kE,kF⟩,⟨qm,qo⟩⟩).bind λ⟨⟨Lw,Lx⟩,⟨Ly,Lz⟩⟩=>(qg Pe Pd).bind λir=>(stM Pe ir ⟨⟨Lw,Lx⟩,⟨Ly,Lz⟩⟩).bind λCe=>(some (IntKind.i64.wrap (Pd+1))).bind λlp=>some (.inl (lp,Ce))else some (.inr Pe)))) (0,ff)).bind λIN=>some IN)
noncomputable def dQ(x0:List Int):Option (List Qr):=(some (x0.length:Int)).bind λx7=>(Ka 64 x7 (⟨⟨false,[]⟩,⟨false,[]⟩⟩:Qr)).bind λx8=>(some (x0.length:Int)).bind λdG=>(b9 (λ(s8:Int×(List Qr))=>match s8 with|⟨tZ,IP⟩=>(show Option ((Int×(List Qr))⊕((List Qr)))from(some (decide ((tZ:Int)<dG))).bind λc8=>(bif c8 then(cM x0 tZ).bind λdV=>(dK dV).bind λ⟨⟨lM,lO⟩,⟨wI,wJ⟩⟩=>(qg IP tZ).bind λgK=>(stM IP gK ⟨⟨lM,lO⟩,⟨wI,wJ⟩⟩).bind λCe=>(some (IntKind.i64.wrap (tZ+1))).bind λgh=>some (.inl (gh,Ce))else some (.inr IP)))) (0,x8)).bind λC8=>some C8
end
section
open Go.Fw Go.Fw.Z Go.RowKit
theorem zK(a b:List Qr):Pure af 133 [(slc 4 (List.map eQ a)),(slc 4 (List.map eQ b))] (oN 165 [ref [(slc 4 (List.map eQ a))],ref [(slc 4 (List.map eQ b))]]):=by
 refine bj Tryz.func133 Y (ae Y) (λc9 M vs hvs=>?_)
 refine sr<|RT.CK .none (s:=.sv _) Y T Y Y<|RT.CK .none (s:=.sv _) Y T Y Y<|ag Y<|dn<|sr<|RT.makeFunc .none (.box Y (.box Y (.nil))) T<|an (s:=.kT _ _) Y<|dn<|bU (lH (i:=2) Y [(slc 4 (List.map eQ a))] (.cons Y .nil) .any 0 [(4,.kT 165 [.val (ref [(slc 4 (List.map eQ a))]),.box 3])] (λ_ _ _=>trivial) (yD.h (l:=[(slc 4 (List.map eQ a))])) ⟨@FT.kT _ _ _ _ _ 4 165 [.box 2,.box 3] Y,ak⟩) ?_
 exact bU (lH (i:=3) Y [(slc 4 (List.map eQ b))] (.cons Y .nil) .any 0 [(4,.kT 165 [.val (ref [(slc 4 (List.map eQ a))]),.val (ref [(slc 4 (List.map eQ b))])])] (λ_ _ _=>trivial) (yD.h (l:=[(slc 4 (List.map eQ b))])) ⟨@FT.kT _ _ _ _ _ 4 165 [.val (ref [(slc 4 (List.map eQ a))]),.box 3] Y,ak⟩)<|bU (Q1 4 (oN 165 [ref [(slc 4 (List.map eQ a))],ref [(slc 4 (List.map eQ b))]]) (λ_ _ h=>Q2 h))<|aY<|⟨.inr Y,QS (.tmp Y (.nil)) Y⟩
theorem zL(a b:List Qr):Iter af 165 [ref [(slc 4 (List.map eQ a))],ref [(slc 4 (List.map eQ b))]] (max a.length b.length) (λk=>[.agg (eQ (a.getD k (⟨⟨false,[]⟩,⟨false,[]⟩⟩:Qr))),.agg (eQ (b.getD k (⟨⟨false,[]⟩,⟨false,[]⟩⟩:Qr)))]):=by
 refine CP Tryz.func165 Y Y (ae Y) (λc9 M O l J hJ Kc hr=>?_)
 obtain⟨xy,Kc⟩:=Kc
 have hla:a.length≤9223372036854775807:=by cases xy with|nil=>exact Kc.elim|cons _ xy=>exact Hs Kc.1
 have hlb:b.length≤9223372036854775807:=by cases xy with|nil=>exact Kc.elim|cons _ xy=>cases xy with|nil=>exact Kc.2.elim|cons _ _=>exact Hs Kc.2.1
 refine cm ?_
 refine aX ?_
 refine RT.fT .none Y Y (tl Y) ?_
 refine RT.len .none Y (tl Y) ?_
 refine RT.fT .none Y Y (tl Y) ?_
 refine RT.len .none Y (tl Y) ?_
 refine RT.max .none (((max a.length b.length:Nat):Int)) Y Y (tl Y) (by simp only[List.length_map];split<;>omega) ?_
 refine RT.mv .none Y (tl Y) ?_
 refine RT.done ?_
 refine aW.n ?_
 refine bf ?_
 refine Hl (I:=λx:{i:Nat//i≤max a.length b.length}=>AS.cu 37 [(0,.sv (.v (.func (.yield l) #[] #[]))),(1,.sv (ref [(slc 4 (List.map eQ a))])),(2,.sv (ref [(slc 4 (List.map eQ b))])),(11,ah ((max a.length b.length:Nat):Int)),(12,ah ((x.1:Nat):Int))] [] [] (x.1)) (μ:=λx=>max a.length b.length-x.1) ⟨0,by omega⟩ (by(try dsimp only);exact cz id Y Y Y Y Y ⟨.sv (by first|exact aq|exact SV.bw (by omega)|exact SV.bw (by push_cast;omega)|exact SV.bw (by dsimp only;omega)|exact SV.imp_eq (by simp)),.sv (by first|exact aq|exact SV.bw (by omega)|exact SV.bw (by push_cast;omega)|exact SV.bw (by dsimp only;omega)|exact SV.imp_eq (by simp)),.sv (by first|exact aq|exact SV.bw (by omega)|exact SV.bw (by push_cast;omega)|exact SV.bw (by dsimp only;omega)|exact SV.imp_eq (by simp)),.sv (by first|exact aq|exact SV.bw (by omega)|exact SV.bw (by push_cast;omega)|exact SV.bw (by dsimp only;omega)|exact SV.imp_eq (by simp)),.sv (by first|exact aq|exact SV.bw (by omega)|exact SV.bw (by push_cast;omega)|exact SV.bw (by dsimp only;omega)|exact SV.imp_eq (by simp)),ak⟩ trivial trivial (λ_ _=>Y)) ?_
 rintro⟨i,hi0⟩
 try dsimp only
 rcases Ip a b i hi0 with⟨hi,E6,J7⟩|⟨hi,E6,J7⟩|⟨hi,E6,J7⟩|hi
 ·
  refine cm ?_
  refine aX ?_
  refine RT.lss .none (true) Y Y (tl Y) (by simp;omega) ?_
  refine RT.done ?_
  refine aW.n ?_
  refine cm ?_
  refine e5 Y ?_
  refine bu ?_
  refine aW.n ?_
  refine cm ?_
  refine bf ?_
  refine cm ?_
  refine aX ?_
  refine RT.mv .none Y (tl Y) ?_
  refine RT.Mj .none Y (tl Y) ?_
  refine RT.done ?_
  refine aW.n ?_
  refine cm ?_
  refine aX ?_
  refine RT.CV .none (cs:=eQ ⟨⟨false,[]⟩,⟨false,[]⟩⟩) (by exact⟨aq,aB,aq,aB,ak⟩) Y (tl Y) Y Y ?_
  refine RT.CV .none (cs:=eQ ⟨⟨false,[]⟩,⟨false,[]⟩⟩) (by exact⟨aq,aB,aq,aB,ak⟩) Y (tl Y) Y Y ?_
  refine RT.done ?_
  refine aW.n ?_
  refine cm ?_
  refine cm ?_
  refine aX ?_
  refine RT.mv .none Y (tl Y) ?_
  refine RT.fT .none Y Y (tl Y) ?_
  refine RT.len .none Y (tl Y) ?_
  refine RT.lss .none (true) Y Y (tl Y) (by simp only[List.length_map];simp;omega) ?_
  refine RT.done ?_
  refine aW.n ?_
  refine e5 Y ?_
  refine aX ?_
  refine RT.fT .none Y Y (tl Y) ?_
  refine RT.mv .none Y (tl Y) ?_
  refine RT.ixA .none [ay ((a.getD i (⟨⟨false,[]⟩,⟨false,[]⟩⟩:Qr)).num.neg),slc 1 ((a.getD i (⟨⟨false,[]⟩,⟨false,[]⟩⟩:Qr)).num.w.map bh),ay ((a.getD i (⟨⟨false,[]⟩,⟨false,[]⟩⟩:Qr)).den.neg),slc 1 ((a.getD i (⟨⟨false,[]⟩,⟨false,[]⟩⟩:Qr)).den.w.map bh)] (Int.natCast_nonneg i) (by rw[Int.toNat_natCast,List.getElem?_map,gW E6];rfl) Y Y (tl Y) ?_
  refine RT.gJ .none Y (tl Y) (cs:=[ay ((a.getD i (⟨⟨false,[]⟩,⟨false,[]⟩⟩:Qr)).num.neg),slc 1 ((a.getD i (⟨⟨false,[]⟩,⟨false,[]⟩⟩:Qr)).num.w.map bh),ay ((a.getD i (⟨⟨false,[]⟩,⟨false,[]⟩⟩:Qr)).den.neg),slc 1 ((a.getD i (⟨⟨false,[]⟩,⟨false,[]⟩⟩:Qr)).den.w.map bh)]) Y Y ?_
  refine RT.store .none Y Y Y Y Y ?_
  refine RT.done ?_
  refine aW.n ?_
  refine cm ?_
  refine cm ?_
  refine aX ?_
  refine RT.mv .none Y (tl Y) ?_
  refine RT.fT .none Y Y (tl Y) ?_
  refine RT.len .none Y (tl Y) ?_
  refine RT.lss .none (true) Y Y (tl Y) (by simp only[List.length_map];simp;omega) ?_
  refine RT.done ?_
  refine aW.n ?_
  refine e5 Y ?_
  refine aX ?_
  refine RT.fT .none Y Y (tl Y) ?_
  refine RT.mv .none Y (tl Y) ?_
  refine RT.ixA .none [ay ((b.getD i (⟨⟨false,[]⟩,⟨false,[]⟩⟩:Qr)).num.neg),slc 1 ((b.getD i (⟨⟨false,[]⟩,⟨false,[]⟩⟩:Qr)).num.w.map bh),ay ((b.getD i (⟨⟨false,[]⟩,⟨false,[]⟩⟩:Qr)).den.neg),slc 1 ((b.getD i (⟨⟨false,[]⟩,⟨false,[]⟩⟩:Qr)).den.w.map bh)] (Int.natCast_nonneg i) (by rw[Int.toNat_natCast,List.getElem?_map,gW J7];rfl) Y Y (tl Y) ?_
  refine RT.gJ .none Y (tl Y) (cs:=[ay ((b.getD i (⟨⟨false,[]⟩,⟨false,[]⟩⟩:Qr)).num.neg),slc 1 ((b.getD i (⟨⟨false,[]⟩,⟨false,[]⟩⟩:Qr)).num.w.map bh),ay ((b.getD i (⟨⟨false,[]⟩,⟨false,[]⟩⟩:Qr)).den.neg),slc 1 ((b.getD i (⟨⟨false,[]⟩,⟨false,[]⟩⟩:Qr)).den.w.map bh)]) Y Y ?_
  refine RT.store .none Y Y Y Y Y ?_
  refine RT.done ?_
  refine aW.n ?_
  refine cm ?_
  refine aX ?_
  refine RT.mv .none Y (tl Y) ?_
  refine RT.load .none Y Y (.k4 Y Y Y Y) Y (tl Y) ?_
  refine RT.load .none Y Y (.k4 Y Y Y Y) Y (tl Y) ?_
  refine RT.yield .none hr Y (λ_ h=>h) Y (i) Y Y hi (by exact⟨Y,Y,ak⟩) (tl Y) (λyb=>?_)
  cases yb
  ·
   refine RT.not .none Y (tl Y) true Y ?_
   refine RT.done ?_
   refine aW.n ?_
   refine e5 Y ?_
   refine aY ?_
   refine bF.r ?_
   refine aW.r ?_
   refine aW.r ?_
   refine bF.r ?_
   exact⟨.inr rfl,(λh=>by cases h)⟩
  ·
   refine RT.not .none Y (tl Y) false Y ?_
   refine RT.done ?_
   refine aW.n ?_
   refine jc Y ?_
   refine bu ?_
   refine bF.n ?_
   refine aW.n ?_
   refine aX ?_
   refine RT.add .none (((i:Nat):Int)+1) Y Y (tl Y) (uI (by omega)) ?_
   refine RT.mv .none Y (tl Y) ?_
   refine RT.done ?_
   refine aW.n ?_
   refine⟨⟨i+1,by omega⟩,(by dsimp only;omega),?_⟩
   try dsimp only
   exact cz id Y Y Y Y Y ⟨.sv (by first|exact aq|exact SV.bw (by omega)|exact SV.bw (by push_cast;omega)|exact SV.bw (by dsimp only;omega)|exact SV.imp_eq (by simp)),.sv (by first|exact aq|exact SV.bw (by omega)|exact SV.bw (by push_cast;omega)|exact SV.bw (by dsimp only;omega)|exact SV.imp_eq (by simp)),.sv (by first|exact aq|exact SV.bw (by omega)|exact SV.bw (by push_cast;omega)|exact SV.bw (by dsimp only;omega)|exact SV.imp_eq (by simp)),.sv (by first|exact aq|exact SV.bw (by omega)|exact SV.bw (by push_cast;omega)|exact SV.bw (by dsimp only;omega)|exact SV.imp_eq (by simp)),.sv (by first|exact aq|exact SV.bw (by omega)|exact SV.bw (by push_cast;omega)|exact SV.bw (by dsimp only;omega)|exact SV.imp_eq (by simp)),ak⟩ trivial trivial (λ_ _=>Y)
 ·
  refine cm ?_
  refine aX ?_
  refine RT.lss .none (true) Y Y (tl Y) (by simp;omega) ?_
  refine RT.done ?_
  refine aW.n ?_
  refine cm ?_
  refine e5 Y ?_
  refine bu ?_
  refine aW.n ?_
  refine cm ?_
  refine bf ?_
  refine cm ?_
  refine aX ?_
  refine RT.mv .none Y (tl Y) ?_
  refine RT.Mj .none Y (tl Y) ?_
  refine RT.done ?_
  refine aW.n ?_
  refine cm ?_
  refine aX ?_
  refine RT.CV .none (cs:=eQ ⟨⟨false,[]⟩,⟨false,[]⟩⟩) (by exact⟨aq,aB,aq,aB,ak⟩) Y (tl Y) Y Y ?_
  refine RT.CV .none (cs:=eQ ⟨⟨false,[]⟩,⟨false,[]⟩⟩) (by exact⟨aq,aB,aq,aB,ak⟩) Y (tl Y) Y Y ?_
  refine RT.done ?_
  refine aW.n ?_
  refine cm ?_
  refine cm ?_
  refine aX ?_
  refine RT.mv .none Y (tl Y) ?_
  refine RT.fT .none Y Y (tl Y) ?_
  refine RT.len .none Y (tl Y) ?_
  refine RT.lss .none (true) Y Y (tl Y) (by simp only[List.length_map];simp;omega) ?_
  refine RT.done ?_
  refine aW.n ?_
  refine e5 Y ?_
  refine aX ?_
  refine RT.fT .none Y Y (tl Y) ?_
  refine RT.mv .none Y (tl Y) ?_
  refine RT.ixA .none [ay ((a.getD i (⟨⟨false,[]⟩,⟨false,[]⟩⟩:Qr)).num.neg),slc 1 ((a.getD i (⟨⟨false,[]⟩,⟨false,[]⟩⟩:Qr)).num.w.map bh),ay ((a.getD i (⟨⟨false,[]⟩,⟨false,[]⟩⟩:Qr)).den.neg),slc 1 ((a.getD i (⟨⟨false,[]⟩,⟨false,[]⟩⟩:Qr)).den.w.map bh)] (Int.natCast_nonneg i) (by rw[Int.toNat_natCast,List.getElem?_map,gW E6];rfl) Y Y (tl Y) ?_
  refine RT.gJ .none Y (tl Y) (cs:=[ay ((a.getD i (⟨⟨false,[]⟩,⟨false,[]⟩⟩:Qr)).num.neg),slc 1 ((a.getD i (⟨⟨false,[]⟩,⟨false,[]⟩⟩:Qr)).num.w.map bh),ay ((a.getD i (⟨⟨false,[]⟩,⟨false,[]⟩⟩:Qr)).den.neg),slc 1 ((a.getD i (⟨⟨false,[]⟩,⟨false,[]⟩⟩:Qr)).den.w.map bh)]) Y Y ?_
  refine RT.store .none Y Y Y Y Y ?_
  refine RT.done ?_
  refine aW.n ?_
  refine cm ?_
  refine cm ?_
  refine aX ?_
  refine RT.mv .none Y (tl Y) ?_
  refine RT.fT .none Y Y (tl Y) ?_
  refine RT.len .none Y (tl Y) ?_
  refine RT.lss .none (false) Y Y (tl Y) (by simp only[List.length_map];simp;omega) ?_
  refine RT.done ?_
  refine aW.n ?_
  refine jc Y ?_
  refine bu ?_
  refine aW.n ?_
  refine cm ?_
  refine aX ?_
  refine RT.mv .none Y (tl Y) ?_
  refine RT.load .none Y Y (.k4 Y Y Y Y) Y (tl Y) ?_
  refine RT.load .none Y Y (.k4 Y Y Y Y) Y (tl Y) ?_
  refine RT.yield .none hr Y (λ_ h=>h) Y (i) Y Y hi (by exact⟨Y,(by show AV.sv _=AV.sv _;rw[kq J7]),ak⟩) (tl Y) (λyb=>?_)
  cases yb
  ·
   refine RT.not .none Y (tl Y) true Y ?_
   refine RT.done ?_
   refine aW.n ?_
   refine e5 Y ?_
   refine aY ?_
   refine bF.r ?_
   refine aW.r ?_
   refine aW.r ?_
   refine bF.r ?_
   exact⟨.inr rfl,(λh=>by cases h)⟩
  ·
   refine RT.not .none Y (tl Y) false Y ?_
   refine RT.done ?_
   refine aW.n ?_
   refine jc Y ?_
   refine bu ?_
   refine bF.n ?_
   refine aW.n ?_
   refine aX ?_
   refine RT.add .none (((i:Nat):Int)+1) Y Y (tl Y) (uI (by omega)) ?_
   refine RT.mv .none Y (tl Y) ?_
   refine RT.done ?_
   refine aW.n ?_
   refine⟨⟨i+1,by omega⟩,(by dsimp only;omega),?_⟩
   try dsimp only
   exact cz id Y Y Y Y Y ⟨.sv (by first|exact aq|exact SV.bw (by omega)|exact SV.bw (by push_cast;omega)|exact SV.bw (by dsimp only;omega)|exact SV.imp_eq (by simp)),.sv (by first|exact aq|exact SV.bw (by omega)|exact SV.bw (by push_cast;omega)|exact SV.bw (by dsimp only;omega)|exact SV.imp_eq (by simp)),.sv (by first|exact aq|exact SV.bw (by omega)|exact SV.bw (by push_cast;omega)|exact SV.bw (by dsimp only;omega)|exact SV.imp_eq (by simp)),.sv (by first|exact aq|exact SV.bw (by omega)|exact SV.bw (by push_cast;omega)|exact SV.bw (by dsimp only;omega)|exact SV.imp_eq (by simp)),.sv (by first|exact aq|exact SV.bw (by omega)|exact SV.bw (by push_cast;omega)|exact SV.bw (by dsimp only;omega)|exact SV.imp_eq (by simp)),ak⟩ trivial trivial (λ_ _=>Y)
 ·
  refine cm ?_
  refine aX ?_
  refine RT.lss .none (true) Y Y (tl Y) (by simp;omega) ?_
  refine RT.done ?_
  refine aW.n ?_
  refine cm ?_
  refine e5 Y ?_
  refine bu ?_
  refine aW.n ?_
  refine cm ?_
  refine bf ?_
  refine cm ?_
  refine aX ?_
  refine RT.mv .none Y (tl Y) ?_
  refine RT.Mj .none Y (tl Y) ?_
  refine RT.done ?_
  refine aW.n ?_
  refine cm ?_
  refine aX ?_
  refine RT.CV .none (cs:=eQ ⟨⟨false,[]⟩,⟨false,[]⟩⟩) (by exact⟨aq,aB,aq,aB,ak⟩) Y (tl Y) Y Y ?_
  refine RT.CV .none (cs:=eQ ⟨⟨false,[]⟩,⟨false,[]⟩⟩) (by exact⟨aq,aB,aq,aB,ak⟩) Y (tl Y) Y Y ?_
  refine RT.done ?_
  refine aW.n ?_
  refine cm ?_
  refine cm ?_
  refine aX ?_
  refine RT.mv .none Y (tl Y) ?_
  refine RT.fT .none Y Y (tl Y) ?_
  refine RT.len .none Y (tl Y) ?_
  refine RT.lss .none (false) Y Y (tl Y) (by simp only[List.length_map];simp;omega) ?_
  refine RT.done ?_
  refine aW.n ?_
  refine jc Y ?_
  refine bu ?_
  refine aW.n ?_
  refine cm ?_
  refine cm ?_
  refine aX ?_
  refine RT.mv .none Y (tl Y) ?_
  refine RT.fT .none Y Y (tl Y) ?_
  refine RT.len .none Y (tl Y) ?_
  refine RT.lss .none (true) Y Y (tl Y) (by simp only[List.length_map];simp;omega) ?_
  refine RT.done ?_
  refine aW.n ?_
  refine e5 Y ?_
  refine aX ?_
  refine RT.fT .none Y Y (tl Y) ?_
  refine RT.mv .none Y (tl Y) ?_
  refine RT.ixA .none [ay ((b.getD i (⟨⟨false,[]⟩,⟨false,[]⟩⟩:Qr)).num.neg),slc 1 ((b.getD i (⟨⟨false,[]⟩,⟨false,[]⟩⟩:Qr)).num.w.map bh),ay ((b.getD i (⟨⟨false,[]⟩,⟨false,[]⟩⟩:Qr)).den.neg),slc 1 ((b.getD i (⟨⟨false,[]⟩,⟨false,[]⟩⟩:Qr)).den.w.map bh)] (Int.natCast_nonneg i) (by rw[Int.toNat_natCast,List.getElem?_map,gW J7];rfl) Y Y (tl Y) ?_
  refine RT.gJ .none Y (tl Y) (cs:=[ay ((b.getD i (⟨⟨false,[]⟩,⟨false,[]⟩⟩:Qr)).num.neg),slc 1 ((b.getD i (⟨⟨false,[]⟩,⟨false,[]⟩⟩:Qr)).num.w.map bh),ay ((b.getD i (⟨⟨false,[]⟩,⟨false,[]⟩⟩:Qr)).den.neg),slc 1 ((b.getD i (⟨⟨false,[]⟩,⟨false,[]⟩⟩:Qr)).den.w.map bh)]) Y Y ?_
  refine RT.store .none Y Y Y Y Y ?_
  refine RT.done ?_
  refine aW.n ?_
  refine cm ?_
  refine aX ?_
  refine RT.mv .none Y (tl Y) ?_
  refine RT.load .none Y Y (.k4 Y Y Y Y) Y (tl Y) ?_
  refine RT.load .none Y Y (.k4 Y Y Y Y) Y (tl Y) ?_
  refine RT.yield .none hr Y (λ_ h=>h) Y (i) Y Y hi (by exact⟨(by show AV.sv _=AV.sv _;rw[kq E6]),Y,ak⟩) (tl Y) (λyb=>?_)
  cases yb
  ·
   refine RT.not .none Y (tl Y) true Y ?_
   refine RT.done ?_
   refine aW.n ?_
   refine e5 Y ?_
   refine aY ?_
   refine bF.r ?_
   refine aW.r ?_
   refine aW.r ?_
   refine bF.r ?_
   exact⟨.inr rfl,(λh=>by cases h)⟩
  ·
   refine RT.not .none Y (tl Y) false Y ?_
   refine RT.done ?_
   refine aW.n ?_
   refine jc Y ?_
   refine bu ?_
   refine bF.n ?_
   refine aW.n ?_
   refine aX ?_
   refine RT.add .none (((i:Nat):Int)+1) Y Y (tl Y) (uI (by omega)) ?_
   refine RT.mv .none Y (tl Y) ?_
   refine RT.done ?_
   refine aW.n ?_
   refine⟨⟨i+1,by omega⟩,(by dsimp only;omega),?_⟩
   try dsimp only
   exact cz id Y Y Y Y Y ⟨.sv (by first|exact aq|exact SV.bw (by omega)|exact SV.bw (by push_cast;omega)|exact SV.bw (by dsimp only;omega)|exact SV.imp_eq (by simp)),.sv (by first|exact aq|exact SV.bw (by omega)|exact SV.bw (by push_cast;omega)|exact SV.bw (by dsimp only;omega)|exact SV.imp_eq (by simp)),.sv (by first|exact aq|exact SV.bw (by omega)|exact SV.bw (by push_cast;omega)|exact SV.bw (by dsimp only;omega)|exact SV.imp_eq (by simp)),.sv (by first|exact aq|exact SV.bw (by omega)|exact SV.bw (by push_cast;omega)|exact SV.bw (by dsimp only;omega)|exact SV.imp_eq (by simp)),.sv (by first|exact aq|exact SV.bw (by omega)|exact SV.bw (by push_cast;omega)|exact SV.bw (by dsimp only;omega)|exact SV.imp_eq (by simp)),ak⟩ trivial trivial (λ_ _=>Y)
 ·
  subst hi
  refine cm ?_
  refine aX ?_
  refine RT.lss .none (false) Y Y (tl Y) (by simp) ?_
  refine RT.done ?_
  refine aW.n ?_
  refine cm ?_
  refine jc Y ?_
  refine bP ?_
  refine aW.x ?_
  refine aW.x ?_
  refine bF.x ?_
  exact⟨.inl Y,(λ_=>Y)⟩
end
section
open Go.Fw Go.Fw.Z Go.RowKit
theorem IQ{x0:List Qr}{x1:List Qr}(N:Nat){r:List Qr}(h:tf x0 x1=some r):dB af 95 N [slc 4 (List.map eQ x0),slc 4 (List.map eQ x1),.v (.func (.func 94) #[] #[])] (nw N (slc 4 (List.map (fQ N) r))):=by
 refine bT Tryz.func95 Y (ae Y) (λc9 M vs hN hvs=>?_)
 unfold tf at h
 refine sr<|RT.CK .none (s:=.sv _) Y T Y Y<|aI Y (bt (N:=N) (n:=4) (e:=(fQ N)))<|dn<|sr<|mv Y<|lE h λff kz h=>ln Y kz<|mv Y<|lE h λeY iX h=>ln Y iX<|lE h λdV jy h=>RT.max .none _ Y Y T (Ol (p:=ff) (q:=eY) jy)<|bE h λdN gH h=>RT.Lh (e:=(fQ N)) .none Y Y T Y T gH<|RT.alloc .none T Y Y<|RT.qO (cells:=[_]) .none Y Y Y Y T Y<|dn<|qq<|sr ?_
 refine mv Y<|mv Y<|cl (zK x0 x1) ⟨Y,Y,ak⟩<|dn<|bf<|bE h λsH hl5 ho5=>?_
 obtain⟨st5,hs5,ht5,hn5⟩:=vR hl5
 refine qR (zL x0 x1) (λ_ _ _ _ _=>trivial) Y (λk=>AS.cu 29 [(5,.ptr 5 0),(7,.ptr 7 0),(18,.sv (oN 165 [ref [slc 4 (List.map eQ x0)],ref [slc 4 (List.map eQ x1)]]))] [(7,⟨23,[.row 302]⟩),(5,⟨106,[.sv (.v (.func (.func 94) #[] #[]))]⟩)] [(302,TR 43 4 (fQ N) (st5 k))]) [7,5] Y (λ_=>⟨Y,Y⟩) (CQ Y) (λ_=>Y) (CR Y) (by(try dsimp only);rw[hs5];(try dsimp only);exact cz (λi=>bif Nat.beq i 302 then 15 else i) Y Y Y Y Y ⟨.ptr,.ptr,.sv aq,ak⟩ ⟨⟨_,Y,⟨.row Y,ak⟩⟩,⟨_,Y,⟨.sv aq,ak⟩⟩,ak⟩ ⟨⟨_,Y,cg.refl _⟩,ak⟩ (λi hi=>by rw[bV (show i≠302 by omega)];rfl)) (λk hk D hD=>?_) ?_
 have h:=ht5 k hk
 obtain⟨sH,hsk⟩:∃q,st5 k=q:=⟨_,Y⟩
 rw[hsk]at h⊢
 dsimp only[AS.Z6,Cs]
 try dsimp only at h
 obtain⟨⟨⟨OY,OZ⟩,⟨O0,O1⟩⟩,afV,h⟩:=bS h
 rw[Option.some.inj afV]
 obtain⟨⟨⟨O2,O3⟩,⟨O4,O5⟩⟩,Wt,h⟩:=bS h
 rw[Option.some.inj Wt]
 refine sr<|al (cs:=[ay false,nw N au,ay false,nw N au]) (by exact⟨aq,bt,aq,bt,ak⟩) Y<|so Y Y Y<|dn<|aX<|al (cs:=[ay false,nw N au,ay false,nw N au]) (by exact⟨aq,bt,aq,bt,ak⟩) Y<|so Y Y Y<|RT.done ?_
 refine aW.n ⟨Y,?_⟩
 dsimp only[AS.Mk]
 refine bf<|aZ mixed<|RT.lf .none (s:=.row _) Y Y Y T<|lV Y Y Y<|ld Y Y (.k4 Y Y Y Y)<|ld Y Y (.k4 Y Y Y Y) ?_
 obtain⟨⟨⟨nu,mR⟩,⟨tX,tY⟩⟩,nN,h⟩:=bS h
 refine RT.bW .none (OT N nN) (Nat.le_trans hN hD) Y ⟨Y,Y,ak⟩ T<|bl (l:=[⟨⟨nu,mR⟩,⟨tX,tY⟩⟩]) (e:=(fQ N)) (.agg Y (.nil)) Y Y Y Y Y Y<|bE h λir oU h=>aR (k:=[⟨⟨nu,mR⟩,⟨tX,tY⟩⟩]) (e:=(fQ N)) Y Y Y oU<|RT.qO (cells:=[_]) .none Y Y Y Y T Y ?_
 refine RT.done ⟨by kernel_rfl,?_⟩
 refine bF.n ?_
 replace h:=Option.some.inj h
 refine⟨ak,Y,Y,?_⟩
 try dsimp only
 rw[←h]
 try dsimp only
 exact cz (λi=>bif Nat.beq i 302 then 27 else i) Y Y Y Y Y ⟨.ptr,.ptr,.sv aq,ak⟩ ⟨⟨_,Y,⟨.row Y,ak⟩⟩,⟨_,Y,⟨.sv aq,ak⟩⟩,ak⟩ ⟨⟨_,Y,cg.refl _⟩,ak⟩ (λi hi=>by rw[bV (show i≠302 by omega)];rfl)
 rw[hn5]
 try dsimp only
 refine bF.n<|aW.n<|sr<|RT.lf .none (s:=.row _) Y Y Y T<|an (s:=.row _) Y<|dn<|ku (i:=302) (E1:=43) (n:=4) (e:=(fQ N)) (l:=sH) hN (λ_ h=>h) Y<|aY ?_
 obtain rfl:=O ho5
 exact R1 Y
theorem C9{x0:Qr}{x1:Qr}{O6:Qr}(N:Nat){r:Qr}(h:rf x0 x1 O6=some r):dB af 141 N [.agg (eQ x0),.agg (eQ x1),ref (eQ O6)] (.agg ((fQ N) r)):=by
 obtain⟨⟨bn,bp⟩,⟨bB,bD⟩⟩:=x0
 obtain⟨⟨ct,cj⟩,⟨ek,ep⟩⟩:=x1
 obtain⟨⟨O7,O8⟩,⟨O9,Pa⟩⟩:=O6
 refine bT Tryz.func141 Y (ae Y) (λc9 M vs hN hvs=>?_)
 unfold rf at h
 refine sr<|bx Y<|bx Y<|al (cs:=[ay false,nw N au,ay false,nw N au]) (by exact⟨aq,bt,aq,bt,ak⟩) Y<|dn<|qq<|aZ mixed<|RT.gJ (cs:=[_,_,_,_]) .none Y T Y Y<|ld Y Y (.k4 Y Y Y Y) ?_
 obtain⟨⟨⟨qJ,qK⟩,⟨Bc,Bd⟩⟩,h8,h⟩:=bS h
 refine RT.bW .none (Gn N h8) hN Y ⟨Y,Y,ak⟩ T<|ld Y Y (.k4 Y Y Y Y) ?_
 obtain⟨⟨⟨AR,AT⟩,⟨acS,acT⟩⟩,fY,h⟩:=bS h
 refine RT.bW .none ((OS N fY).w (args':=[_,_]) ⟨(SV.fE (show cg [ay qJ,nw N (slc 1 (List.map bh qK)),ay Bc,nw N (slc 1 (List.map bh Bd))] _ from⟨aq,fe,aq,fe,ak⟩)),aq,ak⟩) hN Y ⟨Y,Y,ak⟩ T<|so Y Y Y ?_
 refine RT.done ⟨by kernel_rfl,?_⟩
 refine aW.n<|aY ?_
 obtain rfl:=O h
 exact RZ (.agg Y Y (.k4 Y Y Y Y) Y (.nil))
theorem D6{x0:List Qr}{x1:List Qr}{WT:Qr}(N:Nat){r:List Qr}(h:oA x0 x1 WT=some r):dB af 95 N [slc 4 (List.map eQ x0),slc 4 (List.map eQ x1),oN 141 [ref (eQ WT)]] (nw N (slc 4 (List.map (fQ N) r))):=by
 obtain⟨⟨Ru,Rv⟩,⟨Rw,Rx⟩⟩:=WT
 refine bT Tryz.func95 Y (ae Y) (λc9 M vs hN hvs=>?_)
 unfold oA at h
 refine sr<|RT.CK .none (s:=.sv _) Y T Y Y<|aI Y (bt (N:=N) (n:=4) (e:=(fQ N)))<|dn<|sr<|mv Y<|lE h λff kz h=>ln Y kz<|mv Y<|lE h λeY iX h=>ln Y iX<|lE h λdV jy h=>RT.max .none _ Y Y T (Ol (p:=ff) (q:=eY) jy)<|bE h λdN gH h=>RT.Lh (e:=(fQ N)) .none Y Y T Y T gH<|RT.alloc .none T Y Y<|RT.qO (cells:=[_]) .none Y Y Y Y T Y<|dn<|qq<|sr ?_
 refine mv Y<|mv Y<|cl (zK x0 x1) ⟨Y,Y,ak⟩<|dn<|bf<|bE h λsH hl5 ho5=>?_
 obtain⟨st5,hs5,ht5,hn5⟩:=vR hl5
 refine qR (zL x0 x1) (λ_ _ _ _ _=>trivial) Y (λk=>AS.cu 29 [(5,.ptr 5 0),(7,.ptr 7 0),(18,.sv (oN 165 [ref [slc 4 (List.map eQ x0)],ref [slc 4 (List.map eQ x1)]]))] [(7,⟨23,[.row 302]⟩),(5,⟨106,[.sv (oN 141 [ref [ay Ru,slc 1 (List.map bh Rv),ay Rw,slc 1 (List.map bh Rx)]])]⟩)] [(302,TR 43 4 (fQ N) (st5 k))]) [7,5] Y (λ_=>⟨Y,Y⟩) (CQ Y) (λ_=>Y) (CR Y) (by(try dsimp only);rw[hs5];(try dsimp only);exact cz (λi=>bif Nat.beq i 302 then 15 else i) Y Y Y Y Y ⟨.ptr,.ptr,.sv aq,ak⟩ ⟨⟨_,Y,⟨.row Y,ak⟩⟩,⟨_,Y,⟨.sv aq,ak⟩⟩,ak⟩ ⟨⟨_,Y,cg.refl _⟩,ak⟩ (λi hi=>by rw[bV (show i≠302 by omega)];rfl)) (λk hk D hD=>?_) ?_
 have h:=ht5 k hk
 obtain⟨sH,hsk⟩:∃q,st5 k=q:=⟨_,Y⟩
 rw[hsk]at h⊢
 dsimp only[AS.Z6,Cs]
 try dsimp only at h
 obtain⟨⟨⟨OY,OZ⟩,⟨O0,O1⟩⟩,afV,h⟩:=bS h
 rw[Option.some.inj afV]
 obtain⟨⟨⟨O2,O3⟩,⟨O4,O5⟩⟩,Wt,h⟩:=bS h
 rw[Option.some.inj Wt]
 refine sr<|al (cs:=[ay false,nw N au,ay false,nw N au]) (by exact⟨aq,bt,aq,bt,ak⟩) Y<|so Y Y Y<|dn<|aX<|al (cs:=[ay false,nw N au,ay false,nw N au]) (by exact⟨aq,bt,aq,bt,ak⟩) Y<|so Y Y Y<|RT.done ?_
 refine aW.n ⟨Y,?_⟩
 dsimp only[AS.Mk]
 refine bf<|aZ mixed<|RT.lf .none (s:=.row _) Y Y Y T<|lV Y Y Y<|ld Y Y (.k4 Y Y Y Y)<|ld Y Y (.k4 Y Y Y Y) ?_
 obtain⟨⟨⟨nu,mR⟩,⟨tX,tY⟩⟩,nN,h⟩:=bS h
 refine RT.ae4 (args:=[_,_]) (caps:=[_]) .none (C9 N nN) (Nat.le_trans hN hD) Y ⟨Y,Y,ak⟩ T<|bl (l:=[⟨⟨nu,mR⟩,⟨tX,tY⟩⟩]) (e:=(fQ N)) (.agg Y (.nil)) Y Y Y Y Y Y<|bE h λir oU h=>aR (k:=[⟨⟨nu,mR⟩,⟨tX,tY⟩⟩]) (e:=(fQ N)) Y Y Y oU<|RT.qO (cells:=[_]) .none Y Y Y Y T Y ?_
 refine RT.done ⟨by kernel_rfl,?_⟩
 refine bF.n ?_
 replace h:=Option.some.inj h
 refine⟨ak,Y,Y,?_⟩
 try dsimp only
 rw[←h]
 try dsimp only
 exact cz (λi=>bif Nat.beq i 302 then 27 else i) Y Y Y Y Y ⟨.ptr,.ptr,.sv aq,ak⟩ ⟨⟨_,Y,⟨.row Y,ak⟩⟩,⟨_,Y,⟨.sv aq,ak⟩⟩,ak⟩ ⟨⟨_,Y,cg.refl _⟩,ak⟩ (λi hi=>by rw[bV (show i≠302 by omega)];rfl)
 rw[hn5]
 try dsimp only
 refine bF.n<|aW.n<|sr<|RT.lf .none (s:=.row _) Y Y Y T<|an (s:=.row _) Y<|dn<|ku (i:=302) (E1:=43) (n:=4) (e:=(fQ N)) (l:=sH) hN (λ_ h=>h) Y<|aY ?_
 obtain rfl:=O ho5
 exact R1 Y
theorem Ry{x0:List Qr}{x1:List Qr}(N:Nat){r:List Qr}(h:yR x0 x1=some r):dB af 50 N [slc 4 (List.map eQ x0),slc 4 (List.map eQ x1)] (nw N (slc 4 (List.map (fQ N) r))):=by
 refine bT Tryz.func50 Y (ae Y) (λc9 M vs hN hvs=>?_)
 unfold yR at h
 refine sr<|aI Y (bt (N:=N) (n:=4) (e:=(fQ N)))<|dn<|sr<|mv Y<|mv Y<|bE h λx7 h7 h=>RT.bW .none (IQ N h7) hN Y ⟨Y,Y,Y,ak⟩ T<|ag Y<|dn<|aY ?_
 obtain rfl:=O h
 exact R1 Y
theorem D7{x0:Qr}{x1:List Qr}(N:Nat){r:List Qr}(h:nU x0 x1=some r):dB af 40 N [.agg (eQ x0),slc 4 (List.map eQ x1)] (nw N (slc 4 (List.map (fQ N) r))):=by
 obtain⟨⟨bn,bp⟩,⟨bB,bD⟩⟩:=x0
 refine bT Tryz.func40 Y (ae Y) (λc9 M vs hN hvs=>?_)
 unfold nU at h
 refine sr<|bx Y<|aI Y (bt (N:=N) (n:=4) (e:=(fQ N)))<|dn<|sr<|mv Y<|lE h λx9 h9 h=>ln Y h9<|bE h λdG fY h=>RT.vX (n:=4) (e:=(fQ N)) .none Y Y T Y T (by rfl) (by decide) (by exact⟨aq,bt,aq,bt,ak⟩) fY<|an (s:=.row _) Y<|dn<|qq<|sr<|mv Y<|lE h λc8 fI h=>ln Y fI<|mv Y<|dn<|bE h λe8 Kt AZ=>?_
 refine bJ (λ(wG:(List Qr))=>AS.cu 26 [(5,.row 10)] [] [(10,TR 43 4 (fQ N) wG)]) (λwG=>wG=e8) ?_ (λwG Ku=>?_)
 refine bf ?_
 refine bK Kt (λs8=>AS.cu 26 [(2,.ptr 2 0),(5,.row 10),(11,.sv (slc 4 (List.map eQ x1))),(12,ah c8),(13,ah s8.1)] [(2,⟨43,[ai bn,.sv (slc 1 (List.map bh bp)),ai bB,.sv (slc 1 (List.map bh bD))]⟩)] [(10,TR 43 4 (fQ N) s8.2)]) (wR []) (λs8 y8 G8 h Kv Kw=>?_)
 obtain⟨Be,Bf⟩:=s8
 try dsimp only
 refine sr<|lE h λdV jy h=>ls _ Y Y jy<|dn<|qq ?_
 cases dV
 refine cF<|bP<|aW.x<|aW.x<|bF.x<|aW.n ?_
 obtain rfl:=O (F h)
 exact⟨Bf,Kw _ Y,wR []⟩
 refine cT<|bu<|aW.n<|qq<|bf<|sr<|mv Y ?_
 obtain⟨⟨⟨qh,qi⟩,⟨Pb,Pc⟩⟩,kf,h⟩:=bS (V h)
 refine ix Y Y kf<|RT.gJ (cs:=[_,_,_,_]) .none Y T Y Y<|al (cs:=[ay false,nw N au,ay false,nw N au]) (by exact⟨aq,bt,aq,bt,ak⟩) Y<|ag Y<|so Y Y Y<|dn<|aX<|mo (s:=.row _) Y<|mv Y<|ld Y Y (.k4 Y Y Y Y)<|ld Y Y (.k4 Y Y Y Y) ?_
 obtain⟨⟨⟨wC,wD⟩,⟨wE,wF⟩⟩,oz,h⟩:=bS h
 refine RT.bW .none (Gn N oz) hN Y ⟨Y,Y,ak⟩ T<|bE h λgU oP h=>iR Y Y Y oP<|bE h λCe wc h=>sA ⟨⟨wC,wD⟩,⟨wE,wF⟩⟩ Y Y Y wc<|RT.done<|bF.n<|aW.n<|aX<|lE h λgV nF h=>ad _ Y Y nF<|mv Y<|RT.done ?_
 obtain rfl:=O h
 exact aW.n ⟨(gV,Ce),Kv _ Y,wR []⟩
 subst Ku
 try dsimp only
 refine aW.n<|sr<|mo (s:=.row _) Y<|an (s:=.row _) Y<|dn<|ku (i:=10) (E1:=43) (n:=4) (e:=(fQ N)) (l:=wG) hN (λ_ h=>h) Y<|aY ?_
 obtain rfl:=O AZ
 exact R1 Y
theorem MK{x0:Qr}{x1:List Qr}{r:List Qr}(h:nU x0 x1=some r):Pure af 40 [.agg (eQ x0),slc 4 (List.map eQ x1)] (slc 4 (List.map eQ r)):=eM (λN=>D7 N h) (λN=>Ur)
theorem yS{x0:Qr}{x1:List Qr}{x2:List Qr}(N:Nat){r:List Qr}(h:iY x0 x1 x2=some r):dB af 96 N [.agg (eQ x0),slc 4 (List.map eQ x1),slc 4 (List.map eQ x2)] (nw N (slc 4 (List.map (fQ N) r))):=by
 obtain⟨⟨bn,bp⟩,⟨bB,bD⟩⟩:=x0
 refine bT Tryz.func96 Y (ae Y) (λc9 M vs hN hvs=>?_)
 unfold iY at h
 refine sr<|bx Y<|aI Y (bt (N:=N) (n:=4) (e:=(fQ N)))<|dn ?_
 refine bU (lH (i:=3) Y [ay bn,slc 1 (List.map bh bp),ay bB,slc 1 (List.map bh bD)] (.k4 Y Y Y Y) .any 0 [(3,.sv (ref [ay bn,slc 1 (List.map bh bp),ay bB,slc 1 (List.map bh bD)]))] (λ_ _ _=>trivial) (yD.h (l:=[ay bn,slc 1 (List.map bh bp),ay bB,slc 1 (List.map bh bD)])) ⟨@FT.ptr _ _ _ _ _ 3 0 Y,ak⟩)<|sr<|mv Y<|mv Y<|RT.Fh (caps:=[_]) .none ⟨Y,ak⟩ T<|bE h λdG fY h=>?_
 refine RT.bW .none (D6 N fY) hN Y ⟨Y,Y,Y,ak⟩ T<|ag Y<|dn<|aY ?_
 obtain rfl:=O h
 exact R1 Y
theorem FA{x0:Qr}{x1:List Qr}{x2:List Qr}{r:List Qr}(h:iY x0 x1 x2=some r):Pure af 96 [.agg (eQ x0),slc 4 (List.map eQ x1),slc 4 (List.map eQ x2)] (slc 4 (List.map eQ r)):=eM (λN=>yS N h) (λN=>Ur)
theorem Bg{x0:List Qr}{x1:List Qr}{r:Int}(h:mZ x0 x1=some r):Pure af 88 [slc 4 (List.map eQ x0),slc 4 (List.map eQ x1)] (ax r):=by
 refine bj Tryz.func88 Y (ae Y) (λc9 M vs hvs=>?_)
 unfold mZ at h
 refine sr<|al (cs:=[ax 0]) (by exact⟨aq,ak⟩) Y<|dn<|qq<|sr<|mv Y<|mv Y<|cl (zK x0 x1) ⟨Y,Y,ak⟩<|dn<|bf<|bE h λe3 hl3 ho3=>?_
 obtain⟨m3,st3,hs3,ht3,hn3⟩:=Lj hl3
 refine ye (zL x0 x1) (λ_ _ _ _ _=>trivial) Y (λk=>AS.cu 19 [(4,.ptr 4 0),(10,.sv (oN 165 [ref [slc 4 (List.map eQ x0)],ref [slc 4 (List.map eQ x1)]]))] [(4,⟨3,[ah 0]⟩)] []) [4] Y (λ_=>⟨Y,Y⟩) (CQ Y) (λ_=>Y) (CR Y) (by(try dsimp only);(try dsimp only);exact cz id Y Y Y Y Y ⟨.ptr,.sv aq,ak⟩ ⟨⟨_,Y,⟨.sv aq,ak⟩⟩,ak⟩ trivial (λ_ _=>Y)) m3 (λk hk hkm D hD=>?_) (λhdn=>?_)
 obtain⟨y3,h,hG3,hE3⟩:=ht3 k hk hkm
 dsimp only[AS.Z6,Cs]
 try dsimp only at h
 obtain⟨⟨⟨acU,acV⟩,⟨acW,acX⟩⟩,aoz,h⟩:=bS h
 rw[Option.some.inj aoz]
 obtain⟨⟨⟨acY,acZ⟩,⟨ac0,ac1⟩⟩,aoA,h⟩:=bS h
 rw[Option.some.inj aoA]
 refine sr<|al (cs:=[ay false,au,ay false,au]) (by exact⟨aq,aB,aq,aB,ak⟩) Y<|so Y Y Y<|dn<|aX<|al (cs:=[ay false,au,ay false,au]) (by exact⟨aq,aB,aq,aB,ak⟩) Y<|so Y Y Y<|RT.done ?_
 refine aW.n ⟨Y,?_⟩
 dsimp only[AS.Mk]
 refine bf<|sr<|ld Y Y (.k4 Y Y Y Y)<|ld Y Y (.k4 Y Y Y Y)<|bE h λdN gH h=>cl (OX gH) ⟨Y,Y,ak⟩<|ag Y<|dn<|sr<|mv Y<|lE h λdR jK h=>ne _ Y Y (Le (p:=dN) (q:=0) jK)<|dn ?_
 cases dR
 refine cF<|bu<|bF.n ?_
 obtain rfl:=O (F h)
 obtain⟨hm3,hq3⟩:=hG3 _ Y
 exact⟨hm3,Y,Y,wR []⟩
 refine cT<|sr<|mv Y<|RT.zA (cells:=[_]) .none (s:=.sv _) Y Y Y T Y<|dn<|aY<|bF.r ?_
 obtain rfl:=O (V h)
 have he3:=hE3 _ Y
 subst he3
 refine⟨Y,Y,?_⟩
 refine bF.r<|aW.r ?_
 obtain rfl:=O ho3
 exact RZ (.one Y Y Y (.nil))
 have hd3:=hn3 hdn
 subst hd3
 obtain⟨ee3,afX⟩:∃q,st3 (max x0.length x1.length)=q:=⟨_,Y⟩
 rw[afX]at ho3
 try dsimp only
 refine bF.n<|aW.n<|sr<|RT.zA (cells:=[_]) .none (s:=.sv _) Y Y Y T Y<|dn<|aY ?_
 obtain rfl:=O ho3
 exact RZ (.one Y Y Y (.nil))
theorem Pf{x0:List Qr}{r:Int}(h:wH x0=some r):Pure af 91 [slc 4 (List.map eQ x0)] (ax r):=by
 refine bj Tryz.func91 Y (ae Y) (λc9 M vs hvs=>?_)
 unfold wH at h
 refine sr<|ag Y<|dn<|sr<|mv Y<|bE h λx4 h4 h=>cl ((Bg h4).w (args':=[_,_]) ⟨aq,aB,ak⟩) ⟨Y,Y,ak⟩<|ag Y<|dn<|aY ?_
 obtain rfl:=O h
 exact R1 Y
theorem mF{x0:List Qr}{x1:List Qr}{r:Bool}(h:gL x0 x1=some r):Pure af 37 [slc 4 (List.map eQ x0),slc 4 (List.map eQ x1)] (ay r):=by
 refine bj Tryz.func37 Y (ae Y) (λc9 M vs hvs=>?_)
 unfold gL at h
 refine sr<|ag Y<|dn<|sr<|mv Y<|mv Y<|bE h λx7 h7 h=>cl (Bg h7) ⟨Y,Y,ak⟩<|lE h λx8 h8 h=>eq _ Y Y (xj (p:=x7) (q:=0) h8)<|ag Y<|dn<|aY ?_
 obtain rfl:=O h
 exact R1 Y
theorem Cz{x0:List Qr}{x1:Int}(N:Nat){r:List Qr}(h:mE x0 x1=some r):dB af 47 N [slc 4 (List.map eQ x0),ax x1] (nw N (slc 4 (List.map (fQ N) r))):=by
 refine bT Tryz.func47 Y (ae Y) (λc9 M vs hN hvs=>?_)
 unfold mE at h
 refine sr<|aI Y (bt (N:=N) (n:=4) (e:=(fQ N)))<|dn<|qq<|sr<|mv Y<|lE h λx8 h8 h=>ls _ Y Y h8<|dn ?_
 cases x8
 refine fs<|sr<|mv Y<|lE (F h) λdG fY h=>RT.min .none _ Y Y T (V4 (p:=x1) (q:=65536) fY)<|bE h λff kz h=>RT.vX (n:=4) (e:=(fQ N)) .none Y Y T Y T (by rfl) (by decide) (by exact⟨aq,bt,aq,bt,ak⟩) kz<|an (s:=.row _) Y<|dn<|qq<|sr<|mv Y<|lE h λeY iX h=>ln Y iX<|mo (s:=.row _) Y<|lE h λdN gH h=>lL Y Y gH<|lE h λeX kf h=>?_
 refine RT.min .none _ Y Y T (V4 (p:=eY) (q:=dN) kf)<|mv Y<|dn<|bE h λe8 Kt AZ=>?_
 refine bJ (λ(IN:(List Qr))=>AS.cu 30 [(5,.row 11)] [] [(11,TR 43 4 (fQ N) IN)]) (λIN=>IN=e8) ?_ (λIN Ku=>?_)
 refine bf ?_
 refine bK Kt (λs8=>AS.cu 30 [(0,.sv (slc 4 (List.map eQ x0))),(5,.row 11),(16,ah eX),(17,ah s8.1)] [] [(11,TR 43 4 (fQ N) s8.2)]) (wR []) (λs8 y8 G8 h Kv Kw=>?_)
 obtain⟨Pd,Pe⟩:=s8
 try dsimp only
 refine sr<|lE h λeE jd h=>ls _ Y Y jd<|dn<|qq ?_
 cases eE
 refine cF<|bP<|aW.x<|aW.x<|bF.x<|aW.n ?_
 obtain rfl:=O (F h)
 exact⟨Pe,Kw _ Y,wR []⟩
 refine cT<|bu<|aW.n<|qq<|bf<|sr<|mv Y<|ag Y<|dn<|aX<|mo (s:=.row _) Y<|mv Y<|mv Y<|mv Y ?_
 obtain⟨⟨⟨kE,kF⟩,⟨qm,qo⟩⟩,nF,h⟩:=bS (V h)
 refine ix Y Y nF<|RT.gJ (cs:=[_,_,_,_]) .none Y T Y Y ?_
 obtain⟨⟨⟨Lw,Lx⟩,⟨Ly,Lz⟩⟩,qS,h⟩:=bS h
 refine RT.bW .none (nx N qS) hN Y ⟨Y,ak⟩ T<|bE h λir oU h=>iR Y Y Y oU<|bE h λCe wc h=>sA ⟨⟨Lw,Lx⟩,⟨Ly,Lz⟩⟩ Y Y Y wc<|RT.done<|bF.n<|aW.n<|aX<|lE h λlp vz h=>ad _ Y Y vz<|mv Y<|RT.done ?_
 obtain rfl:=O h
 exact aW.n ⟨(lp,Ce),Kv _ Y,wR []⟩
 subst Ku
 try dsimp only
 refine aW.n<|sr<|mo (s:=.row _) Y<|an (s:=.row _) Y<|dn<|ku (i:=11) (E1:=43) (n:=4) (e:=(fQ N)) (l:=IN) hN (λ_ h=>h) Y<|aY ?_
 obtain rfl:=O AZ
 exact R1 Y
 refine cT<|sr<|aI Y (bt (N:=N) (n:=4) (e:=(fQ N)))<|dn<|aY<|aW.r ?_
 obtain rfl:=O (V h)
 exact R1 Y
theorem KA{x0:List Qr}{x1:Int}{r:List Qr}(h:mE x0 x1=some r):Pure af 47 [slc 4 (List.map eQ x0),ax x1] (slc 4 (List.map eQ r)):=eM (λN=>Cz N h) (λN=>Ur)
theorem fN{x0:List Int}{r:List Qr}(h:dQ x0=some r):Pure af 54 [slc 1 (List.map bH x0)] (slc 4 (List.map eQ r)):=by
 refine bj Tryz.func54 Y (ae Y) (λc9 M vs hvs=>?_)
 unfold dQ at h
 refine sr<|aI Y (aB (n:=4) (e:=eQ))<|dn<|sr<|mv Y<|lE h λx7 h7 h=>ln Y h7<|bE h λx8 h8 h=>RT.vX (n:=4) (e:=eQ) .none Y Y T Y T (by rfl) (by decide) (by exact⟨aq,aB,aq,aB,ak⟩) h8<|an (s:=.row _) Y<|dn<|qq<|sr<|mv Y<|lE h λdG fY h=>ln Y fY<|mv Y<|dn<|bE h λe8 Kt AZ=>?_
 refine bJ (λ(C8:(List Qr))=>AS.cu 23 [(3,.row 8)] [] [(8,TR 43 4 eQ C8)]) (λC8=>C8=e8) ?_ (λC8 Ku=>?_)
 refine bf ?_
 refine bK Kt (λs8=>AS.cu 23 [(3,.row 8),(9,.sv (slc 1 (List.map bH x0))),(10,ah dG),(11,ah s8.1)] [] [(8,TR 43 4 eQ s8.2)]) (wR []) (λs8 y8 G8 h Kv Kw=>?_)
 obtain⟨tZ,IP⟩:=s8
 try dsimp only
 refine sr<|lE h λc8 fI h=>ls _ Y Y fI<|dn<|qq ?_
 cases c8
 refine cF<|bP<|aW.x<|aW.x<|bF.x<|aW.n ?_
 obtain rfl:=O (F h)
 exact⟨IP,Kw _ Y,wR []⟩
 refine cT<|bu<|aW.n<|qq<|bf<|sr<|mv Y<|bE (V h) λdV jy h=>ix Y Y jy<|lr Y Y<|ag Y<|ag Y<|dn<|aX<|mo (s:=.row _) Y<|mv Y<|mv Y ?_
 obtain⟨⟨⟨lM,lO⟩,⟨wI,wJ⟩⟩,lZ,h⟩:=bS h
 refine cl (nv lZ) ⟨Y,ak⟩<|bE h λgK oO h=>iR Y Y Y oO<|bE h λCe wc h=>sA ⟨⟨lM,lO⟩,⟨wI,wJ⟩⟩ Y Y Y wc<|RT.done<|bF.n<|aW.n<|aX<|lE h λgh kA h=>ad _ Y Y kA<|mv Y<|RT.done ?_
 obtain rfl:=O h
 exact aW.n ⟨(gh,Ce),Kv _ Y,wR []⟩
 subst Ku
 try dsimp only
 refine aW.n<|sr<|mo (s:=.row _) Y<|an (s:=.row _) Y<|dn<|bU (cP (i:=8) (E1:=43) (n:=4) (e:=eQ) (l:=C8) Y)<|aY ?_
 obtain rfl:=O AZ
 exact R1 Y
end
section
open Go.Fw
noncomputable def yT(x0:List (List Qr))(x1:Int):Option (List Qr):=cJ (λ(IS:Bool)=>(bif IS then some []else(cM x0 x1).bind λdN=>some dN)) λK3=>(some (decide ((x1:Int)<0))).bind λx6=>(bif x6 then some true else(some (x0.length:Int)).bind λdG=>(some (decide ((dG:Int)≤x1))).bind λff=>some ff).bind λPg=>K3 Pg
noncomputable def sI(x0:List (List Qr)):Option (Int):=(some (x0.length:Int)).bind λx7=>(b9 (λ(s6:Int×Int)=>match s6 with|⟨ua,aaD⟩=>(show Option ((Int×Int)⊕(Int))from(some (decide ((aaD:Int)<x7))).bind λx9=>(bif x9 then(cM x0 aaD).bind λdG=>(some (dG.length:Int)).bind λdV=>(some (max (ua:Int) dV)).bind λdN=>(some (IntKind.i64.wrap (aaD+1))).bind λeX=>some (.inl (dN,eX))else some (.inr ua)))) (0,0)).bind λyU=>some yU
noncomputable def Bh(x0:List (List Qr))(x1:Int)(x2:Int):Option (Qr):=(yT x0 x1).bind λdG=>cJ (λ(WU:Bool)=>(bif WU then some ⟨⟨false,[]⟩,⟨false,[]⟩⟩else(cM dG x2).bind λ⟨⟨wC,wD⟩,⟨wE,wF⟩⟩=>(dP ⟨⟨wC,wD⟩,⟨wE,wF⟩⟩).bind λ⟨⟨kE,kF⟩,⟨qm,qo⟩⟩=>some ⟨⟨kE,kF⟩,⟨qm,qo⟩⟩)) λK3=>(some (decide ((x2:Int)<0))).bind λc8=>(bif c8 then some true else(some (dG.length:Int)).bind λeX=>(some (decide ((eX:Int)≤x2))).bind λdR=>some dR).bind λac3=>K3 ac3
noncomputable def uc(x0:Qr)(x1:List (List Qr)):Option (List (List Qr)):=match x0 with|⟨⟨bn,bp⟩,⟨bB,bD⟩⟩=>(some (x1.length:Int)).bind λx9=>(Ka 24 x9 ([]:List Qr)).bind λdG=>(some (x1.length:Int)).bind λc8=>(b9 (λ(s8:Int×(List (List Qr)))=>match s8 with|⟨Be,Bf⟩=>(show Option ((Int×(List (List Qr)))⊕((List (List Qr))))from(some (decide ((Be:Int)<c8))).bind λdV=>(bif dV then(cM x1 Be).bind λeX=>(nU ⟨⟨bn,bp⟩,⟨bB,bD⟩⟩ eX).bind λiK=>(qg Bf Be).bind λgU=>(stM Bf gU iK).bind λCe=>(some (IntKind.i64.wrap (Be+1))).bind λgV=>some (.inl (gV,Ce))else some (.inr Bf)))) (0,dG)).bind λwG=>some wG
noncomputable def lQ(x0:List (List Int)):Option (List (List Qr)):=(some (x0.length:Int)).bind λx7=>(Ka 24 x7 ([]:List Qr)).bind λx8=>(some (x0.length:Int)).bind λdG=>(b9 (λ(s8:Int×(List (List Qr)))=>match s8 with|⟨tZ,IP⟩=>(show Option ((Int×(List (List Qr)))⊕((List (List Qr))))from(some (decide ((tZ:Int)<dG))).bind λc8=>(bif c8 then(cM x0 tZ).bind λdV=>(dQ dV).bind λjb=>(qg IP tZ).bind λgK=>(stM IP gK jb).bind λCe=>(some (IntKind.i64.wrap (tZ+1))).bind λgh=>some (.inl (gh,Ce))else some (.inr IP)))) (0,x8)).bind λC8=>some C8
end
section
open Go.Fw Go.Fw.Z Go.RowKit
theorem Rz{x0:List (List Qr)}{x1:Int}{r:List Qr}(h:yT x0 x1=some r):Pure af 139 [slc 1 (List.map (eS 4 eQ) x0),.v (.int .i64 x1)] (slc 4 (List.map eQ r)):=by
 refine bj Tryz.func139 Y (ae Y) (λc9 M vs hvs=>?_)
 unfold yT at h
 refine sr<|aI Y (aB (n:=4) (e:=eQ))<|dn<|qq<|qq ?_
 refine bL h (λj3=>AS.cu 17 [(0,.sv (slc 1 (List.map (eS 4 eQ) x0))),(1,.sv (.v (.int .i64 x1))),(12,.sv (.v (.bool j3)))] [] []) (λh=>?_) (λIS h=>?_)
 refine aX<|mv Y<|lE h λx6 h6 h=>ls _ Y Y h6<|mv Y<|bE h λPg r5 h=>?_
 cases x6
 refine gm Y<|gm Y<|lE (F r5) λdG fY r5=>gn Y fY<|lE r5 λff kz r5=>RT.geq (.some Y Y) _ Y Y T kz ?_
 obtain rfl:=O r5
 exact pF Y<|dn<|⟨ff,h,wR []⟩
 obtain rfl:=O (V r5)
 exact ww<|ww<|ww<|ww<|pT Y<|dn<|⟨true,h,wR []⟩
 try dsimp only
 refine aW.n ?_
 cases IS
 refine fs<|sr<|mv Y<|mv Y<|bE (F h) λdN gH h=>ix Y Y gH<|lr Y Y<|ag Y<|dn<|aY ?_
 obtain rfl:=O h
 exact R1 Y
 refine cT<|sr<|aI Y (aB (n:=4) (e:=eQ))<|dn<|aY<|aW.r ?_
 obtain rfl:=O (V h)
 exact R1 Y
theorem Gp{x0:List (List Qr)}{r:Int}(h:sI x0=some r):Pure af 84 [slc 1 (List.map (eS 4 eQ) x0)] (.v (.int .i64 r)):=by
 refine bj Tryz.func84 Y (ae Y) (λc9 M vs hvs=>?_)
 unfold sI at h
 refine sr<|ag Y<|dn<|sr<|ag Y<|dn<|qq<|sr<|mv Y<|lE h λx7 h7 h=>ln Y h7<|mv Y<|dn<|bE h λe6 uO je=>?_
 refine bJ (λ(yU:Int)=>AS.cu 18 [(3,.sv (.v (.int .i64 yU)))] [] []) (λyU=>yU=e6) ?_ (λyU uP=>?_)
 refine bf ?_
 refine bK uO (λs6=>AS.cu 18 [(3,.sv (.v (.int .i64 s6.1))),(6,.sv (slc 1 (List.map (eS 4 eQ) x0))),(7,.sv (.v (.int .i64 x7))),(8,.sv (.v (.int .i64 s6.2)))] [] []) (wR []) (λs6 y6 G6 h uQ pE=>?_)
 obtain⟨ua,aaD⟩:=s6
 try dsimp only
 refine sr<|lE h λx9 h9 h=>ls _ Y Y h9<|dn<|qq ?_
 cases x9
 refine cF<|bP<|aW.x<|aW.x<|bF.x<|aW.n ?_
 obtain rfl:=O (F h)
 exact⟨ua,pE _ Y,wR []⟩
 refine cT<|bu<|aW.n<|qq<|bf<|sr<|bE (V h) λdG fY h=>ix Y Y fY<|lr Y Y<|ag Y<|dn<|aX<|mv Y<|mv Y<|lE h λdV jy h=>ln Y jy<|lE h λdN gH h=>RT.max .none _ Y Y T (Ol (p:=ua) (q:=dV) gH)<|ag Y<|RT.done<|bF.n<|aW.n<|aX<|lE h λeX kf h=>ad _ Y Y kf<|mv Y<|RT.done ?_
 obtain rfl:=O h
 exact aW.n ⟨(dN,eX),uQ _ Y,wR []⟩
 subst uP
 try dsimp only
 refine aW.n<|sr<|mv Y<|ag Y<|dn<|aY ?_
 obtain rfl:=O je
 exact R1 Y
theorem UG{x0:List (List Qr)}{x1:Int}{x2:Int}{r:Qr}(h:Bh x0 x1 x2=some r):Pure af 103 [slc 1 (List.map (eS 4 eQ) x0),.v (.int .i64 x1),.v (.int .i64 x2)] (.agg (eQ r)):=by
 refine bj Tryz.func103 Y (ae Y) (λc9 M vs hvs=>?_)
 unfold Bh at h
 refine sr<|al (cs:=[.v (.bool false),slc 1 (List.map bh []),.v (.bool false),slc 1 (List.map bh [])]) (by exact⟨aq,aB,aq,aB,ak⟩) Y<|dn<|sr<|mv Y<|mv Y<|bE h λdG fY h=>cl (Rz fY) ⟨Y,Y,ak⟩<|ag Y<|dn<|qq<|qq ?_
 refine bL h (λj3=>AS.cu 25 [(2,.sv (.v (.int .i64 x2))),(6,.ptr 6 0),(7,.sv (slc 4 (List.map eQ dG))),(18,.sv (.v (.bool j3)))] [(6,⟨43,[.sv (.v (.bool false)),.sv (slc 1 (List.map bh [])),.sv (.v (.bool false)),.sv (slc 1 (List.map bh []))]⟩)] []) (λh=>?_) (λWU h=>?_)
 refine aX<|mv Y<|lE h λc8 fI h=>ls _ Y Y fI<|mv Y<|bE h λac3 r5 h=>?_
 cases c8
 refine gm Y<|gm Y<|lE (F r5) λeX kf r5=>gn Y kf<|lE r5 λdR jK r5=>RT.geq (.some Y Y) _ Y Y T jK ?_
 obtain rfl:=O r5
 exact pF Y<|dn<|⟨dR,h,wR []⟩
 obtain rfl:=O (V r5)
 exact ww<|ww<|ww<|ww<|pT Y<|dn<|⟨true,h,wR []⟩
 try dsimp only
 refine aW.n ?_
 cases WU
 refine fs<|sr<|mv Y<|mv Y ?_
 obtain⟨⟨⟨wC,wD⟩,⟨wE,wF⟩⟩,oz,h⟩:=bS (F h)
 refine ix Y Y oz<|RT.gJ (cs:=[_,_,_,_]) .none Y T Y Y ?_
 obtain⟨⟨⟨kE,kF⟩,⟨qm,qo⟩⟩,nF,h⟩:=bS h
 refine cl (xL nF) ⟨Y,ak⟩<|so Y Y Y<|dn<|aY ?_
 obtain rfl:=O h
 exact RZ (.agg Y Y (.cons Y (.cons Y (.cons Y (.cons Y (.nil))))) Y (.nil))
 refine cT<|sr<|bI (cs:=[_,_,_,_]) (cs':=[.v (.bool false),slc 1 (List.map bh []),.v (.bool false),slc 1 (List.map bh [])]) (.nil) ⟨aq,aB,aq,aB,ak⟩<|so Y Y Y<|dn<|aY<|aW.r ?_
 obtain rfl:=O (V h)
 exact RZ (.agg Y Y (.cons Y (.cons Y (.cons Y (.cons Y (.nil))))) Y (.nil))
theorem ML{x0:Qr}{x1:List (List Qr)}(N:Nat){r:List (List Qr)}(h:uc x0 x1=some r):dB af 119 N [.agg (eQ x0),slc 1 (List.map (eS 4 eQ) x1)] (nw N (slc 1 (List.map (fS N 4 (fQ N)) r))):=by
 obtain⟨⟨bn,bp⟩,⟨bB,bD⟩⟩:=x0
 refine bT Tryz.func119 Y (ae Y) (λc9 M vs hN hvs=>?_)
 unfold uc at h
 refine sr<|bx Y<|aI Y (bt (N:=N) (n:=1) (e:=(fS N 4 (fQ N))))<|dn<|sr<|mv Y<|lE h λx9 h9 h=>ln Y h9<|bE h λdG fY h=>RT.vX (n:=1) (e:=(fS N 4 (fQ N))) .none Y Y T Y T (by rfl) (by decide) (by exact⟨bt,ak⟩) fY<|an (s:=.row _) Y<|dn<|qq<|sr<|mv Y<|lE h λc8 fI h=>ln Y fI<|mv Y<|dn<|bE h λe8 Kt AZ=>?_
 refine bJ (λ(wG:(List (List Qr)))=>AS.cu 26 [(5,.row 10)] [] [(10,TR 23 1 (fS N 4 (fQ N)) wG)]) (λwG=>wG=e8) ?_ (λwG Ku=>?_)
 refine bf ?_
 refine bK Kt (λs8=>AS.cu 26 [(2,.ptr 2 0),(5,.row 10),(11,.sv (slc 1 (List.map (eS 4 eQ) x1))),(12,.sv (.v (.int .i64 c8))),(13,.sv (.v (.int .i64 s8.1)))] [(2,⟨43,[.sv (.v (.bool bn)),.sv (slc 1 (List.map bh bp)),.sv (.v (.bool bB)),.sv (slc 1 (List.map bh bD))]⟩)] [(10,TR 23 1 (fS N 4 (fQ N)) s8.2)]) (wR []) (λs8 y8 G8 h Kv Kw=>?_)
 obtain⟨Be,Bf⟩:=s8
 try dsimp only
 refine sr<|lE h λdV jy h=>ls _ Y Y jy<|dn<|qq ?_
 cases dV
 refine cF<|bP<|aW.x<|aW.x<|bF.x<|aW.n ?_
 obtain rfl:=O (F h)
 exact⟨Bf,Kw _ Y,wR []⟩
 refine cT<|bu<|aW.n<|qq<|bf<|sr<|mv Y<|bE (V h) λeX kf h=>ix Y Y kf<|lr Y Y<|ag Y<|ag Y<|dn<|aX<|mo (s:=.row _) Y<|mv Y<|ld Y Y (.cons Y (.cons Y (.cons Y (.cons Y (.nil)))))<|mv Y<|bE h λiK oz h=>RT.bW .none (D7 N oz) hN Y ⟨Y,Y,ak⟩ T<|bE h λgU oP h=>iR Y Y Y oP<|bE h λCe wc h=>sR iK Y Y Y Y wc ?_
 refine RT.done<|bF.n<|aW.n<|aX<|lE h λgV nF h=>ad _ Y Y nF<|mv Y<|RT.done ?_
 obtain rfl:=O h
 exact aW.n ⟨(gV,Ce),Kv _ Y,wR []⟩
 subst Ku
 try dsimp only
 refine aW.n<|sr<|mo (s:=.row _) Y<|an (s:=.row _) Y<|dn<|ku (i:=10) (E1:=23) (n:=1) (e:=(fS N 4 (fQ N))) (l:=wG) hN (λ_ h=>h) Y<|aY ?_
 obtain rfl:=O AZ
 exact R1 Y
theorem Am{x0:List (List Int)}{r:List (List Qr)}(h:lQ x0=some r):Pure af 100 [slc 1 (List.map (eS 1 bH) x0)] (slc 1 (List.map (eS 4 eQ) r)):=by
 refine bj Tryz.func100 Y (ae Y) (λc9 M vs hvs=>?_)
 unfold lQ at h
 refine sr<|aI Y (aB (n:=1) (e:=(eS 4 eQ)))<|dn<|sr<|mv Y<|lE h λx7 h7 h=>ln Y h7<|bE h λx8 h8 h=>RT.vX (n:=1) (e:=(eS 4 eQ)) .none Y Y T Y T (by rfl) (by decide) (by exact⟨aB,ak⟩) h8<|an (s:=.row _) Y<|dn<|qq<|sr<|mv Y<|lE h λdG fY h=>ln Y fY<|mv Y<|dn<|bE h λe8 Kt AZ=>?_
 refine bJ (λ(C8:(List (List Qr)))=>AS.cu 23 [(3,.row 8)] [] [(8,TR 23 1 (eS 4 eQ) C8)]) (λC8=>C8=e8) ?_ (λC8 Ku=>?_)
 refine bf ?_
 refine bK Kt (λs8=>AS.cu 23 [(3,.row 8),(9,.sv (slc 1 (List.map (eS 1 bH) x0))),(10,.sv (.v (.int .i64 dG))),(11,.sv (.v (.int .i64 s8.1)))] [] [(8,TR 23 1 (eS 4 eQ) s8.2)]) (wR []) (λs8 y8 G8 h Kv Kw=>?_)
 obtain⟨tZ,IP⟩:=s8
 try dsimp only
 refine sr<|lE h λc8 fI h=>ls _ Y Y fI<|dn<|qq ?_
 cases c8
 refine cF<|bP<|aW.x<|aW.x<|bF.x<|aW.n ?_
 obtain rfl:=O (F h)
 exact⟨IP,Kw _ Y,wR []⟩
 refine cT<|bu<|aW.n<|qq<|bf<|sr<|mv Y<|bE (V h) λdV jy h=>ix Y Y jy<|lr Y Y<|ag Y<|ag Y<|dn<|aX<|mo (s:=.row _) Y<|mv Y<|mv Y<|bE h λjb lZ h=>cl (fN lZ) ⟨Y,ak⟩<|bE h λgK oO h=>iR Y Y Y oO<|bE h λCe wc h=>sR jb Y Y Y Y wc<|RT.done<|bF.n<|aW.n<|aX<|lE h λgh kA h=>ad _ Y Y kA ?_
 refine mv Y<|RT.done ?_
 obtain rfl:=O h
 exact aW.n ⟨(gh,Ce),Kv _ Y,wR []⟩
 subst Ku
 try dsimp only
 refine aW.n<|sr<|mo (s:=.row _) Y<|an (s:=.row _) Y<|dn<|bU (cP (i:=8) (E1:=23) (n:=1) (e:=(eS 4 eQ)) (l:=C8) Y)<|aY ?_
 obtain rfl:=O AZ
 exact R1 Y
end
end Go.Proofs.YtningmnklfpfjaaGreat
namespace Go.Fw
section
open Go.RowKit
def pU:List (Nat×Row×Value)→(Nat→Value)→Nat→Value
 |[],ν,j=>ν j
 |(k,_,v)::l,ν,j=>if j=k then v else pU l ν j
theorem ud{ν:Nat→Value}:∀{l:List (Nat×Row×Value)} {j:Nat},(∀R v,(j,R,v)∉l)→pU l ν j=ν j
 |[],_,_=>rfl
 |(k,R,v)::l,j,h=>by
  have:j≠k:=λe=>h R v (by rw[e];simp)
  rw[pU,if_neg this]
  exact ud (λR v hm=>h R v (List.mem_cons_of_mem _ hm))
theorem mS{ν:Nat→Value}:∀{l:List (Nat×Row×Value)} {j:Nat} {R:Row} {v:Value},(l.map (·.1)).Nodup→(j,R,v)∈l→pU l ν j=v
 |(k,R',v')::l,j,R,v,hn,h=>by
  rw[List.map_cons,List.nodup_cons]at hn
  rcases List.mem_cons.1 h with e|e
  ·cases e;rw[pU,if_pos rfl]
  ·have:j≠k:=λq=>hn.1 (List.mem_map.2 ⟨(j,R,v),e,q⟩)
   rw[pU,if_neg this];exact mS hn.2 e
def D8(olds:List Nat)(news:List (Nat×Row×Value)):List (Nat×qG):=olds.map (λj=>(j,.dead))++news.map (λn=>(n.1,.live n.2.1))
theorem zM:∀(l k:List (Nat×qG)) (j:Nat),fB (l++k) j=match fB k j with|some R=>some R|none=>fB l j
 |[],k,j=>by cases h:fB k j<;>simp[h,fB]
 |(i,R)::l,k,j=>by
  rw[List.cons_append,fB,fB,zM l k j]
  cases h:fB k j<;>simp
theorem Da{l:List (Nat×qG)}{j:Nat}(h:∀R,(j,R)∉l):fB l j=none:=by
 induction l with
 |nil=>rfl
 |cons p l ih=>
  obtain⟨i,R⟩:=p
  rw[fB,ih (λR hm=>h R (List.mem_cons_of_mem _ hm))]
  have:j≠i:=λe=>h R (by rw[e];simp)
  simp[this]
theorem Db{l:List (Nat×qG)}{j:Nat}{R:qG}(h:fB l j=some R):(j,R)∈l:=by
 induction l with
 |nil=>cases h
 |cons p l ih=>
  obtain⟨i,R'⟩:=p
  rw[fB]at h
  cases e:fB l j with
  |some R2=>rw[e]at h;cases h;exact List.mem_cons_of_mem _ (ih e)
  |none=>
   rw[e]at h
   by_cases q:j=i
   ·subst q;simp at h;subst h;simp
   ·simp[q]at h
theorem IT{l:List (Nat×qG)}{j:Nat}{R:qG}(h:(j,R)∈l):∃R',fB l j=some R':=by
 induction l with
 |nil=>cases h
 |cons p l ih=>
  obtain⟨i,R'⟩:=p
  rw[fB]
  rcases List.mem_cons.1 h with e|e
  ·cases e
   cases q:fB l j with
   |some R2=>exact⟨R2,Y⟩
   |none=>exact⟨R,by simp⟩
  ·obtain⟨R2,h2⟩:=ih e
   exact⟨R2,by rw[h2]⟩
section swap
variable {C:Ctx}{S:AS}
theorem bz.ajU{E:Env}{a:Act}{w w':World}(h:bz C S E a w){i:Nat}{T:TypeId}{cells cells':List AV}{us':List Value}{M':Mem}(hB:S.b i=some ⟨T,cells⟩)(olds:List Nat)(news:List (Nat×Row×Value))
  (hold:∀j∈olds,∃R,S.r j=.live R) (hnew:∀k R v,(k,R,v)∈news→S.r k=.un∧k<1000) (hnd:(news.map (·.1)).Nodup)
  (hM:E.M.le M') (hmn:∀b o x,M' b o=some x→E.M b o=some x∨w.heap.size≤b∨∃j∈olds,(E.ν j).ownBlock=some b) (hin:M'.ef w')
  (aoE:w'.heap[E.β i]? =some (.cells ⟨us'⟩ T (0,0))) (hnb:∀o,M' (E.β i) o=none) (CM:ei {E with M:=M',ν:=pU news E.ν} cells' us')
  (hcb:∀x∈cells',(∀j,¬x.mb j)∧∀j,x.mr j→∃R v,(j,R,v)∈news)
  (hrow:∀k R v,(k,R,v)∈news→(∃vs:List Value,w'.ownsRow 0 R.E R.sz v R.n vs∧SV.fX M' R.cells vs)∧∀g,v.ownBlock=some g→((∃j∈olds,(E.ν j).ownBlock=some g)∨w.heap.size≤g)∧(∀o,M' g o=none)∧g≠E.β i)
  (ajV:∀k R v k' R' v' g,(k,R,v)∈news→(k',R',v')∈news→v.ownBlock=some g→v'.ownBlock=some g→k=k')
  (hos:w'.os=w.os) (yV:w'.tape=w.tape) (hout:w'.output=w.output) (hsize:w.heap.size≤w'.heap.size)
  (pM:∀k,k<w.heap.size→k≠E.β i→(∀j∈olds,(E.ν j).ownBlock≠some k)→w'.heap[k]? =w.heap[k]?):
  bz C (AS.cL (D8 olds news) (AS.iO [(i,⟨T,cells'⟩)] S)) {E with M:=M',ν:=pU news E.ν} a w':=by
 obtain⟨UH,aoF,aaE,ZA,UI,_⟩:=h.bx i _ hB
 have asY:E.β i<w.heap.size:=(Array.getElem?_eq_some_iff.1 UI).1
 obtain⟨n1,n2,n3,n4,n5⟩:=ij (D8 olds news) (AS.iO [(i,⟨T,cells'⟩)] S)
 have tOf:(AS.cL (D8 olds news) (AS.iO [(i,⟨T,cells'⟩)] S)).t=S.t:=n2
 have GH:∀j,(AS.cL (D8 olds news) (AS.iO [(i,⟨T,cells'⟩)] S)).b j=if j=i then some ⟨T,cells'⟩else S.b j:=λj=>by
  rw[n3]
  by_cases e:j=i
  ·subst e;rw[if_pos rfl];exact AS.dO _ _ _
  ·rw[if_neg e];exact AS.cG _ _ _ _ e
 have ajW:∀k R v,(k,R,v)∈news→fB (news.map (λn=>(n.1,qG.live n.2.1))) k=some (.live R):=λk R v hm=>by
  obtain⟨R',uZ⟩:=IT (l:=news.map (λn=>(n.1,qG.live n.2.1))) (j:=k) (R:=.live R) (List.mem_map.2 ⟨(k,R,v),hm,Y⟩)
  obtain⟨⟨k2,R2,v2⟩,VA,e⟩:=List.mem_map.1 (Db uZ)
  have e1:k2=k:=congrArg Prod.fst e
  have e2:qG.live R2=R':=congrArg Prod.snd e
  rw[e1]at VA
  have:R2=R:=by
   have key:∀(l:List (Nat×Row×Value)),(l.map (·.1)).Nodup→(k,R2,v2)∈l→(k,R,v)∈l→R2=R:=by
    intro l
    induction l with
    |nil=>intro _ h;cases h
    |cons p l ih=>
     intro hn h1 h2
     rw[List.map_cons,List.nodup_cons]at hn
     rcases List.mem_cons.1 h1 with e1|e1<;>rcases List.mem_cons.1 h2 with e2|e2
     ·rw[←e1]at e2;cases e2;rfl
     ·exact absurd (List.mem_map.2 ⟨_,e2,by rw[←e1]⟩) hn.1
     ·exact absurd (List.mem_map.2 ⟨_,e1,by rw[←e2]⟩) hn.1
     ·exact ih hn.2 e1 e2
   exact key news hnd VA hm
  rw[uZ,←e2,this]
 have ajX:∀k R v,(k,R,v)∈news→(AS.cL (D8 olds news) (AS.iO [(i,⟨T,cells'⟩)] S)).r k=.live R:=λk R v hm=>by
  rw[pA,D8,zM,ajW k R v hm];rfl
 have ajY:∀j,(∀R v,(j,R,v)∉news)→(AS.cL (D8 olds news) (AS.iO [(i,⟨T,cells'⟩)] S)).r j=if j∈olds then .dead else S.r j:=λj hn=>by
  have e1:fB (news.map (λn=>(n.1,qG.live n.2.1))) j=none:=Da (λR hm=>by
   obtain⟨⟨k2,R2,v2⟩,VA,e⟩:=List.mem_map.1 hm
   cases e;exact hn R2 v2 VA)
  rw[pA,D8,zM,e1]
  by_cases ho:j∈olds
  ·rw[if_pos ho]
   obtain⟨R',uZ⟩:=IT (l:=olds.map (λj=>(j,qG.dead))) (j:=j) (R:=.dead) (List.mem_map.2 ⟨j,ho,Y⟩)
   obtain⟨j2,_,e⟩:=List.mem_map.1 (Db uZ)
   cases e
   rw[uZ];rfl
  ·rw[if_neg ho,Da (λR hm=>by obtain⟨j2,VA,e⟩:=List.mem_map.1 hm;cases e;exact ho VA)];rfl
 have WV:∀j,S.r j≠ .un→∀R v,(j,R,v)∉news:=λj hj R v hm=>hj (hnew j R v hm).1
 have rne:∀j,S.r j≠ .un→(AS.cL (D8 olds news) (AS.iO [(i,⟨T,cells'⟩)] S)).r j≠ .un:=λj hj=>by
  rw[ajY j (WV j hj)]
  split
  ·simp
  ·exact hj
 have FB:∀j∈olds,∀g,(E.ν j).ownBlock=some g→(C.w0.heap.size≤g∨C.BP g)∧(∀o,E.M g o=none)∧¬E.O g∧(∀n B,S.b n=some B→E.β n≠g)∧g<w.heap.size∧∃c e,w.heap[g]? =some (Obj.cells c e (0,0)):=λj hj g hg=>by
  obtain⟨R,hR⟩:=hold j hj
  obtain⟨⟨us,q1,_⟩,q2⟩:=h.rx j R hR
  obtain⟨q3,q4,q5,q6⟩:=q2 g hg
  refine⟨q3,q4,q5,q6,nH h hR hg,?_⟩
  rcases q1.2 with⟨q7,_⟩|⟨g',cap,cur,q7,_,q8,_⟩
  ·rw[q7]at hg;cases hg
  ·rw[q7]at hg;cases hg;exact⟨_,_,q8⟩
 have keep:∀x:AV,(∀j,x.mr j→S.r j≠ .un)→∀v,x.holds E v→x.holds {E with M:=M',ν:=pU news E.ν} v:=λx hx v hv=>
  AV.dL (E:=E) (E':={E with M:=M',ν:=pU news E.ν}) hM (λ_ _=>Y) (λj hj=>ud (WV j (hx j hj))) hv
 have noM:∀b,b<w.heap.size→(∀o,E.M b o=none)→(∀j∈olds,(E.ν j).ownBlock≠some b)→∀o,M' b o=none:=λb h1 h2 h3 o=>by
  cases e:M' b o with
  |none=>rfl
  |some v=>
   rcases hmn b o v e with q|q|⟨j,q1,q2⟩
   ·rw[h2 o]at q;cases q
   ·omega
   ·exact absurd q2 (h3 j q1)
 have live:∀j R,(AS.cL (D8 olds news) (AS.iO [(i,⟨T,cells'⟩)] S)).r j=.live R→(∃v,(j,R,v)∈news)∨((∀R v,(j,R,v)∉news)∧j∉olds∧S.r j=.live R):=λj R hj=>by
  by_cases hn:∃R v,(j,R,v)∈news
  ·obtain⟨R',v,hm⟩:=hn
   rw[ajX j R' v hm]at hj;cases hj;exact .inl ⟨v,hm⟩
  ·have hn:∀R v,(j,R,v)∉news:=λR v hm=>hn ⟨R,v,hm⟩
   rw[ajY j hn]at hj
   by_cases ho:j∈olds
   ·rw[if_pos ho]at hj;cases hj
   ·rw[if_neg ho]at hj;exact .inr ⟨hn,ho,hj⟩
 have oth:∀j R,S.r j=.live R→j∉olds→∀g,(E.ν j).ownBlock=some g→∀j'∈olds,(E.ν j').ownBlock≠some g:=λj R hR ho g hg j' hj' e=>by
  obtain⟨R',uZ⟩:=hold j' hj'
  have:=h.iL j j' R R' hR uZ g hg e
  subst this;exact ho hj'
 exact{
  wf:=by
   refine⟨λs j hj=>?_,λs j hj=>?_,λj B iP x hx m hm=>?_,λj B iP x hx m hm=>?_⟩
   ·rw[tOf]at hj
    obtain⟨B,iP⟩:=h.wf.tb s j hj
    rw[GH]
    by_cases e:j=i
    ·exact⟨_,if_pos e⟩
    ·exact⟨B,by rw[if_neg e];exact iP⟩
   ·rw[tOf]at hj
    exact rne j (h.wf.tr s j hj)
   ·rw[GH]at iP⊢
    by_cases e:j=i
    ·rw[if_pos e]at iP;cases iP;exact absurd hm ((hcb x hx).1 m)
    ·rw[if_neg e]at iP
     obtain⟨B2,hB2⟩:=h.wf.bb j B iP x hx m hm
     by_cases e2:m=i
     ·exact⟨_,if_pos e2⟩
     ·exact⟨B2,by rw[if_neg e2];exact hB2⟩
   ·rw[GH]at iP
    by_cases e:j=i
    ·rw[if_pos e]at iP;cases iP
     obtain⟨R,v,VA⟩:=(hcb x hx).2 m hm
     rw[ajX m R v VA];simp
    ·rw[if_neg e]at iP;exact rne m (h.wf.br j B iP x hx m hm)
  marks:=by
   obtain⟨ds,d1,d2,d3⟩:=h.marks
   refine⟨ds,d1,d2,λr hr=>?_⟩
   obtain⟨p1,p2,p3⟩:=d3 r hr
   refine⟨p1,p2,?_⟩
   rw[pM r (Array.getElem?_eq_some_iff.1 p3).1 (λe=>by rw[e,UI]at p3;cases p3) (λj hj e=>by
    obtain⟨_,_,_,_,_,c,e2,q⟩:=FB j hj r e
    rw[q]at p3;cases p3)]
   exact p3
  size:=by rw[n1];exact h.size
  os:=hos.trans h.os
  tape:=yV.trans h.tape
  output:=hout.trans h.output
  grown:=Nat.le_trans h.grown hsize
  frame:=λk hk hown=>by
   rw[pM k (Nat.lt_of_lt_of_le hk h.grown) (λe=>by
    rcases UH with q|q
    ·omega
    ·exact hown (C.Ke _ (by rw[e];exact q))) (λj hj e=>by
    rcases(FB j hj k e).1 with q|q
    ·omega
    ·exact hown (C.Ke _ q))]
   exact h.frame k hk hown
  m0:=Mem.le_trans h.m0 hM
  gE:=λb o v e=>by
   rcases hmn b o v e with q|q|⟨j,q1,q2⟩
   ·exact h.gE b o v q
   ·exact .inr (.inl (Nat.le_trans h.grown q))
   ·rcases(FB j q1 b q2).1 with q|q
    ·exact .inr (.inl q)
    ·exact .inr (.inr (C.Ke _ q))
  ef:=hin
  tm:=λs=>by rw[tOf];exact keep _ (h.wf.tr s) _ (h.tm s)
  bx:=λj B iP=>by
   rw[GH]at iP
   by_cases e:j=i
   ·rw[if_pos e]at iP;cases iP;subst e
    exact⟨UH,hnb,aaE,us',aoE,CM⟩
   ·rw[if_neg e]at iP
    obtain⟨p1,p2,p3,vs,p4,p5⟩:=h.bx j B iP
    have hlt:=(Array.getElem?_eq_some_iff.1 p4).1
    have hno:∀j'∈olds,(E.ν j').ownBlock≠some (E.β j):=λj' hj' q=>(FB j' hj' _ q).2.2.2.1 j B iP Y
    refine⟨p1,noM _ hlt p2 hno,p3,vs,?_,p5.imp (λx hx v hv=>keep x (h.wf.br j B iP x hx) v hv)⟩
    show w'.heap[E.β j]? =_
    rw[pM _ hlt (λq=>e (h.inj j i B _ iP hB q)) hno];exact p4
  inj:=λj j' B B' h1 h2 e=>by
   have key:∀n B,(AS.cL (D8 olds news) (AS.iO [(i,⟨T,cells'⟩)] S)).b n=some B→∃B',S.b n=some B':=λn B hn=>by
    rw[GH]at hn
    by_cases e:n=i
    ·subst e;exact⟨_,hB⟩
    ·rw[if_neg e]at hn;exact⟨B,hn⟩
   obtain⟨B1,p1⟩:=key j B h1
   obtain⟨B2,p2⟩:=key j' B' h2
   exact h.inj j j' B1 B2 p1 p2 e
  rx:=λj R hj=>by
   have boxes:∀g,(∀n B,S.b n=some B→E.β n≠g)→∀n B,(AS.cL (D8 olds news) (AS.iO [(i,⟨T,cells'⟩)] S)).b n=some B→E.β n≠g:=λg hg n B hn=>by
    rw[GH]at hn
    by_cases e:n=i
    ·subst e;exact hg _ _ hB
    ·rw[if_neg e]at hn;exact hg n B hn
   rcases live j R hj with⟨v,hm⟩|⟨hn,ho,hR⟩
   ·rw[show({E with M:=M',ν:=pU news E.ν}:Env).ν j=v from mS hnd hm]
    obtain⟨p1,p2⟩:=hrow j R v hm
    refine⟨p1,λg hg=>?_⟩
    obtain⟨p3,p4,p5⟩:=p2 g hg
    rcases p3 with⟨j',q1,q2⟩|p3
    ·obtain⟨o1,o2,o3,o4,_⟩:=FB j' q1 g q2
     exact⟨o1,p4,o3,boxes g o4⟩
    ·refine⟨.inl (Nat.le_trans h.grown p3),p4,λq=>?_,boxes g (λn B hn q=>?_)⟩
     ·have:=(h.qf g q).1;omega
     ·obtain⟨_,_,_,vs,q4,_⟩:=h.bx n B hn
      have:=(Array.getElem?_eq_some_iff.1 q4).1
      omega
   ·rw[show({E with M:=M',ν:=pU news E.ν}:Env).ν j=E.ν j from ud hn]
    obtain⟨⟨us,p1,p2⟩,p3⟩:=h.rx j R hR
    refine⟨⟨us,eT p1 λg hg=>pM g (nH h hR hg) (λe=>(p3 g hg).2.2.2 i _ hB e.symm) (oth j R hR ho g hg),p2.mono hM⟩,λg hg=>?_⟩
    obtain⟨p4,p5,p6,p7⟩:=p3 g hg
    exact⟨p4,noM g (nH h hR hg) p5 (oth j R hR ho g hg),p6,boxes g p7⟩
  iL:=λj j' R R' h1 h2 g e1 e2=>by
   have mixed:∀j R v j' R' g,(j,R,v)∈news→S.r j'=.live R'→j'∉olds→v.ownBlock=some g→(E.ν j').ownBlock=some g→False:=λj R v j' R' g hm uZ ho e1 e2=>by
    rcases((hrow j R v hm).2 g e1).1 with⟨j2,q1,q2⟩|q
    ·exact oth j' R' uZ ho g e2 j2 q1 q2
    ·have:=nH h uZ e2;omega
   rcases live j R h1 with⟨v,hm⟩|⟨hn,ho,hR⟩<;>rcases live j' R' h2 with⟨v',hm'⟩|⟨hn',ho',uZ⟩
   ·rw[show({E with M:=M',ν:=pU news E.ν}:Env).ν j=v from mS hnd hm]at e1
    rw[show({E with M:=M',ν:=pU news E.ν}:Env).ν j'=v' from mS hnd hm']at e2
    exact ajV j R v j' R' v' g hm hm' e1 e2
   ·rw[show({E with M:=M',ν:=pU news E.ν}:Env).ν j=v from mS hnd hm]at e1
    rw[show({E with M:=M',ν:=pU news E.ν}:Env).ν j'=E.ν j' from ud hn']at e2
    exact(mixed j R v j' R' g hm uZ ho' e1 e2).elim
   ·rw[show({E with M:=M',ν:=pU news E.ν}:Env).ν j=E.ν j from ud hn]at e1
    rw[show({E with M:=M',ν:=pU news E.ν}:Env).ν j'=v' from mS hnd hm']at e2
    exact(mixed j' R' v' j R g hm' hR ho e2 e1).elim
   ·rw[show({E with M:=M',ν:=pU news E.ν}:Env).ν j=E.ν j from ud hn]at e1
    rw[show({E with M:=M',ν:=pU news E.ν}:Env).ν j'=E.ν j' from ud hn']at e2
    exact h.iL j j' R R' hR uZ g e1 e2
  kU:=h.kU
  gj:=λk v e=>by
   rw[show({E with M:=M',ν:=pU news E.ν}:Env).ν k=E.ν k from ud (λR v hm=>by have:=(hnew k R v hm).2;have:=C.Uf k _ e;omega)]
   exact h.gj k v e
  qf:=λb hb=>by
   obtain⟨p1,p2,p3⟩:=h.qf b hb
   exact⟨Nat.lt_of_lt_of_le p1 hsize,noM b p1 p2 (λj hj e=>(FB j hj b e).2.2.1 hb),p3⟩
  jj:=by
   have hj:=C.jf S.g S.go E.O E.M M' w w' h.jj hM hin (λb o v e=>by
    rcases hmn b o v e with q|q|⟨j,q1,q2⟩
    ·exact .inl q
    ·exact .inr ⟨.inl (Nat.le_trans h.grown q),λq2=>by have:=(h.qf b q2).1;omega⟩
    ·obtain⟨o1,_,o3,_⟩:=FB j q1 b q2
     exact .inr ⟨o1,o3⟩) (λb hb=>by
    have hlt:b<w.heap.size∨w.heap.size≤b:=Nat.lt_or_ge _ _
    have hb':b<w.heap.size:=by
     rcases hb with⟨q,_⟩|q
     ·exact Nat.lt_of_lt_of_le q h.grown
     ·exact(h.qf b q).1
    refine pM b hb' (λe=>?_) (λj hj e=>?_)
    ·subst e
     rcases hb with⟨q1,q2⟩|q
     ·rcases UH with p|p
      ·omega
      ·exact q2 p
     ·exact aaE q
    ·obtain⟨o1,_,o3,_⟩:=FB j hj b e
     rcases hb with⟨q1,q2⟩|q
     ·rcases o1 with p|p
      ·omega
      ·exact q2 p
     ·exact o3 q) hos yV hout hsize
   rw[n4,n5];exact hj}
end swap
end
section
open Go.RowKit
inductive Oc where
 |s (x:SV)
 |r (R:Row)
def xM(M:Mem)(w:World):List Oc→List Value→Prop
 |[],[]=>True
 |.s x::l,v::vs=>x.h M v∧xM M w l vs
 |.r R::l,v::vs=>(∃us:List Value,w.ownsRow 0 R.E R.sz v R.n us∧SV.fX M R.cells us)∧xM M w l vs
 |_,_=>False
def rowsOf:List Oc→List Row
 |[]=>[]
 |.s _::l=>rowsOf l
 |.r R::l=>R::rowsOf l
def cS:List Oc→List Value→List (Row×Value)
 |.s _::l,_::vs=>cS l vs
 |.r R::l,v::vs=>(R,v)::cS l vs
 |_,_=>[]
def fj(c:List Oc)(us:List Value)(g:Nat):Prop:=∃p∈cS c us,p.2.ownBlock=some g
def cX:List Nat→List Oc→List AV
 |ids,.s x::l=>.sv x::cX ids l
 |i::ids,.r _::l=>.row i::cX ids l
 |[],.r _::l=>.sv .any::cX [] l
 |_,[]=>[]
def S8(l:List (Row×Value)):Prop:=l.Pairwise λp q=>∀g,p.2.ownBlock=some g→q.2.ownBlock≠some g
structure xN (M:Mem) (w:World) (β:Nat) (T:TypeId) (c:List Oc) (us:List Value):Prop where
 hp:w.heap[β]? =some (.cells ⟨us⟩ T (0,0))
 al:xM M w c us
 nb:∀o,M β o=none
 nr:∀g,fj c us g→g≠β∧∀o,M g o=none
 ap:S8 (cS c us)
theorem l8{M:Mem}{w:World}:∀{c:List Oc} {us:List Value},xM M w c us→(cS c us).map (·.1)=rowsOf c
 |[],[],_=>rfl
 |.s _::l,_::vs,h=>l8 (c:=l) (us:=vs) h.2
 |.r R::l,v::vs,h=>congrArg (R:: ·) (l8 (c:=l) (us:=vs) h.2)
 |[],_::_,h=>h.elim
 |.s _::_,[],h=>h.elim
 |.r _::_,[],h=>h.elim
theorem pV{M:Mem}{w:World}:∀{c:List Oc} {us:List Value},xM M w c us→∀p∈cS c us,∃vs:List Value,w.ownsRow 0 p.1.E p.1.sz p.2 p.1.n vs∧SV.fX M p.1.cells vs
 |[],[],_,p,hp=>by cases hp
 |.s _::l,_::vs,h,p,hp=>pV (c:=l) (us:=vs) h.2 p hp
 |.r R::l,v::vs,h,p,hp=>by
  rcases List.mem_cons.1 hp with rfl|hp
  ·exact h.1
  ·exact pV (c:=l) (us:=vs) h.2 p hp
 |[],_::_,h,_,_=>h.elim
 |.s _::_,[],h,_,_=>h.elim
 |.r _::_,[],h,_,_=>h.elim
theorem ny{α β:Type}:∀{l:List α} {k:List β} {a:α} {b:β},(a,b)∈l.zip k→a∈l∧b∈k
 |_::_,_::_,_,_,h=>by
  rw[List.zip_cons_cons]at h
  rcases List.mem_cons.1 h with e|e
  ·cases e;simp
  ·have:=ny e;exact⟨List.mem_cons_of_mem _ this.1,List.mem_cons_of_mem _ this.2⟩
 |[],_,_,_,h=>by simp at h
 |_::_,[],_,_,h=>by simp at h
theorem Hy{α β:Type}:∀{l:List α} {k:List β},l.length=k.length→(l.zip k).map (·.1)=l
 |[],[],_=>rfl
 |_::l,_::k,h=>by rw[List.zip_cons_cons,List.map_cons,Hy (by simpa using h)]
 |[],_::_,h=>by simp at h
 |_::_,[],h=>by simp at h
theorem FC:∀{ids:List Nat} {l:List (Row×Value)},ids.Nodup→S8 l→∀k R v k' R' v' g,(k,R,v)∈ids.zip l→(k',R',v')∈ids.zip l→v.ownBlock=some g→v'.ownBlock=some g→k=k'
 |i::ids,p::l,hn,ha,k,R,v,k',R',v',g,h1,h2,e1,e2=>by
  rw[List.zip_cons_cons]at h1 h2
  rw[List.nodup_cons]at hn
  obtain⟨ha1,ha2⟩:=List.pairwise_cons.1 ha
  rcases List.mem_cons.1 h1 with q1|q1<;>rcases List.mem_cons.1 h2 with q2|q2
  ·cases q1;cases q2;rfl
  ·cases q1;exact absurd e2 (ha1 (R',v') (ny q2).2 g e1)
  ·cases q2;exact absurd e1 (ha1 (R,v) (ny q1).2 g e2)
  ·exact FC hn.2 ha2 k R v k' R' v' g q1 q2 e1 e2
 |[],_,_,_,_,_,_,_,_,_,_,h1,_,_,_=>by simp at h1
 |_::_,[],_,_,_,_,_,_,_,_,_,h1,_,_,_=>by simp at h1
theorem wK{E:Env}{w:World}:∀{ids:List Nat} {c:List Oc} {us:List Value},ids.length=(rowsOf c).length→xM E.M w c us→(∀i p,(i,p)∈ids.zip (cS c us)→E.ν i=p.2)→ei E (cX ids c) us
 |ids,[],[],_,_,_=>by cases ids<;>exact trivial
 |ids,.s x::l,v::vs,hl,h,hv=>by
  have ih:=wK (E:=E) (w:=w) (ids:=ids) (c:=l) (us:=vs) hl h.2 hv
  cases ids<;>exact⟨h.1,ih⟩
 |i::ids,.r R::l,v::vs,hl,h,hv=>by
  refine⟨(hv i (R,v) (by rw[cS,List.zip_cons_cons];simp)).symm,wK (w:=w) (ids:=ids) (c:=l) (us:=vs) (by simpa[rowsOf]using hl) h.2 (λj p hm=>hv j p ?_)⟩
  rw[cS,List.zip_cons_cons];exact List.mem_cons_of_mem _ hm
 |[],.r R::l,_::_,hl,_,_=>by simp[rowsOf]at hl
 |_,[],_::_,_,h,_=>h.elim
 |_,.s _::_,[],_,h,_=>h.elim
 |_,.r _::_,[],_,h,_=>h.elim
theorem wL:∀{ids:List Nat} {c:List Oc} (x:AV),x∈cX ids c→(∀j,¬x.mb j)∧∀j,x.mr j→j∈ids
 |ids,[],x,h=>by cases ids<;>simp[cX]at h
 |ids,.s y::l,x,h=>by
  have h':x∈AV.sv y::cX ids l:=by cases ids<;>exact h
  rcases List.mem_cons.1 h' with rfl|h'
  ·exact⟨λj e=>e,λj e=>e.elim⟩
  ·exact wL x h'
 |i::ids,.r _::l,x,h=>by
  rcases List.mem_cons.1 (show x∈AV.row i::cX ids l from h)with rfl|h'
  ·exact⟨λj e=>e,λj e=>by cases e;simp⟩
  ·obtain⟨h1,h2⟩:=wL x h'
   exact⟨h1,λj e=>List.mem_cons_of_mem _ (h2 j e)⟩
 |[],.r _::l,x,h=>by
  rcases List.mem_cons.1 (show x∈AV.sv .any::cX [] l from h)with rfl|h'
  ·exact⟨λj e=>e,λj e=>e.elim⟩
  ·exact wL x h'
def Lv(S:AS):List Nat→List Row→Prop
 |[],[]=>True
 |j::js,R::Rs=>S.r j=.live R∧Lv S js Rs
 |_,_=>False
theorem Lv.len{S:AS}:∀{js:List Nat} {Rs:List Row},Lv S js Rs→js.length=Rs.length
 |[],[],_=>rfl
 |_::_,_::_,h=>congrArg (· +1) (Lv.len h.2)
 |[],_::_,h=>h.elim
 |_::_,[],h=>h.elim
theorem Lv.mem{S:AS}:∀{js:List Nat} {Rs:List Row},Lv S js Rs→∀j∈js,∃R,S.r j=.live R
 |j::js,R::Rs,h,k,hk=>by
  rcases List.mem_cons.1 hk with rfl|hk
  ·exact⟨R,h.1⟩
  ·exact Lv.mem h.2 k hk
 |[],_,_,k,hk=>by cases hk
 |_::_,[],h,_,_=>h.elim
theorem Bi{C:Ctx}{S:AS}{E:Env}{a:Act}{w:World}(h:bz C S E a w):∀{js:List Nat} {c:List Oc} {us:List Value},Lv S js (rowsOf c)→ei E (cX js c) us→xM E.M w c us∧cS c us=(rowsOf c).zip (js.map E.ν)
 |[],[],[],_,_=>⟨ak,Y⟩
 |js,.s x::l,v::vs,hL,hv=>by
  have Cd:ei E (AV.sv x::cX js l) (v::vs):=by cases js<;>exact hv
  obtain⟨h1,h2⟩:=Bi h (js:=js) (c:=l) (us:=vs) hL Cd.2
  exact⟨⟨Cd.1,h1⟩,h2⟩
 |j::js,.r R::l,v::vs,hL,hv=>by
  have hL:S.r j=.live R∧Lv S js (rowsOf l):=hL
  have Cd:ei E (AV.row j::cX js l) (v::vs):=hv
  obtain⟨h1,h2⟩:=Bi h (js:=js) (c:=l) (us:=vs) hL.2 Cd.2
  have e:v=E.ν j:=Cd.1
  obtain⟨q1,_⟩:=h.rx j R hL.1
  rw[←e]at q1
  refine⟨⟨q1,h1⟩,?_⟩
  rw[cS,h2,e];rfl
 |[],.r _::_,_,hL,_=>hL.elim
 |_::_,[],_,hL,_=>hL.elim
 |[],[],_::_,_,hv=>by simp[cX]at hv;exact hv.elim
 |js,.s x::l,[],_,hv=>by
  have Cd:ei E (AV.sv x::cX js l) []:=by cases js<;>exact hv
  exact Cd.elim
 |_::_,.r _::_,[],_,hv=>hv.elim
theorem Bj{α β:Type}:∀{l:List α} {k:List β} {b:β},l.length=k.length→b∈k→∃a,(a,b)∈l.zip k
 |a::l,c::k,b,h,hb=>by
  rcases List.mem_cons.1 hb with rfl|hb
  ·exact⟨a,by rw[List.zip_cons_cons];simp⟩
  ·obtain⟨a',h'⟩:=Bj (l:=l) (k:=k) (by simpa using h) hb
   exact⟨a',by rw[List.zip_cons_cons];exact List.mem_cons_of_mem _ h'⟩
 |[],[],_,_,hb=>by cases hb
 |[],_::_,_,h,_=>by simp at h
theorem ue{C:Ctx}{S:AS}{E:Env}{a:Act}{w:World}(h:bz C S E a w){i:Nat}{T:TypeId}{js:List Nat}{c:List Oc}(hB:S.b i=some ⟨T,cX js c⟩)(hL:Lv S js (rowsOf c))(hn:js.Nodup):
  ∃us,xN E.M w (E.β i) T c us∧(∀g,fj c us g↔∃j∈js,(E.ν j).ownBlock=some g):=by
 obtain⟨_,q1,_,us,q2,q3⟩:=h.bx i _ hB
 obtain⟨p1,p2⟩:=Bi h hL q3
 have hlen:=hL.len
 have Mi:∀g,fj c us g↔∃j∈js,(E.ν j).ownBlock=some g:=λg=>by
  unfold fj
  rw[p2]
  constructor
  ·rintro⟨⟨R,v⟩,hm,hg⟩
   obtain⟨j,hj,rfl⟩:=List.mem_map.1 (ny hm).2
   exact⟨j,hj,hg⟩
  ·rintro⟨j,hj,hg⟩
   obtain⟨R,hR⟩:=Bj (l:=rowsOf c) (k:=js.map E.ν) (by simp[hlen]) (List.mem_map.2 ⟨j,hj,Y⟩)
   exact⟨(R,E.ν j),hR,hg⟩
 refine⟨us,⟨q2,p1,q1,λg hg=>?_,?_⟩,Mi⟩
 ·obtain⟨j,hj,F9⟩:=(Mi g).1 hg
  obtain⟨R,hR⟩:=hL.mem j hj
  obtain⟨_,q4⟩:=h.rx j R hR
  obtain⟨_,q5,_,q6⟩:=q4 g F9
  exact⟨λe=>q6 i _ hB e.symm,q5⟩
 ·rw[p2]
  have key:∀(js:List Nat) (Rs:List Row),Lv S js Rs→js.Nodup→S8 (Rs.zip (js.map E.ν)):=by
   intro js
   induction js with
   |nil=>intro Rs hL _;cases Rs with|nil=>exact List.Pairwise.nil|cons _ _=>exact hL.elim
   |cons j js ih=>
    intro Rs hL hn
    cases Rs with
    |nil=>exact hL.elim
    |cons R Rs=>
     rw[List.nodup_cons]at hn
     rw[List.map_cons,List.zip_cons_cons]
     refine List.pairwise_cons.2 ⟨λp hp g e1 e2=>?_,ih Rs hL.2 hn.2⟩
     obtain⟨R',v'⟩:=p
     obtain⟨j',hj',rfl⟩:=List.mem_map.1 (ny hp).2
     obtain⟨R2,hR2⟩:=hL.2.mem j' hj'
     have:=h.iL j j' R R2 hL.1 hR2 g e1 e2
     subst this;exact hn.1 hj'
  exact key js _ hL hn
def wM(M:Mem)(β:Nat):Env:=⟨λ_=>β,λ_=>.nilIface,λ_=>False,M⟩
def Fc.oy:Fc→Bool
 |.val _=>true
 |.box i=>Nat.beq i 1000
 |.row _=>false
def AV.oy:AV→Bool
 |.sv _=>true
 |.ptr i _=>Nat.beq i 1000
 |.cmp _ js=>js.all Fc.oy
 |_=>false
def Fc.rnb(i:Nat):Fc→Fc
 |.box _=>.box i
 |c=>c
def AV.rnb(i:Nat):AV→AV
 |.ptr _ o=>.ptr i o
 |.cmp t js=>.cmp t (js.map (Fc.rnb i))
 |x=>x
theorem UJ{E:Env}{i:Nat}{x:AV}{v:Value}(hx:x.oy=true)(h:(x.rnb i).holds E v):x.holds (wM E.M (E.β i)) v:=by
 cases x with
 |sv s=>exact h
 |ptr k o=>exact h
 |cmp t js=>
  obtain⟨vs,rfl,h⟩:=h
  refine⟨vs,Y,?_⟩
  have key:∀(l:List Fc) (vs:List Value),(l.all Fc.oy)=true→HX E (l.map (Fc.rnb i)) vs→HX (wM E.M (E.β i)) l vs:=by
   intro l
   induction l with
   |nil=>intro vs _ h;cases vs with|nil=>trivial|cons _ _=>exact h.elim
   |cons c l ih=>
    intro vs ho h
    rw[List.all_cons,Bool.and_eq_true]at ho
    cases vs with
    |nil=>exact h.elim
    |cons u vs=>
     refine⟨?_,ih vs ho.2 h.2⟩
     cases c with
     |val s=>exact h.1
     |box k=>exact h.1
     |row k=>exact(Bool.false_ne_true ho.1).elim
  exact key js vs hx h
 |_=>exact(Bool.false_ne_true hx).elim
theorem Hz{E:Env}{i:Nat}:∀{l:List AV} {vs:List Value},(l.all AV.oy)=true→ei E (l.map (AV.rnb i)) vs→ei (wM E.M (E.β i)) l vs
 |[],[],_,_=>trivial
 |x::l,v::vs,h,hv=>by
  rw[List.all_cons,Bool.and_eq_true]at h
  exact⟨UJ h.1 hv.1,Hz h.2 hv.2⟩
 |[],_::_,_,h=>h.elim
 |_::_,[],_,h=>h.elim
def RA(P:Program)(f:FuncId)(args:List AV)(T:TypeId)(c0:List Oc)(res:SV)(c1:List Oc):Prop:=
 ∀(M:Mem) (w:World) (β:Nat) (vs us:List Value),M.ef w→xN M w β T c0 us→ei (wM M β) args vs→
  Calls P f ⟨vs⟩ w λe w'=>∃v M' us',e=.returned v∧M.le M'∧(∀b o x,M' b o=some x→M b o=some x∨w.heap.size≤b∨fj c0 us b)∧M'.ef w'∧res.h M' v∧
   xN M' w' β T c1 us'∧(∀g,fj c1 us' g→fj c0 us g∨w.heap.size≤g)∧w'.os=w.os∧w'.tape=w.tape∧w'.output=w.output∧w.heap.size≤w'.heap.size∧
   ∀k,k<w.heap.size→k≠β→¬fj c0 us k→w'.heap[k]? =w.heap[k]?
def afZ(w:World)(M:Mem)(β:Nat)(c:List Oc)(us:List Value):Ctx:={w0:=w,M0:=M,own:=λk=>k=β∨fj c us k,BP:=λk=>k=β∨fj c us k,kU:=λi=>bif Nat.beq i 1000 then some β else none,gj:=λ_=>none,ro:=none,J:=λ_ _ _ _ _=>True,Ke:=λ_ h=>h,Uf:=λ_ _ h=>(by cases h),jf:=λ_ _ _ _ _ _ _ _ _ _ _ _ _ _ _ _=>trivial}
theorem D9{M:Mem}{w:World}:∀{ids:List Nat} {c:List Oc} {us:List Value},xM M w c us→∀{i:Nat} {R:Row},(i,R)∈ids.zip (rowsOf c)→∃v,(i,R,v)∈ids.zip (cS c us)
 |ids,.s x::l,v::vs,h,i,R,hm=>by
  have hm':(i,R)∈ids.zip (rowsOf l):=hm
  exact D9 (c:=l) (us:=vs) h.2 hm'
 |k::ids,.r R'::l,v::vs,h,i,R,hm=>by
  have hm':(i,R)∈(k,R')::ids.zip (rowsOf l):=hm
  rw[cS,List.zip_cons_cons]
  rcases List.mem_cons.1 hm' with e|e
  ·cases e;exact⟨v,by simp⟩
  ·obtain⟨v',h'⟩:=D9 (ids:=ids) (c:=l) (us:=vs) h.2 e
   exact⟨v',List.mem_cons_of_mem _ h'⟩
 |[],.r _::_,_::_,_,_,_,hm=>by simp at hm
 |_,[],[],_,_,_,hm=>by simp[rowsOf]at hm
 |_,[],_::_,h,_,_,_=>h.elim
 |_,.s _::_,[],h,_,_,_=>h.elim
 |_,.r _::_,[],h,_,_,_=>h.elim
theorem S9{n:Nat}{args:List AV}{T:TypeId}{c:List Oc}{M:Mem}{w:World}{β:Nat}{vs us:List Value}(ids:List Nat)(hM:M.ef w)(ho:xN M w β T c us)(hv:ei (wM M β) args vs)(Ta:args.all AV.oy=true)(hn:args.length≤n)(Kh:ids.Nodup)(hil:ids.length=(rowsOf c).length):
  bz (afZ w M β c us) (AS.J9 n args [(1000,⟨T,cX ids c⟩)] (ids.zip (rowsOf c))) ⟨λ_=>β,pU (ids.zip (cS c us)) (λ_=>.nilIface),λ_=>False,M⟩ {tmps:=⟨vs⟩++Array.replicate (n-(⟨vs⟩:Array Value).size) undef,defers:=[]} w:=by
 have hl:=hv.length
 have hrv:(cS c us).length=(rowsOf c).length:=by rw[←l8 ho.al,List.length_map]
 have hnd:((ids.zip (cS c us)).map (·.1)).Nodup:=by rw[Hy (by omega)];exact Kh
 have ac6:∀s,(zB args s).oy=true:=λs=>by
  rcases DK (l:=args) (k:=s)with e|e
  ·rw[e];rfl
  ·exact List.all_eq_true.1 Ta _ e
 have oyB:∀x:AV,x.oy=true→(∀j,x.mb j→j=1000)∧∀j,¬x.mr j:=λx hx=>by
  cases x with
  |sv s=>exact⟨λj e=>e.elim,λj e=>e⟩
  |ptr k o=>exact⟨λj e=>by cases e;exact Nat.eq_of_beq_eq_true hx,λj e=>e⟩
  |cmp t js=>
   refine⟨λj e=>?_,λj e=>?_⟩
   ·exact Nat.eq_of_beq_eq_true (List.all_eq_true.1 hx _ e)
   ·exact Bool.false_ne_true (List.all_eq_true.1 hx _ e)
  |_=>exact(Bool.false_ne_true hx).elim
 have hall:ei ⟨λ_=>β,pU (ids.zip (cS c us)) (λ_=>.nilIface),λ_=>False,M⟩ args vs:=by
  refine hv.imp (λx hx v hh=>?_)
  exact AV.dL (E:=wM M β) (E':=⟨λ_=>β,pU (ids.zip (cS c us)) (λ_=>.nilIface),λ_=>False,M⟩) (Mem.le_refl _) (λ_ _=>Y) (λj hj=>absurd hj ((oyB x (List.all_eq_true.1 Ta x hx)).2 j)) hh
 have live:∀j R,(AS.J9 n args [(1000,⟨T,cX ids c⟩)] (ids.zip (rowsOf c))).r j=.live R→(j,R)∈ids.zip (rowsOf c):=λj R hj=>by
  have hj:(match J6 (ids.zip (rowsOf c)) j with|some R=>qG.live R|none=>.un)=.live R:=hj
  cases e:J6 (ids.zip (rowsOf c)) j with
  |none=>rw[e]at hj;cases hj
  |some R'=>rw[e]at hj;cases hj;exact Hp e
 have isLive:∀j∈ids,(AS.J9 n args [(1000,⟨T,cX ids c⟩)] (ids.zip (rowsOf c))).r j≠ .un:=λj hj=>by
  have key:∀(ids:List Nat) (Rs:List Row),ids.length=Rs.length→j∈ids→∃R,J6 (ids.zip Rs) j=some R:=by
   intro ids
   induction ids with
   |nil=>intro _ _ h;cases h
   |cons k ids ih=>
    intro Rs hl hm
    cases Rs with
    |nil=>simp at hl
    |cons R Rs=>
     rw[List.zip_cons_cons,J6]
     by_cases e:j=k
     ·subst e;exact⟨R,by simp⟩
     ·rw[bV e]
      rcases List.mem_cons.1 hm with q|q
      ·exact absurd q e
      ·exact ih Rs (by simpa using hl) q
  obtain⟨R,hR⟩:=key ids _ hil hj
  show(match J6 (ids.zip (rowsOf c)) j with|some R=>qG.live R|none=>.un)≠ .un
  rw[hR];simp
 have box:∀j B,(AS.J9 n args [(1000,⟨T,cX ids c⟩)] (ids.zip (rowsOf c))).b j=some B→j=1000∧B=⟨T,cX ids c⟩:=λj B h=>by
  have:=xx h
  simpa using this
 have VT:(AS.J9 n args [(1000,⟨T,cX ids c⟩)] (ids.zip (rowsOf c))).b 1000=some ⟨T,cX ids c⟩:=rfl
 exact{
  wf:=by
   refine⟨λs j hj=>?_,λs j hj=>?_,λi B hB x hx j hj=>?_,λi B hB x hx j hj=>?_⟩
   ·have:=(oyB _ (ac6 s)).1 j hj
    subst this;exact⟨_,VT⟩
   ·exact absurd hj ((oyB _ (ac6 s)).2 j)
   ·obtain⟨rfl,rfl⟩:=box i B hB
    exact absurd hj ((wL x hx).1 j)
   ·obtain⟨rfl,rfl⟩:=box i B hB
    exact isLive j ((wL x hx).2 j hj)
  marks:=⟨[],Y,List.nodup_nil,by simp⟩
  size:=by simp[AS.J9];omega
  os:=rfl
  tape:=rfl
  output:=rfl
  grown:=Nat.le_refl _
  frame:=λ_ _ _=>rfl
  m0:=Mem.le_refl _
  gE:=λ_ _ _ e=>.inl e
  ef:=hM
  tm:=λs=>QU hall s
  bx:=λi B h=>by
   obtain⟨rfl,rfl⟩:=box i B h
   refine⟨.inr (.inl Y),ho.nb,λh=>h,us,ho.hp,?_⟩
   exact wK (w:=w) hil ho.al (λj p hm=>mS (R:=p.1) (v:=p.2) hnd hm)
  inj:=λi j B1 B2 hi hj _=>by rw[(box i B1 hi).1,(box j B2 hj).1]
  rx:=λj R hj=>by
   obtain⟨v,hm⟩:=D9 ho.al (live j R hj)
   have hν:pU (ids.zip (cS c us)) (λ_=>Value.nilIface) j=v:=mS hnd hm
   show(∃vs:List Value,w.ownsRow 0 R.E R.sz (pU (ids.zip (cS c us)) (λ_=>.nilIface) j) R.n vs∧SV.fX M R.cells vs)∧_
   rw[hν]
   refine⟨pV ho.al (R,v) (ny hm).2,λg hg=>?_⟩
   have hg:v.ownBlock=some g:=by rw[←hν];exact hg
   have hb:fj c us g:=⟨(R,v),(ny hm).2,hg⟩
   obtain⟨q1,q2⟩:=ho.nr g hb
   refine⟨.inr (.inr hb),q2,λh=>h,λk B _ e=>q1 e.symm⟩
  iL:=λj j' R R' h1 h2 g e1 e2=>by
   obtain⟨v,hm⟩:=D9 ho.al (live j R h1)
   obtain⟨v',hm'⟩:=D9 ho.al (live j' R' h2)
   have hν:pU (ids.zip (cS c us)) (λ_=>Value.nilIface) j=v:=mS hnd hm
   have aoK:pU (ids.zip (cS c us)) (λ_=>Value.nilIface) j'=v':=mS hnd hm'
   exact FC Kh ho.ap j R v j' R' v' g hm hm' (by rw[←hν];exact e1) (by rw[←aoK];exact e2)
  kU:=λi b e=>by
   simp only[afZ]at e
   cases h:Nat.beq i 1000 with
   |false=>rw[h]at e;cases e
   |true=>rw[h]at e;cases e;rfl
  gj:=λi v e=>by cases e
  qf:=λb e=>e.elim
  jj:=trivial}
theorem wN{P:Program}{f:FuncId}{fn:Func}{code:Code}{args:List AV}{T:TypeId}{c0 c1:List Oc}{res:SV}(ids:List Nat)(hf:P.funcs[f]? =some fn)(hb:fn.body=some code)(hn:args.length≤fn.ntmps)(Ta:args.all AV.oy=true)(Kh:ids.Nodup)(hil:ids.length=(rowsOf c0).length)
  (h:∀(w:World) (M:Mem) (β:Nat) (us:List Value),Ok P (afZ w M β c0 us) code (AS.J9 fn.ntmps args [(1000,⟨T,cX ids c0⟩)] (ids.zip (rowsOf c0))) (λe S=>(e=.normal∨e=.ret)∧VH P S fn.results.toList res∧∃ks:List Nat,S.b 1000=some ⟨T,cX ks c1⟩∧Lv S ks (rowsOf c1)∧ks.Nodup)):RA P f args T c0 res c1:=by
 intro M w β vs us hM ho hv
 refine jv Y hf hb (S9 ids hM ho hv Ta hn Kh hil) (h w M β us) ?_
 rintro S' E a w' ⟨hr,ks,hB,hL,hk⟩ hh
 obtain⟨v,hv,hx⟩:=(E7.sv hr).run hh
 have hβ:E.β 1000=β:=hh.kU 1000 β Y
 obtain⟨us',ho',pM⟩:=ue hh hB hL hk
 rw[hβ]at ho'
 refine⟨v,hv,v,E.M,us',Y,hh.m0,λb o x e=>?_,hh.ef,hx,ho',λg hg=>?_,hh.os,hh.tape,hh.output,hh.grown,λk hk hne hno=>hh.frame k hk (λe=>e.elim hne hno)⟩
 ·rcases hh.gE b o x e with q|q|q|q
  ·exact .inl q
  ·exact .inr (.inl q)
  ·rw[show b=β from q,ho'.nb o]at e;cases e
  ·exact .inr (.inr q)
 ·obtain⟨j,hj,F9⟩:=(pM g).1 hg
  obtain⟨R,hR⟩:=hL.mem j hj
  obtain⟨_,q⟩:=hh.rx j R hR
  rcases(q g F9).1 with q1|q1|q1
  ·exact .inr q1
  ·exact absurd q1 (ho'.nr g hg).1
  ·exact .inl q1
end
section
open Go.RowKit
def Un(S:AS):List Nat→Prop
 |[]=>True
 |k::ks=>(S.r k=.un∧k<1000)∧Un S ks
theorem Un.mem{S:AS}:∀{ks:List Nat},Un S ks→∀k∈ks,S.r k=.un∧k<1000
 |k::ks,h,j,hj=>by
  rcases List.mem_cons.1 hj with rfl|hj
  ·exact h.1
  ·exact Un.mem h.2 j hj
 |[],_,j,hj=>by cases hj
theorem Un.congr{S S':AS}:∀{ks:List Nat},(∀k∈ks,S'.r k=S.r k)→Un S ks→Un S' ks
 |[],_,_=>trivial
 |k::ks,h,hu=>⟨by rw[h k (by simp)];exact hu.1,Un.congr (λj hj=>h j (List.mem_cons_of_mem _ hj)) hu.2⟩
theorem Lv.congr{S S':AS}:∀{js:List Nat} {Rs:List Row},(∀k∈js,S'.r k=S.r k)→Lv S js Rs→Lv S' js Rs
 |[],[],_,_=>trivial
 |j::js,R::Rs,h,hl=>⟨by rw[h j (by simp)];exact hl.1,Lv.congr (λk hk=>h k (List.mem_cons_of_mem _ hk)) hl.2⟩
 |[],_::_,_,h=>h.elim
 |_::_,[],_,h=>h.elim
def Ea(js ks:List Nat)(c:List Oc):List (Nat×qG):=js.map (λj=>(j,qG.dead))++(ks.zip (rowsOf c)).map (λp=>(p.1,.live p.2))
theorem Ph:∀(ks:List Nat) (l:List (Row×Value)),(ks.zip l).map (λn=>(n.1,qG.live n.2.1))=(ks.zip (l.map (·.1))).map (λp=>(p.1,.live p.2))
 |[],_=>rfl
 |_::_,[]=>rfl
 |k::ks,p::l=>by rw[List.map_cons,List.zip_cons_cons,List.zip_cons_cons,List.map_cons,List.map_cons,Ph ks l]
theorem Pj{M:Mem}{w:World}{c:List Oc}{us:List Value}(h:xM M w c us)(js ks:List Nat):D8 js (ks.zip (cS c us))=Ea js ks c:=by
 unfold D8 Ea
 rw[Ph,l8 h]
section steps
variable {P:Program}{C:Ctx}{ops:Array Oper}{S:AS}{nd:Bool}{K:List Ac→AS→Prop}{rest:List Oper}{acc:List Ac}
variable {gd:Option (Nat×Bool)}{rg:List Nat}{d:Nat}{ty:TypeId}{pos:String}{aft:Array Edge}{x y z:Operand}{T U E0:TypeId}
theorem bz.aaF{E:Env}{a:Act}{w w':World}(h:bz C S E a w){i:Nat}{js ks:List Nat}{c0 c1:List Oc}{us us':List Value}{M':Mem}(hB:S.b i=some ⟨T,cX js c0⟩)(hL:Lv S js (rowsOf c0))(hks:ks.Nodup)(J8:ks.length=(rowsOf c1).length)(hku:Un S ks)
  (IU:∀g,fj c0 us g↔∃j∈js,(E.ν j).ownBlock=some g) (hM:E.M.le M') (hn:∀b o x,M' b o=some x→E.M b o=some x∨w.heap.size≤b∨fj c0 us b) (hin:M'.ef w') (ho:xN M' w' (E.β i) T c1 us') (hg:∀g,fj c1 us' g→fj c0 us g∨w.heap.size≤g)
  (hos:w'.os=w.os) (yV:w'.tape=w.tape) (hout:w'.output=w.output) (hsize:w.heap.size≤w'.heap.size) (pM:∀k,k<w.heap.size→k≠E.β i→¬fj c0 us k→w'.heap[k]? =w.heap[k]?):
  ∃E':Env,E'.M=M'∧E'.β=E.β∧bz C (AS.cL (Ea js ks c1) (AS.iO [(i,⟨T,cX ks c1⟩)] S)) E' a w':=by
 have hrv:(cS c1 us').length=(rowsOf c1).length:=by rw[←l8 ho.al,List.length_map]
 have hnd:((ks.zip (cS c1 us')).map (·.1)).Nodup:=by rw[Hy (by omega)];exact hks
 rw[←Pj ho.al js ks]
 refine⟨{E with M:=M',ν:=pU (ks.zip (cS c1 us')) E.ν},Y,Y,h.ajU hB js (ks.zip (cS c1 us')) (λj hj=>hL.mem j hj) (λk R v hm=>hku.mem k (ny hm).1) hnd hM (λb o x e=>?_) hin ho.hp ho.nb ?_ (λx hx=>?_) (λk R v hm=>?_) (FC hks ho.ap) hos yV hout hsize (λk hk hne hno=>pM k hk hne (λq=>?_))⟩
 ·rcases hn b o x e with q|q|q
  ·exact .inl q
  ·exact .inr (.inl q)
  ·exact .inr (.inr ((IU b).1 q))
 ·exact wK (E:={E with M:=M',ν:=pU (ks.zip (cS c1 us')) E.ν}) (w:=w') J8 ho.al (λj p hm=>mS (R:=p.1) (v:=p.2) hnd hm)
 ·obtain⟨q1,q2⟩:=wL x hx
  refine⟨q1,λj hj=>?_⟩
  have hj:=q2 j hj
  have key:∀(ks:List Nat) (l:List (Row×Value)),ks.length=l.length→j∈ks→∃R v,(j,R,v)∈ks.zip l:=by
   intro ks
   induction ks with
   |nil=>intro _ _ h;cases h
   |cons k ks ih=>
    intro l hl hm
    cases l with
    |nil=>simp at hl
    |cons p l=>
     rw[List.zip_cons_cons]
     rcases List.mem_cons.1 hm with q|q
     ·subst q;exact⟨p.1,p.2,by simp⟩
     ·obtain⟨R,v,h⟩:=ih l (by simpa using hl) q
      exact⟨R,v,List.mem_cons_of_mem _ h⟩
  exact key ks _ (by omega) hj
 ·refine⟨pV ho.al (R,v) (ny hm).2,λg N0=>?_⟩
  have hb:fj c1 us' g:=⟨(R,v),(ny hm).2,N0⟩
  obtain⟨q1,q2⟩:=ho.nr g hb
  refine⟨?_,q2,q1⟩
  rcases hg g hb with q|q
  ·exact .inl ((IU g).1 q)
  ·exact .inr q
 ·obtain⟨j,hj,e⟩:=(IU k).1 q
  exact hno j hj e
theorem RT.IV(hg:Gd ops S gd rg){f:FuncId}[cZ P f]{g:Operand}{xs:Array Operand}{at_:Array TypeId}{args:List AV}{T:TypeId}{c0 c1:List Oc}{res:SV}(hp:RA P f args T c0 res c1)(i:Nat)(js ks:List Nat)(hB:S.b i=some ⟨T,cX js c0⟩)(hL:Lv S js (rowsOf c0))(hjs:js.Nodup)(hks:ks.Nodup)(J8:ks.length=(rowsOf c1).length)(hku:Un S ks)
  (Ta:args.all AV.oy=true) (hf:S.ev g=.sv (.v (.func (.func f) #[] #[]))) (hargs:CO S xs.toList (args.map (AV.rnb i))) (hd:d<S.n)
  (next:RunT P C ops nd K rest (⟨rg++(bk g++xs.toList.flatMap bk),[i],js++ks,⟨some (d,.sv res),[(i,⟨T,cX ks c1⟩)],Ea js ks c1⟩⟩::acc) ((AS.cL (Ea js ks c1) (AS.iO [(i,⟨T,cX ks c1⟩)] S)).set d (.sv res))):RunT P C ops nd K (⟨some d,.call ⟨.value g,xs,at_⟩,ty,pos,aft,gd⟩::rest) acc S:=by
 refine .inl ⟨_,[i],js++ks,_,?_,next⟩
 rintro S' hn ht hb hr k a w L Q ho ⟨E,h⟩ hLL
 refine dw (C:=C) ho (hg.wanted h (λs hs=>ht s (List.mem_append_left _ hs)) Y) ?_
 have Av:a.eval g=.func (.func f) #[] ⟨[]⟩:=by
  have h1:=h.ev g;rw[bR (λ_ h=>List.mem_append_right _ (List.mem_append_left _ h)) ht,hf]at h1;exact h1
 have hall:=Hz Ta (CO.vals h hargs (λs hs=>ht s (List.mem_append_right _ (List.mem_append_right _ hs))))
 have iP:S'.b i=some ⟨T,cX js c0⟩:=by rw[hb i (by simp)];exact hB
 have hL':Lv S' js (rowsOf c0):=hL.congr (λk hk=>hr k (List.mem_append_left _ hk))
 have aoL:Un S' ks:=hku.congr (λk hk=>hr k (List.mem_append_right _ hk))
 obtain⟨us,ho1,IU⟩:=ue h iP hL' hjs
 refine dm (C:=C) (by intro c h;cases h) (qQ Av) ?_
 rw[List.append_nil]
 refine⟨λh=>by simp at h,jN ((hp E.M w (E.β i) _ us h.ef ho1 hall).mono ?_)⟩
 rintro e w' ⟨v,M',us',rfl,hM,hnew,hin,hv,S0,ZL,hos,yV,hout,hsize,pM⟩
 obtain⟨E',e1,e2,h1⟩:=h.aaF iP hL' hks J8 aoL IU hM hnew hin S0 ZL hos yV hout hsize pM
 refine hLL _ _ ⟨_,h1.put (x:=.sv res) (v:=v) (by show res.h E'.M v;rw[e1];exact hv) ?_ ik⟩
 rw[(ij _ _).1];show d<S'.n;omega
theorem RT.dh(hg:Gd ops S gd rg){i o:Nat}(hx:S.ev x=.ptr i o)(hd:d<S.n)
  (next:RunT P C ops nd K rest (⟨rg++bk x,[],[],⟨some (d,.ptr i o),[],[]⟩⟩::acc) (S.set d (.ptr i o))):RunT P C ops nd K (⟨some d,.nilCheck x,ty,pos,aft,gd⟩::rest) acc S:=
 RT.value hg (bk x) [] [] (.ptr i o) hd (by intro c h;cases h) (λS' ht _ _ E a w h=>by
  have hx':S'.ev x=.ptr i o:=by rw[bR (λ_ h=>h) ht,hx]
  have h1:=h.ev x
  rw[hx']at h1
  have h2:a.eval x=.pointer (some ⟨E.β i,o,none⟩):=h1
  exact⟨a.eval x,by simp[execOp,h2],h1,qM h.wf hx'⟩) next
class Tc (P:Program) (T:TypeId):Prop where
 u:P.underlying T=some (.pointer (P.pointee T))
theorem RT.WW(hg:Gd ops S gd rg)[tT:Tc P T]{i o:Nat}(hx:S.ev x=.ptr i o)(hy:S.ev y=.sv (.v (.pointer none)))(hd:d<S.n)
  (next:RunT P C ops nd K rest (⟨rg++(bk x++bk y),[],[],⟨some (d,.sv (.v (.bool false))),[],[]⟩⟩::acc) (S.set d (.sv (.v (.bool false))))):RunT P C ops nd K (⟨some d,.binOp .eql T x y U,ty,pos,aft,gd⟩::rest) acc S:=
 RT.value hg (bk x++bk y) [] [] (.sv (.v (.bool false))) hd (by intro c h;cases h) (λS' ht _ _ E a w h=>by
  have h1:=h.ev x
  rw[bR (λ_ h=>List.mem_append_left _ h) ht,hx]at h1
  have h2:=h.ev y
  rw[bR (λ_ h=>List.mem_append_right _ h) ht,hy]at h2
  have h1:a.eval x=.pointer (some ⟨E.β i,o,none⟩):=h1
  have h2:a.eval y=.pointer none:=h2
  have e:=run_eql_pointer_nil (P:=P) w T (some ⟨E.β i,o,none⟩) tT.u
  refine⟨.bool false,?_,Y,ik⟩
  simp[execOp,h1,h2,eqGuard,e]) next
theorem RT.RB(hg:Gd ops S gd rg)[tT:Tc P T](hx:S.ev x=.sv (.v (.pointer none)))(hy:S.ev y=.sv (.v (.pointer none)))(hd:d<S.n)
  (next:RunT P C ops nd K rest (⟨rg++(bk x++bk y),[],[],⟨some (d,.sv (.v (.bool true))),[],[]⟩⟩::acc) (S.set d (.sv (.v (.bool true))))):RunT P C ops nd K (⟨some d,.binOp .eql T x y U,ty,pos,aft,gd⟩::rest) acc S:=
 RT.N5 hg (by intro c h;cases h) hx hy hd (λρ w h1 h2=>by
  have e:=run_eql_pointer_nil (P:=P) w T none tT.u
  simp[execOp,h1,h2,eqGuard,e]) next
def Fc.av:Fc→AV
 |.val s=>.sv s
 |.box i=>.ptr i 0
 |.row i=>.row i
theorem RT.Eb(hg:Gd ops S gd rg){i:Nat}{js:List Fc}{s:Fc}(hx:S.ev x=.cmp .Cp js)(hi:js[i]? =some s)(hd:d<S.n)
  (next:RunT P C ops nd K rest (⟨rg++bk x,[],[],⟨some (d,s.av),[],[]⟩⟩::acc) (S.set d s.av)):RunT P C ops nd K (⟨some d,.extract x i,ty,pos,aft,gd⟩::rest) acc S:=
 RT.value hg (bk x) [] [] s.av hd (by intro c h;cases h) (λS' ht _ _ E a w h=>by
  have hx':S'.ev x=.cmp .Cp js:=by rw[bR (λ_ h=>h) ht,hx]
  have h1:=h.ev x
  rw[hx']at h1
  obtain⟨l1,l2⟩:=qM h.wf hx'
  obtain⟨vs,hv,hall⟩:=h1
  have hv:a.eval x=.tuple ⟨vs⟩:=hv
  obtain⟨u,hu,hs⟩:=hall.get hi
  have hm:=List.mem_of_getElem? hi
  refine⟨u,by simp[execOp,hv,Instr.extract,hu],?_,λj e=>?_,λj e=>?_⟩
  ·cases s<;>exact hs
  ·cases s with
   |val s=>exact e.elim
   |box k=>have e:j=k:=e;subst e;exact l1 j hm
   |row k=>exact e.elim
  ·cases s with
   |val s=>exact e.elim
   |box k=>exact e.elim
   |row k=>have e:j=k:=e;subst e;exact l2 j hm) next
def aoM(tp:Bool)(p:Value)(rs:List Value):Value:=bif tp then .tuple ⟨p::rs⟩else p
def RC(P:Program)(f:FuncId)(args:List SV)(tp:Bool)(rest:List SV)(T:TypeId)(c:List Oc):Prop:=
 ∀(M:Mem) (w:World) (vs:List Value),M.ef w→SV.fX M args vs→
  Calls P f ⟨vs⟩ w λe w'=>∃β rs M' us,e=.returned (aoM tp (.pointer (some ⟨β,0,none⟩)) rs)∧M.le M'∧(∀b o x,M' b o=some x→M b o=some x∨w.heap.size≤b)∧M'.ef w'∧SV.fX M' rest rs∧
   xN M' w' β T c us∧w.heap.size≤β∧(∀g,fj c us g→w.heap.size≤g)∧Below w.heap.size w w'
theorem Pk{w:World}{M:Mem}{S':AS}{E:Env}{a:Act}{w':World}{k:Nat}{ks:List Nat}{c:List Oc}(hB:S'.b k=some ⟨T,cX ks c⟩)(hL:Lv S' ks (rowsOf c))(hk:ks.Nodup)(hh:bz (Mg w M) S' E a w'):
  ∃us,M.le E.M∧(∀b o x,E.M b o=some x→M b o=some x∨w.heap.size≤b)∧E.M.ef w'∧xN E.M w' (E.β k) T c us∧w.heap.size≤E.β k∧(∀g,fj c us g→w.heap.size≤g)∧Below w.heap.size w w':=by
 obtain⟨us,ho,pM⟩:=ue hh hB hL hk
 refine⟨us,hh.m0,λb o x e=>?_,hh.ef,ho,(hh.bx k _ hB).1.elim id (λh=>h.elim),λg hg=>?_,hh.os,hh.tape,hh.output,hh.grown,λk hk=>hh.frame k hk (λh=>h)⟩
 ·rcases hh.gE b o x e with h|h|h
  ·exact .inl h
  ·exact .inr h
  ·exact h.elim
 ·obtain⟨j,hj,F9⟩:=(pM g).1 hg
  obtain⟨R,hR⟩:=hL.mem j hj
  exact((hh.rx j R hR).2 g F9).1.elim id (λh=>h.elim)
theorem Gq{f:FuncId}{fn:Func}{code:Code}{args:List SV}{c:List Oc}(hf:P.funcs[f]? =some fn)(hb:fn.body=some code)(hn:args.length≤fn.ntmps)
  (h:∀(w:World) (M:Mem) (vs:List Value),SV.fX M args vs→Ok P (Mg w M) code (AS.init fn.ntmps args) (λe S=>(e=.normal∨e=.ret)∧∃(k:Nat) (ks:List Nat),E7 P S fn.results.toList (.ptr k 0)∧S.b k=some ⟨T,cX ks c⟩∧Lv S ks (rowsOf c)∧ks.Nodup)):RC P f args false [] T c:=by
 intro M w vs hM hvs
 refine jv Y hf hb (nI hM hvs hn) (h w M vs hvs) ?_
 rintro S' E a w' ⟨k,ks,hr,hB,hL,hk⟩ hh
 obtain⟨v,hv,hx⟩:=hr.run hh
 obtain rfl:v=.pointer (some ⟨E.β k,0,none⟩):=hx
 obtain⟨us,q1,q2,q3,q4,q5,q6,q7⟩:=Pk hB hL hk hh
 exact⟨_,hv,E.β k,[],E.M,us,Y,q1,q2,q3,ak,q4,q5,q6,q7⟩
theorem Pm{f:FuncId}{fn:Func}{code:Code}{args:List SV}{s:SV}{c:List Oc}{t1 t2:Nat}(hf:P.funcs[f]? =some fn)(hb:fn.body=some code)(hn:args.length≤fn.ntmps)(hres:fn.results=#[.tmp t1,.tmp t2])
  (h:∀(w:World) (M:Mem) (vs:List Value),SV.fX M args vs→Ok P (Mg w M) code (AS.init fn.ntmps args) (λe S=>(e=.normal∨e=.ret)∧∃(k:Nat) (ks:List Nat),S.t t1=.ptr k 0∧S.t t2=.sv s∧S.b k=some ⟨T,cX ks c⟩∧Lv S ks (rowsOf c)∧ks.Nodup)):RC P f args true [s] T c:=by
 intro M w vs hM hvs
 refine jv Y hf hb (nI hM hvs hn) (h w M vs hvs) ?_
 rintro S' E a w' ⟨k,ks,hr1,hr2,hB,hL,hk⟩ hh
 have h1:=hh.tm t1
 rw[hr1]at h1
 have h1:a.tmps.getD t1 undef=.pointer (some ⟨E.β k,0,none⟩):=h1
 have h2:=hh.tm t2
 rw[hr2]at h2
 obtain⟨us,q1,q2,q3,q4,q5,q6,q7⟩:=Pk hB hL hk hh
 refine⟨.tuple #[.pointer (some ⟨E.β k,0,none⟩),a.tmps.getD t2 undef],?_,E.β k,[a.tmps.getD t2 undef],E.M,us,Y,q1,q2,q3,⟨h2,ak⟩,q4,q5,q6,q7⟩
 rw[Array.getD_eq_getD_getElem?]at h1
 simp[results,hres,h1]
theorem bz.Td{a:Act}{w:World}:∀(ks:List Nat) (l:List (Row×Value)) {S:AS} {E:Env},bz C S E a w→ks.length=l.length→ks.Nodup→Un S ks→(∀p∈l,∃vs:List Value,w.ownsRow 0 p.1.E p.1.sz p.2 p.1.n vs∧SV.fX E.M p.1.cells vs)→S8 l→(∀p∈l,∀g,p.2.ownBlock=some g→Uj C S E g)→
  ∃E':Env,E'.M=E.M∧E'.β=E.β∧E'.O=E.O∧(∀i p,(i,p)∈ks.zip l→E'.ν i=p.2)∧(∀i,i∉ks→E'.ν i=E.ν i)∧bz C (AS.cL ((ks.zip l).map (λn=>(n.1,.live n.2.1))) S) E' a w
 |[],[],S,E,h,_,_,_,_,_,_=>⟨E,Y,Y,Y,λi p hm=>(by simp at hm),λ_ _=>Y,h⟩
 |k::ks,p::l,S,E,h,hl,hn,hu,ho,ha,hf=>by
  obtain⟨R,v⟩:=p
  rw[List.nodup_cons]at hn
  obtain⟨ha1,ha2⟩:=List.pairwise_cons.1 ha
  obtain⟨vs,ho1,S0⟩:=ho (R,v) (by simp)
  have h1:=h.Mh hu.1.1 hu.1.2 [] none (.inl ⟨Y,Y⟩) (R':=R) ho1 S0 (λg hg=>.inr (hf (R,v) (by simp) g hg)) (zC w none)
  have hu':Un (AS.cL ([]++[(k,.live R)]) S) ks:=hu.2.congr (λj hj=>by
   show(AS.xZ S k _).r j=_
   exact AS.pK _ _ _ _ (λe=>hn.1 (e▸hj)))
  obtain⟨E',q1,q2,q3,q4,q5,q6⟩:=bz.Td ks l h1 (by simpa using hl) hn.2 hu' (λp hp=>ho p (List.mem_cons_of_mem _ hp)) ha2 (λp hp g hg=>by
   obtain⟨f1,f2,f3,f4,f5⟩:=hf p (List.mem_cons_of_mem _ hp) g hg
   refine⟨f1,f2,f3,f4,λj R' uZ e=>?_⟩
   have uZ:(AS.xZ S k (.live R)).r j=.live R':=uZ
   by_cases ej:j=k
   ·subst ej
    have e:(if j=j then v else E.ν j).ownBlock=some g:=e
    rw[if_pos rfl]at e
    exact ha1 p hp g e hg
   ·rw[AS.pK _ _ _ _ ej]at uZ
    have e:(if j=k then v else E.ν j).ownBlock=some g:=e
    rw[if_neg ej]at e
    exact f5 j R' uZ e)
  refine⟨E',q1,q2,q3,λi p hm=>?_,λi hi=>?_,q6⟩
  ·rw[List.zip_cons_cons]at hm
   rcases List.mem_cons.1 hm with e|e
   ·cases e
    rw[q5 k hn.1]
    show(if k=k then v else E.ν k)=v
    rw[if_pos rfl]
   ·exact q4 i p e
  ·rw[q5 i (λhm=>hi (List.mem_cons_of_mem _ hm))]
   show(if i=k then v else E.ν i)=E.ν i
   rw[if_neg (λe=>hi (by rw[e];simp))]
 |[],_::_,_,_,_,hl,_,_,_,_,_=>by simp at hl
 |_::_,[],_,_,_,hl,_,_,_,_,_=>by simp at hl
theorem IW(i:Nat)(B:vT):∀(l:List (Nat×qG)) (S:AS),AS.cL l (S.ow i B)=(AS.cL l S).ow i B
 |[],_=>rfl
 |(j,R)::l,S=>IW i B l (S.xZ j R)
theorem Bk{α β:Type}:∀{l:List α} {k:List β} {a:α},l.length=k.length→a∈l→∃b,(a,b)∈l.zip k
 |a::l,c::k,b,h,hb=>by
  rcases List.mem_cons.1 hb with rfl|hb
  ·exact⟨c,by rw[List.zip_cons_cons];simp⟩
  ·obtain⟨a',h'⟩:=Bk (l:=l) (k:=k) (by simpa using h) hb
   exact⟨a',by rw[List.zip_cons_cons];exact List.mem_cons_of_mem _ h'⟩
 |[],_,_,_,hb=>by cases hb
 |_::_,[],_,h,_=>by simp at h
theorem bz.newObj{E:Env}{a:Act}{w w':World}(h:bz C S E a w){i:Nat}(hi:S.b i=none)(hp:C.kU i=none){ks:List Nat}{c:List Oc}{us:List Value}{M':Mem}{β:Nat}(hks:ks.Nodup)(J8:ks.length=(rowsOf c).length)(hku:Un S ks)
  (hM:E.M.le M') (hn:∀b o x,M' b o=some x→E.M b o=some x∨w.heap.size≤b) (hin:M'.ef w') (ho:xN M' w' β T c us) (hβ:w.heap.size≤β) (hg:∀g,fj c us g→w.heap.size≤g) (Oi:Below w.heap.size w w'):
  ∃E':Env,E'.M=M'∧E'.β i=β∧bz C (AS.cL (Ea [] ks c) (AS.iO [(i,⟨T,cX ks c⟩)] S)) E' a w':=by
 have hrv:(cS c us).length=(rowsOf c).length:=by rw[←l8 ho.al,List.length_map]
 have h0:=h.grow hM hn hin Oi
 obtain⟨E1,q1,q2,q3,q4,q5,h1⟩:=bz.Td ks (cS c us) h0 (by omega) hks hku (pV ho.al) ho.ap (λp hp g N0=>h.Hr (hg g ⟨p,hp,N0⟩) (ho.nr g ⟨p,hp,N0⟩).2)
 have hS1:AS.cL ((ks.zip (cS c us)).map (λn=>(n.1,.live n.2.1))) S=AS.cL (Ea [] ks c) S:=by rw[←Pj ho.al [] ks];rfl
 rw[hS1]at h1
 obtain⟨f1,f2,f3,f4,f5⟩:=h.Hr (M':=M') hβ ho.nb
 have hi1:(AS.cL (Ea [] ks c) S).b i=none:=by rw[(ij _ _).2.2.1];exact hi
 have hfree:Uj C (AS.cL (Ea [] ks c) S) E1 β:=by
  refine⟨f1,by rw[q1];exact f2,by rw[q3];exact f3,λj B hB=>?_,λj R hR e=>?_⟩
  ·rw[(ij _ _).2.2.1]at hB;rw[q2];exact f4 j B hB
  ·by_cases hj:j∈ks
   ·obtain⟨p,hm⟩:=Bk (l:=ks) (k:=cS c us) (by omega) hj
    rw[q4 j p hm]at e
    exact(ho.nr β ⟨p,(ny hm).2,e⟩).1 Y
   ·rw[pA,Da (λR hm=>by
     obtain⟨x,hx,e⟩:=List.mem_map.1 (show(j,R)∈(ks.zip (rowsOf c)).map (λp=>(p.1,qG.live p.2))from hm)
     obtain⟨k,R2⟩:=x
     have e:k=j:=congrArg Prod.fst e
     exact hj (e▸(ny hx).1))]at hR
    rw[q5 j hj]at e
    exact f5 j R hR e
 have h2:=h1.SQ hi1 hp hfree ho.hp (wK (w:=w') J8 (by rw[q1];exact ho.al) q4) (λx hx=>by
  obtain⟨p1,p2⟩:=wL x hx
  refine⟨λj e=>absurd e (p1 j),λj e=>?_⟩
  obtain⟨R,hm⟩:=Bk (l:=ks) (k:=rowsOf c) J8 (p2 j e)
  obtain⟨R',uZ⟩:=IT (l:=Ea [] ks c) (j:=j) (R:=.live R) (List.mem_map.2 ⟨(j,R),hm,Y⟩)
  rw[pA,uZ]
  obtain⟨x,hx,e⟩:=List.mem_map.1 (show(j,R')∈(ks.zip (rowsOf c)).map (λp=>(p.1,qG.live p.2))from Db uZ)
  rw[←show qG.live x.2=R' from congrArg Prod.snd e]
  simp)
 refine⟨{E1 with β:=λj=>if j=i then β else E1.β j},q1,?_,?_⟩
 rotate_left 1
 ·rw[show AS.iO [(i,(⟨T,cX ks c⟩:vT))] S=S.ow i ⟨T,cX ks c⟩from Y,IW]
  exact h2
 ·show(if i=i then β else E1.β i)=β
  rw[if_pos rfl]
theorem RT.FD(hg:Gd ops S gd rg){f:FuncId}[cZ P f]{g:Operand}{xs:Array Operand}{at_:Array TypeId}{args:List SV}{T:TypeId}{c:List Oc}(hp:RC P f args false [] T c)(ks:List Nat)(hks:ks.Nodup)(J8:ks.length=(rowsOf c).length)(hku:Un S ks)(hf:S.ev g=.sv (.v (.func (.func f) #[] #[])))(hargs:kj S xs.toList args)(hd:d<S.n)(hdb:S.b d=none)(QY:C.kU d=none)
  (next:RunT P C ops nd K rest (⟨rg++(bk g++xs.toList.flatMap bk),[d],ks,⟨some (d,.ptr d 0),[(d,⟨T,cX ks c⟩)],Ea [] ks c⟩⟩::acc) ((AS.cL (Ea [] ks c) (AS.iO [(d,⟨T,cX ks c⟩)] S)).set d (.ptr d 0))):RunT P C ops nd K (⟨some d,.call ⟨.value g,xs,at_⟩,ty,pos,aft,gd⟩::rest) acc S:=by
 refine .inl ⟨_,[d],ks,_,?_,next⟩
 rintro S' hn ht hb hr i a w L Q ho ⟨E,h⟩ hL
 refine dw (C:=C) ho (hg.wanted h (λs hs=>ht s (List.mem_append_left _ hs)) Y) ?_
 have Av:a.eval g=.func (.func f) #[] ⟨[]⟩:=by
  have h1:=h.ev g;rw[bR (λ_ h=>List.mem_append_right _ (List.mem_append_left _ h)) ht,hf]at h1;exact h1
 have hall:=kj.vals h hargs (λs hs=>ht s (List.mem_append_right _ (List.mem_append_right _ hs)))
 have hdn:S'.b d=none:=by rw[hb d (by simp)];exact hdb
 refine dm (C:=C) (by intro c h;cases h) (qQ Av) ?_
 rw[List.append_nil]
 refine⟨λh=>by simp at h,jN ((hp E.M w _ h.ef hall).mono ?_)⟩
 rintro e w' ⟨β,rs,M',us,rfl,hM,hnew,hin,hrs,S0,hβ,ZL,Oi⟩
 obtain⟨E',e1,e2,h1⟩:=h.newObj hdn QY hks J8 (hku.congr hr) hM hnew hin S0 hβ ZL Oi
 refine hL _ _ ⟨_,h1.put (x:=.ptr d 0) (v:=.pointer (some ⟨β,0,none⟩)) (by show _=Value.pointer (some ⟨E'.β d,0,none⟩);rw[e2]) ?_ ⟨λj e=>?_,λj e=>e.elim⟩⟩
 ·rw[(ij _ _).1];show d<S'.n;omega
 ·have e:j=d:=e
  subst e
  rw[(ij _ _).2.2.1]
  exact⟨_,AS.dO _ _ _⟩
theorem RT.Te(hg:Gd ops S gd rg){f:FuncId}[cZ P f]{g:Operand}{xs:Array Operand}{at_:Array TypeId}{args:List SV}{T:TypeId}{c:List Oc}{s:SV}(hp:RC P f args true [s] T c)(ks:List Nat)(hks:ks.Nodup)(J8:ks.length=(rowsOf c).length)(hku:Un S ks)(hf:S.ev g=.sv (.v (.func (.func f) #[] #[])))(hargs:kj S xs.toList args)(hd:d<S.n)(hdb:S.b d=none)(QY:C.kU d=none)
  (next:RunT P C ops nd K rest (⟨rg++(bk g++xs.toList.flatMap bk),[d],ks,⟨some (d,.cmp .Cp [.box d,.val s]),[(d,⟨T,cX ks c⟩)],Ea [] ks c⟩⟩::acc) ((AS.cL (Ea [] ks c) (AS.iO [(d,⟨T,cX ks c⟩)] S)).set d (.cmp .Cp [.box d,.val s]))):RunT P C ops nd K (⟨some d,.call ⟨.value g,xs,at_⟩,ty,pos,aft,gd⟩::rest) acc S:=by
 refine .inl ⟨_,[d],ks,_,?_,next⟩
 rintro S' hn ht hb hr i a w L Q ho ⟨E,h⟩ hL
 refine dw (C:=C) ho (hg.wanted h (λs hs=>ht s (List.mem_append_left _ hs)) Y) ?_
 have Av:a.eval g=.func (.func f) #[] ⟨[]⟩:=by
  have h1:=h.ev g;rw[bR (λ_ h=>List.mem_append_right _ (List.mem_append_left _ h)) ht,hf]at h1;exact h1
 have hall:=kj.vals h hargs (λs hs=>ht s (List.mem_append_right _ (List.mem_append_right _ hs)))
 have hdn:S'.b d=none:=by rw[hb d (by simp)];exact hdb
 refine dm (C:=C) (by intro c h;cases h) (qQ Av) ?_
 rw[List.append_nil]
 refine⟨λh=>by simp at h,jN ((hp E.M w _ h.ef hall).mono ?_)⟩
 rintro e w' ⟨β,rs,M',us,rfl,hM,hnew,hin,hrs,S0,hβ,ZL,Oi⟩
 obtain⟨E',e1,e2,h1⟩:=h.newObj hdn QY hks J8 (hku.congr hr) hM hnew hin S0 hβ ZL Oi
 match rs,hrs with
 |[r],hrs=>
  refine hL _ _ ⟨_,h1.put (x:=.cmp .Cp [.box d,.val s]) (v:=.tuple #[.pointer (some ⟨β,0,none⟩),r]) ⟨[.pointer (some ⟨β,0,none⟩),r],Y,by show _=Value.pointer (some ⟨E'.β d,0,none⟩);rw[e2],by show s.h E'.M r;rw[e1];exact hrs.1,ak⟩ ?_ ⟨λj e=>?_,λj e=>?_⟩⟩
  ·rw[(ij _ _).1];show d<S'.n;omega
  ·have e:j=d:=by simpa[AV.mb]using e
   subst e
   rw[(ij _ _).2.2.1]
   exact⟨_,AS.dO _ _ _⟩
  ·simp[AV.mr]at e
end steps
end
section
open Go.RowKit
def FE(P:Program)(f:FuncId)(args:List AV)(T:TypeId)(c:List Oc)(res:SV):Prop:=
 ∀(M:Mem) (w:World) (β:Nat) (vs us:List Value),M.ef w→xN M w β T c us→ei (wM M β) args vs→
  Calls P f ⟨vs⟩ w λe w'=>∃v M',e=.returned v∧M.le M'∧(∀b o x,M' b o=some x→M b o=some x∨w.heap.size≤b)∧M'.ef w'∧res.h M' v∧
   xN M' w' β T c us∧w'.os=w.os∧w'.tape=w.tape∧w'.output=w.output∧w.heap.size≤w'.heap.size∧∀k,k<w.heap.size→k≠β→¬fj c us k→w'.heap[k]? =w.heap[k]?
def lkV:List (Nat×Row×Value)→Nat→Option Value
 |[],_=>none
 |(k,_,v)::l,j=>if j=k then some v else lkV l j
theorem MM:∀{l:List (Nat×Row×Value)} {j:Nat} {v:Value},lkV l j=some v→∃R,(j,R,v)∈l
 |(k,R,u)::l,j,v,h=>by
  rw[lkV]at h
  by_cases e:j=k
  ·rw[if_pos e]at h;cases h;subst e;exact⟨R,by simp⟩
  ·rw[if_neg e]at h
   obtain⟨R',hm⟩:=MM h
   exact⟨R',List.mem_cons_of_mem _ hm⟩
 |[],_,_,h=>by cases h
theorem WX:∀{l:List (Nat×Row×Value)} {j:Nat} {R:Row} {v:Value},(l.map (·.1)).Nodup→(j,R,v)∈l→lkV l j=some v
 |(k,R',v')::l,j,R,v,hn,h=>by
  rw[List.map_cons,List.nodup_cons]at hn
  rw[lkV]
  rcases List.mem_cons.1 h with e|e
  ·cases e;rw[if_pos rfl]
  ·have:j≠k:=λq=>hn.1 (List.mem_map.2 ⟨(j,R,v),e,q⟩)
   rw[if_neg this];exact WX hn.2 e
theorem af2{ids:List Nat}(h:(ids.all λi=>Nat.ble 1000 i)=true):∀i∈ids,1000≤i:=λi hi=>ae (List.all_eq_true.1 h i hi)
def aaI(w:World)(M:Mem)(β:Nat)(c:List Oc)(us:List Value)(ids:List Nat)(Kh:(ids.all λi=>Nat.ble 1000 i)=true):Ctx:={w0:=w,M0:=M,own:=λk=>k=β∨fj c us k,BP:=λk=>k=β∨fj c us k,kU:=λi=>bif Nat.beq i 1000 then some β else none,gj:=lkV (ids.zip (cS c us)),ro:=none,J:=λ_ _ _ _ _=>True,Ke:=λ_ h=>h,Uf:=λ_ _ h=>(by obtain⟨R,hm⟩:=MM h;exact af2 Kh _ (ny hm).1),jf:=λ_ _ _ _ _ _ _ _ _ _ _ _ _ _ _ _=>trivial}
def Oc.cst:Oc→Prop
 |.s x=>∃v,x=.v v
 |.r _=>True
def MN:List Oc→Prop
 |[]=>True
 |c::l=>c.cst∧MN l
theorem MO{M M':Mem}{w w':World}:∀{c:List Oc} {us us':List Value},MN c→xM M w c us→xM M' w' c us'→cS c us=cS c us'→us=us'
 |[],[],[],_,_,_,_=>rfl
 |.s x::l,v::vs,v'::vs',hc,h,h',e=>by
  obtain⟨y,rfl⟩:=hc.1
  have e1:v=y:=h.1
  have e2:v'=y:=h'.1
  rw[e1,e2,MO hc.2 h.2 h'.2 e]
 |.r R::l,v::vs,v'::vs',hc,h,h',e=>by
  rw[cS,cS]at e
  have e1:=(List.cons.inj e).1
  have e2:=(List.cons.inj e).2
  rw[MO hc.2 h.2 h'.2 e2]
  rw[(Prod.mk.inj e1).2]
 |[],[],_::_,_,_,h,_=>h.elim
 |[],_::_,_,_,h,_,_=>h.elim
 |.s _::_,[],_,_,h,_,_=>h.elim
 |.r _::_,[],_,_,h,_,_=>h.elim
 |.s _::_,_::_,[],_,_,h,_=>h.elim
 |.r _::_,_::_,[],_,_,h,_=>h.elim
section steps
variable {P:Program}{C:Ctx}{ops:Array Oper}{S:AS}{nd:Bool}{K:List Ac→AS→Prop}{rest:List Oper}{acc:List Ac}
variable {gd:Option (Nat×Bool)}{rg:List Nat}{d:Nat}{ty:TypeId}{pos:String}{aft:Array Edge}{x y z:Operand}{T U E0:TypeId}
theorem bz.Tf{E:Env}{a:Act}{w w':World}(h:bz C S E a w){i:Nat}{js:List Nat}{c:List Oc}{us:List Value}{M':Mem}(hB:S.b i=some ⟨T,cX js c⟩)(hL:Lv S js (rowsOf c))(hjs:js.Nodup)(E4:xN E.M w (E.β i) T c us)
  (hM:E.M.le M') (hn:∀b o x,M' b o=some x→E.M b o=some x∨w.heap.size≤b) (hin:M'.ef w') (ho:xN M' w' (E.β i) T c us)
  (hos:w'.os=w.os) (yV:w'.tape=w.tape) (hout:w'.output=w.output) (hsize:w.heap.size≤w'.heap.size) (pM:∀k,k<w.heap.size→k≠E.β i→¬fj c us k→w'.heap[k]? =w.heap[k]?):
  bz C S {E with M:=M'} a w':=by
 obtain⟨UH,aoF,aaE,us0,UI,aj2⟩:=h.bx i _ hB
 obtain rfl:us0=us:=by
  rw[E4.hp]at UI
  have:=Option.some.inj UI
  injection this with e
  injection e with e
  exact e.symm
 obtain⟨_,hrv⟩:=Bi h hL aj2
 have hlen:=hL.len
 have Mi:∀g,fj c us0 g↔∃j∈js,(E.ν j).ownBlock=some g:=λg=>by
  unfold fj
  rw[hrv]
  constructor
  ·rintro⟨⟨R,v⟩,hm,hg⟩
   obtain⟨j,hj,rfl⟩:=List.mem_map.1 (ny hm).2
   exact⟨j,hj,hg⟩
  ·rintro⟨j,hj,hg⟩
   obtain⟨R,hR⟩:=Bj (l:=rowsOf c) (k:=js.map E.ν) (by simp[hlen]) (List.mem_map.2 ⟨j,hj,Y⟩)
   exact⟨(R,E.ν j),hR,hg⟩
 have FB:∀g,fj c us0 g→(C.w0.heap.size≤g∨C.BP g)∧¬E.O g∧(∀n B,S.b n=some B→E.β n≠g)∧∃c e,w.heap[g]? =some (Obj.cells c e (0,0)):=λg hg=>by
  obtain⟨j,hj,F9⟩:=(Mi g).1 hg
  obtain⟨R,hR⟩:=hL.mem j hj
  obtain⟨⟨us,q1,_⟩,q2⟩:=h.rx j R hR
  obtain⟨q3,q4,q5,q6⟩:=q2 g F9
  refine⟨q3,q5,q6,?_⟩
  rcases q1.2 with⟨q7,_⟩|⟨g',cap,cur,q7,_,q8,_⟩
  ·rw[q7]at F9;cases F9
  ·rw[q7]at F9;cases F9;exact⟨_,_,q8⟩
 have keep:∀x:AV,∀v,x.holds E v→x.holds {E with M:=M'} v:=λx v hv=>AV.dL (E:=E) (E':={E with M:=M'}) hM (λ_ _=>Y) (λ_ _=>Y) hv
 have noM:∀b,b<w.heap.size→(∀o,E.M b o=none)→∀o,M' b o=none:=λb h1 h2 o=>by
  cases e:M' b o with
  |none=>rfl
  |some v=>
   rcases hn b o v e with q|q
   ·rw[h2 o]at q;cases q
   ·omega
 exact{
  wf:=h.wf
  marks:=by
   obtain⟨ds,d1,d2,d3⟩:=h.marks
   refine⟨ds,d1,d2,λr hr=>?_⟩
   obtain⟨p1,p2,p3⟩:=d3 r hr
   refine⟨p1,p2,?_⟩
   rw[pM r (Array.getElem?_eq_some_iff.1 p3).1 (λe=>by rw[e,UI]at p3;cases p3) (λe=>by
    obtain⟨_,_,_,c,e2,q⟩:=FB r e
    rw[q]at p3;cases p3)]
   exact p3
  size:=h.size
  os:=hos.trans h.os
  tape:=yV.trans h.tape
  output:=hout.trans h.output
  grown:=Nat.le_trans h.grown hsize
  frame:=λk hk hown=>by
   rw[pM k (Nat.lt_of_lt_of_le hk h.grown) (λe=>by
    rcases UH with q|q
    ·omega
    ·exact hown (C.Ke _ (by rw[e];exact q))) (λe=>by
    rcases(FB k e).1 with q|q
    ·omega
    ·exact hown (C.Ke _ q))]
   exact h.frame k hk hown
  m0:=Mem.le_trans h.m0 hM
  gE:=λb o v e=>by
   rcases hn b o v e with q|q
   ·exact h.gE b o v q
   ·exact .inr (.inl (Nat.le_trans h.grown q))
  ef:=hin
  tm:=λs=>keep _ _ (h.tm s)
  bx:=λj B iP=>by
   obtain⟨p1,p2,p3,vs,p4,p5⟩:=h.bx j B iP
   have hlt:=(Array.getElem?_eq_some_iff.1 p4).1
   by_cases e:j=i
   ·subst e
    rw[hB]at iP;cases iP
    refine⟨p1,ho.nb,p3,us0,ho.hp,?_⟩
    exact aj2.imp (λx _ v hv=>keep x v hv)
   ·refine⟨p1,noM _ hlt p2,p3,vs,?_,p5.imp (λx _ v hv=>keep x v hv)⟩
    show w'.heap[E.β j]? =_
    rw[pM _ hlt (λq=>e (h.inj j i B _ iP hB q)) (λq=>(FB _ q).2.2.1 j B iP Y)];exact p4
  inj:=h.inj
  rx:=λj R hR=>by
   obtain⟨⟨vs,p1,p2⟩,p3⟩:=h.rx j R hR
   by_cases hj:j∈js
   ·have hz:(R,E.ν j)∈cS c us0:=by
     rw[hrv]
     have key:∀(js:List Nat) (Rs:List Row),Lv S js Rs→j∈js→(R,E.ν j)∈Rs.zip (js.map E.ν):=by
      intro js
      induction js with
      |nil=>intro _ _ h;cases h
      |cons k js ih=>
       intro Rs hl hm
       cases Rs with
       |nil=>exact hl.elim
       |cons R' Rs=>
        rw[List.map_cons,List.zip_cons_cons]
        rcases List.mem_cons.1 hm with q|q
        ·subst q
         have:=hl.1
         rw[hR]at this;cases this
         simp
        ·exact List.mem_cons_of_mem _ (ih Rs hl.2 q)
     exact key js _ hL hj
    refine⟨pV ho.al _ hz,λg hg=>?_⟩
    obtain⟨p4,p5,p6,p7⟩:=p3 g hg
    exact⟨p4,(ho.nr g ⟨_,hz,hg⟩).2,p6,p7⟩
   ·have oth:∀g,(E.ν j).ownBlock=some g→¬fj c us0 g:=λg hg q=>by
     obtain⟨j',hj',e⟩:=(Mi g).1 q
     obtain⟨R',uZ⟩:=hL.mem j' hj'
     have:=h.iL j j' R R' hR uZ g hg e
     subst this;exact hj hj'
    refine⟨⟨vs,eT p1 λg hg=>pM g (nH h hR hg) (λe=>(p3 g hg).2.2.2 i _ hB e.symm) (oth g hg),p2.mono hM⟩,λg hg=>?_⟩
    obtain⟨p4,p5,p6,p7⟩:=p3 g hg
    exact⟨p4,noM g (nH h hR hg) p5,p6,p7⟩
  iL:=h.iL
  kU:=h.kU
  gj:=h.gj
  qf:=λb hb=>by
   obtain⟨p1,p2,p3⟩:=h.qf b hb
   exact⟨Nat.lt_of_lt_of_le p1 hsize,noM b p1 p2,p3⟩
  jj:=C.jf S.g S.go E.O E.M M' w w' h.jj hM hin (λb o v e=>by
    rcases hn b o v e with q|q
    ·exact .inl q
    ·exact .inr ⟨.inl (Nat.le_trans h.grown q),λq2=>by have:=(h.qf b q2).1;omega⟩) (λb hb=>by
    have hb':b<w.heap.size:=by
     rcases hb with⟨q,_⟩|q
     ·exact Nat.lt_of_lt_of_le q h.grown
     ·exact(h.qf b q).1
    refine pM b hb' (λe=>?_) (λe=>?_)
    ·subst e
     rcases hb with⟨q1,q2⟩|q
     ·rcases UH with p|p
      ·omega
      ·exact q2 p
     ·exact aaE q
    ·obtain⟨o1,o3,_⟩:=FB b e
     rcases hb with⟨q1,q2⟩|q
     ·rcases o1 with p|p
      ·omega
      ·exact q2 p
     ·exact o3 q) hos yV hout hsize}
theorem RT.nV(hg:Gd ops S gd rg){f:FuncId}[cZ P f]{g:Operand}{xs:Array Operand}{at_:Array TypeId}{args:List AV}{T:TypeId}{c:List Oc}{res:SV}(hp:FE P f args T c res)(i:Nat)(js:List Nat)(hB:S.b i=some ⟨T,cX js c⟩)(hL:Lv S js (rowsOf c))(hjs:js.Nodup)
  (Ta:args.all AV.oy=true) (hf:S.ev g=.sv (.v (.func (.func f) #[] #[]))) (hargs:CO S xs.toList (args.map (AV.rnb i))) (hd:d<S.n)
  (next:RunT P C ops nd K rest (⟨rg++(bk g++xs.toList.flatMap bk),[i],js,⟨some (d,.sv res),[],[]⟩⟩::acc) (S.set d (.sv res))):RunT P C ops nd K (⟨some d,.call ⟨.value g,xs,at_⟩,ty,pos,aft,gd⟩::rest) acc S:=by
 refine .inl ⟨_,[i],js,_,?_,next⟩
 rintro S' hn ht hb hr k a w L Q ho ⟨E,h⟩ hLL
 refine dw (C:=C) ho (hg.wanted h (λs hs=>ht s (List.mem_append_left _ hs)) Y) ?_
 have Av:a.eval g=.func (.func f) #[] ⟨[]⟩:=by
  have h1:=h.ev g;rw[bR (λ_ h=>List.mem_append_right _ (List.mem_append_left _ h)) ht,hf]at h1;exact h1
 have hall:=Hz Ta (CO.vals h hargs (λs hs=>ht s (List.mem_append_right _ (List.mem_append_right _ hs))))
 have iP:S'.b i=some ⟨T,cX js c⟩:=by rw[hb i (by simp)];exact hB
 have hL':Lv S' js (rowsOf c):=hL.congr (λk hk=>hr k hk)
 obtain⟨us,ho1,IU⟩:=ue h iP hL' hjs
 refine dm (C:=C) (by intro c h;cases h) (qQ Av) ?_
 rw[List.append_nil]
 refine⟨λh=>by simp at h,jN ((hp E.M w (E.β i) _ us h.ef ho1 hall).mono ?_)⟩
 rintro e w' ⟨v,M',rfl,hM,hnew,hin,hv,S0,hos,yV,hout,hsize,pM⟩
 have h1:=h.Tf iP hL' hjs ho1 hM hnew hin S0 hos yV hout hsize pM
 exact hLL _ _ ⟨_,h1.put (x:=.sv res) (v:=v) hv (by show d<S'.n;omega) ik⟩
end steps
end
end Go.Fw
namespace Go.Proofs.YtningmnklfpfjaaGreat
section
open Go.Fw
noncomputable def vC(x0:Lr):Option (Sz):=match x0 with|⟨bn,bp,bB,bD⟩=>(some (bp.length:Int)).bind λx7=>(some (bB.length:Int)).bind λdG=>(some (bD.length:Int)).bind λeY=>some ⟨bn,x7,dG,eY⟩
noncomputable def pW(x0:Lr):Option (Bool):=match x0 with|⟨bn,bp,bB,bD⟩=>(vC ⟨bn,bp,bB,bD⟩).bind λ⟨A7,C6,Fy,GW⟩=>cJ (λ(WY:Bool)=>(bif WY then some false else cJ (λ(RE:Bool)=>(bif RE then some false else cJ (λ(ac9:Bool)=>some ac9) λK16=>(sI bp).bind λnE=>(some (decide ((nE:Int)≤A7))).bind λyj=>(bif yj then(sI bB).bind λyB=>(some (decide ((yB:Int)≤A7))).bind λyK=>some yK else some false).bind λWZ=>K16 WZ)) λGM=>(some (decide ((128:Int)<Fy))).bind λji=>(bif ji then some true else(some (decide ((GW:Int)≠Fy))).bind λjY=>some jY).bind λW0=>GM W0)) λUL=>(some (decide ((A7:Int)<0))).bind λx8=>(bif x8 then some true else(some (decide ((64:Int)<A7))).bind λc8=>some c8).bind λW2=>(bif W2 then some true else(some (decide ((C6:Int)<1))).bind λdR=>some dR).bind λaf3=>(bif af3 then some true else(some (decide ((4:Int)<C6))).bind λiK=>some iK).bind λaf4=>UL af4
end
section
open Go.Fw Go.Fw.Z Go.RowKit
theorem KB{x0:Lr}{r:Sz}(h:vC x0=some r):Pure af 83 [.agg (Om x0)] (.agg (eSz r)):=by
 obtain⟨bn,bp,bB,bD⟩:=x0
 refine bj Tryz.func83 Y (ae Y) (λc9 M vs hvs=>?_)
 unfold vC at h
 refine sr<|bx Y<|al (cs:=[ax 0,ax 0,ax 0,ax 0]) (by exact⟨aq,aq,aq,aq,ak⟩) Y<|dn<|sr<|fa Y Y<|lV Y Y Y<|fa Y Y<|lV Y Y Y<|lE h λx7 h7 h=>ln Y h7<|fa Y Y<|lV Y Y Y<|lE h λdG fY h=>ln Y fY<|fa Y Y ?_
 refine lV Y Y Y<|lE h λeY iX h=>ln Y iX<|bI (cs:=[_,_,_,_]) (cs':=[ax bn,ax x7,ax dG,ax eY]) (.one Y (.one Y (.one Y (.one Y (.nil))))) ⟨aq,aq,aq,aq,ak⟩<|so Y Y Y<|dn<|aY ?_
 obtain rfl:=O h
 exact RZ (.agg Y Y (.k4 Y Y Y Y) Y (.nil))
theorem Gr{x0:Lr}{r:Bool}(h:pW x0=some r):Pure af 34 [.agg (Om x0)] (ay r):=by
 obtain⟨bn,bp,bB,bD⟩:=x0
 refine bj Tryz.func34 Y (ae Y) (λc9 M vs hvs=>?_)
 unfold pW at h
 refine sr<|bx Y<|ag Y<|dn<|sr<|ld Y Y (.k4 Y Y Y Y) ?_
 obtain⟨⟨A7,C6,Fy,GW⟩,h5,h⟩:=bS h
 refine cl (KB h5) ⟨Y,ak⟩<|al (cs:=[ax 0,ax 0,ax 0,ax 0]) (by exact⟨aq,aq,aq,aq,ak⟩) Y<|so Y Y Y<|dn<|qq<|qq ?_
 refine bL h (λQG=>AS.cu 48 [(1,.ptr 1 0),(3,.ptr 3 0),(23,ai QG)] [(3,⟨97,[ah A7,ah C6,ah Fy,ah GW]⟩),(1,⟨25,[ah bn,.sv (slc 1 (List.map (eS 4 eQ) bp)),.sv (slc 1 (List.map (eS 4 eQ) bB)),.sv (slc 4 (List.map eQ bD))]⟩)] []) (λh=>?_) (λWY h=>?_)
 refine aX<|fa Y Y<|lV Y Y Y<|lE h λx8 h8 h=>ls _ Y Y h8<|mv Y<|bE h λW2 wO h=>?_
 cases x8
 refine RT.fieldAddr (.some Y Y) Y T Y<|RT.zu (.some Y Y) Y Y Y T<|lE (F wO) λc8 fI wO=>gg _ Y Y fI ?_
 obtain rfl:=O wO
 refine pF Y<|mv Y<|bE h λaoN IX h=>?_
 cases c8
 refine RT.fieldAddr (.some Y Y) Y T Y<|RT.zu (.some Y Y) Y Y Y T<|lE (F IX) λdR jK IX=>RT.lss (.some Y Y) _ Y Y T jK ?_
 obtain rfl:=O IX
 refine pF Y<|mv Y<|bE h λaoO Dc h=>?_
 cases dR
 refine RT.fieldAddr (.some Y Y) Y T Y<|RT.zu (.some Y Y) Y Y Y T<|lE (F Dc) λiK oz Dc=>gg _ Y Y oz ?_
 obtain rfl:=O Dc
 exact pF Y<|dn<|⟨iK,h,wR []⟩
 obtain rfl:=O (V Dc)
 exact ww<|ww<|ww<|pT Y<|dn<|⟨true,h,wR []⟩
 obtain rfl:=O (V IX)
 refine ww<|ww<|ww<|pT Y<|mv Y<|bE h λaf5 Ec h=>?_
 obtain rfl:=O (V Ec)
 exact ww<|ww<|ww<|pT Y<|dn<|⟨true,h,wR []⟩
 obtain rfl:=O (V wO)
 refine ww<|ww<|ww<|pT Y<|mv Y<|bE h λRF mG h=>?_
 obtain rfl:=O (V mG)
 refine ww<|ww<|ww<|pT Y<|mv Y<|bE h λaoP nW h=>?_
 obtain rfl:=O (V nW)
 exact ww<|ww<|ww<|pT Y<|dn<|⟨true,h,wR []⟩
 try dsimp only
 refine aW.n ?_
 cases WY
 refine fs<|qq<|qq ?_
 refine bL (F h) (λGQ=>AS.cu 48 [(1,.ptr 1 0),(3,.ptr 3 0),(33,ai GQ)] [(3,⟨97,[ah A7,ah C6,ah Fy,ah GW]⟩),(1,⟨25,[ah bn,.sv (slc 1 (List.map (eS 4 eQ) bp)),.sv (slc 1 (List.map (eS 4 eQ) bB)),.sv (slc 4 (List.map eQ bD))]⟩)] []) (λh=>?_) (λRE h=>?_)
 refine aX<|fa Y Y<|lV Y Y Y<|lE h λji qS h=>gt _ Y Y qS<|mv Y<|bE h λW0 kC h=>?_
 cases ji
 refine RT.fieldAddr (.some Y Y) Y T Y<|RT.zu (.some Y Y) Y Y Y T<|RT.fieldAddr (.some Y Y) Y T Y<|RT.zu (.some Y Y) Y Y Y T<|lE (F kC) λjY qT kC=>gq _ Y Y (Le (p:=GW) (q:=Fy) qT) ?_
 obtain rfl:=O kC
 exact pF Y<|dn<|⟨jY,h,wR []⟩
 obtain rfl:=O (V kC)
 exact ww<|ww<|ww<|ww<|ww<|pT Y<|dn<|⟨true,h,wR []⟩
 try dsimp only
 refine aW.n ?_
 cases RE
 refine fs<|qq ?_
 refine bL (F h) (λS7=>AS.cu 48 [(2,ai S7)] [] []) (λh=>?_) (λac9 h=>?_)
 refine aZ mixed<|fa Y Y<|lV Y Y Y<|bE h λnE xo h=>cl (Gp xo) ⟨Y,ak⟩<|fa Y Y<|lV Y Y Y<|lE h λyj Fs h=>RT.leq .none _ Y Y T Fs<|mv Y<|bE h λWZ qH h=>?_
 cases yj
 obtain rfl:=O (F qH)
 refine ww<|ww<|ww<|ww<|ww<|ww<|pF Y<|ag Y ?_
 refine RT.done ⟨by kernel_rfl,?_⟩
 exact aW.n<|⟨false,h,wR []⟩
 refine RT.fieldAddr (.some Y Y) Y T Y<|RT.zu (.some Y Y) Y Y Y T<|bE (V qH) λyB EV qH=>gc (Gp EV) ⟨Y,ak⟩<|RT.fieldAddr (.some Y Y) Y T Y<|RT.zu (.some Y Y) Y Y Y T<|lE qH λyK h46 qH=>RT.leq (.some Y Y) _ Y Y T h46 ?_
 obtain rfl:=O qH
 refine pT Y<|ag Y ?_
 refine RT.done ⟨by kernel_rfl,?_⟩
 exact aW.n<|⟨yK,h,wR []⟩
 try dsimp only
 refine aW.n<|aY ?_
 obtain rfl:=O h
 exact R1 Y
 refine cT<|sr<|ag Y<|dn<|aY<|aW.r ?_
 obtain rfl:=O (V h)
 exact R1 Y
 refine cT<|sr<|ag Y<|dn<|aY<|aW.r ?_
 obtain rfl:=O (V h)
 exact R1 Y
end
end Go.Proofs.YtningmnklfpfjaaGreat
namespace Go.Fw
section
open Go.RowKit
def Tg(P:Program)(f:FuncId)(args:Nat→List AV)(T:TypeId)(c:List Oc)(Post:Nat→Mem→World→Value→Prop):Prop:=
 ∀(M:Mem) (w:World) (β:Nat) (vs us:List Value),M.ef w→xN M w β T c us→ei (wM M β) (args β) vs→
  Calls P f ⟨vs⟩ w λe w'=>∃v M',e=.returned v∧M.le M'∧(∀b o x,M' b o=some x→M b o=some x∨w.heap.size≤b)∧M'.ef w'∧Post w.heap.size M' w' v∧
   xN M' w' β T c us∧w'.os=w.os∧w'.tape=w.tape∧w'.output=w.output∧w.heap.size≤w'.heap.size∧∀k,k<w.heap.size→k≠β→¬fj c us k→w'.heap[k]? =w.heap[k]?
theorem Pn{P:Program}{f:FuncId}{fn:Func}{code:Code}{args:Nat→List AV}{T:TypeId}{c:List Oc}{Post:Nat→Mem→World→Value→Prop}(ids:List Nat)(hf:P.funcs[f]? =some fn)(hb:fn.body=some code)(hn:∀β,(args β).length≤fn.ntmps)(Ta:∀β,(args β).all AV.oy=true)(Kh:ids.Nodup)(hil:ids.length=(rowsOf c).length)(hge:(ids.all λi=>Nat.ble 1000 i)=true)(af6:MN c)(Rq:AS→Prop)
  (h:∀(w:World) (M:Mem) (β:Nat) (us:List Value),Ok P (aaI w M β c us ids hge) code (AS.J9 fn.ntmps (args β) [(1000,⟨T,cX ids c⟩)] (ids.zip (rowsOf c))) (λe S=>(e=.normal∨e=.ret)∧Rq S∧S.b 1000=some ⟨T,cX ids c⟩∧Lv S ids (rowsOf c)))
  (hr:∀(w:World) (M:Mem) (β:Nat) (us:List Value) (S':AS) (E:Env) (a:Act) (w':World),Rq S'→bz (aaI w M β c us ids hge) S' E a w'→S'.b 1000=some ⟨T,cX ids c⟩→(∀g,fj c us g→∃j∈ids,(E.ν j).ownBlock=some g)→(∀j∈ids,∃R,S'.r j=.live R)→∃v,(results fn a.tmps).run P w'=.ok v w'∧Post w.heap.size E.M w' v):Tg P f args T c Post:=by
 intro M w β vs us hM ho hv
 have hrv:(cS c us).length=(rowsOf c).length:=by rw[←l8 ho.al,List.length_map]
 have hnd:((ids.zip (cS c us)).map (·.1)).Nodup:=by rw[Hy (by omega)];exact Kh
 have aeM:bz (aaI w M β c us ids hge) (AS.J9 fn.ntmps (args β) [(1000,⟨T,cX ids c⟩)] (ids.zip (rowsOf c))) ⟨λ_=>β,pU (ids.zip (cS c us)) (λ_=>.nilIface),λ_=>False,M⟩ {tmps:=⟨vs⟩++Array.replicate (fn.ntmps-(⟨vs⟩:Array Value).size) undef,defers:=[]} w:=by
  have h0:=S9 (n:=fn.ntmps) ids hM ho hv (Ta β) (hn β) Kh hil
  exact{wf:=h0.wf,marks:=h0.marks,size:=h0.size,os:=h0.os,tape:=h0.tape,output:=h0.output,grown:=h0.grown,frame:=h0.frame,m0:=h0.m0,gE:=h0.gE,ef:=h0.ef,tm:=h0.tm,bx:=h0.bx,inj:=h0.inj,rx:=h0.rx,iL:=h0.iL,kU:=h0.kU,gj:=λi v e=>(by
   obtain⟨R,hm⟩:=MM e
   exact mS hnd hm),qf:=h0.qf,jj:=trivial}
 refine jv Y hf hb aeM (h w M β us) ?_
 rintro S' E a w' ⟨hq,hB,hL⟩ hh
 have hβ:E.β 1000=β:=hh.kU 1000 β Y
 obtain⟨us',ho',pM⟩:=ue hh hB hL Kh
 rw[hβ]at ho'
 obtain⟨_,_,_,Zz,q2,q3⟩:=hh.bx 1000 _ hB
 rw[hβ,ho'.hp]at q2
 obtain rfl:us'=Zz:=by
  have:=Option.some.inj q2
  injection this with e
  injection e
 obtain⟨_,aoQ⟩:=Bi hh hL q3
 have nJ:cS c us=cS c us':=by
  rw[aoQ]
  have key:∀(ids:List Nat) (l:List (Row×Value)) (Rs:List Row),ids.length=l.length→l.map (·.1)=Rs→(∀i R v,(i,R,v)∈ids.zip l→E.ν i=v)→l=Rs.zip (ids.map E.ν):=by
   intro ids
   induction ids with
   |nil=>intro l Rs hl hm _;cases l with|nil=>cases hm;rfl|cons _ _=>simp at hl
   |cons i ids ih=>
    intro l Rs hl hm hν
    cases l with
    |nil=>simp at hl
    |cons p l=>
     cases hm
     obtain⟨R,v⟩:=p
     rw[List.map_cons,List.map_cons,List.zip_cons_cons,hν i R v (by rw[List.zip_cons_cons];simp),←ih l _ (by simpa using hl) Y (λi R v hm=>hν i R v (by rw[List.zip_cons_cons];exact List.mem_cons_of_mem _ hm))]
  exact key ids _ _ (by omega) (l8 ho.al) (λi R v hm=>hh.gj i v (WX hnd hm))
 obtain rfl:us=us':=MO af6 ho.al ho'.al nJ
 obtain⟨v,hv,hx⟩:=hr w M β us S' E a w' hq hh hB (λg hg=>(pM g).1 hg) (λj hj=>hL.mem j hj)
 refine⟨v,hv,v,E.M,Y,hh.m0,λb o x e=>?_,hh.ef,hx,ho',hh.os,hh.tape,hh.output,hh.grown,λk hk hne hno=>hh.frame k hk (λe=>e.elim hne hno)⟩
 rcases hh.gE b o x e with q|q|q|q
 ·exact .inl q
 ·exact .inr q
 ·rw[show b=β from q,ho'.nb o]at e;cases e
 ·rw[(ho'.nr b q).2 o]at e;cases e
section steps
variable {P:Program}{C:Ctx}{ops:Array Oper}{S:AS}{nd:Bool}{K:List Ac→AS→Prop}{rest:List Oper}{acc:List Ac}
variable {gd:Option (Nat×Bool)}{rg:List Nat}{d:Nat}{ty:TypeId}{pos:String}{aft:Array Edge}{x y z:Operand}{T U E0:TypeId}
end steps
end
section
open Go.RowKit
instance{cs:List SV}:One (ref cs):=⟨λ_ _ h=>by obtain⟨b,o,rfl,_⟩:=h;rfl⟩
section steps
variable {P:Program}{C:Ctx}{ops:Array Oper}{S:AS}{nd:Bool}{K:List Ac→AS→Prop}{rest:List Oper}{acc:List Ac}
variable {gd:Option (Nat×Bool)}{rg:List Nat}{d:Nat}{ty:TypeId}{pos:String}{aft:Array Edge}{x y z:Operand}{T U E0:TypeId}
theorem RT.cq(hg:Gd ops S gd rg){cs:List SV}(hx:S.ev x=.sv (ref cs))(hd:d<S.n)
  (next:RunT P C ops nd K rest (⟨rg++bk x,[],[],⟨some (d,.sv (ref cs)),[],[]⟩⟩::acc) (S.set d (.sv (ref cs)))):RunT P C ops nd K (⟨some d,.nilCheck x,ty,pos,aft,gd⟩::rest) acc S:=
 RT.value hg (bk x) [] [] (.sv (ref cs)) hd (by intro c h;cases h) (λS' ht _ _ E a w h=>by
  have h1:=h.ev x
  rw[bR (λ_ h=>h) ht,hx]at h1
  have h1:(ref cs).h E.M (a.eval x):=h1
  obtain⟨b,o,e,h2⟩:=h1
  exact⟨a.eval x,by simp[execOp,e],⟨b,o,e,h2⟩,ik⟩) next
theorem RT.W4(hg:Gd ops S gd rg)[tT:Tc P T]{cs:List SV}(hx:S.ev x=.sv (ref cs))(hy:S.ev y=.sv (.v (.pointer none)))(hd:d<S.n)
  (next:RunT P C ops nd K rest (⟨rg++(bk x++bk y),[],[],⟨some (d,.sv (.v (.bool false))),[],[]⟩⟩::acc) (S.set d (.sv (.v (.bool false))))):RunT P C ops nd K (⟨some d,.binOp .eql T x y U,ty,pos,aft,gd⟩::rest) acc S:=
 RT.value hg (bk x++bk y) [] [] (.sv (.v (.bool false))) hd (by intro c h;cases h) (λS' ht _ _ E a w h=>by
  have h1:=h.ev x
  rw[bR (λ_ h=>List.mem_append_left _ h) ht,hx]at h1
  have h2:=h.ev y
  rw[bR (λ_ h=>List.mem_append_right _ h) ht,hy]at h2
  have h1:(ref cs).h E.M (a.eval x):=h1
  obtain⟨b,o,h1,_⟩:=h1
  have h2:a.eval y=.pointer none:=h2
  have e:=run_eql_pointer_nil (P:=P) w T (some ⟨b,o,none⟩) tT.u
  refine⟨.bool false,?_,Y,ik⟩
  simp[execOp,h1,h2,eqGuard,e]) next
end steps
end
section
open Go.RowKit
noncomputable def yW(M:Mem)(w:World)(p:Nat→Prop):Mem:=λb o=>@ite _ (p b) (Classical.propDecidable _) (match w.cell? ⟨b,o,none⟩with|some v=>if v.oneCell'=true then some v else none|none=>none) (M b o)
noncomputable def Ed(M:Mem)(p:Nat→Prop):Mem:=λb o=>@ite _ (p b) (Classical.propDecidable _) none (M b o)
theorem Ee{M:Mem}{w:World}{p:Nat→Prop}{b o:Nat}{v:Value}(hb:p b)(hc:w.cell? ⟨b,o,none⟩=some v)(h1:v.oneCell'=true):yW M w p b o=some v:=by
 unfold yW;rw[if_pos hb,hc];simp[h1]
theorem LA{M:Mem}{w:World}{p:Nat→Prop}(h:M.ef w):(yW M w p).ef w:=λb o v e=>by
 unfold yW at e
 split at e
 ·split at e
  ·rename_i q
   split at e
   ·rename_i h1;cases e;exact Fact.of q h1
   ·cases e
  ·cases e
 ·exact h b o v e
theorem Bl{M:Mem}{w:World}{p:Nat→Prop}(h:∀b,p b→∀o,M b o=none):M.le (yW M w p):=λb o v e=>by
 unfold yW;rw[if_neg];exact e
 intro hb;rw[h b hb o]at e;cases e
theorem Po{M:Mem}{p:Nat→Prop}:(Ed M p).le M:=λb o v e=>by
 unfold Ed at e
 split at e
 ·cases e
 ·exact e
theorem Pp{M:Mem}{p:Nat→Prop}{b o:Nat}{v:Value}(hb:¬p b)(e:M b o=some v):Ed M p b o=some v:=by unfold Ed;rw[if_neg hb];exact e
theorem IY{M:Mem}{p:Nat→Prop}{b:Nat}(hb:p b)(o:Nat):Ed M p b o=none:=by unfold Ed;rw[if_pos hb]
def OcI:List Oc→List SV→Prop
 |[],[]=>True
 |.s x::l,y::k=>(SV.imp x y∧∀M v,x.h M v→v.oneCell'=true)∧OcI l k
 |.r R::l,y::k=>(∃rows,Rows R.sz rows R.cells∧rows.length=R.n∧(∀M vs,SV.fX M R.cells vs→∀v∈vs,v.oneCell'=true)∧SV.imp (slc R.sz rows) y)∧OcI l k
 |_,_=>False
theorem dJ{E:TypeId}{n:Nat}{α:Type}{e:α→List SV}{l:List α}[el:EL e n]:∃rows,Rows (TR E n e l).sz rows (TR E n e l).cells∧rows.length=(TR E n e l).n∧(∀M vs,SV.fX M (TR E n e l).cells vs→∀v∈vs,v.oneCell'=true)∧SV.imp (slc (TR E n e l).sz rows) (slc n (l.map e)):=
 ⟨l.map e,yH l,by simp,sB l,aq⟩
theorem W5{M:Mem}{w:World}{p:Nat→Prop}{R:Row}{v:Value}{rows:List (List SV)}(hno:∀b,p b→∀o,M b o=none)(hb:∀g,v.ownBlock=some g→p g)(ho:∃vs:List Value,w.ownsRow 0 R.E R.sz v R.n vs∧SV.fX M R.cells vs)
  (nJ:Rows R.sz rows R.cells) (hn:rows.length=R.n) (hone:∀M vs,SV.fX M R.cells vs→∀v∈vs,v.oneCell'=true):(slc R.sz rows).h (yW M w p) v∧v.oneCell'=true:=by
 obtain⟨vs,hown,hvs⟩:=ho
 have uE:=AH nJ
 rcases hown.2 with⟨h1,h2⟩|⟨g,cap,cur,h1,_,h2,h3,h4,h5,h6⟩
 ·rw[h2]at hn
  exact⟨.inl ⟨none,h1,List.length_eq_zero_iff.1 hn⟩,by rw[h1];rfl⟩
 ·have hg:p g:=hb g (by rw[h1];rfl)
  have hm:maxLen=9223372036854775807:=by decide
  refine⟨.inr ⟨g,0,cap,by rw[h1,hn],by rw[hn];exact h3,by omega,λk row hk=>?_⟩,by rw[h1];rfl⟩
  obtain⟨q1,q2⟩:=yE nJ k row hk
  refine⟨q1,λj s hs=>?_⟩
  have EU:=q2 j s hs
  obtain⟨y,hy,hys⟩:=hvs.get EU
  have hlt:k*R.sz+j<R.n*R.sz:=by
   have:=(List.getElem?_eq_some_iff.1 EU).1
   rw[uE,hn]at this;exact this
  have h1':=hone _ _ hvs y (List.mem_of_getElem? hy)
  refine⟨y,Ee hg ?_ h1',h1',s.mono (Bl hno) hys⟩
  rw[←h6,List.getElem?_take,if_pos hlt]at hy
  simp only[World.cell?,h2]
  simpa using hy
theorem Ef{M:Mem}{w:World}{p:Nat→Prop}(hno:∀b,p b→∀o,M b o=none):∀{c:List Oc} {cs:List SV} {us:List Value} {k:Nat} {s:SV},OcI c cs→xM M w c us→(∀q∈cS c us,∀g,q.2.ownBlock=some g→p g)→cs[k]? =some s→∃y,us[k]? =some y∧y.oneCell'=true∧s.h (yW M w p) y
 |.s x::l,y::cs,u::us,k,s,hi,ho,hb,hk=>by
  cases k with
  |zero=>cases hk;exact⟨u,rfl,hi.1.2 _ _ ho.1,y.mono (Bl hno) (hi.1.1 _ _ ho.1)⟩
  |succ k=>exact Ef hno (c:=l) (cs:=cs) (us:=us) (k:=k) hi.2 ho.2 hb hk
 |.r R::l,y::cs,u::us,k,s,hi,ho,hb,hk=>by
  cases k with
  |zero=>
   cases hk
   obtain⟨rows,q1,q2,q3,q4⟩:=hi.1
   obtain⟨r1,r2⟩:=W5 hno (λg hg=>hb (R,u) (by rw[cS];simp) g hg) ho.1 q1 q2 q3
   exact⟨u,Y,r2,q4 _ _ r1⟩
  |succ k=>exact Ef hno (c:=l) (cs:=cs) (us:=us) (k:=k) hi.2 ho.2 (λq hq=>hb q (by rw[cS];exact List.mem_cons_of_mem _ hq)) hk
 |[],[],_,_,_,_,_,_,hk=>by simp at hk
 |[],_::_,_,_,_,hi,_,_,_=>hi.elim
 |.s _::_,[],_,_,_,hi,_,_,_=>hi.elim
 |.r _::_,[],_,_,_,hi,_,_,_=>hi.elim
 |.s _::_,_::_,[],_,_,_,ho,_,_=>ho.elim
 |.r _::_,_::_,[],_,_,_,ho,_,_=>ho.elim
theorem Dd{M M':Mem}{w w':World}(hM:M.le M'):∀{c:List Oc} {us:List Value},xM M w c us→(∀q∈cS c us,∀g,q.2.ownBlock=some g→w'.heap[g]? =w.heap[g]?)→xM M' w' c us
 |[],[],_,_=>trivial
 |.s x::l,u::us,h,hs=>⟨x.mono hM h.1,Dd hM (c:=l) (us:=us) h.2 hs⟩
 |.r R::l,u::us,h,hs=>by
  obtain⟨vs,h1,h2⟩:=h.1
  exact⟨⟨vs,eT h1 (λg hg=>hs (R,u) (by rw[cS];simp) g hg),h2.mono hM⟩,Dd hM (c:=l) (us:=us) h.2 (λq hq=>hs q (by rw[cS];exact List.mem_cons_of_mem _ hq))⟩
 |[],_::_,h,_=>h.elim
 |.s _::_,[],h,_=>h.elim
 |.r _::_,[],h,_=>h.elim
def AV.aj3(cells:List SV):AV→SV
 |.sv s=>s
 |_=>ref cells
def AV.ada:AV→Bool
 |.sv _=>true
 |.ptr i o=>Nat.beq i 1000&&Nat.beq o 0
 |_=>false
theorem Pq{M M':Mem}{β:Nat}{cells:List SV}(hM:M.le M')(hc:(ref cells).h M' (.pointer (some ⟨β,0,none⟩))):∀{args:List AV} {vs:List Value},(args.all AV.ada)=true→ei (wM M β) args vs→SV.fX M' (args.map (AV.aj3 cells)) vs
 |[],[],_,_=>trivial
 |x::l,v::vs,hy,h=>by
  rw[List.all_cons,Bool.and_eq_true]at hy
  refine⟨?_,Pq hM hc hy.2 h.2⟩
  cases x with
  |sv s=>exact s.mono hM h.1
  |ptr i o=>
   have h1:=Bool.and_eq_true_iff.1 hy.1
   have e:v=.pointer (some ⟨β,o,none⟩):=h.1
   rw[e,Nat.eq_of_beq_eq_true h1.2];exact hc
  |_=>exact(Bool.false_ne_true hy.1).elim
 |[],_::_,_,h=>h.elim
 |_::_,[],_,h=>h.elim
theorem fK{P:Program}{f:FuncId}{args:List AV}{T:TypeId}{c:List Oc}{cells:List SV}{r:Nat→SV}{res:SV}(hp:∀N,dB P f N (args.map (AV.aj3 cells)) (r N))(hy:args.all AV.ada=true)(hi:OcI c cells)(hr:∀N M v,(r N).h M v→res.h (M.fr N) v):FE P f args T c res:=by
 intro M w β vs us hM ho hv
 have hno:∀b,(b=β∨fj c us b)→∀o,M b o=none:=λb hb o=>by
  rcases hb with rfl|hb
  ·exact ho.nb o
  ·exact(ho.nr b hb).2 o
 have hlt:∀b,(b=β∨fj c us b)→b<w.heap.size:=λb hb=>by
  rcases hb with rfl|⟨q,hq,hg⟩
  ·exact(Array.getElem?_eq_some_iff.1 ho.hp).1
  ·obtain⟨ws,h1,_⟩:=pV ho.al q hq
   rcases h1.2 with⟨h2,_⟩|⟨g,cap,cur,h2,_,h3,_⟩
   ·rw[h2]at hg;cases hg
   ·rw[h2]at hg;cases hg;exact(Array.getElem?_eq_some_iff.1 h3).1
 have uE:(ref cells).h (yW M w (λb=>b=β∨fj c us b)) (.pointer (some ⟨β,0,none⟩)):=⟨β,0,Y,λk s hk=>by
  obtain⟨y,h1,h2,h3⟩:=Ef hno hi ho.al (λq hq g hg=>.inr ⟨q,hq,hg⟩) hk
  refine⟨y,Ee (.inl Y) ?_ h2,h2,h3⟩
  simp only[World.cell?,ho.hp]
  simpa using h1⟩
 refine(hp w.heap.size _ w vs (Nat.le_refl _) (LA hM) (Pq (Bl hno) uE hy hv)).mono ?_
 rintro e w' ⟨v,M',rfl,hM',hnew,aoR,hres,hb⟩
 have hMM:M.le (Ed M' (λb=>b=β∨fj c us b)):=λb o x e=>Pp (λhb=>by rw[hno b hb o]at e;cases e) (hM' b o x (Bl hno b o x e))
 refine⟨v,Ed M' (λb=>b=β∨fj c us b),Y,hMM,λb o x e=>?_,λb o x e=>aoR b o x (Po b o x e),res.mono (λb o x e=>?_) (hr _ _ _ hres),?_,hb.os,hb.tape,hb.output,hb.size,λk hk _ _=>hb.block k hk⟩
 ·rcases hnew b o x (Po b o x e)with q|q
  ·refine .inl ?_
   unfold yW at q
   split at q
   ·rename_i J7
    have e2:Ed M' (λb=>b=β∨fj c us b) b o=none:=IY (p:=λb=>b=β∨fj c us b) J7 o
    rw[e2]at e;cases e
   ·exact q
  ·exact .inr q
 ·unfold Mem.fr at e
  split at e
  ·rename_i hN
   exact Pp (λJ7=>by have:=hlt b J7;omega) e
  ·cases e
 ·exact⟨by rw[hb.block β (hlt β (.inl Y))];exact ho.hp,Dd hMM ho.al (λq hq g hg=>hb.block g (hlt g (.inr ⟨q,hq,hg⟩))),λo=>IY (p:=λb=>b=β∨fj c us b) (.inl Y) o,λg hg=>⟨(ho.nr g hg).1,λo=>IY (p:=λb=>b=β∨fj c us b) (.inr hg) o⟩,ho.ap⟩
theorem oX{P:Program}{f:FuncId}{args:List SV}{r:SV}(h:Pure P f args r)(N:Nat):dB P f N args r:=λM w vs _ hM hv=>h M w vs hM hv
theorem af7{s:SV}:∀(N:Nat) (M:Mem) (v:Value),(nw N s).h M v→s.h (M.fr N) v:=λ_ _ _ h=>h.1
theorem HA{l:List Qr}:∀(N:Nat) (M:Mem) (v:Value),(nw N (slc 4 (l.map (fQ N)))).h M v→(slc 4 (l.map eQ)).h (M.fr N) v:=λN M v h=>Ur (M.fr N) v (by
 obtain⟨h1,h2⟩:=h
 rw[←Mem.We]at h1
 exact⟨h1,λg e=>by rw[Mem.We];exact h2 g e⟩)
theorem Pr{x:Value}:∀(N:Nat) (M:Mem) (v:Value),(SV.v x).h M v→(SV.v x).h (M.fr N) v:=λ_ _ _ h=>h
theorem MP{P:Program}{f:FuncId}{fn:Func}{code:Code}{args:Nat→List AV}{T:TypeId}{c:List Oc}{res:SV}(ids:List Nat)(hf:P.funcs[f]? =some fn)(hb:fn.body=some code)(hn:∀β,(args β).length≤fn.ntmps)(Ta:∀β,(args β).all AV.oy=true)(Kh:ids.Nodup)(hil:ids.length=(rowsOf c).length)(hge:(ids.all λi=>Nat.ble 1000 i)=true)(af6:MN c)
  (h:∀(w:World) (M:Mem) (β:Nat) (us:List Value),Ok P (aaI w M β c us ids hge) code (AS.J9 fn.ntmps (args β) [(1000,⟨T,cX ids c⟩)] (ids.zip (rowsOf c))) (λe S=>(e=.normal∨e=.ret)∧VH P S fn.results.toList res∧S.b 1000=some ⟨T,cX ids c⟩∧Lv S ids (rowsOf c))):Tg P f args T c (λ_ M' _ v=>res.h M' v):=
 Pn ids hf hb hn Ta Kh hil hge af6 _ h (λw M β us S' E a w' hr hh _ _ _=>by
  obtain⟨v,hv,hx⟩:=(E7.sv hr).run hh
  exact⟨v,hv,hx⟩)
section steps
variable {P:Program}{C:Ctx}{ops:Array Oper}{S:AS}{nd:Bool}{K:List Ac→AS→Prop}{rest:List Oper}{acc:List Ac}{Q:Exit→AS→Prop}
variable {gd:Option (Nat×Bool)}{rg:List Nat}{d:Nat}{ty:TypeId}{pos:String}{aft:Array Edge}{x y z:Operand}{T U E0:TypeId}
theorem aaJ{c:Code}{i k β:Nat}(hp:C.kU k=some β)(hB:S.b i=some ⟨T,[.ptr k 0]⟩)(h:Ok P C c (S.ow i ⟨T,[.sv (.v (.pointer (some ⟨β,0,none⟩)))]⟩) Q):Ok P C c S Q:=λa w ⟨E,hh⟩=>by
 refine h a w ⟨E,?_⟩
 have hβ:E.β k=β:=hh.kU k β hp
 have GH:∀j B,(S.ow i ⟨T,[.sv (.v (.pointer (some ⟨β,0,none⟩)))]⟩).b j=some B→(j=i∧B=⟨T,[.sv (.v (.pointer (some ⟨β,0,none⟩)))]⟩)∨(j≠i∧S.b j=some B):=λj B e=>by
  by_cases hj:j=i
  ·subst hj;rw[AS.dO]at e;cases e;exact .inl ⟨rfl,rfl⟩
  ·rw[AS.cG _ _ _ _ hj]at e;exact .inr ⟨hj,e⟩
 have bTo:∀j,(∃B,S.b j=some B)→∃B,(S.ow i ⟨T,[.sv (.v (.pointer (some ⟨β,0,none⟩)))]⟩).b j=some B:=λj ⟨B,e⟩=>by
  by_cases hj:j=i
  ·subst hj;exact⟨_,AS.dO _ _ _⟩
  ·exact⟨B,by rw[AS.cG _ _ _ _ hj];exact e⟩
 have af8:∀j B,(S.ow i ⟨T,[.sv (.v (.pointer (some ⟨β,0,none⟩)))]⟩).b j=some B→∃B',S.b j=some B':=λj B e=>by
  rcases GH j B e with⟨rfl,_⟩|⟨_,q⟩
  ·exact⟨_,hB⟩
  ·exact⟨_,q⟩
 exact{hh with
  wf:=⟨λs j hj=>bTo j (hh.wf.tb s j hj),hh.wf.tr,λj B e y hy m hm=>by
    rcases GH j B e with⟨rfl,rfl⟩|⟨_,q⟩
    ·obtain rfl:y=_:=by simpa using hy
     exact(hm:False).elim
    ·exact bTo m (hh.wf.bb j B q y hy m hm),λj B e y hy m hm=>by
    rcases GH j B e with⟨rfl,rfl⟩|⟨_,q⟩
    ·obtain rfl:y=_:=by simpa using hy
     exact(hm:False).elim
    ·exact hh.wf.br j B q y hy m hm⟩
  bx:=λj B e=>by
   rcases GH j B e with⟨rfl,rfl⟩|⟨_,q⟩
   ·obtain⟨h1,h2,h3,vs,h4,h5⟩:=hh.bx j _ hB
    refine⟨h1,h2,h3,vs,h4,?_⟩
    match vs,h5 with
    |[v],h5=>exact⟨(show v=.pointer (some ⟨β,0,none⟩)from hβ▸h5.1),ak⟩
   ·exact hh.bx j B q
  inj:=λj j' B B' e e' q=>by
   obtain⟨_,h1⟩:=af8 j B e
   obtain⟨_,h2⟩:=af8 j' B' e'
   exact hh.inj j j' _ _ h1 h2 q
  rx:=λj R hR=>by
   obtain⟨p1,p2⟩:=hh.rx j R hR
   refine⟨p1,λg hg=>?_⟩
   obtain⟨q1,q2,q3,q4⟩:=p2 g hg
   refine⟨q1,q2,q3,λm B e=>?_⟩
   obtain⟨_,h1⟩:=af8 m B e
   exact q4 m _ h1}
theorem RT.FF(hg:Gd ops S gd rg)[tV:zo P T]{k β:Nat}{B:vT}(hx:S.ev x=.sv (ref [.v (.pointer (some ⟨β,0,none⟩))]))(hp:C.kU k=some β)(hB:S.b k=some B)(hd:d<S.n)
  (next:RunT P C ops nd K rest (⟨rg++bk x,[k],[],⟨some (d,.ptr k 0),[],[]⟩⟩::acc) (S.set d (.ptr k 0))):RunT P C ops nd K (⟨some d,.load T x,ty,pos,aft,gd⟩::rest) acc S:=
 RT.value hg (bk x) [k] [] (.ptr k 0) hd (by intro c h;cases h) (λS' ht hb _ E a w h=>by
  have h1:=h.ev x
  rw[bR (λ_ h=>h) ht,hx]at h1
  obtain⟨b,o,e,hc⟩:=h1
  obtain⟨u,hu,hu1,hs⟩:=hc 0 _ Y
  have hβ:E.β k=β:=h.kU k β hp
  have hs:u=.pointer (some ⟨β,0,none⟩):=hs
  refine⟨u,?_,by show u=.pointer (some ⟨E.β k,0,none⟩);rw[hβ];exact hs,λj e=>?_,λj e=>e.elim⟩
  ·have hcc:w.cell? ⟨b,o,none⟩=some u:=(h.ef _ _ _ hu).cell hu1
   simp[execOp,e,Instr.loadAt,Instr.sureAddr,loadVar,tV.isAgg,hcc]
  ·have e:j=k:=e
   subst e
   exact⟨B,by rw[hb j (by simp)];exact hB⟩) next
theorem RT.aaK(hg:Gd ops S gd rg){f:FuncId}[cZ P f]{g:Operand}{xs:Array Operand}{at_:Array TypeId}{args:List AV}{caps:Nat→List SV}{β:Nat}{T:TypeId}{c:List Oc}{res:SV}(hp:Tg P f (λβ=>args++(caps β).map AV.sv) T c (λ_ M' _ v=>res.h M' v))(i:Nat)(js:List Nat)(QY:C.kU i=some β)(hB:S.b i=some ⟨T,cX js c⟩)(hL:Lv S js (rowsOf c))(hjs:js.Nodup)
  (Ta:args.all AV.oy=true) (hf:S.ev g=.sv (oN f (caps β))) (hargs:CO S xs.toList (args.map (AV.rnb i))) (hd:d<S.n)
  (next:RunT P C ops nd K rest (⟨rg++(bk g++xs.toList.flatMap bk),[i],js,⟨some (d,.sv res),[],[]⟩⟩::acc) (S.set d (.sv res))):RunT P C ops nd K (⟨some d,.call ⟨.value g,xs,at_⟩,ty,pos,aft,gd⟩::rest) acc S:=by
 refine .inl ⟨_,[i],js,_,?_,next⟩
 rintro S' hn ht hb hr k a w L Q ho ⟨E,h⟩ hLL
 refine dw (C:=C) ho (hg.wanted h (λs hs=>ht s (List.mem_append_left _ hs)) Y) ?_
 have Av:(oN f (caps β)).h E.M (a.eval g):=by
  have h1:=h.ev g;rw[bR (λ_ h=>List.mem_append_right _ (List.mem_append_left _ h)) ht,hf]at h1;exact h1
 obtain⟨xy,Av,Kc⟩:=Av
 have hβ:E.β i=β:=h.kU i β QY
 have hall:=Hz Ta (CO.vals h hargs (λs hs=>ht s (List.mem_append_right _ (List.mem_append_right _ hs))))
 have iP:S'.b i=some ⟨T,cX js c⟩:=by rw[hb i (by simp)];exact hB
 have hL':Lv S' js (rowsOf c):=hL.congr (λk hk=>hr k hk)
 obtain⟨us,ho1,IU⟩:=ue h iP hL' hjs
 have aj4:ei (wM E.M (E.β i)) (args++(caps (E.β i)).map AV.sv) (xs.toList.map a.eval++xy):=hall.append (ei.DE (E:=wM E.M (E.β i)) (by rw[hβ];exact Kc))
 have hrun:(execOp a.eval ⟨some d,.call ⟨.value g,xs,at_⟩,ty,pos,aft,gd⟩).run P w=.ok (.enter f ⟨xs.toList.map a.eval++xy⟩) w:=by
  have e2:xs.map a.eval++⟨xy⟩=⟨xs.toList.map a.eval++xy⟩:=by apply Array.ext';simp
  have e1:=cZ.run (P:=P) (f:=f) (xs.map a.eval++⟨xy⟩) w
  rw[←e2]
  simp[execOp,resolve,Av,Deferred.ofValue,invoke,e1]
 refine dm (C:=C) (by intro c h;cases h) hrun ?_
 refine⟨λh=>by simp at h,jN ((hp E.M w (E.β i) _ us h.ef ho1 aj4).mono ?_)⟩
 rintro e w' ⟨v,M',rfl,hM,hnew,hin,hv,S0,hos,yV,hout,hsize,pM⟩
 have h1:=h.Tf iP hL' hjs ho1 hM hnew hin S0 hos yV hout hsize pM
 exact hLL _ _ ⟨_,h1.put (x:=.sv res) (v:=v) hv (by show d<S'.n;omega) ik⟩
theorem aaL{α:Type}(l k:List α):(N1 l k).length=l.length:=by unfold N1;simp;omega
theorem LB{M:Mem}{b:Nat}{α:Type}{e:α→List SV}[el:EL e 1]:∀(k:List α) (o:Nat),(∀(i:Nat) (row:List SV),(k.map e)[i]? =some row→∀(q:Nat) (s:SV),row[q]? =some s→∃y,M b (o+i*1+q)=some y∧y.oneCell'=true∧s.h M y)→∃cs:List Value,cs.length=k.length∧SV.fX M (k.flatMap e) cs∧∀j v,cs[j]? =some v→M b (o+j)=some v∧v.oneCell'=true
 |[],_,_=>⟨[],Y,ak,λj v h=>by simp at h⟩
 |x::k,o,h=>by
  obtain⟨cs,h1,h2,h3⟩:=LB k (o+1) (λi row hr q s hs=>by
   have:=h (i+1) row (by simpa using hr) q s hs
   rwa[show o+(i+1)*1+q=o+1+i*1+q by omega]at this)
  have hl:=el.len x
  match he:e x,hl with
  |[s],_=>
   obtain⟨y,q1,q2,q3⟩:=h 0 [s] (by simp[he]) 0 s Y
   refine⟨y::cs,by simp[h1],?_,λj v hj=>?_⟩
   ·rw[List.flatMap_cons,he];exact⟨q3,h2⟩
   ·cases j with
    |zero=>cases hj;exact⟨by simpa using q1,q2⟩
    |succ j=>rw[show o+(j+1)=o+1+j by omega];exact h3 j v (by simpa using hj)
theorem Ps{M:Mem}{α:Type}{e:α→List SV}[el:EL e 1]:∀(l:List α) (vs:List Value) (m:Nat),SV.fX M (l.flatMap e) vs→SV.fX M ((l.drop m).flatMap e) (vs.drop m)
 |l,vs,0,h=>by simpa using h
 |[],vs,m+1,h=>by
  cases vs with
  |nil=>trivial
  |cons _ _=>exact h.elim
 |x::l,vs,m+1,h=>by
  have hl:=el.len x
  match he:e x,hl with
  |[s],_=>
   rw[List.flatMap_cons,he]at h
   match vs,h with
   |v::vs,h=>exact Ps l vs m h.2
theorem RT.aj5(hg:Gd ops S gd rg)[tS:gG P T E0 1]{α:Type}{e:α→List SV}[el:EL e 1]{i:Nat}{E1:TypeId}{l k:List α}{m:Int}(hx:S.ev x=.row i)(hR:S.r i=.live (TR E1 1 e l))(hy:S.ev y=.sv (slc 1 (k.map e)))(hd:d<S.n)(hm:((Min.min k.length l.length:Nat):Int)=m)
  (next:RunT P C ops nd K rest (⟨rg++(bk x++bk y),[],[i],⟨some (d,.sv (.v (.int .i64 m))),[],[(i,.live (TR E1 1 e (N1 l k)))]⟩⟩::acc) ((AS.cL [(i,.live (TR E1 1 e (N1 l k)))] S).set d (.sv (.v (.int .i64 m))))):RunT P C ops nd K (⟨some d,.call ⟨.builtin .copy,#[x,y],#[T,U]⟩,ty,pos,aft,gd⟩::rest) acc S:=by
 subst hm
 refine .inl ⟨_,[],[i],_,?_,next⟩
 rintro S' hn' ht _ VE ix a w L Q ho ⟨E,h⟩ hL
 refine dw (C:=C) ho (hg.wanted h (λs hs=>ht s (List.mem_append_left _ hs)) Y) ?_
 have uZ:S'.r i=.live (TR E1 1 e l):=by rw[VE i (by simp)];exact hR
 have h1:a.eval x=E.ν i:=by
  have h1:=h.ev x
  rw[bR (λ_ h=>List.mem_append_right _ (List.mem_append_left _ h)) ht,hx]at h1;exact h1
 have h2:(slc 1 (k.map e)).h E.M (a.eval y):=by
  have h2:=h.ev y
  rw[bR (λ_ h=>List.mem_append_right _ (List.mem_append_right _ h)) ht,hy]at h2;exact h2
 have hsrc:∃sa sc,a.eval y=.slice sa k.length sc:=by
  rcases h2 with⟨sa,q1,q2⟩|⟨b,o,c,q1,_⟩
  ·have:k=[]:=List.map_eq_nil_iff.1 q2
   subst this;exact⟨sa,0,q1⟩
  ·rw[List.length_map]at q1;exact⟨_,c,q1⟩
 obtain⟨⟨us,hown,E4⟩,_⟩:=h.rx i _ uZ
 have aoS:∃da dc,E.ν i=.slice da l.length dc:=by
  rcases hown.2 with⟨q1,q2⟩|⟨g,cap,cur,q1,_⟩
  ·have q2:l.length=0:=q2
   exact⟨none,0,by rw[q2];exact q1⟩
  ·exact⟨_,cap,q1⟩
 obtain⟨sa,sc,hs⟩:=hsrc
 by_cases h0:Nat.min k.length l.length=0
 ·obtain⟨da,dc,hdv⟩:=aoS
  have hc:N1 l k=l:=by
   rcases Nat.eq_zero_or_pos l.length with q|q
   ·have:=List.length_eq_zero_iff.1 q
    subst this;simp[N1]
   ·have:k.length=0:=by
     have h0:Min.min k.length l.length=0:=h0
     omega
    have:=List.length_eq_zero_iff.1 this
    subst this;simp[N1]
  have hr:(execOp a.eval ⟨some d,.call ⟨.builtin .copy,#[x,y],#[T,U]⟩,ty,pos,aft,gd⟩).run P w=.ok (.value (goInt 0)) w:=by
   have:=run_copy_none (P:=P) w T U ty E0 da sa l.length dc k.length sc tS.u tS.s h0
   simp[execOp,resolve,invoke,builtin,h1,hs,hdv,this]
  refine dm (C:=C) (by intro c h;cases h) hr (hL _ _ ⟨E,?_⟩)
  rw[hc]
  have e0:((Min.min k.length l.length:Nat):Int)=0:=by
   have h0:Min.min k.length l.length=0:=h0
   rw[h0];rfl
  rw[e0]
  have:AS.app S' ⟨some (d,.sv (.v (.int .i64 0))),[],[(i,.live (TR E1 1 e l))]⟩=S'.set d (.sv (.v (.int .i64 0))):=by
   show(AS.xZ S' i _).set d _=_
   rw[AS.Lc uZ]
  rw[this]
  exact h.put (x:=.sv (.v (.int .i64 0))) (v:=.int .i64 0) Y (by show d<S'.n;omega) ik
 ·have hpos:0<Min.min k.length l.length:=Nat.pos_of_ne_zero h0
  obtain⟨g,F9⟩:∃g,(E.ν i).ownBlock=some g:=by
   rcases hown.2 with⟨_,q2⟩|⟨g,cap,cur,q1,_⟩
   ·have q2:l.length=0:=q2
    omega
   ·exact⟨g,by rw[q1];rfl⟩
  obtain⟨cur,vs,q1,q2,q3,q4,cap,q5,q6,q7,q8⟩:=Ic h uZ F9
  replace q2:cur.take (l.length*1)=vs:=q2
  replace q3:vs.length=l.length*1:=q3
  replace q6:l.length≤cap:=q6
  replace q8:cur.length=cap*1:=q8
  rcases h2 with⟨sa',r1,r2⟩|⟨b,o,c,r1,_,_,r4⟩
  ·have:k=[]:=List.map_eq_nil_iff.1 r2
   subst this;simp at hpos
  rw[List.length_map]at r1
  rw[hs]at r1
  cases r1
  obtain⟨cs,c1,c2,c3⟩:=LB (M:=E.M) (b:=b) (e:=e) (k.take (Min.min k.length l.length)) o (λj row hr q s hq=>by
   refine(r4 j row ?_).2 q s hq
   rw[List.map_take,List.getElem?_take]at hr
   split at hr
   ·exact hr
   ·cases hr)
  have uE:cs.length=Nat.min k.length l.length:=by rw[c1,List.length_take];show Min.min (Min.min k.length l.length) k.length=Min.min k.length l.length;omega
  have af9:cs.length=Min.min k.length l.length:=uE
  have hrun:=run_copy_row (P:=P) w T U ty E0 g 0 l.length cap ⟨b,o,none⟩ k.length sc ⟨cur⟩ E1 cs tS.u tS.s q1 uE (λj v hj=>by
   rw[jO];exact(h.ef _ _ _ (c3 j v hj).1).cell (c3 j v hj).2) (by simp;omega) (λv hv=>by
   obtain⟨j,hj,rfl⟩:=List.getElem_of_mem hv
   exact(c3 j _ (List.getElem?_eq_getElem hj)).2)
  have hr:(execOp a.eval ⟨some d,.call ⟨.builtin .copy,#[x,y],#[T,U]⟩,ty,pos,aft,gd⟩).run P w=.ok (.value (goInt cs.length)) (w.setRow g (cs++cur.drop cs.length).toArray):=by
   have hrun:(Builtin.copy_ #[T,U] ty #[.slice (some ⟨g,0,none⟩) l.length cap,.slice (some ⟨b,o,none⟩) k.length sc]).run P w=.ok (goInt cs.length) (w.setRow g (cs++cur.drop cs.length).toArray):=by simpa using hrun
   have q5:E.ν i=.slice (some ⟨g,0,none⟩) l.length cap:=q5
   simp[execOp,resolve,invoke,builtin,h1,hs,q5,hrun]
  have aoT:N1 l k=k.take (Min.min k.length l.length)++l.drop (Min.min k.length l.length):=by
   unfold N1
   have e1:k.take l.length=k.take (Min.min k.length l.length):=by rw[List.take_eq_take_iff];omega
   have e2:l.drop k.length=l.drop (Min.min k.length l.length):=by rw[List.drop_eq_drop_iff];omega
   rw[e1,e2]
  have hall:SV.fX E.M ((N1 l k).flatMap e) (cs++vs.drop cs.length):=by
   rw[aoT,List.flatMap_append,←af9]
   rw[←af9]at c2
   exact SV.fX.append c2 (Ps l vs cs.length q4)
  have hh:=setRow_heap w g ⟨cur⟩ (cs++cur.drop cs.length).toArray E1 (0,0) q1
  have aj6:(w.setRow g (cs++cur.drop cs.length).toArray).ownsRow 0 E1 1 (E.ν i) l.length (cs++vs.drop cs.length):=by
   refine⟨by simp;omega,.inr ⟨g,cap,_,q5,Nat.zero_le _,hh,q6,q7,by simp;omega,?_⟩⟩
   rw[←q2]
   simp only[List.take_append,List.length_take,List.drop_take]
   congr 1
   ·rw[List.take_of_length_le (by omega)]
  have hp:=h.QT uZ F9 (w':=w.setRow g (cs++cur.drop cs.length).toArray) ⟨_,_,q1⟩ Y Y Y (by simp[World.setRow]) (λk' hk'=>setRow_other w g k' _ hk') aj6 hall
  refine dm (C:=C) (by intro c h;cases h) hr (hL _ _ ⟨E,?_⟩)
  have hrow:(⟨(TR E1 1 e l).E,(TR E1 1 e l).sz,(TR E1 1 e l).n,(N1 l k).flatMap e⟩:Row)=TR E1 1 e (N1 l k):=by
   show Row.mk _ _ l.length _=Row.mk _ _ (N1 l k).length _
   rw[aaL]
  rw[hrow]at hp
  rw[←af9]
  exact hp.put (x:=.sv (.v (.int .i64 cs.length))) (v:=.int .i64 cs.length) Y (by show d<S'.n;omega) ik
end steps
end
end Go.Fw
namespace Go.Proofs.YtningmnklfpfjaaGreat
section
open Go.Fw
noncomputable def di(x0:Tb):Option (Bool):=match x0 with|⟨bn,bp,bB,bD,cC⟩=>cJ (λ(aj7:Bool)=>some aj7) λK3=>(bif false then none else(some (!bn)).bind λdG=>some dG).bind λadb=>K3 adb
noncomputable def gM(x0:Tb):Option (Int):=match x0 with|⟨bn,bp,bB,bD,cC⟩=>(some (cC.length:Int)).bind λff=>(some (IntKind.i64.wrap (bp+ff))).bind λc8=>some c8
noncomputable def oB(x0:Tb)(x1:Int):Option (List Qr):=match x0 with|⟨bn,bp,bB,bD,cC⟩=>(some (cC.length:Int)).bind λc8=>(Ka 64 c8 (⟨⟨false,[]⟩,⟨false,[]⟩⟩:Qr)).bind λeY=>(some (cC.length:Int)).bind λeE=>(b9 (λ(s8:Int×(List Qr))=>match s8 with|⟨Pt,Pu⟩=>(show Option ((Int×(List Qr))⊕((List Qr)))from(some (decide ((Pt:Int)<eE))).bind λgK=>(bif gK then(cM cC Pt).bind λiK=>(cM iK x1).bind λ⟨⟨ade,adf⟩,⟨adg,adh⟩⟩=>(dP ⟨⟨ade,adf⟩,⟨adg,adh⟩⟩).bind λ⟨⟨sj,sn⟩,⟨Gs,Gt⟩⟩=>(qg Pu Pt).bind λnq=>(stM Pu nq ⟨⟨sj,sn⟩,⟨Gs,Gt⟩⟩).bind λCe=>(some (IntKind.i64.wrap (Pt+1))).bind λjY=>some (.inl (jY,Ce))else some (.inr Pu)))) (0,eY)).bind λIZ=>some IZ
noncomputable def m7(x0:Tb)(x1:Int):Option (List Qr):=match x0 with|⟨bn,bp,bB,bD,cC⟩=>(some (bB.length:Int)).bind λc8=>(some (IntKind.i64.wrap (c8+bp))).bind λdR=>(Ka 64 dR (⟨⟨false,[]⟩,⟨false,[]⟩⟩:Qr)).bind λeE=>(some (decide ((x1:Int)<bp))).bind λgV=>cJ (λ(W6:(List Qr))=>some W6) λUL=>(bif gV then(some (bB.length:Int)).bind λiM=>(b9 (λ(Th:Int×(List Qr))=>match Th with|⟨I0,I1⟩=>(show Option ((Int×(List Qr))⊕((List Qr)))from(some (decide ((I0:Int)<iM))).bind λnq=>(bif nq then(cM bB I0).bind λou=>(cM ou x1).bind λ⟨⟨Eg,Eh⟩,⟨LC,LD⟩⟩=>(qg I1 I0).bind λyJ=>(stM I1 yJ ⟨⟨Eg,Eh⟩,⟨LC,LD⟩⟩).bind λZM=>(some (IntKind.i64.wrap (I0+1))).bind λpC=>some (.inl (pC,ZM))else some (.inr I1)))) (0,eE)).bind λDe=>(some (bB.length:Int)).bind λuM=>(some (IntKind.i64.wrap (uM+x1))).bind λAx=>(dK (-1)).bind λ⟨⟨Lo,Lp⟩,⟨W7,W8⟩⟩=>(qg De Ax).bind λAA=>(stM De AA ⟨⟨Lo,Lp⟩,⟨W7,W8⟩⟩).bind λl22=>UL l22 else UL eE)
noncomputable def lS(x0:Tb)(x1:List Qr):Option (List Qr):=match x0 with|⟨bn,bp,bB,bD,cC⟩=>(some (bB.length:Int)).bind λc8=>(some (IntKind.i64.wrap (c8+bp))).bind λdR=>(Ka 64 dR (⟨⟨false,[]⟩,⟨false,[]⟩⟩:Qr)).bind λeE=>(some (x1.length:Int)).bind λgK=>(b9 (λ(nA:(List Qr)×Int)=>match nA with|⟨I2,zN⟩=>(show Option (((List Qr)×Int)⊕((List Qr)))from(some (decide ((zN:Int)<gK))).bind λiK=>(bif iK then(cM x1 zN).bind λ⟨⟨kE,kF⟩,⟨qm,qo⟩⟩=>cJ (λ(RG:Bool)=>cJ (λ(W9:(List Qr))=>(some (IntKind.i64.wrap (zN+1))).bind λCZ=>some (.inl (W9,CZ))) λK21=>(bif RG then(cM bD zN).bind λAx=>(m7 ⟨bn,bp,bB,bD,cC⟩ Ax).bind λAA=>(iY ⟨⟨kE,kF⟩,⟨qm,qo⟩⟩ AA I2).bind λGP=>K21 GP else K21 I2)) λK19=>(cM bD zN).bind λnq=>(some (decide ((nq:Int)<bp))).bind λpD=>(bif pD then(kD ⟨⟨kE,kF⟩,⟨qm,qo⟩⟩).bind λlj=>(some (decide ((lj:Int)≠0))).bind λyJ=>some yJ else some false).bind λXa=>K19 Xa else some (.inr I2)))) (eE,0)).bind λyX=>some yX
noncomputable def jz(x0:Tb):Option (List Int):=match x0 with|⟨bn,bp,bB,bD,cC⟩=>(di ⟨bn,bp,bB,bD,cC⟩).bind λx5=>(bif x5 then some []else(some (bD.length:Int)).bind λdG=>(Ka 8 dG (0:Int)).bind λff=>some (N1 ff bD))
noncomputable def jL(x0:Tb):Option (List Qr):=match x0 with|⟨bn,bp,bB,bD,cC⟩=>(di ⟨bn,bp,bB,bD,cC⟩).bind λx4=>(bif x4 then some []else(gM ⟨bn,bp,bB,bD,cC⟩).bind λx7=>(oB ⟨bn,bp,bB,bD,cC⟩ x7).bind λx8=>some x8)
noncomputable def dz(x0:Tb)(x1:Int):Option (List Qr):=match x0 with|⟨bn,bp,bB,bD,cC⟩=>cJ (λ(Xb:Bool)=>(bif Xb then some []else(oB ⟨bn,bp,bB,bD,cC⟩ x1).bind λgK=>(lS ⟨bn,bp,bB,bD,cC⟩ gK).bind λgh=>(m7 ⟨bn,bp,bB,bD,cC⟩ x1).bind λgV=>(yR gh gV).bind λke=>some ke)) λK6=>(di ⟨bn,bp,bB,bD,cC⟩).bind λx6=>(bif x6 then some true else(some (decide ((x1:Int)<0))).bind λx9=>some x9).bind λadi=>(bif adi then some true else(gM ⟨bn,bp,bB,bD,cC⟩).bind λdV=>(some (decide ((dV:Int)≤x1))).bind λdN=>some dN).bind λaga=>K6 aga
noncomputable def kG(x0:Tb):Option (List Qr):=match x0 with|⟨bn,bp,bB,bD,cC⟩=>(di ⟨bn,bp,bB,bD,cC⟩).bind λx4=>(bif x4 then some []else(jL ⟨bn,bp,bB,bD,cC⟩).bind λx7=>(lS ⟨bn,bp,bB,bD,cC⟩ x7).bind λx8=>some x8)
noncomputable def iF(x0:Tb):Option (List Qr):=match x0 with|⟨bn,bp,bB,bD,cC⟩=>(di ⟨bn,bp,bB,bD,cC⟩).bind λx7=>(bif x7 then some []else(Ka 64 bp (⟨⟨false,[]⟩,⟨false,[]⟩⟩:Qr)).bind λc8=>(jL ⟨bn,bp,bB,bD,cC⟩).bind λdV=>(some (dV.length:Int)).bind λdN=>(b9 (λ(uF:Int×(List Qr))=>match uF with|⟨I3,I4⟩=>(show Option ((Int×(List Qr))⊕((List Qr)))from(some (decide ((I3:Int)<dN))).bind λdR=>(bif dR then(cM dV I3).bind λ⟨⟨lM,lO⟩,⟨wI,wJ⟩⟩=>(cM bD I3).bind λji=>(some (decide ((ji:Int)<bp))).bind λjY=>cJ (λ(RH:(List Qr))=>(some (IntKind.i64.wrap (I3+1))).bind λyB=>some (.inl (yB,RH))) λGM=>(bif jY then(cM bD I3).bind λyj=>(qg I4 yj).bind λpC=>(stM I4 pC ⟨⟨lM,lO⟩,⟨wI,wJ⟩⟩).bind λTi=>GM Ti else GM I4)else some (.inr I4)))) (0,c8)).bind λI5=>some I5)
noncomputable def sJ(x0:Tb):Option (List (List Qr)):=match x0 with|⟨bn,bp,bB,bD,cC⟩=>(di ⟨bn,bp,bB,bD,cC⟩).bind λx7=>(bif x7 then some []else(some (cC.length:Int)).bind λc8=>(b9 (λ(s6:Int×(List (List Qr)))=>match s6 with|⟨Tj,gB⟩=>(show Option ((Int×(List (List Qr)))⊕((List (List Qr))))from(some (decide ((Tj:Int)<c8))).bind λdV=>(bif dV then(cM cC Tj).bind λdN=>(gM ⟨bn,bp,bB,bD,cC⟩).bind λgK=>(mE dN gK).bind λgh=>(mP 24 gB [gh]).bind λgU=>(some (IntKind.i64.wrap (Tj+1))).bind λgV=>some (.inl (gV,gU))else some (.inr gB)))) (0,[])).bind λdr=>some dr)
noncomputable def jS(x0:Tb):Option (Bool):=match x0 with|⟨bn,bp,bB,bD,cC⟩=>(di ⟨bn,bp,bB,bD,cC⟩).bind λx6=>(bif x6 then some false else(jL ⟨bn,bp,bB,bD,cC⟩).bind λx8=>(some (x8.length:Int)).bind λx9=>(b9 (λ(Tk:Int)=>(show Option ((Int)⊕((Unit)⊕(Bool)))from(some (decide ((Tk:Int)<x9))).bind λff=>(bif ff then(cM x8 Tk).bind λ⟨⟨jg,iT⟩,⟨Tl,Tm⟩⟩=>(kD ⟨⟨jg,iT⟩,⟨Tl,Tm⟩⟩).bind λdN=>(some (decide ((dN:Int)<0))).bind λeX=>(bif eX then some (.inr (.inr false))else(some (IntKind.i64.wrap (Tk+1))).bind λdR=>some (.inl dR))else some (.inr (.inl ()))))) 0).bind λe6=>match e6 with|.inr v6=>some v6|.inl _=>some true)
noncomputable def jA(x0:Tb):Option (Bool):=match x0 with|⟨bn,bp,bB,bD,cC⟩=>(di ⟨bn,bp,bB,bD,cC⟩).bind λx5=>(bif x5 then some false else(vY (λ(k:Nat) (s3:Unit)=>(show Option ((Unit)⊕(Bool))from(some ((k:Nat):Int)).bind λp8=>(dz ⟨bn,bp,bB,bD,cC⟩ p8).bind λff=>(wH ff).bind λc8=>(some (decide ((c8:Int)<0))).bind λeY=>(bif eY then some (.inr false)else some (.inl ())))) ((IntKind.i64.wrap (Tb.vars ⟨bn,bp,bB,bD,cC⟩+((Tb.rows ⟨bn,bp,bB,bD,cC⟩).length:Int))).toNat) ()).bind λe3=>match e3 with|.inr v3=>some v3|.inl _=>some true)
noncomputable def gZ(x0:Tb):Option (List (List Qr)):=match x0 with|⟨bn,bp,bB,bD,cC⟩=>(di ⟨bn,bp,bB,bD,cC⟩).bind λx6=>(bif x6 then some []else(uJ (λ(k:Nat) (wP:(List (List Qr)))=>(show Option ((List (List Qr)))from(some ((k:Nat):Int)).bind λp9=>(dz ⟨bn,bp,bB,bD,cC⟩ p9).bind λeY=>(mP 24 wP [eY]).bind λdN=>some dN)) ((IntKind.i64.wrap (Tb.vars ⟨bn,bp,bB,bD,cC⟩+((Tb.rows ⟨bn,bp,bB,bD,cC⟩).length:Int))).toNat) []).bind λwP=>some wP)
noncomputable def ga(x0:Lr):Option (Bool×Int×(List (List Qr))×(List Int)×(List (List Qr))):=match x0 with|⟨bn,bp,bB,bD⟩=>(some (bp.length:Int)).bind λdN=>(b9 (λ(s6:Int×(List (List Qr)))=>match s6 with|⟨Tn,MQ⟩=>(show Option ((Int×(List (List Qr)))⊕((List (List Qr))))from(some (decide ((Tn:Int)<dN))).bind λdR=>(bif dR then(cM bp Tn).bind λeE=>(mE eE bn).bind λlp=>(mP 24 MQ [lp]).bind λuL=>(some (IntKind.i64.wrap (Tn+1))).bind λou=>some (.inl (ou,uL))else some (.inr MQ)))) (0,[])).bind λyp=>(some (bB.length:Int)).bind λnE=>(b9 (λ(s30:Int×(List Int)×(List (List Qr)))=>match s30 with|⟨wQ,BX,BY⟩=>(show Option ((Int×(List Int)×(List (List Qr)))⊕((List Int)×(List (List Qr))))from(some (decide ((wQ:Int)<nE))).bind λuK=>(bif uK then(some (bB.length:Int)).bind λr9=>(some (IntKind.i64.wrap (bn+r9))).bind λyf=>(some (IntKind.i64.wrap (yf+1))).bind λyK=>(Ka 64 yK (⟨⟨false,[]⟩,⟨false,[]⟩⟩:Qr)).bind λxm=>(b9 (λ(S3:Int×(List Qr))=>match S3 with|⟨I6,I7⟩=>(show Option ((Int×(List Qr))⊕((List Qr)))from(some (decide ((I6:Int)<bn))).bind λBU=>(bif BU then(Bh bB wQ I6).bind λ⟨⟨LF,LG⟩,⟨LH,LI⟩⟩=>(qg I7 I6).bind λQD=>(stM I7 QD ⟨⟨LF,LG⟩,⟨LH,LI⟩⟩).bind λZD=>(some (IntKind.i64.wrap (I6+1))).bind λN2=>some (.inl (N2,ZD))else some (.inr I7)))) (0,xm)).bind λDf=>(some (IntKind.i64.wrap (bn+wQ))).bind λMu=>(dK 1).bind λ⟨⟨LJ,LK⟩,⟨LM,LN⟩⟩=>(qg Df Mu).bind λQ6=>(stM Df Q6 ⟨⟨LJ,LK⟩,⟨LM,LN⟩⟩).bind λl42=>(some (l42.length:Int)).bind λVp=>(some (IntKind.i64.wrap (Vp-1))).bind λOz=>(cM bD wQ).bind λ⟨⟨adj,adk⟩,⟨adl,adm⟩⟩=>(dP ⟨⟨adj,adk⟩,⟨adl,adm⟩⟩).bind λ⟨⟨Xc,Xd⟩,⟨Xe,Xf⟩⟩=>(qg l42 Oz).bind λUw=>(stM l42 Uw ⟨⟨Xc,Xd⟩,⟨Xe,Xf⟩⟩).bind λl44=>(mP 24 BY [l44]).bind λx87=>(some (IntKind.i64.wrap (bn+wQ))).bind λZN=>(mP 8 BX [ZN]).bind λagc=>(some (IntKind.i64.wrap (wQ+1))).bind λKp=>some (.inl (Kp,agc,x87))else some (.inr (BX,BY))))) (0,[],[])).bind λe30=>match e30 with|⟨To,Tp⟩=>some (true,bn,yp,To,Tp)
noncomputable def kW(x0:Lr):Option (Bool×Int×(List (List Qr))×(List Int)×(List (List Qr))):=match x0 with|⟨bn,bp,bB,bD⟩=>(pW ⟨bn,bp,bB,bD⟩).bind λx5=>(some (!x5)).bind λx6=>(bif x6 then none else(ga ⟨bn,bp,bB,bD⟩).bind λ⟨qJ,qK,Bc,Bd,aaM⟩=>some (qJ,qK,Bc,Bd,aaM))
noncomputable def uf(x0:List Qr)(O6:Qr):Option (List Qr):=match O6 with|⟨⟨O7,O8⟩,⟨O9,Pa⟩⟩=>(nU ⟨⟨O7,O8⟩,⟨O9,Pa⟩⟩ x0).bind λx6=>some x6
noncomputable def oC(o0:Bool)(o1:Int)(o2:List (List Qr))(o3:List Int)(o4:List (List Qr))(x0:List Qr)(O6:Int)(c_2:Int):Option (List Qr):=(cM x0 O6).bind λ⟨⟨qJ,qK⟩,⟨Bc,Bd⟩⟩=>(kD ⟨⟨qJ,qK⟩,⟨Bc,Bd⟩⟩).bind λdG=>(some (decide ((dG:Int)=0))).bind λff=>(bif ff then some x0 else(cM x0 O6).bind λ⟨⟨jQ,jR⟩,⟨xI,xJ⟩⟩=>(sG ⟨⟨jQ,jR⟩,⟨xI,xJ⟩⟩).bind λ⟨⟨qY,qZ⟩,⟨An,Ao⟩⟩=>(qg o4 c_2).bind λgU=>(o4[gU]?).bind λgV=>(iY ⟨⟨qY,qZ⟩,⟨An,Ao⟩⟩ gV x0).bind λji=>some ji)
noncomputable def fk(o0:Bool)(o1:Int)(o2:List (List Qr))(o3:List Int)(o4:List (List Qr))(x1:Int)(x2:Int):Option ((List (List Qr))×(List Int)×(List (List Qr))):=(dK 1).bind λ⟨⟨AN,AO⟩,⟨adn,ado⟩⟩=>(qg o4 x1).bind λjb=>(o4[jb]?).bind λgK=>(cM gK x2).bind λ⟨⟨wC,wD⟩,⟨wE,wF⟩⟩=>(wA ⟨⟨AN,AO⟩,⟨adn,ado⟩⟩ ⟨⟨wC,wD⟩,⟨wE,wF⟩⟩).bind λ⟨⟨⟨FG,FH⟩,⟨FI,FJ⟩⟩,UF⟩=>(qg o4 x1).bind λyJ=>(o4[yJ]?).bind λpC=>(uf pC ⟨⟨FG,FH⟩,⟨FI,FJ⟩⟩).bind λyB=>(qg o4 x1).bind λr9=>(stM o4 r9 yB).bind λl2=>(some (l2.length:Int)).bind λBU=>(b9 (λ(Ak:Int×(List (List Qr)))=>match Ak with|⟨xO,j0⟩=>(show Option ((Int×(List (List Qr)))⊕((List (List Qr))))from(some (decide ((xO:Int)<BU))).bind λVq=>(bif Vq then(qg j0 xO).bind λCZ=>(j0[CZ]?).bind λGN=>(some (decide ((xO:Int)≠x1))).bind λLm=>cJ (λ(Bm:(List (List Qr)))=>(some (IntKind.i64.wrap (xO+1))).bind λx70=>some (.inl (x70,Bm))) λXg=>(bif Lm then(oC o0 o1 o2 o3 j0 GN x2 x1).bind λQ6=>(qg j0 xO).bind λWh=>(stM j0 Wh Q6).bind λl17=>Xg l17 else Xg j0)else some (.inr j0)))) (0,l2)).bind λyY=>some (o2,o3,yY)
noncomputable def bY(o0:Bool)(o1:Int)(o2:List (List Qr))(o3:List Int)(o4:List (List Qr))(x1:Int)(x2:Int):Option (Int×(List (List Qr))×(List Int)×(List (List Qr))):=(di (⟨o0,o1,o2,o3,o4⟩:Tb)).bind λdG=>(bif dG then some (2,o2,o3,o4)else cJ (λ(Xh:Bool)=>(bif Xh then some (1,o2,o3,o4)else(some (o3.length:Int)).bind λnE=>(b9 (λ(MR:Int)=>(show Option ((Int)⊕((Unit)⊕(Int×(List (List Qr))×(List Int)×(List (List Qr)))))from(some (decide ((MR:Int)<nE))).bind λuK=>(bif uK then(qg o3 MR).bind λyj=>(o3[yj]?).bind λlj=>(some (decide ((lj:Int)=x2))).bind λyB=>(bif yB then some (.inr (.inr (1,o2,o3,o4)))else(some (IntKind.i64.wrap (MR+1))).bind λr9=>some (.inl r9))else some (.inr (.inl ()))))) 0).bind λBn=>match Bn with|.inr jM=>some jM|.inl _=>(qg o4 x1).bind λAx=>(o4[Ax]?).bind λBU=>(cM BU x2).bind λ⟨⟨CA,CB⟩,⟨CC,CD⟩⟩=>(kD ⟨⟨CA,CB⟩,⟨CC,CD⟩⟩).bind λCZ=>(some (decide ((CZ:Int)=0))).bind λGN=>(bif GN then some (7,o2,o3,o4)else(fk o0 o1 o2 o3 o4 x1 x2).bind λ⟨ZM,l21,l22⟩=>(qg l21 x1).bind λVl=>(stM l21 Vl x2).bind λl24=>some (0,ZM,l24,l22)))) λUL=>(some (decide ((x1:Int)<0))).bind λc8=>(bif c8 then some true else(some (o4.length:Int)).bind λjb=>(some (decide ((jb:Int)≤x1))).bind λgK=>some gK).bind λXi=>(bif Xi then some true else(some (decide ((x2:Int)<0))).bind λgV=>some gV).bind λagd=>(bif agd then some true else(gM (⟨o0,o1,o2,o3,o4⟩:Tb)).bind λiM=>(some (decide ((iM:Int)≤x2))).bind λuL=>some uL).bind λage=>UL age)
end
section
open Go.Fw Go.Fw.Z Go.RowKit
instance:Tc af 30:=⟨by kernel_rfl⟩
theorem fm{x0:Tb}{r:Bool}(h:di x0=some r):Pure af 57 [ref (xl x0)] (ay r):=by
 obtain⟨bn,bp,bB,bD,cC⟩:=x0
 refine bj Tryz.func57 Y (ae Y) (λc9 M vs hvs=>?_)
 unfold di at h
 refine sr<|ag Y<|dn<|qq ?_
 refine bL h (λj3=>AS.cu 12 [(2,ai j3)] [] []) (λh=>?_) (λaj7 h=>?_)
 refine aX<|mv Y<|RT.W4 .none Y Y T<|mv Y<|bE h λadb r5 h=>gm Y<|RT.cq (.some Y Y) Y T<|RT.bQ (.some Y Y) Y T Y<|gr Y Y<|lE (F r5) λdG fY r5=>QC Y _ fY ?_
 obtain rfl:=O r5
 exact pF Y<|ag Y<|dn<|⟨dG,h,wR []⟩
 try dsimp only
 refine aW.n<|aY ?_
 obtain rfl:=O h
 exact R1 Y
theorem rj{x0:Tb}{r:Int}(h:gM x0=some r):Pure af 58 [ref (xl x0)] (ax r):=by
 obtain⟨bn,bp,bB,bD,cC⟩:=x0
 refine bj Tryz.func58 Y (ae Y) (λc9 M vs hvs=>?_)
 unfold gM at h
 refine sr<|ag Y<|dn<|qq<|aZ mixed<|mv Y<|RT.cq .none Y T<|RT.bQ .none Y T Y<|lr Y Y<|mv Y<|RT.cq .none Y T<|RT.bQ .none Y T Y<|lr Y Y<|lE h λff kz h=>ln Y kz<|lE h λc8 fI h=>ad _ Y Y fI<|ag Y ?_
 refine RT.done ⟨by kernel_rfl,?_⟩
 refine aW.n<|aY ?_
 obtain rfl:=O h
 exact R1 Y
theorem CE{x0:Tb}{x1:Int}(N:Nat){r:List Qr}(h:oB x0 x1=some r):dB af 64 N [ref (xl x0),ax x1] (nw N (slc 4 (List.map (fQ N) r))):=by
 obtain⟨bn,bp,bB,bD,cC⟩:=x0
 refine bT Tryz.func64 Y (ae Y) (λc9 M vs hN hvs=>?_)
 unfold oB at h
 refine sr<|aI Y (bt (N:=N) (n:=4) (e:=(fQ N)))<|dn<|sr<|mv Y<|RT.cq .none Y T<|RT.bQ .none Y T Y<|lr Y Y<|lE h λc8 fI h=>ln Y fI<|bE h λeY iX h=>RT.vX (n:=4) (e:=(fQ N)) .none Y Y T Y T (by rfl) (by decide) (by exact⟨aq,bt,aq,bt,ak⟩) iX<|an (s:=.row _) Y<|dn<|qq<|sr<|mv Y<|RT.cq .none Y T ?_
 refine RT.bQ .none Y T Y<|lr Y Y<|lE h λeE jd h=>ln Y jd<|mv Y<|dn<|bE h λe8 Kt AZ=>?_
 refine bJ (λ(IZ:(List Qr))=>AS.cu 34 [(5,.row 13)] [] [(13,TR 43 4 (fQ N) IZ)]) (λIZ=>IZ=e8) ?_ (λIZ Ku=>?_)
 refine bf ?_
 refine bK Kt (λs8=>AS.cu 34 [(1,ah x1),(5,.row 13),(17,.sv (slc 1 (List.map (eS 4 eQ) cC))),(18,ah eE),(19,ah s8.1)] [] [(13,TR 43 4 (fQ N) s8.2)]) (wR []) (λs8 y8 G8 h Kv Kw=>?_)
 obtain⟨Pt,Pu⟩:=s8
 try dsimp only
 refine sr<|lE h λgK oO h=>ls _ Y Y oO<|dn<|qq ?_
 cases gK
 refine cF<|bP<|aW.x<|aW.x<|bF.x<|aW.n ?_
 obtain rfl:=O (F h)
 exact⟨Pu,Kw _ Y,wR []⟩
 refine cT<|bu<|aW.n<|qq<|bf<|sr<|mv Y<|bE (V h) λiK oz h=>ix Y Y oz<|lr Y Y<|ag Y<|ag Y<|dn<|aX<|mo (s:=.row _) Y<|mv Y<|mv Y<|mv Y ?_
 obtain⟨⟨⟨ade,adf⟩,⟨adg,adh⟩⟩,vz,h⟩:=bS h
 refine ix Y Y vz<|RT.gJ (cs:=[_,_,_,_]) .none Y T Y Y ?_
 obtain⟨⟨⟨sj,sn⟩,⟨Gs,Gt⟩⟩,zJ,h⟩:=bS h
 refine RT.bW .none (nx N zJ) hN Y ⟨Y,ak⟩ T<|bE h λnq xA h=>iR Y Y Y xA<|bE h λCe wc h=>sA ⟨⟨sj,sn⟩,⟨Gs,Gt⟩⟩ Y Y Y wc<|RT.done<|bF.n<|aW.n<|aX<|lE h λjY qT h=>ad _ Y Y qT<|mv Y<|RT.done ?_
 obtain rfl:=O h
 exact aW.n ⟨(jY,Ce),Kv _ Y,wR []⟩
 subst Ku
 try dsimp only
 refine aW.n<|sr<|mo (s:=.row _) Y<|an (s:=.row _) Y<|dn<|ku (i:=13) (E1:=43) (n:=4) (e:=(fQ N)) (l:=IZ) hN (λ_ h=>h) Y<|aY ?_
 obtain rfl:=O AZ
 exact R1 Y
theorem Bo{x0:Tb}{x1:Int}{r:List Qr}(h:m7 x0 x1=some r):Pure af 78 [ref (xl x0),ax x1] (slc 4 (List.map eQ r)):=by
 obtain⟨bn,bp,bB,bD,cC⟩:=x0
 refine bj Tryz.func78 Y (ae Y) (λc9 M vs hvs=>?_)
 unfold m7 at h
 refine sr<|aI Y (aB (n:=4) (e:=eQ))<|dn<|qq<|aZ mixed<|mv Y<|RT.cq .none Y T<|RT.bQ .none Y T Y<|lr Y Y<|lE h λc8 fI h=>ln Y fI<|mv Y<|RT.cq .none Y T<|RT.bQ .none Y T Y<|lr Y Y<|lE h λdR jK h=>ad _ Y Y jK<|bE h λeE jd h=>RT.vX (n:=4) (e:=eQ) .none Y Y T Y T (by rfl) (by decide) (by exact⟨aq,aB,aq,aB,ak⟩) jd ?_
 refine an (s:=.row _) Y ?_
 refine RT.done ⟨by kernel_rfl,?_⟩
 refine aW.n<|qq<|sr<|mv Y<|mv Y<|RT.cq .none Y T<|RT.bQ .none Y T Y<|lr Y Y<|lE h λgV nF h=>ls _ Y Y nF<|dn ?_
 refine bL h (λQG=>AS.cu 54 [(5,.row 18)] [] [(18,TR 43 4 eQ QG)]) (λh=>?_) (λW6 h=>?_)
 cases gV
 exact fs<|⟨eE,(F h),wR []⟩
 refine cT<|qq<|sr<|mv Y<|RT.cq .none Y T<|RT.bQ .none Y T Y<|lr Y Y<|lE (V h) λiM oM h=>ln Y oM<|mv Y<|dn<|bE h λe18 agf Bp=>?_
 refine bJ (λ(De:(List Qr))=>AS.cu 54 [(0,.sv (ref [ay bn,ax bp,slc 1 (List.map (eS 4 eQ) bB),slc 1 (List.map bH bD),slc 1 (List.map (eS 4 eQ) cC)])),(1,ah x1),(5,.row 18)] [] [(18,TR 43 4 eQ De)]) (λDe=>De=e18) ?_ (λDe agh=>?_)
 refine bf ?_
 refine bK agf (λTh=>AS.cu 54 [(0,.sv (ref [ay bn,ax bp,slc 1 (List.map (eS 4 eQ) bB),slc 1 (List.map bH bD),slc 1 (List.map (eS 4 eQ) cC)])),(1,ah x1),(5,.row 18),(28,.sv (slc 1 (List.map (eS 4 eQ) bB))),(29,ah iM),(30,ah Th.1)] [] [(18,TR 43 4 eQ Th.2)]) (wR []) (λTh y18 G18 h agi agj=>?_)
 obtain⟨I0,I1⟩:=Th
 try dsimp only
 refine sr<|lE h λnq xA h=>ls _ Y Y xA<|dn<|qq ?_
 cases nq
 refine cF<|bP<|aW.x<|aW.x<|bF.x<|aW.n ?_
 obtain rfl:=O (F h)
 exact⟨I1,agj _ Y,wR []⟩
 refine cT<|bu<|aW.n<|qq<|bf<|sr<|mv Y<|bE (V h) λou xk h=>ix Y Y xk<|lr Y Y<|ag Y<|ag Y<|dn<|aX<|mo (s:=.row _) Y<|mv Y<|mv Y<|mv Y ?_
 obtain⟨⟨⟨Eg,Eh⟩,⟨LC,LD⟩⟩,Fs,h⟩:=bS h
 refine ix Y Y Fs<|RT.gJ (cs:=[_,_,_,_]) .none Y T Y Y<|bE h λyJ GS h=>iR Y Y Y GS<|bE h λZM Xj h=>sA ⟨⟨Eg,Eh⟩,⟨LC,LD⟩⟩ Y Y Y Xj<|RT.done<|bF.n<|aW.n<|aX<|lE h λpC Ay h=>ad _ Y Y Ay<|mv Y<|RT.done ?_
 obtain rfl:=O h
 exact aW.n ⟨(pC,ZM),agi _ Y,wR []⟩
 subst agh
 try dsimp only
 refine aW.n<|aZ mixed<|mo (s:=.row _) Y<|mv Y<|RT.cq .none Y T<|RT.bQ .none Y T Y<|lr Y Y<|lE Bp λuM h48 Bp=>ln Y h48<|mv Y<|lE Bp λAx Ks Bp=>ad _ Y Y Ks ?_
 obtain⟨⟨⟨Lo,Lp⟩,⟨W7,W8⟩⟩,IA,Bp⟩:=bS Bp
 refine cl (nv IA) ⟨Y,ak⟩<|bE Bp λAA GV Bp=>iR Y Y Y GV<|bE Bp λl22 akb Bp=>sA ⟨⟨Lo,Lp⟩,⟨W7,W8⟩⟩ Y Y Y akb ?_
 refine RT.done ⟨by kernel_rfl,?_⟩
 exact aW.n<|⟨l22,Bp,wR []⟩
 try dsimp only
 refine aW.n<|sr<|mo (s:=.row _) Y<|an (s:=.row _) Y<|dn<|bU (cP (i:=18) (E1:=43) (n:=4) (e:=eQ) (l:=W6) Y)<|aY ?_
 obtain rfl:=O h
 exact R1 Y
theorem Ap{x0:Tb}{x1:List Qr}(N:Nat){r:List Qr}(h:lS x0 x1=some r):dB af 77 N [ref (xl x0),slc 4 (List.map eQ x1)] (nw N (slc 4 (List.map (fQ N) r))):=by
 obtain⟨bn,bp,bB,bD,cC⟩:=x0
 refine bT Tryz.func77 Y (ae Y) (λc9 M vs hN hvs=>?_)
 unfold lS at h
 refine sr<|aI Y (bt (N:=N) (n:=4) (e:=(fQ N)))<|dn<|qq<|aZ mixed<|mv Y<|RT.cq .none Y T<|RT.bQ .none Y T Y<|lr Y Y<|lE h λc8 fI h=>ln Y fI<|mv Y<|RT.cq .none Y T<|RT.bQ .none Y T Y<|lr Y Y<|lE h λdR jK h=>ad _ Y Y jK<|bE h λeE jd h=>RT.vX (n:=4) (e:=(fQ N)) .none Y Y T Y T (by rfl) (by decide) (by exact⟨aq,bt,aq,bt,ak⟩) jd ?_
 refine an (s:=.row _) Y ?_
 refine RT.done ⟨by kernel_rfl,?_⟩
 refine aW.n<|qq<|sr<|mv Y<|lE h λgK oO h=>ln Y oO<|mv Y<|dn<|ku (i:=18) (E1:=43) (n:=4) (e:=(fQ N)) (l:=eE) hN (λ_ h=>h) Y<|bE h λBn sK fC=>?_
 refine bJ (λ(yX:(List Qr))=>AS.cu 57 [(5,.sv (nw N (slc 4 (List.map (fQ N) yX))))] [] []) (λyX=>yX=Bn) ?_ (λyX ry=>?_)
 refine bf ?_
 refine bK sK (λnA=>AS.cu 57 [(0,.sv (ref [ay bn,ax bp,slc 1 (List.map (eS 4 eQ) bB),slc 1 (List.map bH bD),slc 1 (List.map (eS 4 eQ) cC)])),(5,.sv (nw N (slc 4 (List.map (fQ N) nA.1)))),(19,.sv (slc 4 (List.map eQ x1))),(20,ah gK),(21,ah nA.2)] [] []) (wR []) (λnA Vr Vs h uS rz=>?_)
 obtain⟨I2,zN⟩:=nA
 try dsimp only
 refine sr<|lE h λiK oz h=>ls _ Y Y oz<|dn<|qq ?_
 cases iK
 refine cF<|bP<|aW.x<|aW.x<|bF.x<|aW.n ?_
 obtain rfl:=O (F h)
 exact⟨I2,rz _ Y,wR []⟩
 refine cT<|bu<|aW.n<|qq<|bf<|sr<|mv Y ?_
 obtain⟨⟨⟨kE,kF⟩,⟨qm,qo⟩⟩,nF,h⟩:=bS (V h)
 refine ix Y Y nF<|RT.gJ (cs:=[_,_,_,_]) .none Y T Y Y<|al (cs:=[ay false,nw N au,ay false,nw N au]) (by exact⟨aq,bt,aq,bt,ak⟩) Y<|ag Y<|so Y Y Y<|dn<|qq ?_
 refine bL h (λj19=>AS.cu 57 [(0,.sv (ref [ay bn,ax bp,slc 1 (List.map (eS 4 eQ) bB),slc 1 (List.map bH bD),slc 1 (List.map (eS 4 eQ) cC)])),(5,.sv (nw N (slc 4 (List.map (fQ N) I2)))),(6,ah zN),(7,.ptr 7 0),(19,.sv (slc 4 (List.map eQ x1))),(20,ah gK),(21,ah zN),(42,ai j19)] [(7,⟨43,[ai kE,.sv (slc 1 (List.map bh kF)),ai qm,.sv (slc 1 (List.map bh qo))]⟩)] []) (λh=>?_) (λRG h=>?_)
 refine aZ mixed<|mv Y<|RT.cq .none Y T<|RT.bQ .none Y T Y<|lr Y Y<|mv Y<|bE h λnq xA h=>ix Y Y xA<|lr Y Y<|mv Y<|RT.cq .none Y T<|RT.bQ .none Y T Y<|lr Y Y<|lE h λpD A0 h=>ls _ Y Y A0<|mv Y<|bE h λXa Ec h=>?_
 cases pD
 obtain rfl:=O (F Ec)
 refine ww<|ww<|ww<|pF Y ?_
 refine RT.done ⟨by kernel_rfl,?_⟩
 exact aW.n<|⟨false,h,wR []⟩
 refine gl Y Y (.k4 Y Y Y Y)<|bE (V Ec) λlj sZ Ec=>gc (q9 sZ) ⟨Y,ak⟩<|lE Ec λyJ GS Ec=>gq _ Y Y (Le (p:=lj) (q:=0) GS) ?_
 obtain rfl:=O Ec
 refine pT Y ?_
 refine RT.done ⟨by kernel_rfl,?_⟩
 exact aW.n<|⟨yJ,h,wR []⟩
 try dsimp only
 refine aW.n ?_
 refine bL h (λj21=>AS.cu 57 [(0,.sv (ref [ay bn,ax bp,slc 1 (List.map (eS 4 eQ) bB),slc 1 (List.map bH bD),slc 1 (List.map (eS 4 eQ) cC)])),(5,.sv (nw N (slc 4 (List.map (fQ N) j21)))),(19,.sv (slc 4 (List.map eQ x1))),(20,ah gK),(21,ah zN)] [] []) (λh=>?_) (λW9 h=>?_)
 cases RG
 exact fs<|⟨I2,(F h),wR []⟩
 refine cT<|aZ mixed<|ld Y Y (.k4 Y Y Y Y)<|mv Y<|mv Y<|RT.cq .none Y T<|RT.bQ .none Y T Y<|lr Y Y<|mv Y<|bE (V h) λAx Ks h=>ix Y Y Ks<|lr Y Y<|bE h λAA GV h=>cl (Bo GV) ⟨Y,Y,ak⟩<|mv Y<|bE h λGP QF h=>RT.bW .none ((yS N QF).w (args':=[_,_,_]) ⟨aq,aq,Ur,ak⟩) hN Y ⟨Y,Y,Y,ak⟩ T ?_
 refine ag Y ?_
 refine RT.done ⟨by kernel_rfl,?_⟩
 exact aW.n<|⟨GP,h,wR []⟩
 try dsimp only
 refine bF.n<|aW.n<|aX<|lE h λCZ Ri h=>ad _ Y Y Ri<|mv Y<|RT.done ?_
 obtain rfl:=O h
 exact aW.n ⟨(W9,CZ),uS _ Y,wR []⟩
 subst ry
 try dsimp only
 refine aW.n<|sr<|mv Y<|ag Y<|dn<|aY ?_
 obtain rfl:=O fC
 exact R1 Y
theorem zO{x0:Tb}(N:Nat){r:List Int}(h:jz x0=some r):dB af 17 N [ref (xl x0)] (nw N (slc 1 (List.map bH r))):=by
 obtain⟨bn,bp,bB,bD,cC⟩:=x0
 refine bT Tryz.func17 Y (ae Y) (λc9 M vs hN hvs=>?_)
 unfold jz at h
 refine sr<|aI Y (bt (N:=N) (n:=1) (e:=bH))<|dn<|qq<|sr<|mv Y<|bE h λx5 h5 h=>cl (fm h5) ⟨Y,ak⟩<|dn ?_
 cases x5
 refine fs<|sr<|mv Y<|RT.cq .none Y T<|RT.bQ .none Y T Y<|lr Y Y<|lE (F h) λdG fY h=>ln Y fY<|bE h λff kz h=>RT.vX (n:=1) (e:=bH) .none Y Y T Y T (by rfl) (by decide) (by exact⟨aq,ak⟩) kz<|an (s:=.row _) Y<|dn<|sr<|mo (s:=.row _) Y<|mv Y<|RT.cq .none Y T<|RT.bQ .none Y T Y<|lr Y Y ?_
 refine RT.aj5 (l:=ff) (k:=bD) (e:=bH) .none Y Y Y T Y<|dn<|sr<|mo (s:=.row _) Y<|an (s:=.row _) Y<|dn<|ku (i:=11) (E1:=3) (n:=1) (e:=bH) (l:=(N1 ff bD)) hN (λ_ h=>h) Y<|aY ?_
 obtain rfl:=O h
 exact R1 Y
 refine cT<|sr<|aI Y (bt (N:=N) (n:=1) (e:=bH))<|dn<|aY<|aW.r ?_
 obtain rfl:=O (V h)
 exact R1 Y
theorem MS{x0:Tb}{r:List Int}(h:jz x0=some r):Pure af 17 [ref (xl x0)] (slc 1 (List.map bH r)):=eM (λN=>zO N h) (λN=>fe)
theorem zP{x0:Tb}(N:Nat){r:List Qr}(h:jL x0=some r):dB af 19 N [ref (xl x0)] (nw N (slc 4 (List.map (fQ N) r))):=by
 obtain⟨bn,bp,bB,bD,cC⟩:=x0
 refine bT Tryz.func19 Y (ae Y) (λc9 M vs hN hvs=>?_)
 unfold jL at h
 refine sr<|aI Y (bt (N:=N) (n:=4) (e:=(fQ N)))<|dn<|qq<|sr<|mv Y<|bE h λx4 h4 h=>cl (fm h4) ⟨Y,ak⟩<|dn ?_
 cases x4
 refine fs<|sr<|mv Y<|mv Y<|bE (F h) λx7 h7 h=>cl (rj h7) ⟨Y,ak⟩<|bE h λx8 h8 h=>RT.bW .none (CE N h8) hN Y ⟨Y,Y,ak⟩ T<|ag Y<|dn<|aY ?_
 obtain rfl:=O h
 exact R1 Y
 refine cT<|sr<|aI Y (bt (N:=N) (n:=4) (e:=(fQ N)))<|dn<|aY<|aW.r ?_
 obtain rfl:=O (V h)
 exact R1 Y
theorem I8{x0:Tb}{r:List Qr}(h:jL x0=some r):Pure af 19 [ref (xl x0)] (slc 4 (List.map eQ r)):=eM (λN=>zP N h) (λN=>Ur)
theorem pX{x0:Tb}{x1:Int}(N:Nat){r:List Qr}(h:dz x0 x1=some r):dB af 28 N [ref (xl x0),ax x1] (nw N (slc 4 (List.map (fQ N) r))):=by
 obtain⟨bn,bp,bB,bD,cC⟩:=x0
 refine bT Tryz.func28 Y (ae Y) (λc9 M vs hN hvs=>?_)
 unfold dz at h
 refine sr<|aI Y (bt (N:=N) (n:=4) (e:=(fQ N)))<|dn<|qq<|qq ?_
 refine bL h (λj6=>AS.cu 26 [(0,.sv (ref [ay bn,ax bp,slc 1 (List.map (eS 4 eQ) bB),slc 1 (List.map bH bD),slc 1 (List.map (eS 4 eQ) cC)])),(1,ah x1),(16,ai j6)] [] []) (λh=>?_) (λXb h=>?_)
 refine aX<|mv Y<|bE h λx6 h6 h=>cl (fm h6) ⟨Y,ak⟩<|mv Y<|bE h λadi hg7 h=>?_
 cases x6
 refine gm Y<|lE (F hg7) λx9 h9 hg7=>RT.lss (.some Y Y) _ Y Y T h9 ?_
 obtain rfl:=O hg7
 refine pF Y<|mv Y<|bE h λas3 WN h=>?_
 cases x9
 refine gm Y<|gm Y<|bE (F WN) λdV jy WN=>gc (rj jy) ⟨Y,ak⟩<|lE WN λdN gH WN=>RT.geq (.some Y Y) _ Y Y T gH ?_
 obtain rfl:=O WN
 exact pF Y<|dn<|⟨dN,h,wR []⟩
 obtain rfl:=O (V WN)
 exact ww<|ww<|ww<|ww<|pT Y<|dn<|⟨true,h,wR []⟩
 obtain rfl:=O (V hg7)
 refine ww<|ww<|pT Y<|mv Y<|bE h λas4 hg9 h=>?_
 obtain rfl:=O (V hg9)
 exact ww<|ww<|ww<|ww<|pT Y<|dn<|⟨true,h,wR []⟩
 try dsimp only
 refine aW.n ?_
 cases Xb
 refine fs<|sr<|mv Y<|mv Y<|mv Y<|bE (F h) λgK oO h=>RT.bW .none (CE N oO) hN Y ⟨Y,Y,ak⟩ T<|bE h λgh kA h=>RT.bW .none ((Ap N kA).w (args':=[_,_]) ⟨aq,Ur,ak⟩) hN Y ⟨Y,Y,ak⟩ T<|mv Y<|mv Y<|bE h λgV nF h=>cl (Bo nF) ⟨Y,Y,ak⟩<|bE h λke nN h=>RT.bW .none ((Ry N nN).w (args':=[_,_]) ⟨Ur,aq,ak⟩) hN Y ⟨Y,Y,ak⟩ T ?_
 refine ag Y<|dn<|aY ?_
 obtain rfl:=O h
 exact R1 Y
 refine cT<|sr<|aI Y (bt (N:=N) (n:=4) (e:=(fQ N)))<|dn<|aY<|aW.r ?_
 obtain rfl:=O (V h)
 exact R1 Y
theorem Dg{x0:Tb}{x1:Int}{r:List Qr}(h:dz x0 x1=some r):Pure af 28 [ref (xl x0),ax x1] (slc 4 (List.map eQ r)):=eM (λN=>pX N h) (λN=>Ur)
theorem Ei{x0:Tb}(N:Nat){r:List Qr}(h:kG x0=some r):dB af 38 N [ref (xl x0)] (nw N (slc 4 (List.map (fQ N) r))):=by
 obtain⟨bn,bp,bB,bD,cC⟩:=x0
 refine bT Tryz.func38 Y (ae Y) (λc9 M vs hN hvs=>?_)
 unfold kG at h
 refine sr<|aI Y (bt (N:=N) (n:=4) (e:=(fQ N)))<|dn<|qq<|sr<|mv Y<|bE h λx4 h4 h=>cl (fm h4) ⟨Y,ak⟩<|dn ?_
 cases x4
 refine fs<|sr<|mv Y<|mv Y<|bE (F h) λx7 h7 h=>RT.bW .none (zP N h7) hN Y ⟨Y,ak⟩ T<|bE h λx8 h8 h=>RT.bW .none ((Ap N h8).w (args':=[_,_]) ⟨aq,Ur,ak⟩) hN Y ⟨Y,Y,ak⟩ T<|ag Y<|dn<|aY ?_
 obtain rfl:=O h
 exact R1 Y
 refine cT<|sr<|aI Y (bt (N:=N) (n:=4) (e:=(fQ N)))<|dn<|aY<|aW.r ?_
 obtain rfl:=O (V h)
 exact R1 Y
theorem MT{x0:Tb}{r:List Qr}(h:kG x0=some r):Pure af 38 [ref (xl x0)] (slc 4 (List.map eQ r)):=eM (λN=>Ei N h) (λN=>Ur)
theorem Aq{x0:Tb}(N:Nat){r:List Qr}(h:iF x0=some r):dB af 21 N [ref (xl x0)] (nw N (slc 4 (List.map (fQ N) r))):=by
 obtain⟨bn,bp,bB,bD,cC⟩:=x0
 refine bT Tryz.func21 Y (ae Y) (λc9 M vs hN hvs=>?_)
 unfold iF at h
 refine sr<|aI Y (bt (N:=N) (n:=4) (e:=(fQ N)))<|dn<|qq<|sr<|mv Y<|bE h λx7 h7 h=>cl (fm h7) ⟨Y,ak⟩<|dn ?_
 cases x7
 refine fs<|sr<|mv Y<|RT.cq .none Y T<|RT.bQ .none Y T Y<|lr Y Y<|bE (F h) λc8 fI h=>RT.vX (n:=4) (e:=(fQ N)) .none Y Y T Y T (by rfl) (by decide) (by exact⟨aq,bt,aq,bt,ak⟩) fI<|an (s:=.row _) Y<|dn<|qq<|sr<|mv Y<|bE h λdV jy h=>RT.bW .none (zP N jy) hN Y ⟨Y,ak⟩ T<|lE h λdN gH h=>RT.Ll .none Y T gH<|mv Y ?_
 refine dn<|bE h λFo yl oV=>?_
 refine bJ (λ(I5:(List Qr))=>AS.cu 45 [(3,.row 12)] [] [(12,TR 43 4 (fQ N) I5)]) (λI5=>I5=Fo) ?_ (λI5 ym=>?_)
 refine bf ?_
 refine bK yl (λuF=>AS.cu 45 [(0,.sv (ref [ay bn,ax bp,slc 1 (List.map (eS 4 eQ) bB),slc 1 (List.map bH bD),slc 1 (List.map (eS 4 eQ) cC)])),(3,.row 12),(14,.sv (nw N (slc 4 (List.map (fQ N) dV)))),(15,ah dN),(16,ah uF.1)] [] [(12,TR 43 4 (fQ N) uF.2)]) (wR []) (λuF ZG ZH h yn uN=>?_)
 obtain⟨I3,I4⟩:=uF
 try dsimp only
 refine sr<|lE h λdR jK h=>ls _ Y Y jK<|dn<|qq ?_
 cases dR
 refine cF<|bP<|aW.x<|aW.x<|bF.x<|aW.n ?_
 obtain rfl:=O (F h)
 exact⟨I4,uN _ Y,wR []⟩
 refine cT<|bu<|aW.n<|qq<|bf<|sr<|mv Y ?_
 obtain⟨⟨⟨lM,lO⟩,⟨wI,wJ⟩⟩,lZ,h⟩:=bS (V h)
 refine RT.ajh .none Y Y T lZ<|RT.gJ (cs:=[_,_,_,_]) .none Y T Y Y<|al (cs:=[ay false,nw N au,ay false,nw N au]) (by exact⟨aq,bt,aq,bt,ak⟩) Y<|ag Y<|so Y Y Y<|dn<|qq<|aZ mixed<|mv Y<|RT.cq .none Y T<|RT.bQ .none Y T Y<|lr Y Y<|mv Y<|bE h λji qS h=>ix Y Y qS ?_
 refine lr Y Y<|mv Y<|RT.cq .none Y T<|RT.bQ .none Y T Y<|lr Y Y<|lE h λjY qT h=>ls _ Y Y qT ?_
 refine RT.done ⟨by kernel_rfl,?_⟩
 refine aW.n ?_
 refine bL h (λGQ=>AS.cu 45 [(0,.sv (ref [ay bn,ax bp,slc 1 (List.map (eS 4 eQ) bB),slc 1 (List.map bH bD),slc 1 (List.map (eS 4 eQ) cC)])),(3,.row 12),(14,.sv (nw N (slc 4 (List.map (fQ N) dV)))),(15,ah dN),(16,ah I3)] [] [(12,TR 43 4 (fQ N) GQ)]) (λh=>?_) (λRH h=>?_)
 cases jY
 exact fs<|⟨I4,(F h),wR []⟩
 refine cT<|aZ mixed<|mo (s:=.row _) Y<|mv Y<|RT.cq .none Y T<|RT.bQ .none Y T Y<|lr Y Y<|mv Y<|bE (V h) λyj Fs h=>ix Y Y Fs<|lr Y Y<|ld Y Y (.k4 Y Y Y Y)<|bE h λpC Ay h=>iR Y Y Y Ay<|bE h λTi Xk h=>sA ⟨⟨lM,lO⟩,⟨wI,wJ⟩⟩ Y Y Y Xk ?_
 refine RT.done ⟨by kernel_rfl,?_⟩
 exact aW.n<|⟨Ti,h,wR []⟩
 try dsimp only
 refine bF.n<|aW.n<|aX<|lE h λyB EV h=>ad _ Y Y EV<|mv Y<|RT.done ?_
 obtain rfl:=O h
 exact aW.n ⟨(yB,RH),yn _ Y,wR []⟩
 subst ym
 try dsimp only
 refine aW.n<|sr<|mo (s:=.row _) Y<|an (s:=.row _) Y<|dn<|ku (i:=12) (E1:=43) (n:=4) (e:=(fQ N)) (l:=I5) hN (λ_ h=>h) Y<|aY ?_
 obtain rfl:=O oV
 exact R1 Y
 refine cT<|sr<|aI Y (bt (N:=N) (n:=4) (e:=(fQ N)))<|dn<|aY<|aW.r ?_
 obtain rfl:=O (V h)
 exact R1 Y
theorem G2{x0:Tb}{r:List Qr}(h:iF x0=some r):Pure af 21 [ref (xl x0)] (slc 4 (List.map eQ r)):=eM (λN=>Aq N h) (λN=>Ur)
theorem Pw{x0:Tb}(N:Nat){r:List (List Qr)}(h:sJ x0=some r):dB af 18 N [ref (xl x0)] (nw N (slc 1 (List.map (fS N 4 (fQ N)) r))):=by
 obtain⟨bn,bp,bB,bD,cC⟩:=x0
 refine bT Tryz.func18 Y (ae Y) (λc9 M vs hN hvs=>?_)
 unfold sJ at h
 refine sr<|aI Y (bt (N:=N) (n:=1) (e:=(fS N 4 (fQ N))))<|dn<|qq<|sr<|mv Y<|bE h λx7 h7 h=>cl (fm h7) ⟨Y,ak⟩<|dn ?_
 cases x7
 refine fs<|sr<|ag Y<|dn<|bU (cY 3 304 23 1 Y Y T)<|qq<|sr<|mv Y<|RT.cq .none Y T<|RT.bQ .none Y T Y<|lr Y Y<|lE (F h) λc8 fI h=>ln Y fI<|mv Y<|dn<|bE h λe6 uO je=>?_
 refine bJ (λ(dr:(List (List Qr)))=>AS.cu 26 [(3,.row 306)] [] [(306,TR 23 1 (fS N 4 (fQ N)) dr)]) (λdr=>dr=e6) ?_ (λdr uP=>?_)
 refine bf ?_
 refine bK uO (λs6=>AS.cu 26 [(0,.sv (ref [ay bn,ax bp,slc 1 (List.map (eS 4 eQ) bB),slc 1 (List.map bH bD),slc 1 (List.map (eS 4 eQ) cC)])),(3,.row 306),(11,.sv (slc 1 (List.map (eS 4 eQ) cC))),(12,ah c8),(13,ah s6.1)] [] [(306,TR 23 1 (fS N 4 (fQ N)) s6.2)]) (cz (λi=>bif Nat.beq i 306 then 304 else i) Y Y Y Y Y ⟨.sv aq,.row Y,.sv aq,.sv aq,.sv aq,ak⟩ trivial ⟨⟨_,Y,cg.refl _⟩,ak⟩ (λi hi=>by rw[bV (show i≠306 by omega)];rfl)) (λs6 y6 G6 h uQ pE=>?_)
 obtain⟨Tj,gB⟩:=s6
 try dsimp only
 refine sr<|lE h λdV jy h=>ls _ Y Y jy<|dn<|qq ?_
 cases dV
 refine cF<|bP<|aW.x<|aW.x<|bF.x<|aW.n ?_
 obtain rfl:=O (F h)
 exact⟨gB,pE _ Y,wR []⟩
 refine cT<|bu<|aW.n<|qq<|bf<|sr<|bE (V h) λdN gH h=>ix Y Y gH<|lr Y Y<|ag Y<|dn<|aX<|mo (s:=.row _) Y<|mv Y<|mv Y<|bE h λgK oO h=>cl (rj oO) ⟨Y,ak⟩<|bE h λgh kA h=>RT.bW .none (Cz N kA) hN Y ⟨Y,Y,ak⟩ T<|bl (l:=[gh]) (e:=(fS N 4 (fQ N))) (.one Y (.nil)) Y Y Y Y Y Y<|bE h λgU oP h=>aR (k:=[gh]) (e:=(fS N 4 (fQ N))) Y Y Y oP ?_
 refine an (s:=.row _) Y<|RT.done<|bF.n<|aW.n<|aX<|lE h λgV nF h=>ad _ Y Y nF<|mv Y<|RT.done ?_
 obtain rfl:=O h
 exact aW.n ⟨(gV,gU),uQ _ Y,cz (λi=>bif Nat.beq i 306 then 23 else i) Y Y Y Y Y ⟨.sv aq,.row Y,.sv aq,.sv aq,.sv aq,ak⟩ trivial ⟨⟨_,Y,cg.refl _⟩,ak⟩ (λi hi=>by rw[bV (show i≠306 by omega)];rfl)⟩
 subst uP
 try dsimp only
 refine aW.n<|sr<|mo (s:=.row _) Y<|an (s:=.row _) Y<|dn<|ku (i:=306) (E1:=23) (n:=1) (e:=(fS N 4 (fQ N))) (l:=dr) hN (λ_ h=>h) Y<|aY ?_
 obtain rfl:=O je
 exact R1 Y
 refine cT<|sr<|aI Y (bt (N:=N) (n:=1) (e:=(fS N 4 (fQ N))))<|dn<|aY<|aW.r ?_
 obtain rfl:=O (V h)
 exact R1 Y
theorem Px{x0:Tb}{r:List (List Qr)}(h:sJ x0=some r):Pure af 18 [ref (xl x0)] (slc 1 (List.map (eS 4 eQ) r)):=eM (λN=>Pw N h) (λN=>aap)
theorem Ar{x0:Tb}{r:Bool}(h:jS x0=some r):Pure af 35 [ref (xl x0)] (ay r):=by
 obtain⟨bn,bp,bB,bD,cC⟩:=x0
 refine bj Tryz.func35 Y (ae Y) (λc9 M vs hvs=>?_)
 unfold jS at h
 refine sr<|ag Y<|dn<|qq<|sr<|mv Y<|bE h λx6 h6 h=>cl (fm h6) ⟨Y,ak⟩<|dn ?_
 cases x6
 refine fs<|qq<|sr<|mv Y<|bE (F h) λx8 h8 h=>cl (I8 h8) ⟨Y,ak⟩<|lE h λx9 h9 h=>ln Y h9<|mv Y<|dn<|bE h λe6 uO je=>?_
 refine bJ (λ(uG:Unit)=>AS.cu 18 [] [] []) (λuG=>.inl uG=e6) ?_ (λuG uP=>?_)
 refine bf ?_
 refine bK uO (λs6=>AS.cu 18 [(8,.sv (slc 4 (List.map eQ x8))),(9,ah x9),(10,ah s6)] [] []) (wR []) (λTk y6 G6 h uQ pE=>?_)
 try dsimp only
 refine sr<|lE h λff kz h=>ls _ Y Y kz<|dn<|qq ?_
 cases ff
 refine cF<|bP<|aW.x<|aW.x<|bF.x<|aW.n ?_
 obtain rfl:=O (F h)
 exact⟨(),pE _ Y,wR []⟩
 refine cT<|bu<|aW.n<|qq<|bf<|sr ?_
 obtain⟨⟨⟨jg,iT⟩,⟨Tl,Tm⟩⟩,fI,h⟩:=bS (V h)
 refine ix Y Y fI<|RT.gJ (cs:=[_,_,_,_]) .none Y T Y Y<|al (cs:=[ay false,au,ay false,au]) (by exact⟨aq,aB,aq,aB,ak⟩) Y<|so Y Y Y<|dn<|sr<|ld Y Y (.k4 Y Y Y Y)<|bE h λdN gH h=>cl (q9 gH) ⟨Y,ak⟩<|lE h λeX kf h=>ls _ Y Y kf<|dn ?_
 cases eX
 refine cF<|bu<|bF.n<|aW.n<|aX<|lE (F h) λdR jK h=>ad _ Y Y jK<|mv Y<|RT.done ?_
 obtain rfl:=O h
 exact aW.n ⟨dR,uQ _ Y,wR []⟩
 refine cT<|sr<|ag Y<|dn<|aY<|bF.r<|aW.r ?_
 obtain rfl:=O (V h)
 have GR:=pE _ Y
 subst GR
 refine aW.r<|bF.r<|aW.r<|aW.r ?_
 obtain rfl:=O je
 exact R1 Y
 subst uP
 try dsimp only
 refine aW.n<|sr<|ag Y<|dn<|aY ?_
 obtain rfl:=O je
 exact R1 Y
 refine cT<|sr<|ag Y<|dn<|aY<|aW.r ?_
 obtain rfl:=O (V h)
 exact R1 Y
theorem Bq(t:Tb):Pure af 65 [ref (xl t)] (oN 114 [ref [ref (xl t)]]):=by
 refine bj Tryz.func65 Y (ae Y) (λc9 M vs hvs=>?_)
 exact sr<|RT.CK .none (s:=.sv _) Y T Y Y<|ag Y<|dn<|sr<|RT.makeFunc .none (.box Y (.nil)) T<|an (s:=.kT _ _) Y<|dn<|bU (lH (i:=1) Y [ref (xl t)] (.cons Y .nil) .any 0 [(2,.kT 114 [.val (ref [ref (xl t)])])] (λ_ _ _=>trivial) (yD.h (l:=[ref (xl t)])) ⟨@FT.kT _ _ _ _ _ 2 114 [.box 1] Y,ak⟩)<|bU (Q1 2 (oN 114 [ref [ref (xl t)]]) (λ_ _ h=>Q2 h))<|aY<|⟨.inr Y,QS (.tmp Y (.nil)) Y⟩
theorem aaN(n:Int):IntKind.i64.wrap n≤9223372036854775807:=by
 show(if(true&&decide (n%18446744073709551616≥9223372036854775808))=true then n%18446744073709551616-18446744073709551616 else n%18446744073709551616)≤9223372036854775807
 by_cases h:n%18446744073709551616≥9223372036854775808
 ·simp only[h,decide_true,Bool.and_self,if_true];omega
 ·simp only[h,decide_false,Bool.and_false,Bool.false_eq_true,if_false];omega
theorem width_eq(t:Tb):gM t=some (IntKind.i64.wrap (t.vars+(t.rows.length:Int))):=by
 cases t;rfl
theorem Br(t:Tb):Iter af 114 [ref [ref (xl t)]] (IntKind.i64.wrap (t.vars+(t.rows.length:Int))).toNat (λk=>[ax (k:Int)]):=by
 refine CP Tryz.func114 Y Y (ae Y) (λc9 M O l J hJ Kc hr=>?_)
 have hw:=aaN (t.vars+(t.rows.length:Int))
 have hwd:=width_eq t
 generalize (IntKind.i64.wrap (t.vars+(t.rows.length:Int)))=W at hw hwd hr⊢
 refine cm ?_
 refine aX ?_
 refine RT.fT .none Y Y (tl Y) ?_
 refine RT.call .none (rj hwd) Y ⟨Y,ak⟩ (tl Y) ?_
 refine RT.mv .none Y (tl Y) ?_
 refine RT.done ?_
 refine aW.n ?_
 refine bf ?_
 refine Hl (I:=λx:{i:Nat//i≤W.toNat}=>AS.cu 14 [(0,.sv (.v (.func (.yield l) #[] #[]))),(1,.sv (ref [ref (xl t)])),(5,ah W),(6,ah ((x.1:Nat):Int))] [] [] (x.1)) (μ:=λx=>W.toNat-x.1) ⟨0,by omega⟩ (by(try dsimp only);exact cz id Y Y Y Y Y ⟨.sv (by first|exact aq|exact SV.bw (by omega)|exact SV.bw (by push_cast;omega)|exact SV.bw (by dsimp only;omega)|exact SV.imp_eq (by simp)),.sv (by first|exact aq|exact SV.bw (by omega)|exact SV.bw (by push_cast;omega)|exact SV.bw (by dsimp only;omega)|exact SV.imp_eq (by simp)),.sv (by first|exact aq|exact SV.bw (by omega)|exact SV.bw (by push_cast;omega)|exact SV.bw (by dsimp only;omega)|exact SV.imp_eq (by simp)),.sv (by first|exact aq|exact SV.bw (by omega)|exact SV.bw (by push_cast;omega)|exact SV.bw (by dsimp only;omega)|exact SV.imp_eq (by simp)),ak⟩ trivial trivial (λ_ _=>Y)) ?_
 rintro⟨i,hi0⟩
 try dsimp only
 rcases Nat.lt_or_eq_of_le hi0 with hi|hi
 ·
  refine cm ?_
  refine aX ?_
  refine RT.lss .none (true) Y Y (tl Y) (by simp;omega) ?_
  refine RT.done ?_
  refine aW.n ?_
  refine cm ?_
  refine e5 Y ?_
  refine bu ?_
  refine aW.n ?_
  refine cm ?_
  refine bf ?_
  refine cm ?_
  refine aX ?_
  refine RT.mv .none Y (tl Y) ?_
  refine RT.Mj .none Y (tl Y) ?_
  refine RT.done ?_
  refine aW.n ?_
  refine cm ?_
  refine aX ?_
  refine RT.mv .none Y (tl Y) ?_
  refine RT.mv .none Y (tl Y) ?_
  refine RT.yield .none hr Y (λ_ h=>h) Y (i) Y Y (by omega) (by exact⟨Y,ak⟩) (tl Y) (λyb=>?_)
  cases yb
  ·
   refine RT.not .none Y (tl Y) true Y ?_
   refine RT.done ?_
   refine aW.n ?_
   refine e5 Y ?_
   refine aY ?_
   refine bF.r ?_
   refine aW.r ?_
   refine aW.r ?_
   refine bF.r ?_
   exact⟨.inr rfl,(λh=>by cases h)⟩
  ·
   refine RT.not .none Y (tl Y) false Y ?_
   refine RT.done ?_
   refine aW.n ?_
   refine jc Y ?_
   refine bu ?_
   refine bF.n ?_
   refine aW.n ?_
   refine aX ?_
   refine RT.add .none (((i:Nat):Int)+1) Y Y (tl Y) (uI (by omega)) ?_
   refine RT.mv .none Y (tl Y) ?_
   refine RT.done ?_
   refine aW.n ?_
   refine⟨⟨i+1,by omega⟩,(by dsimp only;omega),?_⟩
   try dsimp only
   exact cz id Y Y Y Y Y ⟨.sv (by first|exact aq|exact SV.bw (by omega)|exact SV.bw (by push_cast;omega)|exact SV.bw (by dsimp only;omega)|exact SV.imp_eq (by simp)),.sv (by first|exact aq|exact SV.bw (by omega)|exact SV.bw (by push_cast;omega)|exact SV.bw (by dsimp only;omega)|exact SV.imp_eq (by simp)),.sv (by first|exact aq|exact SV.bw (by omega)|exact SV.bw (by push_cast;omega)|exact SV.bw (by dsimp only;omega)|exact SV.imp_eq (by simp)),.sv (by first|exact aq|exact SV.bw (by omega)|exact SV.bw (by push_cast;omega)|exact SV.bw (by dsimp only;omega)|exact SV.imp_eq (by simp)),ak⟩ trivial trivial (λ_ _=>Y)
 ·
  subst hi
  refine cm ?_
  refine aX ?_
  refine RT.lss .none (false) Y Y (tl Y) (by simp;omega) ?_
  refine RT.done ?_
  refine aW.n ?_
  refine cm ?_
  refine jc Y ?_
  refine bP ?_
  refine aW.x ?_
  refine aW.x ?_
  refine bF.x ?_
  exact⟨.inl Y,(λ_=>Y)⟩
theorem Bs{x0:Tb}{r:Bool}(h:jA x0=some r):Pure af 42 [ref (xl x0)] (ay r):=by
 obtain⟨bn,bp,bB,bD,cC⟩:=x0
 refine bj Tryz.func42 Y (ae Y) (λc9 M vs hvs=>?_)
 unfold jA at h
 refine sr<|RT.CK .none (s:=.sv _) Y T Y Y<|al (cs:=[ay false]) (by exact⟨aq,ak⟩) Y<|dn<|qq<|sr<|lV Y Y Y<|bE h λx5 h5 h=>cl (fm h5) ⟨Y,ak⟩<|dn ?_
 cases x5
 refine fs<|qq<|sr<|lV Y Y Y<|cl (Bq ⟨bn,bp,bB,bD,cC⟩) ⟨Y,ak⟩<|dn<|bf<|bE (F h) λe3 hl3 ho3=>?_
 obtain⟨m3,st3,hs3,ht3,hn3⟩:=Lj hl3
 refine ye (Br ⟨bn,bp,bB,bD,cC⟩) (λ_ _ _ _ _=>trivial) Y (λk=>AS.cu 14 [(1,.ptr 1 0),(2,.ptr 2 0),(7,.sv (oN 114 [ref [ref [ay bn,ax bp,slc 1 (List.map (eS 4 eQ) bB),slc 1 (List.map bH bD),slc 1 (List.map (eS 4 eQ) cC)]]]))] [(2,⟨4,[ai false]⟩),(1,⟨30,[.sv (ref [ay bn,ax bp,slc 1 (List.map (eS 4 eQ) bB),slc 1 (List.map bH bD),slc 1 (List.map (eS 4 eQ) cC)])]⟩)] []) [2,1] Y (λ_=>⟨Y,Y⟩) (CQ Y) (λ_=>Y) (CR Y) (by(try dsimp only);(try dsimp only);exact cz id Y Y Y Y Y ⟨.ptr,.ptr,.sv aq,ak⟩ ⟨⟨_,Y,⟨.sv aq,ak⟩⟩,⟨_,Y,⟨.sv aq,ak⟩⟩,ak⟩ trivial (λ_ _=>Y)) m3 (λk hk hkm D hD=>?_) (λhdn=>?_)
 obtain⟨y3,h,hG3,hE3⟩:=ht3 k hk hkm
 dsimp only[AS.Z6,Cs]
 try dsimp only at h
 refine lE h λp8 hp8 h=>?_
 rw[hp8]
 refine aX<|ag Y<|RT.done ?_
 refine aW.n ⟨Y,?_⟩
 dsimp only[AS.Mk]
 refine bf<|sr<|lV Y Y Y<|mv Y<|bE h λff kz h=>cl (Dg kz) ⟨Y,Y,ak⟩<|bE h λc8 fI h=>cl (Pf fI) ⟨Y,ak⟩<|lE h λeY iX h=>ls _ Y Y iX<|dn ?_
 cases eY
 refine cF<|bu<|bF.n ?_
 obtain rfl:=O (F h)
 obtain⟨hm3,hq3⟩:=hG3 _ Y
 exact⟨hm3,Y,Y,wR []⟩
 refine cT<|sr<|RT.zA (cells:=[_]) .none (s:=.sv _) Y Y Y T Y<|dn<|aY<|bF.r ?_
 obtain rfl:=O (V h)
 have he3:=hE3 _ Y
 subst he3
 refine⟨Y,Y,?_⟩
 refine bF.r<|aW.r ?_
 obtain rfl:=O ho3
 exact RZ (.one Y Y Y (.nil))
 have hd3:=hn3 hdn
 subst hd3
 obtain⟨ee3,afX⟩:∃q,st3 ((IntKind.i64.wrap (Tb.vars ⟨bn,bp,bB,bD,cC⟩+((Tb.rows ⟨bn,bp,bB,bD,cC⟩).length:Int))).toNat)=q:=⟨_,Y⟩
 rw[afX]at ho3
 try dsimp only
 refine bF.n<|aW.n<|sr<|RT.zA (cells:=[_]) .none (s:=.sv _) Y Y Y T Y<|dn<|aY ?_
 obtain rfl:=O ho3
 exact RZ (.one Y Y Y (.nil))
 refine cT<|sr<|RT.zA (cells:=[_]) .none (s:=.sv _) Y Y Y T Y<|dn<|aY<|aW.r ?_
 obtain rfl:=O (V h)
 exact RZ (.one Y Y Y (.nil))
theorem Ci{x0:Tb}(N:Nat){r:List (List Qr)}(h:gZ x0=some r):dB af 20 N [ref (xl x0)] (nw N (slc 1 (List.map (fS N 4 (fQ N)) r))):=by
 obtain⟨bn,bp,bB,bD,cC⟩:=x0
 refine bT Tryz.func20 Y (ae Y) (λc9 M vs hN hvs=>?_)
 unfold gZ at h
 refine sr<|RT.CK .none (s:=.sv _) Y T Y Y<|aI Y (bt (N:=N) (n:=1) (e:=(fS N 4 (fQ N))))<|dn<|qq<|sr<|lV Y Y Y<|bE h λx6 h6 h=>cl (fm h6) ⟨Y,ak⟩<|dn ?_
 cases x6
 refine fs<|sr<|RT.alloc .none T Y Y<|dn<|bU (yI 3 0 302 23 1 Y Y Y T)<|qq<|sr<|lV Y Y Y<|cl (Bq ⟨bn,bp,bB,bD,cC⟩) ⟨Y,ak⟩<|dn<|bf<|bE (F h) λwP hl5 ho5=>?_
 obtain⟨st5,hs5,ht5,hn5⟩:=vR hl5
 refine qR (Br ⟨bn,bp,bB,bD,cC⟩) (λ_ _ _ _ _=>trivial) Y (λk=>AS.cu 17 [(1,.ptr 1 0),(3,.ptr 3 0),(8,.sv (oN 114 [ref [ref [ay bn,ax bp,slc 1 (List.map (eS 4 eQ) bB),slc 1 (List.map bH bD),slc 1 (List.map (eS 4 eQ) cC)]]]))] [(3,⟨22,[.row 304]⟩),(1,⟨30,[.sv (ref [ay bn,ax bp,slc 1 (List.map (eS 4 eQ) bB),slc 1 (List.map bH bD),slc 1 (List.map (eS 4 eQ) cC)])]⟩)] [(304,TR 23 1 (fS N 4 (fQ N)) (st5 k))]) [3,1] Y (λ_=>⟨Y,Y⟩) (CQ Y) (λ_=>Y) (CR Y) (by(try dsimp only);rw[hs5];(try dsimp only);exact cz (λi=>bif Nat.beq i 304 then 302 else i) Y Y Y Y Y ⟨.ptr,.ptr,.sv aq,ak⟩ ⟨⟨_,Y,⟨.row Y,ak⟩⟩,⟨_,Y,⟨.sv aq,ak⟩⟩,ak⟩ ⟨⟨_,Y,cg.refl _⟩,ak⟩ (λi hi=>by rw[bV (show i≠304 by omega)];rfl)) (λk hk D hD=>?_) ?_
 have h:=ht5 k hk
 obtain⟨wP,hsk⟩:∃q,st5 k=q:=⟨_,Y⟩
 rw[hsk]at h⊢
 dsimp only[AS.Z6,Cs]
 try dsimp only at h
 refine lE h λp9 hp9 h=>?_
 rw[hp9]
 refine aX<|ag Y<|RT.done ?_
 refine aW.n ⟨Y,?_⟩
 dsimp only[AS.Mk]
 refine bf<|aZ mixed<|RT.lf .none (s:=.row _) Y Y Y T<|lV Y Y Y<|mv Y<|bE h λeY iX h=>RT.bW .none (pX N iX) (Nat.le_trans hN hD) Y ⟨Y,Y,ak⟩ T<|bl (l:=[eY]) (e:=(fS N 4 (fQ N))) (.one Y (.nil)) Y Y Y Y Y Y<|bE h λdN gH h=>aR (k:=[eY]) (e:=(fS N 4 (fQ N))) Y Y Y gH<|RT.qO (cells:=[_]) .none Y Y Y Y T Y ?_
 refine RT.done ⟨by kernel_rfl,?_⟩
 refine bF.n ?_
 replace h:=Option.some.inj h
 refine⟨ak,Y,Y,?_⟩
 try dsimp only
 rw[←h]
 try dsimp only
 exact cz (λi=>bif Nat.beq i 304 then 15 else i) Y Y Y Y Y ⟨.ptr,.ptr,.sv aq,ak⟩ ⟨⟨_,Y,⟨.row Y,ak⟩⟩,⟨_,Y,⟨.sv aq,ak⟩⟩,ak⟩ ⟨⟨_,Y,cg.refl _⟩,ak⟩ (λi hi=>by rw[bV (show i≠304 by omega)];rfl)
 rw[hn5]
 try dsimp only
 refine bF.n<|aW.n<|sr<|RT.lf .none (s:=.row _) Y Y Y T<|an (s:=.row _) Y<|dn<|ku (i:=304) (E1:=23) (n:=1) (e:=(fS N 4 (fQ N))) (l:=wP) hN (λ_ h=>h) Y<|aY ?_
 obtain rfl:=O ho5
 exact R1 Y
 refine cT<|sr<|aI Y (bt (N:=N) (n:=1) (e:=(fS N 4 (fQ N))))<|dn<|aY<|aW.r ?_
 obtain rfl:=O (V h)
 exact R1 Y
theorem Cj{x0:Tb}{r:List (List Qr)}(h:gZ x0=some r):Pure af 20 [ref (xl x0)] (slc 1 (List.map (eS 4 eQ) r)):=eM (λN=>Ci N h) (λN=>aap)
theorem I9{o0:Bool}{o1:Int}{o2:List (List Qr)}{o3:List Int}{o4:List (List Qr)}{r:Bool}(h:di (⟨o0,o1,o2,o3,o4⟩:Tb)=some r):FE af 57 [.ptr 1000 0] 79 [.s (ay o0),.s (ax o1),.r (TR 23 1 (eS 4 eQ) o2),.r (TR 3 1 bH o3),.r (TR 23 1 (eS 4 eQ) o4)] (ay r):=fK (cells:=xl (⟨o0,o1,o2,o3,o4⟩:Tb)) (r:=λN=>(ay r)) (λN=>by exact oX (fm h) N) Y ⟨⟨aq,λ_ _ q=>One.h _ _ q⟩,⟨aq,λ_ _ q=>One.h _ _ q⟩,dJ,dJ,dJ,ak⟩ Pr
theorem MU{o0:Bool}{o1:Int}{o2:List (List Qr)}{o3:List Int}{o4:List (List Qr)}{r:Int}(h:gM (⟨o0,o1,o2,o3,o4⟩:Tb)=some r):FE af 58 [.ptr 1000 0] 79 [.s (ay o0),.s (ax o1),.r (TR 23 1 (eS 4 eQ) o2),.r (TR 3 1 bH o3),.r (TR 23 1 (eS 4 eQ) o4)] (ax r):=fK (cells:=xl (⟨o0,o1,o2,o3,o4⟩:Tb)) (r:=λN=>(ax r)) (λN=>by exact oX (rj h) N) Y ⟨⟨aq,λ_ _ q=>One.h _ _ q⟩,⟨aq,λ_ _ q=>One.h _ _ q⟩,dJ,dJ,dJ,ak⟩ Pr
theorem MV{o0:Bool}{o1:Int}{o2:List (List Qr)}{o3:List Int}{o4:List (List Qr)}{r:List Int}(h:jz (⟨o0,o1,o2,o3,o4⟩:Tb)=some r):FE af 17 [.ptr 1000 0] 79 [.s (ay o0),.s (ax o1),.r (TR 23 1 (eS 4 eQ) o2),.r (TR 3 1 bH o3),.r (TR 23 1 (eS 4 eQ) o4)] (slc 1 (List.map bH r)):=fK (cells:=xl (⟨o0,o1,o2,o3,o4⟩:Tb)) (r:=λN=>nw N (slc 1 (List.map bH r))) (λN=>by exact zO N h) Y ⟨⟨aq,λ_ _ q=>One.h _ _ q⟩,⟨aq,λ_ _ q=>One.h _ _ q⟩,dJ,dJ,dJ,ak⟩ af7
theorem Dh{o0:Bool}{o1:Int}{o2:List (List Qr)}{o3:List Int}{o4:List (List Qr)}{r:List Qr}(h:jL (⟨o0,o1,o2,o3,o4⟩:Tb)=some r):FE af 19 [.ptr 1000 0] 79 [.s (ay o0),.s (ax o1),.r (TR 23 1 (eS 4 eQ) o2),.r (TR 3 1 bH o3),.r (TR 23 1 (eS 4 eQ) o4)] (slc 4 (List.map eQ r)):=fK (cells:=xl (⟨o0,o1,o2,o3,o4⟩:Tb)) (r:=λN=>nw N (slc 4 (List.map (fQ N) r))) (λN=>by exact zP N h) Y ⟨⟨aq,λ_ _ q=>One.h _ _ q⟩,⟨aq,λ_ _ q=>One.h _ _ q⟩,dJ,dJ,dJ,ak⟩ HA
theorem wS{o0:Bool}{o1:Int}{o2:List (List Qr)}{o3:List Int}{o4:List (List Qr)}{x1:Int}{r:List Qr}(h:dz (⟨o0,o1,o2,o3,o4⟩:Tb) x1=some r):FE af 28 [.ptr 1000 0,ah x1] 79 [.s (ay o0),.s (ax o1),.r (TR 23 1 (eS 4 eQ) o2),.r (TR 3 1 bH o3),.r (TR 23 1 (eS 4 eQ) o4)] (slc 4 (List.map eQ r)):=fK (cells:=xl (⟨o0,o1,o2,o3,o4⟩:Tb)) (r:=λN=>nw N (slc 4 (List.map (fQ N) r))) (λN=>by exact pX N h) Y ⟨⟨aq,λ_ _ q=>One.h _ _ q⟩,⟨aq,λ_ _ q=>One.h _ _ q⟩,dJ,dJ,dJ,ak⟩ HA
theorem Ej{o0:Bool}{o1:Int}{o2:List (List Qr)}{o3:List Int}{o4:List (List Qr)}{r:List Qr}(h:kG (⟨o0,o1,o2,o3,o4⟩:Tb)=some r):FE af 38 [.ptr 1000 0] 79 [.s (ay o0),.s (ax o1),.r (TR 23 1 (eS 4 eQ) o2),.r (TR 3 1 bH o3),.r (TR 23 1 (eS 4 eQ) o4)] (slc 4 (List.map eQ r)):=fK (cells:=xl (⟨o0,o1,o2,o3,o4⟩:Tb)) (r:=λN=>nw N (slc 4 (List.map (fQ N) r))) (λN=>by exact Ei N h) Y ⟨⟨aq,λ_ _ q=>One.h _ _ q⟩,⟨aq,λ_ _ q=>One.h _ _ q⟩,dJ,dJ,dJ,ak⟩ HA
theorem G3{o0:Bool}{o1:Int}{o2:List (List Qr)}{o3:List Int}{o4:List (List Qr)}{r:List Qr}(h:iF (⟨o0,o1,o2,o3,o4⟩:Tb)=some r):FE af 21 [.ptr 1000 0] 79 [.s (ay o0),.s (ax o1),.r (TR 23 1 (eS 4 eQ) o2),.r (TR 3 1 bH o3),.r (TR 23 1 (eS 4 eQ) o4)] (slc 4 (List.map eQ r)):=fK (cells:=xl (⟨o0,o1,o2,o3,o4⟩:Tb)) (r:=λN=>nw N (slc 4 (List.map (fQ N) r))) (λN=>by exact Aq N h) Y ⟨⟨aq,λ_ _ q=>One.h _ _ q⟩,⟨aq,λ_ _ q=>One.h _ _ q⟩,dJ,dJ,dJ,ak⟩ HA
theorem G4{o0:Bool}{o1:Int}{o2:List (List Qr)}{o3:List Int}{o4:List (List Qr)}{r:Bool}(h:jS (⟨o0,o1,o2,o3,o4⟩:Tb)=some r):FE af 35 [.ptr 1000 0] 79 [.s (ay o0),.s (ax o1),.r (TR 23 1 (eS 4 eQ) o2),.r (TR 3 1 bH o3),.r (TR 23 1 (eS 4 eQ) o4)] (ay r):=fK (cells:=xl (⟨o0,o1,o2,o3,o4⟩:Tb)) (r:=λN=>(ay r)) (λN=>by exact oX (Ar h) N) Y ⟨⟨aq,λ_ _ q=>One.h _ _ q⟩,⟨aq,λ_ _ q=>One.h _ _ q⟩,dJ,dJ,dJ,ak⟩ Pr
theorem Bt{o0:Bool}{o1:Int}{o2:List (List Qr)}{o3:List Int}{o4:List (List Qr)}{r:Bool}(h:jA (⟨o0,o1,o2,o3,o4⟩:Tb)=some r):FE af 42 [.ptr 1000 0] 79 [.s (ay o0),.s (ax o1),.r (TR 23 1 (eS 4 eQ) o2),.r (TR 3 1 bH o3),.r (TR 23 1 (eS 4 eQ) o4)] (ay r):=fK (cells:=xl (⟨o0,o1,o2,o3,o4⟩:Tb)) (r:=λN=>(ay r)) (λN=>by exact oX (Bs h) N) Y ⟨⟨aq,λ_ _ q=>One.h _ _ q⟩,⟨aq,λ_ _ q=>One.h _ _ q⟩,dJ,dJ,dJ,ak⟩ Pr
end
section
open Go.Fw Go.Fw.Z Go.RowKit
set_option maxHeartbeats 4000000 in
theorem sq{x0:Lr}{r:Bool×Int×(List (List Qr))×(List Int)×(List (List Qr))}(h:ga x0=some r):RC af 56 [.agg (Om x0)] false [] 79 [.s (ay r.1),.s (ax r.2.1),.r (TR 23 1 (eS 4 eQ) r.2.2.1),.r (TR 3 1 bH r.2.2.2.1),.r (TR 23 1 (eS 4 eQ) r.2.2.2.2)]:=by
 obtain⟨bn,bp,bB,bD⟩:=x0
 refine Gq Tryz.func56 Y (ae Y) (λc9 M vs hvs=>?_)
 unfold ga at h
 refine sr<|bx Y<|ag Y<|dn<|sr<|fa Y Y<|lV Y Y Y<|bI (cs:=[_,_,_,_,_]) (cs':=[ay true,ax bn,.v (.slice none 0 0),.v (.slice none 0 0),.v (.slice none 0 0)]) (.one Y (.one Y (.nil))) ⟨aq,aq,aq,aq,aq,ak⟩<|bx Y<|an (s:=.ptr _ _) Y<|dn<|bU (yI 12 2 304 23 1 Y Y Y T)<|bU (yI 12 3 305 3 1 Y Y Y T) ?_
 refine bU (yI 12 4 306 23 1 Y Y Y T)<|qq<|sr<|fa Y Y<|lV Y Y Y<|lE h λdN gH h=>ln Y gH<|mv Y<|dn<|bE h λe6 uO je=>?_
 refine bJ (λ(yp:(List (List Qr)))=>AS.cu 105 [(1,.ptr 1 0),(3,.ptr 12 0)] [(12,⟨79,[ai true,ah bn,.row 308,.row 305,.row 306]⟩),(1,⟨25,[ah bn,.sv (slc 1 (List.map (eS 4 eQ) bp)),.sv (slc 1 (List.map (eS 4 eQ) bB)),.sv (slc 4 (List.map eQ bD))]⟩)] [(308,TR 23 1 (eS 4 eQ) yp),(305,TR 3 1 bH []),(306,TR 23 1 (eS 4 eQ) [])]) (λyp=>yp=e6) ?_ (λyp uP=>?_)
 refine bf ?_
 refine bK uO (λs6=>AS.cu 105 [(1,.ptr 1 0),(3,.ptr 12 0),(14,.sv (slc 1 (List.map (eS 4 eQ) bp))),(15,ah dN),(16,ah s6.1)] [(12,⟨79,[ai true,ah bn,.row 308,.row 305,.row 306]⟩),(1,⟨25,[ah bn,.sv (slc 1 (List.map (eS 4 eQ) bp)),.sv (slc 1 (List.map (eS 4 eQ) bB)),.sv (slc 4 (List.map eQ bD))]⟩)] [(308,TR 23 1 (eS 4 eQ) s6.2),(305,TR 3 1 bH []),(306,TR 23 1 (eS 4 eQ) [])]) (cz (λi=>bif Nat.beq i 308 then 304 else i) Y Y Y Y Y ⟨.ptr,.ptr,.sv aq,.sv aq,.sv aq,ak⟩ ⟨⟨_,Y,⟨.sv aq,.sv aq,.row Y,.row Y,.row Y,ak⟩⟩,⟨_,Y,⟨.sv aq,.sv aq,.sv aq,.sv aq,ak⟩⟩,ak⟩ ⟨⟨_,Y,cg.refl _⟩,⟨_,Y,cg.refl _⟩,⟨_,Y,cg.refl _⟩,ak⟩ (λi hi=>by rw[bV (show i≠308 by omega)];rfl)) (λs6 y6 G6 h uQ pE=>?_)
 obtain⟨Tn,MQ⟩:=s6
 try dsimp only
 refine sr<|lE h λdR jK h=>ls _ Y Y jK<|dn<|qq ?_
 cases dR
 refine cF<|bP<|aW.x<|aW.x<|bF.x<|aW.n ?_
 obtain rfl:=O (F h)
 exact⟨MQ,pE _ Y,wR []⟩
 refine cT<|bu<|aW.n<|qq<|bf<|sr<|bE (V h) λeE jd h=>ix Y Y jd<|lr Y Y<|ag Y<|dn<|aZ mixed<|mo (s:=.ptr _ _) Y<|mo (s:=.ptr _ _) Y<|RT.dh .none Y T<|fa Y Y<|RT.lf .none (s:=.row _) Y Y Y T<|mv Y<|fa Y Y<|lV Y Y Y<|bE h λlp vz h=>cl (KA vz) ⟨Y,Y,ak⟩<|bl (l:=[lp]) (e:=(eS 4 eQ)) (.one Y (.nil)) Y Y Y Y Y Y ?_
 refine bE h λuL zJ h=>aR (k:=[lp]) (e:=(eS 4 eQ)) Y Y Y zJ<|RT.dh .none Y T<|fa Y Y<|RT.qO (cells:=[_,_,_,_,_]) .none Y Y Y Y T Y ?_
 refine RT.done ⟨by kernel_rfl,?_⟩
 refine bF.n<|aW.n<|aX<|lE h λou xk h=>ad _ Y Y xk<|mv Y<|RT.done ?_
 obtain rfl:=O h
 exact aW.n ⟨(ou,uL),uQ _ Y,cz (λi=>bif Nat.beq i 308 then 30 else i) Y Y Y Y Y ⟨.ptr,.ptr,.sv aq,.sv aq,.sv aq,ak⟩ ⟨⟨_,Y,⟨.sv aq,.sv aq,.row Y,.row Y,.row Y,ak⟩⟩,⟨_,Y,⟨.sv aq,.sv aq,.sv aq,.sv aq,ak⟩⟩,ak⟩ ⟨⟨_,Y,cg.refl _⟩,⟨_,Y,cg.refl _⟩,⟨_,Y,cg.refl _⟩,ak⟩ (λi hi=>by rw[bV (show i≠308 by omega)];rfl)⟩
 subst uP
 try dsimp only
 refine aW.n<|qq<|sr<|fa Y Y<|lV Y Y Y<|lE je λnE xo je=>ln Y xo<|mv Y<|dn<|bE je λe30 aoW aoX=>?_
 refine bJ (λ(UM:(List Int)×(List (List Qr)))=>AS.cu 105 [(3,.ptr 12 0)] [(12,⟨79,[ai true,ah bn,.row 308,.row 312,.row 313]⟩)] [(308,TR 23 1 (eS 4 eQ) yp),(312,TR 3 1 bH UM.1),(313,TR 23 1 (eS 4 eQ) UM.2)]) (λUM=>UM=e30) ?_ (λUM aoY=>?_)
 refine bf ?_
 refine bK aoW (λs30=>AS.cu 105 [(1,.ptr 1 0),(3,.ptr 12 0),(36,ah nE),(37,ah s30.1)] [(12,⟨79,[ai true,ah bn,.row 308,.row 312,.row 313]⟩),(1,⟨25,[ah bn,.sv (slc 1 (List.map (eS 4 eQ) bp)),.sv (slc 1 (List.map (eS 4 eQ) bB)),.sv (slc 4 (List.map eQ bD))]⟩)] [(308,TR 23 1 (eS 4 eQ) yp),(312,TR 3 1 bH s30.2.1),(313,TR 23 1 (eS 4 eQ) s30.2.2)]) (cz (λi=>bif Nat.beq i 312 then 305 else bif Nat.beq i 313 then 306 else i) Y Y Y Y Y ⟨.ptr,.ptr,.sv aq,.sv aq,ak⟩ ⟨⟨_,Y,⟨.sv aq,.sv aq,.row Y,.row Y,.row Y,ak⟩⟩,⟨_,Y,⟨.sv aq,.sv aq,.sv aq,.sv aq,ak⟩⟩,ak⟩ ⟨⟨_,Y,cg.refl _⟩,⟨_,Y,cg.refl _⟩,⟨_,Y,cg.refl _⟩,ak⟩ (λi hi=>by rw[bV (show i≠312 by omega)];rw[bV (show i≠313 by omega)];rfl)) (λs30 y30 G30 h aoZ ao0=>?_)
 obtain⟨wQ,BX,BY⟩:=s30
 try dsimp only
 refine sr<|lE h λuK AX h=>ls _ Y Y AX<|dn<|qq ?_
 cases uK
 refine cF<|bP<|aW.x<|aW.x<|bF.x<|aW.n ?_
 obtain rfl:=O (F h)
 exact⟨(BX,BY),ao0 _ Y,wR []⟩
 refine cT<|bu<|aW.n<|qq<|bf<|sr<|mv Y<|ag Y<|dn<|sr<|fa Y Y<|lV Y Y Y<|fa Y Y<|lV Y Y Y<|lE (V h) λr9 Az h=>ln Y Az<|lE h λyf GU h=>ad _ Y Y GU<|lE h λyK h46 h=>ad _ Y Y h46<|bE h λxm AY h=>RT.vX (n:=4) (e:=eQ) .none Y Y T Y T (by rfl) (by decide) (by exact⟨aq,aB,aq,aB,ak⟩) AY ?_
 refine an (s:=.row _) Y<|dn<|qq<|sr<|fa Y Y<|lV Y Y Y<|mv Y<|dn<|bE h λe38 afo kV=>?_
 refine bJ (λ(Df:(List Qr))=>AS.cu 105 [(1,.ptr 1 0),(3,.ptr 12 0),(6,ah wQ),(7,.row 47),(36,ah nE),(37,ah wQ)] [(12,⟨79,[ai true,ah bn,.row 308,.row 312,.row 313]⟩),(1,⟨25,[ah bn,.sv (slc 1 (List.map (eS 4 eQ) bp)),.sv (slc 1 (List.map (eS 4 eQ) bB)),.sv (slc 4 (List.map eQ bD))]⟩)] [(47,TR 43 4 eQ Df),(308,TR 23 1 (eS 4 eQ) yp),(312,TR 3 1 bH BX),(313,TR 23 1 (eS 4 eQ) BY)]) (λDf=>Df=e38) ?_ (λDf afp=>?_)
 refine bf ?_
 refine bK afo (λS3=>AS.cu 105 [(1,.ptr 1 0),(3,.ptr 12 0),(6,ah wQ),(7,.row 47),(36,ah nE),(37,ah wQ),(49,ah bn),(50,ah S3.1)] [(12,⟨79,[ai true,ah bn,.row 308,.row 312,.row 313]⟩),(1,⟨25,[ah bn,.sv (slc 1 (List.map (eS 4 eQ) bp)),.sv (slc 1 (List.map (eS 4 eQ) bB)),.sv (slc 4 (List.map eQ bD))]⟩)] [(47,TR 43 4 eQ S3.2),(308,TR 23 1 (eS 4 eQ) yp),(312,TR 3 1 bH BX),(313,TR 23 1 (eS 4 eQ) BY)]) (wR []) (λS3 y38 G38 h afq afr=>?_)
 obtain⟨I6,I7⟩:=S3
 try dsimp only
 refine sr<|lE h λBU IA h=>ls _ Y Y IA<|dn<|qq ?_
 cases BU
 refine cF<|bP<|aW.x<|aW.x<|bF.x<|aW.n ?_
 obtain rfl:=O (F h)
 exact⟨I7,afr _ Y,wR []⟩
 refine cT<|bu<|aW.n<|qq<|bf<|sr<|mv Y<|ag Y<|dn<|aX<|mo (s:=.row _) Y<|mv Y<|fa Y Y<|lV Y Y Y<|mv Y<|mv Y ?_
 obtain⟨⟨⟨LF,LG⟩,⟨LH,LI⟩⟩,UA,h⟩:=bS (V h)
 refine cl (UG UA) ⟨Y,Y,Y,ak⟩<|bE h λQD Vn h=>iR Y Y Y Vn<|bE h λZD akc h=>sA ⟨⟨LF,LG⟩,⟨LH,LI⟩⟩ Y Y Y akc<|RT.done<|bF.n<|aW.n<|aX<|lE h λN2 Wv h=>ad _ Y Y Wv<|mv Y<|RT.done ?_
 obtain rfl:=O h
 exact aW.n ⟨(N2,ZD),afq _ Y,wR []⟩
 subst afp
 try dsimp only
 refine aW.n<|qq<|aZ mixed<|mo (s:=.row _) Y<|fa Y Y<|lV Y Y Y<|mv Y<|lE kV λMu h66 kV=>ad _ Y Y h66 ?_
 obtain⟨⟨⟨LJ,LK⟩,⟨LM,LN⟩⟩,h67,kV⟩:=bS kV
 refine cl (nv h67) ⟨Y,ak⟩<|bE kV λQ6 h68 kV=>iR Y Y Y h68<|bE kV λl42 Wu kV=>sA ⟨⟨LJ,LK⟩,⟨LM,LN⟩⟩ Y Y Y Wu ?_
 refine RT.done ⟨by kernel_rfl,?_⟩
 refine aW.n<|sr<|mo (s:=.row _) Y<|mo (s:=.row _) Y<|lE kV λVp h71 kV=>lL Y Y h71<|lE kV λOz h72 kV=>sb _ Y Y h72<|fa Y Y<|lV Y Y Y<|mv Y ?_
 obtain⟨⟨⟨adj,adk⟩,⟨adl,adm⟩⟩,h76,kV⟩:=bS kV
 refine ix Y Y h76<|RT.gJ (cs:=[_,_,_,_]) .none Y T Y Y ?_
 obtain⟨⟨⟨Xc,Xd⟩,⟨Xe,Xf⟩⟩,h78,kV⟩:=bS kV
 refine cl (xL h78) ⟨Y,ak⟩<|bE kV λUw h79 kV=>iR Y Y Y h79<|bE kV λl44 akd kV=>sA ⟨⟨Xc,Xd⟩,⟨Xe,Xf⟩⟩ Y Y Y akd<|dn<|qq<|bU (cP (i:=47) (E1:=43) (n:=4) (e:=eQ) (l:=l44) Y)<|aX<|mo (s:=.ptr _ _) Y<|mo (s:=.ptr _ _) Y<|RT.dh .none Y T<|fa Y Y<|RT.lf .none (s:=.row _) Y Y Y T<|mv Y<|bl (l:=[l44]) (e:=(eS 4 eQ)) (.one Y (.nil)) Y Y Y Y Y Y ?_
 refine bE kV λx87 h87 kV=>aR (k:=[l44]) (e:=(eS 4 eQ)) Y Y Y h87<|RT.dh .none Y T<|fa Y Y<|RT.qO (cells:=[_,_,_,_,_]) .none Y Y Y Y T Y<|dn<|aZ mixed<|mo (s:=.ptr _ _) Y<|mo (s:=.ptr _ _) Y<|RT.dh .none Y T<|fa Y Y<|RT.lf .none (s:=.row _) Y Y Y T<|fa Y Y<|lV Y Y Y<|mv Y<|lE kV λZN h98 kV=>ad _ Y Y h98 ?_
 refine bl (l:=[ZN]) (e:=bH) (.one Y (.nil)) Y Y Y Y Y Y<|bE kV λagc ao1 kV=>aR (k:=[ZN]) (e:=bH) Y Y Y ao1<|RT.dh .none Y T<|fa Y Y<|RT.qO (cells:=[_,_,_,_,_]) .none Y Y Y Y T Y ?_
 refine RT.done ⟨by kernel_rfl,?_⟩
 refine bF.n<|aW.n<|aX<|lE kV λKp Wy kV=>ad _ Y Y Wy<|mv Y<|RT.done ?_
 obtain rfl:=O kV
 exact aW.n ⟨(Kp,agc,x87),aoZ _ Y,cz (λi=>bif Nat.beq i 312 then 100 else bif Nat.beq i 313 then 87 else i) Y Y Y Y Y ⟨.ptr,.ptr,.sv aq,.sv aq,ak⟩ ⟨⟨_,Y,⟨.sv aq,.sv aq,.row Y,.row Y,.row Y,ak⟩⟩,⟨_,Y,⟨.sv aq,.sv aq,.sv aq,.sv aq,ak⟩⟩,ak⟩ ⟨⟨_,Y,cg.refl _⟩,⟨_,Y,cg.refl _⟩,⟨_,Y,cg.refl _⟩,ak⟩ (λi hi=>by rw[bV (show i≠312 by omega)];rw[bV (show i≠313 by omega)];rfl)⟩
 subst aoY
 obtain⟨To,Tp⟩:=UM
 try dsimp only
 refine aW.n<|sr<|mo (s:=.ptr _ _) Y<|an (s:=.ptr _ _) Y<|dn<|aY ?_
 obtain rfl:=O aoX
 exact⟨.inr Y,12,[308,312,313],.tmp Y,Y,⟨Y,Y,Y,ak⟩,by decide⟩
theorem Bu{x0:Lr}{r:Bool×Int×(List (List Qr))×(List Int)×(List (List Qr))}(h:kW x0=some r):RC af 12 [.agg (Om x0)] true [ax 0] 79 [.s (ay r.1),.s (ax r.2.1),.r (TR 23 1 (eS 4 eQ) r.2.2.1),.r (TR 3 1 bH r.2.2.2.1),.r (TR 23 1 (eS 4 eQ) r.2.2.2.2)]:=by
 obtain⟨bn,bp,bB,bD⟩:=x0
 refine Pm (t1:=2) (t2:=3) Tryz.func12 Y (ae Y) Y (λc9 M vs hvs=>?_)
 unfold kW at h
 refine sr<|bx Y<|ag Y<|ag Y<|dn<|qq<|sr<|ld Y Y (.k4 Y Y Y Y)<|bE h λx5 h5 h=>cl (Gr h5) ⟨Y,ak⟩<|lE h λx6 h6 h=>nt Y _ h6<|dn ?_
 cases x6
 refine fs<|sr<|ld Y Y (.k4 Y Y Y Y) ?_
 obtain⟨⟨qJ,qK,Bc,Bd,aaM⟩,h8,h⟩:=bS (F h)
 refine RT.FD .none (sq h8) [304,305,306] (by decide) Y ⟨⟨Y,T⟩,⟨Y,T⟩,⟨Y,T⟩,ak⟩ Y ⟨Y,ak⟩ T Y Y<|an (s:=.ptr _ _) Y<|ag Y<|dn<|aY ?_
 obtain rfl:=O h
 exact⟨.inr Y,8,[304,305,306],Y,Y,Y,⟨Y,Y,Y,ak⟩,by decide⟩
 refine cT<|sr<|ag Y<|ag Y<|dn<|aY<|aW.r ?_
 replace h:=V h
 cases h
theorem MW{x0:List Qr}{O6:Qr}{r:List Qr}(h:uf x0 O6=some r):Pure af 106 [slc 4 (List.map eQ x0),ref (eQ O6)] (slc 4 (List.map eQ r)):=by
 obtain⟨⟨O7,O8⟩,⟨O9,Pa⟩⟩:=O6
 refine bj Tryz.func106 Y (ae Y) (λc9 M vs hvs=>?_)
 unfold uf at h
 refine sr<|aI Y (aB (n:=4) (e:=eQ))<|dn<|sr<|RT.gJ (cs:=[_,_,_,_]) .none Y T Y Y<|mv Y<|bE h λx6 h6 h=>cl (MK h6) ⟨Y,Y,ak⟩<|ag Y<|dn<|aY ?_
 obtain rfl:=O h
 exact R1 Y
theorem KC{o0:Bool}{o1:Int}{o2:List (List Qr)}{o3:List Int}{o4:List (List Qr)}{x0:List Qr}{O6:Int}{c_2:Int}{r:List Qr}(h:oC o0 o1 o2 o3 o4 x0 O6 c_2=some r):Tg af 107 (λβ=>[.sv (slc 4 (List.map eQ x0)),.sv (ref [ax O6]),.sv (ref [.v (.pointer (some ⟨β,0,none⟩))]),.sv (ref [ax c_2])]) 79 [.s (ay o0),.s (ax o1),.r (TR 23 1 (eS 4 eQ) o2),.r (TR 3 1 bH o3),.r (TR 23 1 (eS 4 eQ) o4)] (λ_ M' _ v=>SV.h (slc 4 (List.map eQ r)) M' v):=by
 refine MP [1001,1002,1003] Tryz.func107 Y (λ_=>(ae Y)) (λ_=>Y) (by decide) Y Y ⟨⟨_,Y⟩,⟨_,Y⟩,ak,ak,ak,ak⟩ (λc9 M β us=>?_)
 unfold oC at h
 refine sr<|aI Y (aB (n:=4) (e:=eQ))<|dn<|qq<|sr<|mv Y<|lr Y Y ?_
 obtain⟨⟨⟨qJ,qK⟩,⟨Bc,Bd⟩⟩,h8,h⟩:=bS h
 refine ix Y Y h8<|RT.gJ (cs:=[_,_,_,_]) .none Y T Y Y<|bE h λdG fY h=>cl (q9 fY) ⟨Y,ak⟩<|lE h λff kz h=>eq _ Y Y (xj (p:=dG) (q:=0) kz)<|dn ?_
 cases ff
 refine fs<|qq<|aZ mixed<|mv Y<|lr Y Y ?_
 obtain⟨⟨⟨jQ,jR⟩,⟨xI,xJ⟩⟩,gH,h⟩:=bS (F h)
 refine ix Y Y gH<|RT.gJ (cs:=[_,_,_,_]) .none Y T Y Y ?_
 obtain⟨⟨⟨qY,qZ⟩,⟨An,Ao⟩⟩,jK,h⟩:=bS h
 refine cl (OW jK) ⟨Y,ak⟩<|RT.FF (k:=1000) .none Y Y Y T<|RT.dh .none Y T<|fa Y Y<|RT.lf .none (s:=.row _) Y Y Y T<|lr Y Y<|bE h λgU oP h=>iR Y Y Y oP<|bE h λgV nF h=>lR (e:=(eS 4 eQ)) Y Y nF Y<|mv Y<|bE h λji qS h=>cl (FA qS) ⟨Y,Y,Y,ak⟩<|ag Y ?_
 refine RT.done ⟨by kernel_rfl,?_⟩
 refine aW.n<|aY ?_
 obtain rfl:=O h
 exact⟨.inr Y,gR (.tmp Y (.nil)) aq,Y,⟨Y,Y,Y,ak⟩⟩
 refine cT<|sr<|mv Y<|ag Y<|dn<|aY<|aW.r ?_
 obtain rfl:=O (V h)
 exact⟨.inr Y,gR (.tmp Y (.nil)) aq,Y,⟨Y,Y,Y,ak⟩⟩
set_option maxHeartbeats 4000000 in
theorem vD{o0:Bool}{o1:Int}{o2:List (List Qr)}{o3:List Int}{o4:List (List Qr)}{x1:Int}{x2:Int}{r:(List (List Qr))×(List Int)×(List (List Qr))}(h:fk o0 o1 o2 o3 o4 x1 x2=some r):RA af 60 [.ptr 1000 0,ah x1,ah x2] 79 [.s (ay o0),.s (ax o1),.r (TR 23 1 (eS 4 eQ) o2),.r (TR 3 1 bH o3),.r (TR 23 1 (eS 4 eQ) o4)] (.any) [.s (ay o0),.s (ax o1),.r (TR 23 1 (eS 4 eQ) r.1),.r (TR 3 1 bH r.2.1),.r (TR 23 1 (eS 4 eQ) r.2.2)]:=by
 refine wN [1001,1002,1003] Tryz.func60 Y (ae Y) Y (by decide) Y (λc9 M β us=>?_)
 unfold fk at h
 refine sr<|RT.CK .none (s:=.ptr _ _) Y T Y Y<|RT.CK .none (s:=.sv _) Y T Y Y<|RT.CK .none (s:=.sv _) Y T Y Y<|dn<|aaJ (i:=3) Y Y<|bU (lH (i:=3) Y [.v (.pointer (some ⟨β,0,none⟩))] (.cons Y (.nil)) .any 0 [(3,.sv (ref [.v (.pointer (some ⟨β,0,none⟩))]))] (λ_ _ _=>trivial) (yD.h (l:=[.v (.pointer (some ⟨β,0,none⟩))])) ⟨@FT.ptr _ _ _ _ _ 3 0 Y,ak⟩)<|bU (lH (i:=4) Y [ax x1] (.cons Y (.nil)) .any 0 [(4,.sv (ref [ax x1]))] (λ_ _ _=>trivial) (yD.h (l:=[ax x1])) ⟨@FT.ptr _ _ _ _ _ 4 0 Y,ak⟩) ?_
 refine bU (lH (i:=5) Y [ax x2] (.cons Y (.nil)) .any 0 [(5,.sv (ref [ax x2]))] (λ_ _ _=>trivial) (yD.h (l:=[ax x2])) ⟨@FT.ptr _ _ _ _ _ 5 0 Y,ak⟩)<|qq<|aZ mixed ?_
 obtain⟨⟨⟨AN,AO⟩,⟨adn,ado⟩⟩,iX,h⟩:=bS h
 refine cl (nv iX) ⟨Y,ak⟩<|RT.FF (k:=1000) .none Y Y Y T<|RT.dh .none Y T<|fa Y Y<|RT.lf .none (s:=.row _) Y Y Y T<|lr Y Y<|bE h λjb lZ h=>iR Y Y Y lZ<|bE h λgK oO h=>lR (e:=(eS 4 eQ)) Y Y oO Y<|lr Y Y ?_
 obtain⟨⟨⟨wC,wD⟩,⟨wE,wF⟩⟩,oz,h⟩:=bS h
 refine ix Y Y oz<|RT.gJ (cs:=[_,_,_,_]) .none Y T Y Y ?_
 obtain⟨⟨⟨⟨FG,FH⟩,⟨FI,FJ⟩⟩,UF⟩,nF,h⟩:=bS h
 refine cl (OU nF) ⟨Y,Y,ak⟩<|mv Y<|ex Y Y<|ex Y Y<|al (cs:=[ay false,au,ay false,au]) (by exact⟨aq,aB,aq,aB,ak⟩) Y<|so Y Y Y<|ag Y ?_
 refine RT.done ⟨by kernel_rfl,?_⟩
 refine aW.n ?_
 refine bU (lH (i:=6) Y [ay FG,slc 1 (List.map bh FH),ay FI,slc 1 (List.map bh FJ)] (.k4 Y Y Y Y) .any 0 [(6,.sv (ref [ay FG,slc 1 (List.map bh FH),ay FI,slc 1 (List.map bh FJ)]))] (λ_ _ _=>trivial) (yD.h (l:=[ay FG,slc 1 (List.map bh FH),ay FI,slc 1 (List.map bh FJ)])) ⟨@FT.ptr _ _ _ _ _ 6 0 Y,ak⟩)<|sr<|RT.Fh (caps:=[_]) .none ⟨Y,ak⟩ T<|bI (cs:=[_]) (cs':=[oN 106 [ref [ay FG,slc 1 (List.map bh FH),ay FI,slc 1 (List.map bh FJ)]]]) (.one Y (.nil)) ⟨aq,ak⟩ ?_
 refine RT.alloc .none T Y Y<|so Y Y Y<|dn<|qq<|aZ mixed<|RT.FF (k:=1000) .none Y Y Y T<|RT.dh .none Y T<|fa Y Y<|RT.lf .none (s:=.row _) Y Y Y T<|lr Y Y<|fa Y Y<|lV Y Y Y<|RT.FF (k:=1000) .none Y Y Y T<|RT.dh .none Y T<|fa Y Y<|RT.lf .none (s:=.row _) Y Y Y T<|lr Y Y<|bE h λyJ GS h=>iR Y Y Y GS ?_
 refine bE h λpC Ay h=>lR (e:=(eS 4 eQ)) Y Y Ay Y<|bE h λyB EV h=>RT.aje (args:=[_]) (caps:=[_]) .none (MW EV) Y ⟨Y,ak⟩ T<|bE h λr9 Az h=>iR Y Y Y Az<|bE h λl2 ao2 h=>sR yB Y Y Y Y ao2 ?_
 refine RT.done ⟨by kernel_rfl,?_⟩
 refine aW.n<|sr<|RT.Fh (caps:=[_,_,_]) .none ⟨Y,Y,Y,ak⟩ T<|bI (cs:=[_]) (cs':=[oN 107 [ref [ax x2],ref [.v (.pointer (some ⟨β,0,none⟩))],ref [ax x1]]]) (.one Y (.nil)) ⟨aq,ak⟩<|RT.alloc .none T Y Y<|so Y Y Y<|dn<|sr<|RT.FF (k:=1000) .none Y Y Y T<|RT.dh .none Y T<|fa Y Y<|RT.lf .none (s:=.row _) Y Y Y T<|lE h λBU IA h=>lL Y Y IA ?_
 refine mv Y<|dn<|bE h λUv My tN=>?_
 refine bJ (λ(yY:(List (List Qr)))=>AS.cu 71 [] [(1000,⟨79,[ai o0,ah o1,.row 1001,.row 1002,.row 1003]⟩)] [(1001,TR 23 1 (eS 4 eQ) o2),(1002,TR 3 1 bH o3),(1003,TR 23 1 (eS 4 eQ) yY)]) (λyY=>yY=Uv) ?_ (λyY Mz=>?_)
 refine bf ?_
 refine bK My (λAk=>AS.cu 71 [(3,.sv (ref [.v (.pointer (some ⟨β,0,none⟩))])),(4,.sv (ref [ax x1])),(9,.ptr 9 0),(50,.row 1003),(51,ah BU),(52,ah Ak.1)] [(1000,⟨79,[ai o0,ah o1,.row 1001,.row 1002,.row 1003]⟩),(9,⟨124,[.sv (oN 107 [ref [ax x2],ref [.v (.pointer (some ⟨β,0,none⟩))],ref [ax x1]])]⟩)] [(1003,TR 23 1 (eS 4 eQ) Ak.2),(1001,TR 23 1 (eS 4 eQ) o2),(1002,TR 3 1 bH o3)]) (wR []) (λAk y12 G12 h MA MB=>?_)
 obtain⟨xO,j0⟩:=Ak
 try dsimp only
 refine sr<|lE h λVq Wx h=>ls _ Y Y Wx<|dn<|qq ?_
 cases Vq
 refine cF<|bP<|aW.x<|aW.x<|bF.x<|aW.n ?_
 obtain rfl:=O (F h)
 exact⟨j0,MB _ Y,wR []⟩
 refine cT<|bu<|aW.n<|qq<|bf<|sr<|mv Y<|bE (V h) λCZ Ri h=>iR Y Y Y Ri<|bE h λGN Rg h=>lR (e:=(eS 4 eQ)) Y Y Rg Y<|ag Y<|ag Y<|dn<|sr<|mv Y<|lr Y Y<|lE h λLm UA h=>ne _ Y Y (Le (p:=xO) (q:=x1) UA)<|dn ?_
 refine bL h (λj15=>AS.cu 71 [(3,.sv (ref [.v (.pointer (some ⟨β,0,none⟩))])),(4,.sv (ref [ax x1])),(9,.ptr 9 0),(50,.row 1003),(51,ah BU),(52,ah xO)] [(1000,⟨79,[ai o0,ah o1,.row 1001,.row 1002,.row 1003]⟩),(9,⟨124,[.sv (oN 107 [ref [ax x2],ref [.v (.pointer (some ⟨β,0,none⟩))],ref [ax x1]])]⟩)] [(1003,TR 23 1 (eS 4 eQ) j15),(1001,TR 23 1 (eS 4 eQ) o2),(1002,TR 3 1 bH o3)]) (λh=>?_) (λBm h=>?_)
 cases Lm
 exact fs<|⟨j0,(F h),wR []⟩
 refine cT<|aZ mixed<|RT.FF (k:=1000) .none Y Y Y T<|RT.dh .none Y T<|fa Y Y<|RT.lf .none (s:=.row _) Y Y Y T<|mv Y<|fa Y Y<|lV Y Y Y<|mv Y<|bE (V h) λQ6 h68 h=>RT.aaK (args:=[.sv (slc 4 (List.map eQ GN))]) (caps:=λβ=>[ref [ax x2],ref [.v (.pointer (some ⟨β,0,none⟩))],ref [ax x1]]) .none (KC h68) 1000 [1001,1002,1003] Y Y ⟨Y,Y,Y,ak⟩ (by decide) Y Y (.cons Y (.nil)) T ?_
 refine bE h λWh h69 h=>iR Y Y Y h69<|bE h λl17 akf h=>sR Q6 Y Y Y Y akf ?_
 refine RT.done ⟨by kernel_rfl,?_⟩
 exact aW.n<|⟨l17,h,wR []⟩
 try dsimp only
 refine bF.n<|aW.n<|aX<|lE h λx70 h70 h=>ad _ Y Y h70<|mv Y<|RT.done ?_
 obtain rfl:=O h
 exact aW.n ⟨(x70,Bm),MA _ Y,wR []⟩
 subst Mz
 try dsimp only
 obtain rfl:=O tN
 exact⟨.inl Y,gR .nil (λ_ _ _=>trivial),[1001,1002,1003],Y,⟨Y,Y,Y,ak⟩,by decide⟩
set_option maxHeartbeats 4000000 in
theorem kX{o0:Bool}{o1:Int}{o2:List (List Qr)}{o3:List Int}{o4:List (List Qr)}{x1:Int}{x2:Int}{r:Int×(List (List Qr))×(List Int)×(List (List Qr))}(h:bY o0 o1 o2 o3 o4 x1 x2=some r):RA af 14 [.ptr 1000 0,ah x1,ah x2] 79 [.s (ay o0),.s (ax o1),.r (TR 23 1 (eS 4 eQ) o2),.r (TR 3 1 bH o3),.r (TR 23 1 (eS 4 eQ) o4)] (ax r.1) [.s (ay o0),.s (ax o1),.r (TR 23 1 (eS 4 eQ) r.2.1),.r (TR 3 1 bH r.2.2.1),.r (TR 23 1 (eS 4 eQ) r.2.2.2)]:=by
 refine wN [1001,1002,1003] Tryz.func14 Y (ae Y) Y (by decide) Y (λc9 M β us=>?_)
 unfold bY at h
 refine sr<|ag Y<|dn<|qq<|sr<|mo (s:=.ptr _ _) Y<|bE h λdG fY h=>RT.nV .none (I9 fY) 1000 [1001,1002,1003] Y ⟨Y,Y,Y,ak⟩ (by decide) Y Y (.cons Y (.nil)) T<|dn ?_
 cases dG
 refine fs<|qq<|qq ?_
 refine bL (F h) (λQG=>AS.cu 68 [(0,.ptr 1000 0),(1,ah x1),(2,ah x2),(31,ai QG)] [(1000,⟨79,[ai o0,ah o1,.row 1001,.row 1002,.row 1003]⟩)] [(1001,TR 23 1 (eS 4 eQ) o2),(1002,TR 3 1 bH o3),(1003,TR 23 1 (eS 4 eQ) o4)]) (λh=>?_) (λXh h=>?_)
 refine aX<|mv Y<|lE h λc8 fI h=>ls _ Y Y fI<|mv Y<|bE h λXi r6 h=>?_
 cases c8
 refine gm Y<|RT.move (.some Y Y) (s:=.ptr _ _) Y T<|RT.dh (.some Y Y) Y T<|RT.fieldAddr (.some Y Y) Y T Y<|RT.lf (.some Y Y) (s:=.row _) Y Y Y T<|lE (F r6) λjb lZ r6=>RT.acq (.some Y Y) Y Y T lZ<|lE r6 λgK oO r6=>RT.geq (.some Y Y) _ Y Y T oO ?_
 obtain rfl:=O r6
 refine pF Y<|mv Y<|bE h λao3 Ja h=>?_
 cases gK
 refine gm Y<|lE (F Ja) λgV nF Ja=>RT.lss (.some Y Y) _ Y Y T nF ?_
 obtain rfl:=O Ja
 refine pF Y<|mv Y<|bE h λao4 yQ h=>?_
 cases gV
 refine gm Y<|RT.move (.some Y Y) (s:=.ptr _ _) Y T<|bE (F yQ) λiM oM yQ=>RT.nV (.some Y Y) (MU oM) 1000 [1001,1002,1003] Y ⟨Y,Y,Y,ak⟩ (by decide) Y Y (.cons Y (.nil)) T<|lE yQ λuL zJ yQ=>RT.geq (.some Y Y) _ Y Y T zJ ?_
 obtain rfl:=O yQ
 exact pF Y<|dn<|⟨uL,h,wR []⟩
 obtain rfl:=O (V yQ)
 exact ww<|ww<|ww<|ww<|pT Y<|dn<|⟨true,h,wR []⟩
 obtain rfl:=O (V Ja)
 refine ww<|ww<|pT Y<|mv Y<|bE h λao5 C7 h=>?_
 obtain rfl:=O (V C7)
 exact ww<|ww<|ww<|ww<|pT Y<|dn<|⟨true,h,wR []⟩
 obtain rfl:=O (V r6)
 refine ww<|ww<|ww<|ww<|ww<|ww<|ww<|pT Y<|mv Y<|bE h λao6 Fz h=>?_
 obtain rfl:=O (V Fz)
 refine ww<|ww<|pT Y<|mv Y<|bE h λao7 xp h=>?_
 obtain rfl:=O (V xp)
 exact ww<|ww<|ww<|ww<|pT Y<|dn<|⟨true,h,wR []⟩
 try dsimp only
 refine aW.n ?_
 cases Xh
 refine fs<|qq<|sr<|mo (s:=.ptr _ _) Y<|RT.dh .none Y T<|fa Y Y<|RT.lf .none (s:=.row _) Y Y Y T<|lE (F h) λnE xo h=>lL Y Y xo<|mv Y<|dn<|bE h λBn sK fC=>?_
 refine bJ (λ(vE:Unit)=>AS.cu 68 [(0,.ptr 1000 0),(1,ah x1),(2,ah x2)] [(1000,⟨79,[ai o0,ah o1,.row 1001,.row 1002,.row 1003]⟩)] [(1001,TR 23 1 (eS 4 eQ) o2),(1002,TR 3 1 bH o3),(1003,TR 23 1 (eS 4 eQ) o4)]) (λvE=>.inl vE=Bn) ?_ (λvE ry=>?_)
 refine bf ?_
 refine bK sK (λnA=>AS.cu 68 [(0,.ptr 1000 0),(1,ah x1),(2,ah x2),(35,.row 1002),(36,ah nE),(37,ah nA)] [(1000,⟨79,[ai o0,ah o1,.row 1001,.row 1002,.row 1003]⟩)] [(1002,TR 3 1 bH o3),(1001,TR 23 1 (eS 4 eQ) o2),(1003,TR 23 1 (eS 4 eQ) o4)]) (wR []) (λMR Vr Vs h uS rz=>?_)
 try dsimp only
 refine sr<|lE h λuK AX h=>ls _ Y Y AX<|dn<|qq ?_
 cases uK
 refine cF<|bP<|aW.x<|aW.x<|bF.x<|aW.n ?_
 obtain rfl:=O (F h)
 exact⟨(),rz _ Y,wR []⟩
 refine cT<|bu<|aW.n<|qq<|bf<|sr<|bE (V h) λyj Fs h=>iR Y Y Y Fs<|bE h λlj sZ h=>lR Y Y sZ Y<|ag Y<|dn<|sr<|mv Y<|mv Y<|lE h λyB EV h=>eq _ Y Y (xj (p:=lj) (q:=x2) EV)<|dn ?_
 cases yB
 refine cF<|bu<|bF.n<|aW.n<|aX<|lE (F h) λr9 Az h=>ad _ Y Y Az<|mv Y<|RT.done ?_
 obtain rfl:=O h
 exact aW.n ⟨r9,uS _ Y,wR []⟩
 refine cT<|sr<|ag Y<|dn<|aY<|bF.r<|aW.r ?_
 obtain rfl:=O (V h)
 have RI:=rz _ Y
 subst RI
 refine aW.r<|bF.r<|aW.r<|aW.r ?_
 obtain rfl:=O fC
 exact⟨.inr Y,gR (.tmp Y (.nil)) aq,[1001,1002,1003],Y,⟨Y,Y,Y,ak⟩,by decide⟩
 subst ry
 try dsimp only
 refine aW.n<|qq<|sr<|mo (s:=.ptr _ _) Y<|RT.dh .none Y T<|fa Y Y<|RT.lf .none (s:=.row _) Y Y Y T<|mv Y<|bE fC λAx Ks fC=>iR Y Y Y Ks<|bE fC λBU IA fC=>lR (e:=(eS 4 eQ)) Y Y IA Y<|mv Y ?_
 obtain⟨⟨⟨CA,CB⟩,⟨CC,CD⟩⟩,Wx,fC⟩:=bS fC
 refine ix Y Y Wx<|RT.gJ (cs:=[_,_,_,_]) .none Y T Y Y<|bE fC λCZ Ri fC=>cl (q9 Ri) ⟨Y,ak⟩<|lE fC λGN Rg fC=>eq _ Y Y (xj (p:=CZ) (q:=0) Rg)<|dn ?_
 cases GN
 refine fs<|sr<|mo (s:=.ptr _ _) Y<|mv Y<|mv Y ?_
 obtain⟨⟨ZM,l21,l22⟩,Vn,fC⟩:=bS (F fC)
 refine RT.IV .none (vD Vn) 1000 [1001,1002,1003] [304,305,306] Y ⟨Y,Y,Y,ak⟩ (by decide) (by decide) Y ⟨⟨Y,T⟩,⟨Y,T⟩,⟨Y,T⟩,ak⟩ Y Y (.k3 Y Y Y) T<|dn<|sr<|mo (s:=.ptr _ _) Y<|RT.dh .none Y T<|fa Y Y<|RT.lf .none (s:=.row _) Y Y Y T<|mv Y<|mv Y<|bE fC λVl h67 fC=>iR Y Y Y h67<|bE fC λl24 akg fC=>sR x2 Y Y Y Y akg ?_
 refine dn<|sr<|ag Y<|dn<|aY ?_
 obtain rfl:=O fC
 exact⟨.inr Y,gR (.tmp Y (.nil)) aq,[304,305,306],Y,⟨Y,Y,Y,ak⟩,by decide⟩
 refine cT<|sr<|ag Y<|dn<|aY<|aW.r ?_
 obtain rfl:=O (V fC)
 exact⟨.inr Y,gR (.tmp Y (.nil)) aq,[1001,1002,1003],Y,⟨Y,Y,Y,ak⟩,by decide⟩
 refine cT<|sr<|ag Y<|dn<|aY<|aW.r ?_
 obtain rfl:=O (V h)
 exact⟨.inr Y,gR (.tmp Y (.nil)) aq,[1001,1002,1003],Y,⟨Y,Y,Y,ak⟩,by decide⟩
 refine cT<|sr<|ag Y<|dn<|aY<|aW.r ?_
 obtain rfl:=O (V h)
 exact⟨.inr Y,gR (.tmp Y (.nil)) aq,[1001,1002,1003],Y,⟨Y,Y,Y,ak⟩,by decide⟩
end
section
open Go.Fw
noncomputable def dY(x0:List Int):Option (List Int):=(some (x0.length:Int)).bind λx5=>(b9 (λ(Ek:Int)=>(show Option ((Int)⊕(Int))from cJ (λ(RJ:Bool)=>(bif RJ then(some (IntKind.i64.wrap (Ek-1))).bind λdR=>some (.inl dR)else some (.inr Ek))) λGM=>(some (decide ((0:Int)<Ek))).bind λx7=>(bif x7 then(some (IntKind.i64.wrap (Ek-1))).bind λff=>(cM x0 ff).bind λc8=>(some (decide ((c8:Int)=0))).bind λdV=>some dV else some false).bind λXl=>GM Xl)) x5).bind λRK=>(GK x0 0 RK).bind λgK=>some gK
noncomputable def cQ(x0:List Nat):Option (List Int):=(b9 (λ(s6:Int×(List Int))=>match s6 with|⟨nX,gB⟩=>(show Option ((Int×(List Int))⊕((List Int)))from(some (x0.length:Int)).bind λx7=>(some (decide ((nX:Int)<x7))).bind λx8=>(bif x8 then(cM x0 nX).bind λdV=>(some (dV%65536)).bind λeX=>(some (IntKind.i64.wrap (eX:Int))).bind λdR=>(cM x0 nX).bind λgK=>(some (gK/65536%4294967296)).bind λiK=>(some (IntKind.i64.wrap (iK:Int))).bind λgU=>(mP 8 gB [dR,gU]).bind λke=>(some (IntKind.i64.wrap (nX+1))).bind λdG=>some (.inl (dG,ke))else some (.inr gB)))) (0,[])).bind λdr=>(dY dr).bind λir=>some ir
noncomputable def fV(x0:List Int)(x1:Int):Option (Int):=(some (x0.length:Int)).bind λx7=>(some (decide ((x1:Int)<x7))).bind λx8=>(bif x8 then(cM x0 x1).bind λff=>some ff else some 0)
noncomputable def dZ(x0:Bool)(x1:List Int):Option (Zr):=(dY x1).bind λx8=>(b9 (λ(s6:Int×(List Nat))=>match s6 with|⟨l7,gB⟩=>(show Option ((Int×(List Nat))⊕((List Nat)))from(some (x8.length:Int)).bind λff=>(some (decide ((l7:Int)<ff))).bind λc8=>(bif c8 then(fV x8 l7).bind λeE=>(some ((eE%4294967296).toNat)).bind λjb=>(some (IntKind.i64.wrap (l7+1))).bind λiK=>(fV x8 iK).bind λgU=>(some ((gU%4294967296).toNat)).bind λgV=>(some ((gV*65536)%4294967296)).bind λke=>(some ((jb+ke)%4294967296)).bind λji=>(mP 4 gB [ji]).bind λlp=>(some (IntKind.i64.wrap (l7+2))).bind λdV=>some (.inl (dV,lp))else some (.inr gB)))) (0,[])).bind λdr=>cJ (λ(Xm:Bool)=>some ⟨Xm,dr⟩) λK9=>(bif x0 then(some (dr.length:Int)).bind λjY=>(some (decide ((0:Int)<jY))).bind λou=>some ou else some false).bind λXn=>K9 Xn
noncomputable def kY(x0:Zr):Option (Zr):=match x0 with|⟨bn,bp⟩=>(cQ bp).bind λx7=>(dZ bn x7).bind λ⟨qJ,qK⟩=>some ⟨qJ,qK⟩
noncomputable def oD(x0:Zr)(x1:Zr):Option (Bool):=match x0 with|⟨bn,bp⟩=>match x1 with|⟨ct,cj⟩=>cJ (λ(Xo:Bool)=>(bif Xo then some false else(b9 (λ(GO:Int)=>(show Option ((Int)⊕((Unit)⊕(Bool)))from(some (bp.length:Int)).bind λgU=>(some (decide ((GO:Int)<gU))).bind λgV=>(bif gV then(cM bp GO).bind λuL=>(cM cj GO).bind λpB=>(some (decide ((uL:Nat)≠pB))).bind λpD=>(bif pD then some (.inr (.inr false))else(some (IntKind.i64.wrap (GO+1))).bind λji=>some (.inl ji))else some (.inr (.inl ()))))) 0).bind λe9=>match e9 with|.inr v9=>some v9|.inl _=>some true)) λK3=>(some (!(bn==ct))).bind λdG=>(bif dG then some true else(some (bp.length:Int)).bind λdV=>(some (cj.length:Int)).bind λdR=>(some (decide ((dV:Int)≠dR))).bind λeE=>some eE).bind λXp=>K3 Xp
noncomputable def oE(x0:Int):Option (Zr):=(some ((x0%18446744073709551616).toNat)).bind λx5=>(some (decide ((x0:Int)<0))).bind λx7=>cJ (λ(OC:Nat)=>(some (decide ((x0:Int)<0))).bind λff=>(some (OC%4294967296)).bind λeY=>(some (eY%4294967296)).bind λdV=>(some (OC/4294967296%18446744073709551616)).bind λeX=>(some (eX%4294967296)).bind λdR=>(kY ⟨ff,[dV,dR]⟩).bind λ⟨OK,OL⟩=>some ⟨OK,OL⟩) λK2=>(bif x7 then(some (vW 18446744073709551616 0 x5)).bind λx9=>K2 x9 else K2 x5)
noncomputable def l9(x0:List Int)(x1:List Int):Option (Int):=(some (x0.length:Int)).bind λx7=>(some (x1.length:Int)).bind λx9=>(some (max (x7:Int) x9)).bind λdG=>(some (IntKind.i64.wrap (dG-1))).bind λff=>(b9 (λ(iA:Int)=>(show Option ((Int)⊕((Unit)⊕(Int)))from(some (decide ((0:Int)≤iA))).bind λeY=>(bif eY then(fV x0 iA).bind λeE=>(fV x1 iA).bind λgh=>(some (decide ((eE:Int)<gh))).bind λiK=>(bif iK then some (.inr (.inr (-1)))else(fV x0 iA).bind λke=>(fV x1 iA).bind λlp=>(some (decide ((lp:Int)<ke))).bind λiM=>(bif iM then some (.inr (.inr 1))else(some (IntKind.i64.wrap (iA-1))).bind λdN=>some (.inl dN)))else some (.inr (.inl ()))))) ff).bind λe6=>match e6 with|.inr v6=>some v6|.inl _=>some 0
noncomputable def kH(x0:List Int)(x1:List Int):Option (List Int):=(b9 (λ(nA:Int×Int×(List Int))=>match nA with|⟨G5,RL,Jb⟩=>(show Option ((Int×Int×(List Int))⊕((List Int)))from cJ (λ(RM:Bool)=>(bif RM then(fV x0 RL).bind λir=>(fV x1 RL).bind λuL=>(some (IntKind.i64.wrap (ir+uL))).bind λnq=>(some (IntKind.i64.wrap (nq+G5))).bind λou=>(some (Int.tmod ou 65536)).bind λnE=>(mP 8 Jb [nE]).bind λuK=>(some (IntKind.i64.wrap (Int.tdiv ou 65536))).bind λlj=>(some (IntKind.i64.wrap (RL+1))).bind λgV=>some (.inl (lj,gV,uK))else some (.inr Jb))) λK22=>(some (x0.length:Int)).bind λff=>(some (decide ((RL:Int)<ff))).bind λc8=>(bif c8 then some true else(some (x1.length:Int)).bind λeX=>(some (decide ((RL:Int)<eX))).bind λdR=>some dR).bind λRF=>(bif RF then some true else(some (decide ((0:Int)<G5))).bind λgh=>some gh).bind λagp=>K22 agp)) (0,0,[])).bind λzQ=>(dY zQ).bind λpC=>some pC
noncomputable def jB(x0:List Int)(x1:List Int):Option (List Int):=(b9 (λ(s8:Int×Int×(List Int))=>match s8 with|⟨Oy,UN,yg⟩=>(show Option ((Int×Int×(List Int))⊕((List Int)))from(some (x0.length:Int)).bind λff=>(some (decide ((UN:Int)<ff))).bind λc8=>(bif c8 then(fV x0 UN).bind λdR=>(fV x1 UN).bind λgK=>(some (IntKind.i64.wrap (dR-gK))).bind λgh=>(some (IntKind.i64.wrap (gh-Oy))).bind λgU=>(some (decide ((gU:Int)<0))).bind λke=>cJ (λ(QG:Int×Int)=>match QG with|⟨agq,aaO⟩=>(mP 8 yg [aaO]).bind λnq=>(some (IntKind.i64.wrap (UN+1))).bind λdV=>some (.inl (agq,dV,nq))) λUL=>(bif ke then(some (IntKind.i64.wrap (gU+65536))).bind λir=>UL (1,ir)else UL (0,gU))else some (.inr yg)))) (0,0,[])).bind λyh=>(dY yh).bind λou=>some ou
noncomputable def gw(x0:List Int):Option (Int):=(some (x0.length:Int)).bind λx6=>(some (IntKind.i64.wrap (x6-1))).bind λx7=>(b9 (λ(s6:Int×Int)=>match s6 with|⟨ua,nX⟩=>(show Option ((Int×Int)⊕(Int))from(some (decide ((0:Int)≤nX))).bind λx9=>(bif x9 then(some (IntKind.i64.wrap (ua*65536))).bind λeY=>(cM x0 nX).bind λeX=>(some (IntKind.i64.wrap (eY+eX))).bind λeE=>(some (IntKind.i64.wrap (nX-1))).bind λff=>some (.inl (eE,ff))else some (.inr ua)))) (0,x7)).bind λyU=>some yU
noncomputable def mH(x0:Int):Option (List Int):=(some (Int.tmod x0 65536)).bind λx4=>(some (IntKind.i64.wrap (Int.tdiv x0 65536))).bind λx6=>(some (Int.tmod x6 65536)).bind λx7=>(some (IntKind.i64.wrap (Int.tdiv x0 65536))).bind λx9=>(some (IntKind.i64.wrap (Int.tdiv x9 65536))).bind λdG=>(dY [x4,x7,dG]).bind λc8=>some c8
noncomputable def gy(x0:List Int)(x1:Int):Option (List Int):=(b9 (λ(uF:Int×Int×(List Int))=>match uF with|⟨KD,Xq,nY⟩=>(show Option ((Int×Int×(List Int))⊕((List Int)))from cJ (λ(Di:Bool)=>(bif Di then(fV x0 Xq).bind λgh=>(some (IntKind.i64.wrap (gh*x1))).bind λgU=>(some (IntKind.i64.wrap (gU+KD))).bind λke=>(some (Int.tmod ke 65536)).bind λlp=>(mP 8 nY [lp]).bind λuL=>(some (IntKind.i64.wrap (Int.tdiv ke 65536))).bind λjY=>(some (IntKind.i64.wrap (Xq+1))).bind λeE=>some (.inl (jY,eE,uL))else some (.inr nY))) λGM=>(some (x0.length:Int)).bind λff=>(some (decide ((Xq:Int)<ff))).bind λc8=>(bif c8 then some true else(some (decide ((0:Int)<KD))).bind λdN=>some dN).bind λJc=>GM Jc)) (0,0,[])).bind λjT=>(dY jT).bind λyA=>some yA
noncomputable def ug(x0:List Int)(x1:List Int):Option (List Int):=(some (x0.length:Int)).bind λx9=>(some (x1.length:Int)).bind λff=>(some (IntKind.i64.wrap (x9+ff))).bind λc8=>(some (decide ((c8:Int)≤3))).bind λeY=>(bif eY then(gw x0).bind λdN=>(gw x1).bind λdR=>(some (IntKind.i64.wrap (dN*dR))).bind λeE=>(mH eE).bind λjb=>some jb else(some (x0.length:Int)).bind λgh=>(some (IntKind.i64.wrap (gh-1))).bind λiK=>(b9 (λ(nA:(List Int)×Int)=>match nA with|⟨sL,G5⟩=>(show Option (((List Int)×Int)⊕((List Int)))from(some (decide ((0:Int)≤G5))).bind λgV=>(bif gV then(mP 8 [0] sL).bind λiM=>(b9 (λ(yq:(List Int)×Int)=>match yq with|⟨Jd,nZ⟩=>(show Option (((List Int)×Int)⊕((List Int)))from(cM x0 G5).bind λou=>(some (decide ((nZ:Int)<ou))).bind λpB=>(bif pB then(cM x0 G5).bind λpC=>(some (IntKind.i64.wrap (pC-nZ))).bind λyf=>(some (min (1024:Int) yf)).bind λyK=>(gy x1 yK).bind λxm=>(kH Jd xm).bind λuM=>(some (IntKind.i64.wrap (nZ+1024))).bind λpD=>some (.inl (uM,pD))else some (.inr Jd)))) (iM,0)).bind λEl=>(some (IntKind.i64.wrap (G5-1))).bind λji=>some (.inl (El,ji))else some (.inr sL)))) ([],iK)).bind λyX=>(dY yX).bind λAx=>some Ax)
noncomputable def qp(x0:List Int)(x1:List Int):Option ((List Int)×(List Int)):=cJ (λ(Xr:Bool)=>(bif Xr then(gw x0).bind λgU=>(gw x1).bind λke=>(Aw gU ke).bind λji=>(mH ji).bind λir=>(gw x0).bind λiM=>(gw x1).bind λnq=>(Kk iM nq).bind λjY=>(mH jY).bind λou=>some (ir,ou)else(some (x0.length:Int)).bind λpB=>(Ka 8 pB (0:Int)).bind λnE=>(some (x1.length:Int)).bind λuK=>(some (decide ((uK:Int)=1))).bind λyj=>(bif yj then(some (x0.length:Int)).bind λyJ=>(some (IntKind.i64.wrap (yJ-1))).bind λpC=>(b9 (λ(Th:Int×Int×(List Int))=>match Th with|⟨Tq,Py,Je⟩=>(show Option ((Int×Int×(List Int))⊕(Int×(List Int)))from(some (decide ((0:Int)≤Py))).bind λr9=>(bif r9 then(some (IntKind.i64.wrap (Tq*65536))).bind λuM=>(cM x0 Py).bind λBU=>(some (IntKind.i64.wrap (uM+BU))).bind λVq=>(cM x1 0).bind λQE=>(Aw Vq QE).bind λQD=>(cM x1 0).bind λx63=>(Kk Vq x63).bind λS4=>(qg Je Py).bind λMu=>(stM Je Mu QD).bind λZM=>(some (IntKind.i64.wrap (Py-1))).bind λyK=>some (.inl (S4,yK,ZM))else some (.inr (Tq,Je))))) (0,pC,nE)).bind λe18=>match e18 with|⟨Xs,RN⟩=>(dY RN).bind λQ6=>(dY [Xs]).bind λVp=>some (Q6,Vp)else(some (x0.length:Int)).bind λx73=>(some (IntKind.i64.wrap (x73-1))).bind λx74=>(b9 (λ(s44:(List Int)×Int×(List Int))=>match s44 with|⟨Pz,zR,zS⟩=>(show Option (((List Int)×Int×(List Int))⊕((List Int)×(List Int)))from(some (decide ((0:Int)≤zR))).bind λx76=>(bif x76 then(cM x0 zR).bind λx81=>(mP 8 [x81] Pz).bind λx85=>(dY x85).bind λQ9=>(some (Q9.length:Int)).bind λx88=>(some (x1.length:Int)).bind λVm=>(some (decide ((x88:Int)<Vm))).bind λx91=>cJ (λ(Xt:Int)=>(b9 (λ(s54:Int×Int)=>match s54 with|⟨rB,wU⟩=>(show Option ((Int×Int)⊕(Int))from(some (IntKind.i64.wrap (wU-rB))).bind λx94=>(some (decide ((1:Int)<x94))).bind λx95=>(bif x95 then(some (IntKind.i64.wrap (rB+wU))).bind λZN=>(some (IntKind.i64.wrap (Int.tdiv ZN 2))).bind λx99=>(gy x1 x99).bind λDU=>(l9 DU Q9).bind λKq=>(some (decide ((Kq:Int)≤0))).bind λKr=>cJ (λ(j56:Int×Int)=>match j56 with|⟨RO,RQ⟩=>some (.inl (RO,RQ))) λK56=>(bif Kr then K56 (x99,wU)else K56 (rB,x99))else some (.inr rB)))) (0,Xt)).bind λBv=>(gy x1 Bv).bind λIw=>(jB Q9 Iw).bind λXu=>(qg zS zR).bind λaaQ=>(stM zS aaQ Bv).bind λl58=>(some (IntKind.i64.wrap (zR-1))).bind λx78=>some (.inl (Xu,x78,l58))) λK46=>(bif x91 then K46 1 else K46 65536)else some (.inr (Pz,zS))))) ([],x74,nE)).bind λe44=>match e44 with|⟨adr,RR⟩=>(dY RR).bind λakk=>some (akk,adr)))) λK3=>(some (x0.length:Int)).bind λdN=>(some (decide ((dN:Int)≤3))).bind λeX=>(bif eX then(some (x1.length:Int)).bind λjb=>(some (decide ((jb:Int)≤3))).bind λgK=>some gK else some false).bind λXv=>K3 Xv
noncomputable def fO(x0:Zr):Option (Int):=match x0 with|⟨bn,bp⟩=>(cQ bp).bind λx5=>(some (x5.length:Int)).bind λx6=>(some (decide ((x6:Int)=0))).bind λx7=>(bif x7 then some 0 else(bif bn then some (-1)else some 1))
noncomputable def uh(x0:Zr)(x1:Zr):Option (Int):=match x0 with|⟨bn,bp⟩=>match x1 with|⟨ct,cj⟩=>(fO ⟨bn,bp⟩).bind λx7=>(fO ⟨ct,cj⟩).bind λx9=>(some (decide ((x7:Int)≠x9))).bind λdG=>(bif dG then(fO ⟨bn,bp⟩).bind λc8=>(fO ⟨ct,cj⟩).bind λdV=>(some (decide ((c8:Int)<dV))).bind λdN=>(bif dN then some (-1)else some 1)else(cQ bp).bind λeE=>(cQ cj).bind λgh=>(l9 eE gh).bind λiK=>(fO ⟨bn,bp⟩).bind λgV=>(some (decide ((gV:Int)<0))).bind λke=>(bif ke then(some (IntKind.i64.wrap (0-iK))).bind λir=>some ir else some iK))
noncomputable def qt(x0:Zr):Option (Zr):=match x0 with|⟨bn,bp⟩=>(some (!bn)).bind λx5=>(cQ bp).bind λx8=>(dZ x5 x8).bind λ⟨PA,PB⟩=>some ⟨PA,PB⟩
noncomputable def uj(x0:Zr):Option (Zr):=match x0 with|⟨bn,bp⟩=>(cQ bp).bind λx5=>(dZ false x5).bind λ⟨Jf,Jg⟩=>some ⟨Jf,Jg⟩
noncomputable def uo(x0:Zr)(x1:Zr):Option (Zr):=match x0 with|⟨bn,bp⟩=>match x1 with|⟨ct,cj⟩=>(cQ bp).bind λx9=>(cQ cj).bind λc8=>(some (bn==ct)).bind λdR=>(bif dR then(kH x9 c8).bind λiK=>(dZ bn iK).bind λ⟨As,At⟩=>some ⟨As,At⟩else(l9 x9 c8).bind λji=>(some (decide ((0:Int)≤ji))).bind λir=>(bif ir then(jB x9 c8).bind λjY=>(dZ bn jY).bind λ⟨Cx,Cy⟩=>some ⟨Cx,Cy⟩else(jB c8 x9).bind λuK=>(dZ ct uK).bind λ⟨Eg,Eh⟩=>some ⟨Eg,Eh⟩))
noncomputable def kI(x0:Zr)(x1:Zr):Option (Zr):=match x0 with|⟨bn,bp⟩=>match x1 with|⟨ct,cj⟩=>(some (!(bn==ct))).bind λx9=>(cQ bp).bind λc8=>(cQ cj).bind λdN=>(ug c8 dN).bind λeX=>(dZ x9 eX).bind λ⟨qY,qZ⟩=>some ⟨qY,qZ⟩
noncomputable def qu(x0:Zr)(x1:Zr):Option (Zr×Zr×Int):=match x0 with|⟨bn,bp⟩=>match x1 with|⟨ct,cj⟩=>(cQ bp).bind λeY=>(cQ cj).bind λeX=>(some (eX.length:Int)).bind λeE=>(some (decide ((eE:Int)=0))).bind λjb=>(bif jb then some (⟨false,[]⟩,⟨false,[]⟩,7)else(qp eY eX).bind λ⟨Iz,Mx⟩=>cJ (λ(j3:Bool×Bool)=>match j3 with|⟨Xw,C2⟩=>cJ (λ(j5:(List Int)×(List Int))=>match j5 with|⟨Wo,OG⟩=>(some (!(C2==ct))).bind λyf=>(dZ yf Wo).bind λ⟨Gg,Gh⟩=>(dZ false OG).bind λ⟨OH,OI⟩=>some (⟨Gg,Gh⟩,⟨OH,OI⟩,0)) λK5=>(bif Xw then(kH Iz [1]).bind λpD=>(jB eX Mx).bind λlj=>K5 (pD,lj)else K5 (Iz,Mx))) λK3=>(bif bn then(some (Mx.length:Int)).bind λjY=>(some (decide ((0:Int)<jY))).bind λou=>some ou else some false).bind λads=>K3 (ads,bn))
noncomputable def ur(x0:Zr)(x1:Zr):Option (Zr):=match x0 with|⟨bn,bp⟩=>match x1 with|⟨ct,cj⟩=>(cQ bp).bind λff=>(cQ cj).bind λdV=>(b9 (λ(s6:(List Int)×(List Int))=>match s6 with|⟨iA,l7⟩=>(show Option (((List Int)×(List Int))⊕((List Int)))from(some (l7.length:Int)).bind λeX=>(some (decide ((0:Int)<eX))).bind λdR=>(bif dR then(qp iA l7).bind λ⟨ao9,agt⟩=>some (.inl (l7,agt))else some (.inr iA)))) (ff,dV)).bind λwm=>(dZ false wm).bind λ⟨S5,OB⟩=>some ⟨S5,OB⟩
end
section
open Go.Fw Go.Fw.Z Go.RowKit
theorem fL{x0:List Int}{r:List Int}(h:dY x0=some r):Pure af 176 [slc 1 (List.map bH x0)] (slc 1 (List.map bH r)):=by
 refine bj Tryz.func176 Y (ae Y) (λc9 M vs hvs=>?_)
 unfold dY at h
 refine sr<|aI Y (aB (n:=1) (e:=bH))<|dn<|sr<|mv Y<|lE h λx5 h5 h=>ln Y h5<|ag Y<|dn<|qq<|bE h λFo yl oV=>?_
 refine bJ (λ(RK:Int)=>AS.cu 21 [(0,.sv (slc 1 (List.map bH x0))),(3,ah RK)] [] []) (λRK=>RK=Fo) ?_ (λRK ym=>?_)
 refine bf ?_
 refine bK yl (λuF=>AS.cu 21 [(0,.sv (slc 1 (List.map bH x0))),(3,ah uF)] [] []) (wR []) (λEk ZG ZH h yn uN=>?_)
 try dsimp only
 refine qq<|qq ?_
 refine bL h (λGQ=>AS.cu 21 [(0,.sv (slc 1 (List.map bH x0))),(3,ah Ek),(15,ai GQ)] [] []) (λh=>?_) (λRJ h=>?_)
 refine aX<|mv Y<|lE h λx7 h7 h=>gt _ Y Y h7<|mv Y<|bE h λXl dH h=>?_
 cases x7
 obtain rfl:=O (F dH)
 exact ww<|ww<|ww<|ww<|ww<|ww<|pF Y<|dn<|⟨false,h,wR []⟩
 refine gm Y<|gm Y<|lE (V dH) λff kz dH=>RT.sub (.some Y Y) _ Y Y T kz<|bE dH λc8 fI dH=>RT.ixM (.some Y Y) Y Y T fI<|gr Y Y<|lE dH λdV jy dH=>ge_ _ Y Y (xj (p:=c8) (q:=0) jy) ?_
 obtain rfl:=O dH
 exact pT Y<|dn<|⟨dV,h,wR []⟩
 try dsimp only
 refine aW.n ?_
 cases RJ
 refine cF<|bP<|aW.x<|aW.x<|bF.x<|aW.n ?_
 obtain rfl:=O (F h)
 exact⟨Ek,uN _ Y,wR []⟩
 refine cT<|bu<|aW.n<|bf<|aX<|mv Y<|lE (V h) λdR jK h=>sb _ Y Y jK<|ag Y<|RT.done<|bF.n ?_
 obtain rfl:=O h
 exact aW.n ⟨dR,yn _ Y,wR []⟩
 subst ym
 try dsimp only
 refine aW.n<|sr<|mv Y<|mv Y<|bE oV λgK oO oV=>RT.Io .none 0 RK Y Y ⟨_,Y⟩ T oO<|ag Y<|dn<|aY ?_
 obtain rfl:=O oV
 exact R1 Y
theorem dA{x0:List Nat}{r:List Int}(h:cQ x0=some r):Pure af 146 [slc 1 (List.map bh x0)] (slc 1 (List.map bH r)):=by
 refine bj Tryz.func146 Y (ae Y) (λc9 M vs hvs=>?_)
 unfold cQ at h
 refine sr<|aI Y (aB (n:=1) (e:=bH))<|dn<|sr<|ag Y<|dn<|bU (cY 3 304 3 1 Y Y T)<|qq<|sr<|ag Y<|dn<|bE h λe6 uO je=>?_
 refine bJ (λ(dr:(List Int))=>AS.cu 28 [(3,.row 306)] [] [(306,TR 3 1 bH dr)]) (λdr=>dr=e6) ?_ (λdr uP=>?_)
 refine bf ?_
 refine bK uO (λs6=>AS.cu 28 [(0,.sv (slc 1 (List.map bh x0))),(3,.row 306),(4,ah s6.1)] [] [(306,TR 3 1 bH s6.2)]) (cz (λi=>bif Nat.beq i 306 then 304 else i) Y Y Y Y Y ⟨.sv aq,.row Y,.sv aq,ak⟩ trivial ⟨⟨_,Y,cg.refl _⟩,ak⟩ (λi hi=>by rw[bV (show i≠306 by omega)];rfl)) (λs6 y6 G6 h uQ pE=>?_)
 obtain⟨nX,gB⟩:=s6
 try dsimp only
 refine qq<|sr<|mv Y<|mv Y<|lE h λx7 h7 h=>ln Y h7<|lE h λx8 h8 h=>ls _ Y Y h8<|dn ?_
 cases x8
 refine cF<|bP<|aW.x<|aW.x<|bF.x<|aW.n ?_
 obtain rfl:=O (F h)
 exact⟨gB,pE _ Y,wR []⟩
 refine cT<|bu<|aW.n<|qq<|bf<|aZ mixed<|mo (s:=.row _) Y<|mv Y<|mv Y<|bE (V h) λdV jy h=>ix Y Y jy<|lr Y Y<|lE h λeX kf h=>RT.rem .none _ Y Y T (by decide) (acp (a:=dV) (b:=65536) kf)<|lE h λdR jK h=>cv _ Y jK<|mv Y<|mv Y<|bE h λgK oO h=>ix Y Y oO<|lr Y Y<|lE h λiK oz h=>RT.quo .none _ Y Y T (by decide) (UK.ai5 (a:=gK) (b:=65536) oz) ?_
 refine lE h λgU oP h=>cv _ Y oP<|bl (l:=[dR,gU]) (e:=bH) (.one Y (.one Y (.nil))) Y Y Y Y Y Y<|bE h λke nN h=>aR (k:=[dR,gU]) (e:=bH) Y Y Y nN<|an (s:=.row _) Y ?_
 refine RT.done ⟨by kernel_rfl,?_⟩
 refine bF.n<|aW.n<|aX<|mv Y<|lE h λdG fY h=>ad _ Y Y fY<|ag Y<|RT.done ?_
 obtain rfl:=O h
 exact aW.n ⟨(dG,ke),uQ _ Y,cz (λi=>bif Nat.beq i 306 then 25 else i) Y Y Y Y Y ⟨.sv aq,.row Y,.sv aq,ak⟩ trivial ⟨⟨_,Y,cg.refl _⟩,ak⟩ (λi hi=>by rw[bV (show i≠306 by omega)];rfl)⟩
 subst uP
 try dsimp only
 refine aW.n<|qq<|bU (cP (i:=306) (E1:=3) (n:=1) (e:=bH) (l:=dr) Y)<|aX<|mv Y<|bE je λir oU je=>cl (fL oU) ⟨Y,ak⟩<|ag Y<|dn<|aY ?_
 obtain rfl:=O je
 exact R1 Y
theorem iG{x0:List Int}{x1:Int}{r:Int}(h:fV x0 x1=some r):Pure af 179 [slc 1 (List.map bH x0),ax x1] (ax r):=by
 refine bj Tryz.func179 Y (ae Y) (λc9 M vs hvs=>?_)
 unfold fV at h
 refine sr<|ag Y<|dn<|qq<|sr<|mv Y<|mv Y<|lE h λx7 h7 h=>ln Y h7<|lE h λx8 h8 h=>ls _ Y Y h8<|dn ?_
 cases x8
 refine fs<|sr<|ag Y<|dn<|aY ?_
 obtain rfl:=O (F h)
 exact R1 Y
 refine cT<|sr<|mv Y<|mv Y<|bE (V h) λff kz h=>ix Y Y kz<|lr Y Y<|ag Y<|dn<|aY<|aW.r ?_
 obtain rfl:=O h
 exact R1 Y
theorem jC{x0:Bool}{x1:List Int}{r:Zr}(h:dZ x0 x1=some r):Pure af 152 [ay x0,slc 1 (List.map bH x1)] (.agg (eZ r)):=by
 refine bj Tryz.func152 Y (ae Y) (λc9 M vs hvs=>?_)
 unfold dZ at h
 refine sr<|al (cs:=[ay false,au]) (by exact⟨aq,aB,ak⟩) Y<|dn<|sr<|mv Y<|bE h λx8 h8 h=>cl (fL h8) ⟨Y,ak⟩<|ag Y<|dn<|sr<|ag Y<|dn<|bU (cY 5 304 130 1 Y Y T)<|qq<|sr<|ag Y<|dn<|bE h λe6 uO je=>?_
 refine bJ (λ(dr:(List Nat))=>AS.cu 37 [(0,ai x0),(4,.ptr 4 0),(5,.row 306)] [(4,⟨41,[ai false,.sv au]⟩)] [(306,TR 130 1 bh dr)]) (λdr=>dr=e6) ?_ (λdr uP=>?_)
 refine bf ?_
 refine bK uO (λs6=>AS.cu 37 [(0,ai x0),(1,.sv (slc 1 (List.map bH x8))),(4,.ptr 4 0),(5,.row 306),(6,ah s6.1)] [(4,⟨41,[ai false,.sv au]⟩)] [(306,TR 130 1 bh s6.2)]) (cz (λi=>bif Nat.beq i 306 then 304 else i) Y Y Y Y Y ⟨.sv aq,.sv aq,.ptr,.row Y,.sv aq,ak⟩ ⟨⟨_,Y,⟨.sv aq,.sv aq,ak⟩⟩,ak⟩ ⟨⟨_,Y,cg.refl _⟩,ak⟩ (λi hi=>by rw[bV (show i≠306 by omega)];rfl)) (λs6 y6 G6 h uQ pE=>?_)
 obtain⟨l7,gB⟩:=s6
 try dsimp only
 refine qq<|sr<|mv Y<|mv Y<|lE h λff kz h=>ln Y kz<|lE h λc8 fI h=>ls _ Y Y fI<|dn ?_
 cases c8
 refine cF<|bP<|aW.x<|aW.x<|bF.x<|aW.n ?_
 obtain rfl:=O (F h)
 exact⟨gB,pE _ Y,wR []⟩
 refine cT<|bu<|aW.n<|qq<|bf<|aX<|mo (s:=.row _) Y<|mv Y<|mv Y<|bE (V h) λeE jd h=>cl (iG jd) ⟨Y,Y,ak⟩<|lE h λjb lZ h=>cv _ Y (UK.conv lZ)<|mv Y<|mv Y<|lE h λiK oz h=>ad _ Y Y oz<|bE h λgU oP h=>cl (iG oP) ⟨Y,Y,ak⟩<|lE h λgV nF h=>cv _ Y (UK.conv nF)<|lE h λke nN h=>RT.mul .none _ Y Y T (UK.mul (a:=gV) (b:=65536) nN) ?_
 refine lE h λji qS h=>ad _ Y Y (UK.add (a:=jb) (b:=ke) qS)<|bl (l:=[ji]) (e:=bh) (.one Y (.nil)) Y Y Y Y Y Y<|bE h λlp vz h=>aR (k:=[ji]) (e:=bh) Y Y Y vz<|an (s:=.row _) Y<|RT.done<|bF.n<|aW.n<|aX<|mv Y<|lE h λdV jy h=>ad _ Y Y jy<|ag Y<|RT.done ?_
 obtain rfl:=O h
 exact aW.n ⟨(dV,lp),uQ _ Y,cz (λi=>bif Nat.beq i 306 then 28 else i) Y Y Y Y Y ⟨.sv aq,.sv aq,.ptr,.row Y,.sv aq,ak⟩ ⟨⟨_,Y,⟨.sv aq,.sv aq,ak⟩⟩,ak⟩ ⟨⟨_,Y,cg.refl _⟩,ak⟩ (λi hi=>by rw[bV (show i≠306 by omega)];rfl)⟩
 subst uP
 try dsimp only
 refine aW.n<|qq ?_
 refine bL je (λj9=>AS.cu 37 [(4,.ptr 4 0)] [(4,⟨41,[ai j9,.sv (slc 1 (List.map bh dr))]⟩)] []) (λje=>?_) (λXm je=>?_)
 refine bU (cP (i:=306) (E1:=130) (n:=1) (e:=bh) (l:=dr) Y)<|aX<|mv Y<|mv Y<|bE je λXn Dj je=>?_
 cases x0
 obtain rfl:=O (F Dj)
 exact ww<|ww<|ww<|pF Y<|mv Y<|bI (cs:=[_,_]) (cs':=[ay false,slc 1 (List.map bh dr)]) (.one Y (.one Y (.nil))) ⟨aq,aq,ak⟩<|so Y Y Y<|dn<|⟨false,je,wR []⟩
 refine gm Y<|lE (V Dj) λjY qT Dj=>gn Y qT<|lE Dj λou xk Dj=>gg _ Y Y xk ?_
 obtain rfl:=O Dj
 exact pT Y<|mv Y<|bI (cs:=[_,_]) (cs':=[ay ou,slc 1 (List.map bh dr)]) (.one Y (.one Y (.nil))) ⟨aq,aq,ak⟩<|so Y Y Y<|dn<|⟨ou,je,wR []⟩
 try dsimp only
 refine aW.n<|aY ?_
 obtain rfl:=O je
 exact RZ (.agg Y Y (.k2 Y Y) Y (.nil))
theorem Bw{x0:Zr}{r:Zr}(h:kY x0=some r):Pure af 113 [.agg (eZ x0)] (.agg (eZ r)):=by
 obtain⟨bn,bp⟩:=x0
 refine bj Tryz.func113 Y (ae Y) (λc9 M vs hvs=>?_)
 unfold kY at h
 refine sr<|bx Y<|al (cs:=[ay false,au]) (by exact⟨aq,aB,ak⟩) Y<|dn<|qq<|aZ mixed<|fa Y Y<|lV Y Y Y<|fa Y Y<|lV Y Y Y<|bE h λx7 h7 h=>cl (dA h7) ⟨Y,ak⟩ ?_
 obtain⟨⟨qJ,qK⟩,h8,h⟩:=bS h
 refine cl (jC h8) ⟨Y,Y,ak⟩<|so Y Y Y ?_
 refine RT.done ⟨by kernel_rfl,?_⟩
 refine aW.n<|aY ?_
 obtain rfl:=O h
 exact RZ (.agg Y Y (.k2 Y Y) Y (.nil))
theorem CF{x0:Zr}{x1:Zr}{r:Bool}(h:oD x0 x1=some r):Pure af 122 [.agg (eZ x0),.agg (eZ x1)] (ay r):=by
 obtain⟨bn,bp⟩:=x0
 obtain⟨ct,cj⟩:=x1
 refine bj Tryz.func122 Y (ae Y) (λc9 M vs hvs=>?_)
 unfold oD at h
 refine sr<|bx Y<|bx Y<|ag Y<|dn<|qq<|qq ?_
 refine bL h (λj3=>AS.cu 38 [(2,.ptr 2 0),(3,.ptr 3 0),(19,ai j3)] [(3,⟨41,[ai ct,.sv (slc 1 (List.map bh cj))]⟩),(2,⟨41,[ai bn,.sv (slc 1 (List.map bh bp))]⟩)] []) (λh=>?_) (λXo h=>?_)
 refine aX<|fa Y Y<|lV Y Y Y<|fa Y Y<|lV Y Y Y<|lE h λdG fY h=>RT.Uh .none _ Y Y T fY<|mv Y<|bE h λXp Dj h=>?_
 cases dG
 refine RT.fieldAddr (.some Y Y) Y T Y<|RT.zu (.some Y Y) Y Y Y T<|lE (F Dj) λdV jy Dj=>gn Y jy<|RT.fieldAddr (.some Y Y) Y T Y<|RT.zu (.some Y Y) Y Y Y T<|lE Dj λdR jK Dj=>gn Y jK<|lE Dj λeE jd Dj=>gq _ Y Y (Le (p:=dV) (q:=dR) jd) ?_
 obtain rfl:=O Dj
 exact pF Y<|dn<|⟨eE,h,wR []⟩
 obtain rfl:=O (V Dj)
 exact ww<|ww<|ww<|ww<|ww<|ww<|ww<|pT Y<|dn<|⟨true,h,wR []⟩
 try dsimp only
 refine aW.n ?_
 cases Xo
 refine fs<|qq<|sr<|ag Y<|dn<|bE (F h) λe9 hl9 ho9=>?_
 refine bJ (λ(xe9:Unit)=>AS.cu 38 [] [] []) (λxe9=>.inl xe9=e9) ?_ (λxe9 hx9=>?_)
 refine bf ?_
 refine bK hl9 (λs9=>AS.cu 38 [(2,.ptr 2 0),(3,.ptr 3 0),(5,ah s9)] [(3,⟨41,[ai ct,.sv (slc 1 (List.map bh cj))]⟩),(2,⟨41,[ai bn,.sv (slc 1 (List.map bh bp))]⟩)] []) (wR []) (λGO y9 G9 h hG9 hE9=>?_)
 try dsimp only
 refine qq<|sr<|mv Y<|fa Y Y<|lV Y Y Y<|lE h λgU oP h=>ln Y oP<|lE h λgV nF h=>ls _ Y Y nF<|dn ?_
 cases gV
 refine cF<|bP<|aW.x<|aW.x<|bF.x<|aW.n ?_
 obtain rfl:=O (F h)
 exact⟨(),hE9 _ Y,wR []⟩
 refine cT<|bu<|aW.n<|qq<|bf<|qq<|aZ mixed<|fa Y Y<|lV Y Y Y<|mv Y<|bE (V h) λuL zJ h=>ix Y Y zJ<|lr Y Y<|fa Y Y<|lV Y Y Y<|mv Y<|bE h λpB yN h=>ix Y Y yN<|lr Y Y<|lE h λpD A0 h=>ne _ Y Y (neN (p:=uL) (q:=pB) A0) ?_
 refine RT.done ⟨by kernel_rfl,?_⟩
 refine aW.n ?_
 cases pD
 refine cF<|bu<|bF.n<|aW.n<|aX<|mv Y<|lE (F h) λji qS h=>ad _ Y Y qS<|ag Y<|RT.done ?_
 obtain rfl:=O h
 exact aW.n ⟨ji,hG9 _ Y,wR []⟩
 refine cT<|sr<|ag Y<|dn<|aY<|bF.r<|aW.r ?_
 obtain rfl:=O (V h)
 have he9:=hE9 _ Y
 subst he9
 refine aW.r<|bF.r<|aW.r<|aW.r ?_
 obtain rfl:=O ho9
 exact R1 Y
 subst hx9
 try dsimp only
 refine aW.n<|sr<|ag Y<|dn<|aY ?_
 obtain rfl:=O ho9
 exact R1 Y
 refine cT<|sr<|ag Y<|dn<|aY<|aW.r ?_
 obtain rfl:=O (V h)
 exact R1 Y
theorem CG{x0:Int}{r:Zr}(h:oE x0=some r):Pure af 63 [ax x0] (.agg (eZ r)):=by
 refine bj Tryz.func63 Y (ae Y) (λc9 M vs hvs=>?_)
 unfold oE at h
 refine sr<|al (cs:=[ay false,au]) (by exact⟨aq,aB,ak⟩) Y<|dn<|sr<|mv Y<|lE h λx5 h5 h=>cv _ Y (UK.conv h5)<|ag Y<|dn<|qq<|sr<|mv Y<|lE h λx7 h7 h=>ls _ Y Y h7<|dn ?_
 refine bL h (λj2=>AS.cu 21 [(0,ah x0),(2,.ptr 2 0),(3,.sv (.v (.int .u64 ((j2:Nat):Int))))] [(2,⟨41,[ai false,.sv au]⟩)] []) (λh=>?_) (λOC h=>?_)
 cases x7
 exact fs<|⟨x5,(F h),wR []⟩
 exact cT<|aX<|mv Y<|lE (V h) λx9 h9 h=>RT.neg .none _ Y T (UK.neg h9)<|ag Y<|dn<|⟨x9,h,wR []⟩
 try dsimp only
 refine aW.n<|sr<|mv Y<|lE h λff kz h=>ls _ Y Y kz<|mv Y<|lE h λeY iX h=>RT.rem .none _ Y Y T (by decide) (acp (a:=OC) (b:=4294967296) iX)<|lE h λdV jy h=>cv _ Y (UK.nat jy)<|mv Y<|lE h λeX kf h=>RT.quo .none _ Y Y T (by decide) (UK.ai5 (a:=OC) (b:=4294967296) kf)<|lE h λdR jK h=>cv _ Y (UK.nat jK)<|bl (l:=[dV,dR]) (e:=bh) (.one Y (.one Y (.nil))) Y Y Y Y Y Y<|bI (cs:=[_,_]) (cs':=[ay ff,slc 1 (List.map bh [dV,dR])]) (.one Y (.one Y (.nil))) ⟨aq,aq,ak⟩ ?_
 obtain⟨⟨OK,OL⟩,oO,h⟩:=bS h
 refine cl (Bw oO) ⟨Y,ak⟩<|so Y Y Y<|dn<|aY ?_
 obtain rfl:=O h
 exact RZ (.agg Y Y (.k2 Y Y) Y (.nil))
end
end Go.Proofs.YtningmnklfpfjaaGreat
