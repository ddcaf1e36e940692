/- A part of the proof: the framework, the plain functions, the followed functions, the plain laws. -/
import Derived.Test.YtningmnklfpfjaaGreatPTM2
set_option linter.unusedVariables false
set_option linter.unusedSimpArgs false
namespace Go.Proofs.YtningmnklfpfjaaGreat
section
open Go.Fw Go.Fw.Z Go.RowKit
abbrev WL:List (Value×Value):=[(.int .u8 43,.agg #[.func (.func 187) #[] #[]]),(.int .u8 45,.agg #[.func (.func 189) #[] #[]]),(.int .u8 42,.agg #[.func (.func 191) #[] #[]]),(.int .u8 47,.agg #[.func (.func 192) #[] #[]])]
theorem mN:Pure af 167 [] (V9 WL):=by
 refine bj Tryz.func167 Y (ae Y) (λdw M vs hvs=>?_)
 refine cq<|aX<|RT.Mc .none Y T<|RT.done<|aW.n<|cq<|aad (ae Y) Y Y Y (λS' h0=>?_)
 exact bf (R1 h0)
theorem Bc{x0:Zr}{x1:Zr}{x2:Zr}{x3:Zr}(N:Nat){r:Zr×Zr}(h:lB x0 x1 x2 x3=some r):dK af 187 N [.agg (eZ x0),.agg (eZ x1),.agg (eZ x2),.agg (eZ x3)] (.Ce [.agg ((fZ N) r.1),.agg ((fZ N) r.2)]):=by
 obtain⟨bk,bn⟩:=x0
 obtain⟨cu,cm⟩:=x1
 obtain⟨wC,wD⟩:=x2
 obtain⟨uQ,uR⟩:=x3
 refine bU Tryz.func187 Y (ae Y) (λdw M vs hN hvs=>?_)
 unfold lB at h
 refine sr<|bx Y<|bx Y<|bx Y<|bx Y<|al (cs:=[ay false,nw N au]) (by exact⟨aq,bu,ak⟩) Y<|al (cs:=[ay false,nw N au]) (by exact⟨aq,bu,ak⟩) Y<|dn<|qq<|aZ mixed<|ld Y Y (.k2 Y Y)<|ld Y Y (.k2 Y Y) ?_
 obtain⟨⟨jh,iX⟩,fC,h⟩:=bS h
 refine RT.bZ .none (gJ N fC) hN Y ⟨Y,Y,ak⟩ T<|ld Y Y (.k2 Y Y)<|ld Y Y (.k2 Y Y) ?_
 obtain⟨⟨jQ,jR⟩,gD,h⟩:=bS h
 refine RT.bZ .none (gJ N gD) hN Y ⟨Y,Y,ak⟩ T ?_
 obtain⟨⟨qu,qw⟩,lq,h⟩:=bS h
 refine RT.bZ .none ((MC N lq).w (args':=[_,_]) ⟨(SV.fT (show cg [ay jh,nw N (slc 1 (List.map bh iX))] _ from⟨aq,fN,ak⟩)),(SV.fT (show cg [ay jQ,nw N (slc 1 (List.map bh jR))] _ from⟨aq,fN,ak⟩)),ak⟩) hN Y ⟨Y,Y,ak⟩ T<|ld Y Y (.k2 Y Y)<|ld Y Y (.k2 Y Y) ?_
 obtain⟨⟨lS,lT⟩,mw,h⟩:=bS h
 refine RT.bZ .none (gJ N mw) hN Y ⟨Y,Y,ak⟩ T<|so Y Y Y<|so Y Y Y ?_
 refine RT.done ⟨by kernel_rfl,?_⟩
 refine aW.n<|bf ?_
 obtain rfl:=O h
 exact RZ (.agg Y Y (.k2 Y Y) Y (.agg Y Y (.k2 Y Y) Y (.nil)))
theorem Bd{x0:Zr}{x1:Zr}{x2:Zr}{x3:Zr}(N:Nat){r:Zr×Zr}(h:lC x0 x1 x2 x3=some r):dK af 189 N [.agg (eZ x0),.agg (eZ x1),.agg (eZ x2),.agg (eZ x3)] (.Ce [.agg ((fZ N) r.1),.agg ((fZ N) r.2)]):=by
 obtain⟨bk,bn⟩:=x0
 obtain⟨cu,cm⟩:=x1
 obtain⟨wC,wD⟩:=x2
 obtain⟨uQ,uR⟩:=x3
 refine bU Tryz.func189 Y (ae Y) (λdw M vs hN hvs=>?_)
 unfold lC at h
 refine sr<|bx Y<|bx Y<|bx Y<|bx Y<|al (cs:=[ay false,nw N au]) (by exact⟨aq,bu,ak⟩) Y<|al (cs:=[ay false,nw N au]) (by exact⟨aq,bu,ak⟩) Y<|dn<|qq<|aZ mixed<|ld Y Y (.k2 Y Y)<|ld Y Y (.k2 Y Y) ?_
 obtain⟨⟨jh,iX⟩,fC,h⟩:=bS h
 refine RT.bZ .none (gJ N fC) hN Y ⟨Y,Y,ak⟩ T<|ld Y Y (.k2 Y Y)<|ld Y Y (.k2 Y Y) ?_
 obtain⟨⟨jQ,jR⟩,gD,h⟩:=bS h
 refine RT.bZ .none (gJ N gD) hN Y ⟨Y,Y,ak⟩ T ?_
 obtain⟨⟨qu,qw⟩,lq,h⟩:=bS h
 refine RT.bZ .none ((ME N lq).w (args':=[_,_]) ⟨(SV.fT (show cg [ay jh,nw N (slc 1 (List.map bh iX))] _ from⟨aq,fN,ak⟩)),(SV.fT (show cg [ay jQ,nw N (slc 1 (List.map bh jR))] _ from⟨aq,fN,ak⟩)),ak⟩) hN Y ⟨Y,Y,ak⟩ T<|ld Y Y (.k2 Y Y)<|ld Y Y (.k2 Y Y) ?_
 obtain⟨⟨lS,lT⟩,mw,h⟩:=bS h
 refine RT.bZ .none (gJ N mw) hN Y ⟨Y,Y,ak⟩ T<|so Y Y Y<|so Y Y Y ?_
 refine RT.done ⟨by kernel_rfl,?_⟩
 refine aW.n<|bf ?_
 obtain rfl:=O h
 exact RZ (.agg Y Y (.k2 Y Y) Y (.agg Y Y (.k2 Y Y) Y (.nil)))
theorem Be{x0:Zr}{x1:Zr}{x2:Zr}{x3:Zr}(N:Nat){r:Zr×Zr}(h:lD x0 x1 x2 x3=some r):dK af 191 N [.agg (eZ x0),.agg (eZ x1),.agg (eZ x2),.agg (eZ x3)] (.Ce [.agg ((fZ N) r.1),.agg ((fZ N) r.2)]):=by
 obtain⟨bk,bn⟩:=x0
 obtain⟨cu,cm⟩:=x1
 obtain⟨wC,wD⟩:=x2
 obtain⟨uQ,uR⟩:=x3
 refine bU Tryz.func191 Y (ae Y) (λdw M vs hN hvs=>?_)
 unfold lD at h
 refine sr<|bx Y<|bx Y<|bx Y<|bx Y<|al (cs:=[ay false,nw N au]) (by exact⟨aq,bu,ak⟩) Y<|al (cs:=[ay false,nw N au]) (by exact⟨aq,bu,ak⟩) Y<|dn<|qq<|aZ mixed<|ld Y Y (.k2 Y Y)<|ld Y Y (.k2 Y Y) ?_
 obtain⟨⟨jh,iX⟩,fC,h⟩:=bS h
 refine RT.bZ .none (gJ N fC) hN Y ⟨Y,Y,ak⟩ T<|ld Y Y (.k2 Y Y)<|ld Y Y (.k2 Y Y) ?_
 obtain⟨⟨jQ,jR⟩,gD,h⟩:=bS h
 refine RT.bZ .none (gJ N gD) hN Y ⟨Y,Y,ak⟩ T<|so Y Y Y<|so Y Y Y ?_
 refine RT.done ⟨by kernel_rfl,?_⟩
 refine aW.n<|bf ?_
 obtain rfl:=O h
 exact RZ (.agg Y Y (.k2 Y Y) Y (.agg Y Y (.k2 Y Y) Y (.nil)))
theorem Bf{x0:Zr}{x1:Zr}{x2:Zr}{x3:Zr}(N:Nat){r:Zr×Zr}(h:lF x0 x1 x2 x3=some r):dK af 192 N [.agg (eZ x0),.agg (eZ x1),.agg (eZ x2),.agg (eZ x3)] (.Ce [.agg ((fZ N) r.1),.agg ((fZ N) r.2)]):=by
 obtain⟨bk,bn⟩:=x0
 obtain⟨cu,cm⟩:=x1
 obtain⟨wC,wD⟩:=x2
 obtain⟨uQ,uR⟩:=x3
 refine bU Tryz.func192 Y (ae Y) (λdw M vs hN hvs=>?_)
 unfold lF at h
 refine sr<|bx Y<|bx Y<|bx Y<|bx Y<|al (cs:=[ay false,nw N au]) (by exact⟨aq,bu,ak⟩) Y<|al (cs:=[ay false,nw N au]) (by exact⟨aq,bu,ak⟩) Y<|dn<|qq<|aZ mixed<|ld Y Y (.k2 Y Y)<|ld Y Y (.k2 Y Y) ?_
 obtain⟨⟨jh,iX⟩,fC,h⟩:=bS h
 refine RT.bZ .none (gJ N fC) hN Y ⟨Y,Y,ak⟩ T<|ld Y Y (.k2 Y Y)<|ld Y Y (.k2 Y Y) ?_
 obtain⟨⟨jQ,jR⟩,gD,h⟩:=bS h
 refine RT.bZ .none (gJ N gD) hN Y ⟨Y,Y,ak⟩ T<|so Y Y Y<|so Y Y Y ?_
 refine RT.done ⟨by kernel_rfl,?_⟩
 refine aW.n<|bf ?_
 obtain rfl:=O h
 exact RZ (.agg Y Y (.k2 Y Y) Y (.agg Y Y (.k2 Y Y) Y (.nil)))
theorem fO{x0:Qr}{r:Zr×Zr}(h:dZ x0=some r):Pure af 127 [.agg (eQ x0)] (.Ce [.agg (eZ r.1),.agg (eZ r.2)]):=by
 obtain⟨⟨bk,bn⟩,⟨bt,bB⟩⟩:=x0
 refine bj Tryz.func127 Y (ae Y) (λdw M vs hvs=>?_)
 unfold dZ at h
 refine sr<|bx Y<|al (cs:=[ay false,au]) (by exact⟨aq,aB,ak⟩) Y<|al (cs:=[ay false,au]) (by exact⟨aq,aB,ak⟩) Y<|dn<|qq<|sr<|fa Y Y<|ld Y Y (.k2 Y Y)<|bE h λx6 h6 h=>cl (ik h6) ⟨Y,ak⟩<|dn<|aY<|sr<|lE h λx8 h8 h=>eq _ Y Y (ve (p:=x6) (q:=0) h8) ?_
 refine ag Y<|dn ?_
 cases x8
 refine cF<|sr<|lE (F h) λeD iF h=>eq _ Y Y (ve (p:=x6) (q:=(-1)) iF)<|ag Y<|dn ?_
 cases eD
 refine cF<|bw<|bF.n<|aW.n<|qq<|aZ mixed<|fa Y Y<|ld Y Y (.k2 Y Y)<|fa Y Y<|ld Y Y (.k2 Y Y)<|so Y Y Y<|so Y Y Y ?_
 refine RT.done ⟨by kernel_rfl,?_⟩
 refine aW.n<|bf ?_
 obtain rfl:=O (F h)
 exact RZ (.agg Y Y (.k2 Y Y) Y (.agg Y Y (.k2 Y Y) Y (.nil)))
 refine cT<|qq<|aZ mixed<|fa Y Y<|ld Y Y (.k2 Y Y) ?_
 obtain⟨⟨qu,qw⟩,lq,h⟩:=bS (V h)
 refine cl (DZ lq) ⟨Y,ak⟩<|fa Y Y<|ld Y Y (.k2 Y Y) ?_
 obtain⟨⟨lS,lT⟩,mw,h⟩:=bS h
 refine cl (DZ mw) ⟨Y,ak⟩<|so Y Y Y<|so Y Y Y ?_
 refine RT.done ⟨by kernel_rfl,?_⟩
 refine aW.n<|bf<|bF.r<|aW.r ?_
 obtain rfl:=O h
 exact RZ (.agg Y Y (.k2 Y Y) Y (.agg Y Y (.k2 Y Y) Y (.nil)))
 refine cT<|qq<|aZ mixed<|fa Y Y<|ld Y Y (.k2 Y Y) ?_
 obtain⟨⟨xF,xG⟩,lp,h⟩:=bS (V h)
 refine cl (C3 lp) ⟨Y,ak⟩<|so Y Y Y<|so Y Y Y ?_
 refine RT.done ⟨by kernel_rfl,?_⟩
 refine aW.n<|bf<|bF.r<|aW.r ?_
 obtain rfl:=O h
 exact RZ (.agg Y Y (.k2 Y Y) Y (.agg Y Y (.k2 Y Y) Y (.nil)))
theorem oa{x0:Zr}{x1:Zr}(N:Nat){r:Qr}(h:iq x0 x1=some r):dK af 140 N [.agg (eZ x0),.agg (eZ x1)] (.agg ((fQ N) r)):=by
 obtain⟨bk,bn⟩:=x0
 obtain⟨cu,cm⟩:=x1
 refine bU Tryz.func140 Y (ae Y) (λdw M vs hN hvs=>?_)
 unfold iq at h
 refine sr<|bx Y<|bx Y<|al (cs:=[ay false,nw N au,ay false,nw N au]) (by exact⟨aq,bu,aq,bu,ak⟩) Y<|dn<|qq<|sr<|ld Y Y (.k2 Y Y)<|bE h λx9 h9 h=>cl (ik h9) ⟨Y,ak⟩<|lE h λdI gC h=>ls _ Y Y gC<|dn ?_
 refine bJ h (λj2=>AS.cj 46 [(2,.ptr 2 0),(3,.ptr 3 0),(4,.ptr 4 0)] [(4,⟨43,[ai false,.sv (nw N au),ai false,.sv (nw N au)]⟩),(3,⟨41,[ai j2.1,.sv (slc 1 (List.map bh j2.2.1))]⟩),(2,⟨41,[ai j2.2.2.1,.sv (slc 1 (List.map bh j2.2.2.2))]⟩)] []) (λh=>?_) (λj2 h=>?_)
 cases dI
 exact fs<|⟨(cu,cm,bk,bn),(F h),wR []⟩
 refine cT<|aZ mixed<|ld Y Y (.k2 Y Y) ?_
 obtain⟨⟨jh,iX⟩,fC,h⟩:=bS (V h)
 refine RT.bZ .none (vG N fC) hN Y ⟨Y,ak⟩ T<|ld Y Y (.k2 Y Y) ?_
 obtain⟨⟨xH,xI⟩,jx,h⟩:=bS h
 refine RT.bZ .none (vG N jx) hN Y ⟨Y,ak⟩ T<|so Y Y Y<|so Y Y Y ?_
 refine RT.done ⟨by kernel_rfl,?_⟩
 exact aW.n<|⟨(xH,xI,jh,iX),h,cD id Y Y Y Y Y ⟨.ptr,.ptr,.ptr,ak⟩ ⟨⟨_,Y,⟨.sv aq,.sv aq,.sv aq,.sv aq,ak⟩⟩,⟨_,Y,⟨.sv aq,.sv fN,ak⟩⟩,⟨_,Y,⟨.sv aq,.sv fN,ak⟩⟩,ak⟩ trivial (λ_ _=>Y)⟩
 obtain⟨Rm,Rn,Ro,Rp⟩:=j2
 try dsimp only
 refine aW.n<|sr<|ld Y Y (.k2 Y Y)<|ld Y Y (.k2 Y Y) ?_
 obtain⟨⟨q9,rf⟩,jO,h⟩:=bS h
 refine RT.bZ .none (MG N jO) hN Y ⟨Y,Y,ak⟩ T<|al (cs:=[ay false,nw N au]) (by exact⟨aq,bu,ak⟩) Y<|so Y Y Y<|dn<|sr<|ld Y Y (.k2 Y Y)<|ld Y Y (.k2 Y Y) ?_
 obtain⟨⟨⟨Iq,Ir⟩,⟨afp,afq⟩,anE⟩,ke,h⟩:=bS h
 refine RT.bZ .none ((Ae N ke).w (args':=[_,_]) ⟨aq,(SV.fT (show cg [ay q9,nw N (slc 1 (List.map bh rf))] _ from⟨aq,fN,ak⟩)),ak⟩) hN Y ⟨Y,Y,ak⟩ T<|mv Y<|ex Y Y<|ex Y Y<|ex Y Y<|so Y Y Y<|dn<|sr<|ld Y Y (.k2 Y Y)<|ld Y Y (.k2 Y Y) ?_
 obtain⟨⟨⟨Fq,Fs⟩,⟨afr,afs⟩,anF⟩,uO,h⟩:=bS h
 refine RT.bZ .none ((Ae N uO).w (args':=[_,_]) ⟨aq,(SV.fT (show cg [ay q9,nw N (slc 1 (List.map bh rf))] _ from⟨aq,fN,ak⟩)),ak⟩) hN Y ⟨Y,Y,ak⟩ T<|mv Y<|ex Y Y<|ex Y Y<|ex Y Y<|so Y Y Y<|dn<|qq<|sr<|ld Y Y (.k2 Y Y) ?_
 obtain⟨⟨afu,afv⟩,xu,h⟩:=bS h
 refine cl ((jP xu).w (args':=[_]) ⟨(SV.fT (show cg [ay Fq,nw N (slc 1 (List.map bh Fs))] _ from⟨aq,fN,ak⟩)),ak⟩) ⟨Y,ak⟩<|mv Y<|ex Y Y<|ex Y Y<|ag Y<|ag Y<|dn<|qq ?_
 refine bJ h (λj5=>AS.cj 46 [(2,.ptr 2 0),(3,.ptr 3 0),(4,.ptr 4 0),(41,ai j5)] [(4,⟨43,[ai false,.sv (nw N au),ai false,.sv (nw N au)]⟩),(3,⟨41,[ai Fq,.sv (nw N (slc 1 (List.map bh Fs)))]⟩),(2,⟨41,[ai Iq,.sv (nw N (slc 1 (List.map bh Ir)))]⟩)] []) (λh=>?_) (λWB h=>?_)
 refine aX<|mv Y<|mv Y<|bE h λacq WM h=>?_
 cases afv
 obtain rfl:=O (F WM)
 exact ww<|ww<|pF Y<|dn<|⟨false,h,wR []⟩
 refine gm Y<|lE (V WM) λnj vm WM=>Uk _ Y Y (ve (p:=afu) (q:=1) vm) ?_
 obtain rfl:=O WM
 exact pT Y<|dn<|⟨nj,h,wR []⟩
 try dsimp only
 refine aW.n ?_
 refine bJ h (λj7=>AS.cj 46 [(2,.ptr 2 0),(3,.ptr 3 0),(4,.ptr 4 0)] [(4,⟨43,[ai false,.sv (nw N au),ai false,.sv (nw N au)]⟩),(3,⟨41,[ai j7.1,.sv (nw N (slc 1 (List.map bh j7.2)))]⟩),(2,⟨41,[ai Iq,.sv (nw N (slc 1 (List.map bh Ir)))]⟩)] []) (λh=>?_) (λj7 h=>?_)
 cases WB
 exact fs<|⟨(Fq,Fs),(F h),wR []⟩
 exact cT<|aX<|bI (cs:=[_,_]) (cs':=[ay false,nw N au]) (.nil) ⟨aq,bu,ak⟩<|so Y Y Y<|dn<|⟨(false,[]),(V h),wR []⟩
 obtain⟨Rr,Ru⟩:=j7
 try dsimp only
 refine aW.n<|sr<|ld Y Y (.k2 Y Y)<|ld Y Y (.k2 Y Y)<|bI (cs:=[_,_,_,_]) (cs':=[ay Iq,nw N (slc 1 (List.map bh Ir)),ay Rr,nw N (slc 1 (List.map bh Ru))]) (.agg Y (.agg Y (.nil))) ⟨aq,aq,aq,aq,ak⟩<|so Y Y Y<|dn<|bf ?_
 obtain rfl:=O h
 exact RZ (.agg Y Y (.k4 Y Y Y Y) Y (.nil))
theorem iu{x0:Qr}{r:Int×Int×Bool}(h:fk x0=some r):Pure af 134 [.agg (eQ x0)] (.Ce [ax r.1,ax r.2.1,ay r.2.2]):=by
 obtain⟨⟨bk,bn⟩,⟨bt,bB⟩⟩:=x0
 refine bj Tryz.func134 Y (ae Y) (λdw M vs hvs=>?_)
 unfold fk at h
 refine sr<|bx Y<|ag Y<|ag Y<|ag Y<|dn<|sr<|fa Y Y<|ld Y Y (.k2 Y Y) ?_
 obtain⟨⟨MH,aav⟩,gC,h⟩:=bS h
 refine cl (jP gC) ⟨Y,ak⟩<|mv Y<|ex Y Y<|ex Y Y<|ag Y<|ag Y<|dn<|sr<|fa Y Y<|ld Y Y (.k2 Y Y) ?_
 obtain⟨⟨Kp,ajh⟩,lq,h⟩:=bS h
 refine cl (jP lq) ⟨Y,ak⟩<|mv Y<|ex Y Y<|ex Y Y<|ag Y<|ag Y<|dn<|qq<|qq ?_
 refine bJ h (λj21=>AS.cj 53 [(2,ah MH),(3,ah Kp),(40,ai j21)] [] []) (λh=>?_) (λRv h=>?_)
 refine aX<|mv Y<|lE h λij oG h=>nt Y _ oG<|mv Y<|bE h λWE yM h=>?_
 cases ij
 refine gm Y<|lE (F yM) λjg qP yM=>Q2 Y _ qP ?_
 obtain rfl:=O yM
 refine pF Y<|mv Y<|bE h λanH r6 h=>?_
 cases jg
 refine gm Y<|lE (F r6) λiO pN r6=>RT.leq (.some Y Y) _ Y Y T pN ?_
 obtain rfl:=O r6
 refine pF Y<|mv Y<|bE h λanI C5 h=>?_
 cases iO
 refine gm Y<|lE (F C5) λnU yz C5=>RT.geq (.some Y Y) _ Y Y T yz ?_
 obtain rfl:=O C5
 refine pF Y<|mv Y<|bE h λanJ kY h=>?_
 cases nU
 refine gm Y<|lE (F kY) λku vE kY=>RT.leq (.some Y Y) _ Y Y T vE ?_
 obtain rfl:=O kY
 refine pF Y<|mv Y<|bE h λanK oc h=>?_
 cases ku
 refine gm Y<|lE (F oc) λvY DX oc=>RT.geq (.some Y Y) _ Y Y T DX ?_
 obtain rfl:=O oc
 exact pF Y<|dn<|⟨vY,h,wR []⟩
 obtain rfl:=O (V oc)
 exact ww<|ww<|pT Y<|dn<|⟨true,h,wR []⟩
 obtain rfl:=O (V kY)
 refine ww<|ww<|pT Y<|mv Y<|bE h λanL yN h=>?_
 obtain rfl:=O (V yN)
 exact ww<|ww<|pT Y<|dn<|⟨true,h,wR []⟩
 obtain rfl:=O (V C5)
 refine ww<|ww<|pT Y<|mv Y<|bE h λanM D0 h=>?_
 obtain rfl:=O (V D0)
 refine ww<|ww<|pT Y<|mv Y<|bE h λafC D1 h=>?_
 obtain rfl:=O (V D1)
 exact ww<|ww<|pT Y<|dn<|⟨true,h,wR []⟩
 obtain rfl:=O (V r6)
 refine ww<|ww<|pT Y<|mv Y<|bE h λanN WN h=>?_
 obtain rfl:=O (V WN)
 refine ww<|ww<|pT Y<|mv Y<|bE h λanO MJ h=>?_
 obtain rfl:=O (V MJ)
 refine ww<|ww<|pT Y<|mv Y<|bE h λafD Kr h=>?_
 obtain rfl:=O (V Kr)
 exact ww<|ww<|pT Y<|dn<|⟨true,h,wR []⟩
 obtain rfl:=O (V yM)
 refine ww<|ww<|pT Y<|mv Y<|bE h λanP afE h=>?_
 obtain rfl:=O (V afE)
 refine ww<|ww<|pT Y<|mv Y<|bE h λWO Ks h=>?_
 obtain rfl:=O (V Ks)
 refine ww<|ww<|pT Y<|mv Y<|bE h λanQ Kt h=>?_
 obtain rfl:=O (V Kt)
 refine ww<|ww<|pT Y<|mv Y<|bE h λanR anS h=>?_
 obtain rfl:=O (V anS)
 exact ww<|ww<|pT Y<|dn<|⟨true,h,wR []⟩
 try dsimp only
 refine aW.n ?_
 cases Rv
 refine fs<|qq<|aY<|sr<|mv Y<|lE (F h) λvf EX h=>eq _ Y Y (ve (p:=Kp) (q:=0) EX)<|ag Y<|dn ?_
 refine bJ h (λj24=>AS.cj 53 [(2,ah j24.1),(3,ah j24.2)] [] []) (λh=>?_) (λj24 h=>?_)
 cases vf
 refine cF<|sr<|mv Y<|lE (F h) λvg h46 h=>ls _ Y Y h46<|ag Y<|dn ?_
 refine bJ h (λj26=>AS.cj 53 [(2,ah j26.1),(3,ah j26.2)] [] []) (λh=>?_) (λj26 h=>?_)
 cases vg
 exact fs<|⟨(MH,Kp),(F h),wR []⟩
 exact cT<|aX<|mv Y<|lE (V h) λr9 h48 h=>RT.neg .none _ Y T h48<|mv Y<|lE h λAB Kn h=>RT.neg .none _ Y T Kn<|ag Y<|ag Y<|dn<|⟨(r9,AB),h,wR []⟩
 obtain⟨WC,WD⟩:=j26
 try dsimp only
 exact aW.n<|⟨(WC,WD),h,wR []⟩
 exact cT<|aX<|ag Y<|dn<|⟨(MH,1),(V h),wR []⟩
 obtain⟨OP,acs⟩:=j24
 try dsimp only
 refine bF.n<|aW.n<|sr<|mv Y<|mv Y<|ag Y<|ag Y<|ag Y<|dn<|bf ?_
 obtain rfl:=O h
 exact RZ (.tmp Y (.tmp Y (.tmp Y (.nil))))
 refine cT<|sr<|ag Y<|ag Y<|ag Y<|dn<|bf<|aW.r ?_
 obtain rfl:=O (V h)
 exact RZ (.tmp Y (.tmp Y (.tmp Y (.nil))))
theorem pz{x0:Int}{x1:Int}(N:Nat){r:Qr}(h:ir x0 x1=some r):dK af 135 N [ax x0,ax x1] (.agg ((fQ N) r)):=by
 refine bU Tryz.func135 Y (ae Y) (λdw M vs hN hvs=>?_)
 unfold ir at h
 refine sr<|al (cs:=[ay false,nw N au,ay false,nw N au]) (by exact⟨aq,bu,aq,bu,ak⟩) Y<|dn<|sr<|mv Y<|mv Y<|ag Y<|ag Y<|dn<|qq<|bE h λe6 vA jo=>?_
 refine bK (λ(wE:Int)=>AS.cj 36 [(0,ah x0),(1,ah x1),(4,.ptr 4 0),(5,ah wE)] [(4,⟨43,[ai false,.sv (nw N au),ai false,.sv (nw N au)]⟩)] []) (λwE=>wE=e6) ?_ (λwE vB=>?_)
 refine aY ?_
 refine bL vA (λs6=>AS.cj 36 [(0,ah x0),(1,ah x1),(4,.ptr 4 0),(5,ah s6.1),(6,ah s6.2)] [(4,⟨43,[ai false,.sv (nw N au),ai false,.sv (nw N au)]⟩)] []) (wR []) (λs6 y6 G6 h vC qy=>?_)
 obtain⟨iD,mz⟩:=s6
 try dsimp only
 refine qq<|sr<|mv Y<|lE h λdI gC h=>ne _ Y Y (JY (p:=mz) (q:=0) gC)<|dn ?_
 cases dI
 refine cF<|bN<|aW.x<|aW.x<|bF.x<|aW.n ?_
 obtain rfl:=O (F h)
 exact⟨iD,qy _ Y,wR []⟩
 refine cT<|bw<|aW.n<|aY<|aZ mixed<|mv Y<|mv Y<|mv Y<|bE (V h) λei jx h=>RT.rem .none _ Y Y T (aeJ jx) (aeK jx)<|ag Y<|ag Y ?_
 refine RT.done ⟨by kernel_rfl,?_⟩
 refine bF.n ?_
 obtain rfl:=O h
 exact aW.n ⟨(mz,ei),vC _ Y,wR []⟩
 subst vB
 try dsimp only
 refine aW.n<|qq<|sr<|mv Y<|lE jo λfB lq jo=>ls _ Y Y lq<|dn ?_
 refine bJ jo (λj8=>AS.cj 36 [(0,ah x0),(1,ah x1),(4,.ptr 4 0),(5,ah j8)] [(4,⟨43,[ai false,.sv (nw N au),ai false,.sv (nw N au)]⟩)] []) (λjo=>?_) (λUy jo=>?_)
 cases fB
 exact fs<|⟨wE,(F jo),wR []⟩
 exact cT<|aX<|mv Y<|lE (V jo) λeX jK jo=>RT.neg .none _ Y T jK<|ag Y<|dn<|⟨eX,jo,wR []⟩
 try dsimp only
 refine aW.n<|qq<|sr<|mv Y<|mv Y<|lE jo λfL ke jo=>eq _ Y Y (ve (p:=Uy) (q:=x1) ke)<|dn ?_
 cases fL
 refine fs<|qq<|aZ mixed<|mv Y<|mv Y<|bE (F jo) λgI mZ jo=>RT.quo .none _ Y Y T (nzI mZ) (V6 mZ) ?_
 obtain⟨⟨sn,sq⟩,vD,jo⟩:=bS jo
 refine RT.bZ .none (fY N vD) hN Y ⟨Y,ak⟩ T<|mv Y<|mv Y<|bE jo λoD xp jo=>RT.quo .none _ Y Y T (nzI xp) (V6 xp) ?_
 obtain⟨⟨qA,qB⟩,xu,jo⟩:=bS jo
 refine RT.bZ .none (fY N xu) hN Y ⟨Y,ak⟩ T<|bI (cs:=[_,_,_,_]) (cs':=[ay sn,nw N (slc 1 (List.map bh sq)),ay qA,nw N (slc 1 (List.map bh qB))]) (.agg Y (.agg Y (.nil))) ⟨aq,aq,aq,aq,ak⟩<|so Y Y Y ?_
 refine RT.done ⟨by kernel_rfl,?_⟩
 refine aW.n<|bf ?_
 obtain rfl:=O jo
 exact RZ (.agg Y Y (.k4 Y Y Y Y) Y (.nil))
 refine cT<|sr<|mv Y<|mv Y<|bE (V jo) λgX oY jo=>RT.quo .none _ Y Y T (nzI oY) (V6 oY) ?_
 obtain⟨⟨nF,m8⟩,nO,jo⟩:=bS jo
 refine RT.bZ .none (fY N nO) hN Y ⟨Y,ak⟩ T<|bI (cs:=[_,_,_,_]) (cs':=[ay nF,nw N (slc 1 (List.map bh m8)),ay false,nw N au]) (.agg Y (.nil)) ⟨aq,aq,aq,bu,ak⟩<|so Y Y Y<|dn<|bf<|aW.r ?_
 obtain rfl:=O jo
 exact RZ (.agg Y Y (.k4 Y Y Y Y) Y (.nil))
theorem Ku{x0:Int}{x1:Int}{r:Qr}(h:ir x0 x1=some r):Pure af 135 [ax x0,ax x1] (.agg (eQ r)):=eT (λN=>pz N h) (λN=>(SV.fT (qI _ _)))
theorem MK{x0:Int}{r:Int}(h:xJ x0=some r):Pure af 128 [ax x0] (ax r):=by
 refine bj Tryz.func128 Y (ae Y) (λdw M vs hvs=>?_)
 unfold xJ at h
 refine sr<|ag Y<|dn<|qq<|aY<|sr<|mv Y<|lE h λx5 h5 h=>ls _ Y Y h5<|ag Y<|dn ?_
 cases x5
 refine cF<|sr<|mv Y<|lE (F h) λx8 h8 h=>gt _ Y Y h8<|ag Y<|dn ?_
 cases x8
 refine cF<|bw<|bF.n<|aW.n<|sr<|ag Y<|dn<|bf ?_
 obtain rfl:=O (F h)
 exact R1 Y
 refine cT<|sr<|ag Y<|dn<|bf<|bF.r<|aW.r ?_
 obtain rfl:=O (V h)
 exact R1 Y
 refine cT<|sr<|ag Y<|dn<|bf<|bF.r<|aW.r ?_
 obtain rfl:=O (V h)
 exact R1 Y
theorem GN{x1:Qr}{x2:Qr}(N:Nat){r:Qr}(h:nY x1 x2=some r):dK af 136 N [.v (.int .u8 ((43:Nat):Int)),.agg (eQ x1),.agg (eQ x2)] (.agg ((fQ N) r)):=by
 obtain⟨⟨cu,cm⟩,⟨eE,eG⟩⟩:=x1
 obtain⟨⟨wC,wD⟩,⟨Is,It⟩⟩:=x2
 refine bU Tryz.func136 Y (ae Y) (λdw M vs hN hvs=>?_)
 unfold nY at h
 refine sr<|bx Y<|bx Y<|al (cs:=[ay false,nw N au,ay false,nw N au]) (by exact⟨aq,bu,aq,bu,ak⟩) Y<|dn<|sr<|ld Y Y (.k4 Y Y Y Y) ?_
 obtain⟨⟨⟨o6,o7⟩,⟨pX,pY⟩⟩,iF,h⟩:=bS h
 refine cl (fO iF) ⟨Y,ak⟩<|mv Y<|ex Y Y<|ex Y Y<|al (cs:=[ay false,nw N au]) (by exact⟨aq,bu,ak⟩) Y<|al (cs:=[ay false,nw N au]) (by exact⟨aq,bu,ak⟩) Y<|so Y Y Y<|so Y Y Y<|dn<|sr<|ld Y Y (.k4 Y Y Y Y) ?_
 obtain⟨⟨⟨kg,kj⟩,⟨nZ,n7⟩⟩,jK,h⟩:=bS h
 refine cl (fO jK) ⟨Y,ak⟩<|mv Y<|ex Y Y<|ex Y Y<|al (cs:=[ay false,nw N au]) (by exact⟨aq,bu,ak⟩) Y<|al (cs:=[ay false,nw N au]) (by exact⟨aq,bu,ak⟩) Y<|so Y Y Y<|so Y Y Y<|dn<|qq<|aZ mixed<|cl mN trivial<|mv Y ?_
 refine RT.look .none [.func (.func 187) #[] #[]] Y Y Y T<|fl Y Y<|ld Y Y (.k2 Y Y)<|ld Y Y (.k2 Y Y)<|ld Y Y (.k2 Y Y)<|ld Y Y (.k2 Y Y) ?_
 obtain⟨⟨⟨pZ,qa⟩,⟨qb,qc⟩⟩,mZ,h⟩:=bS h
 refine RT.bZ .none (Bc N mZ) hN Y ⟨Y,Y,Y,Y,ak⟩ T<|ex Y Y<|ex Y Y ?_
 obtain⟨⟨⟨yG,xC⟩,⟨A8,A9⟩⟩,pW,h⟩:=bS h
 refine RT.bZ .none ((oa N pW).w (args':=[_,_]) ⟨(SV.fT (show cg [ay pZ,nw N (slc 1 (List.map bh qa))] _ from⟨aq,fN,ak⟩)),(SV.fT (show cg [ay qb,nw N (slc 1 (List.map bh qc))] _ from⟨aq,fN,ak⟩)),ak⟩) hN Y ⟨Y,Y,ak⟩ T<|so Y Y Y ?_
 refine RT.done ⟨by kernel_rfl,?_⟩
 refine aW.n<|bf ?_
 obtain rfl:=O h
 exact RZ (.agg Y Y (.k4 Y Y Y Y) Y (.nil))
theorem GO{x1:Qr}{x2:Qr}(N:Nat){r:Qr}(h:n8 x1 x2=some r):dK af 136 N [.v (.int .u8 ((45:Nat):Int)),.agg (eQ x1),.agg (eQ x2)] (.agg ((fQ N) r)):=by
 obtain⟨⟨cu,cm⟩,⟨eE,eG⟩⟩:=x1
 obtain⟨⟨wC,wD⟩,⟨Is,It⟩⟩:=x2
 refine bU Tryz.func136 Y (ae Y) (λdw M vs hN hvs=>?_)
 unfold n8 at h
 refine sr<|bx Y<|bx Y<|al (cs:=[ay false,nw N au,ay false,nw N au]) (by exact⟨aq,bu,aq,bu,ak⟩) Y<|dn<|sr<|ld Y Y (.k4 Y Y Y Y) ?_
 obtain⟨⟨⟨o6,o7⟩,⟨pX,pY⟩⟩,iF,h⟩:=bS h
 refine cl (fO iF) ⟨Y,ak⟩<|mv Y<|ex Y Y<|ex Y Y<|al (cs:=[ay false,nw N au]) (by exact⟨aq,bu,ak⟩) Y<|al (cs:=[ay false,nw N au]) (by exact⟨aq,bu,ak⟩) Y<|so Y Y Y<|so Y Y Y<|dn<|sr<|ld Y Y (.k4 Y Y Y Y) ?_
 obtain⟨⟨⟨kg,kj⟩,⟨nZ,n7⟩⟩,jK,h⟩:=bS h
 refine cl (fO jK) ⟨Y,ak⟩<|mv Y<|ex Y Y<|ex Y Y<|al (cs:=[ay false,nw N au]) (by exact⟨aq,bu,ak⟩) Y<|al (cs:=[ay false,nw N au]) (by exact⟨aq,bu,ak⟩) Y<|so Y Y Y<|so Y Y Y<|dn<|qq<|aZ mixed<|cl mN trivial<|mv Y ?_
 refine RT.look .none [.func (.func 189) #[] #[]] Y Y Y T<|fl Y Y<|ld Y Y (.k2 Y Y)<|ld Y Y (.k2 Y Y)<|ld Y Y (.k2 Y Y)<|ld Y Y (.k2 Y Y) ?_
 obtain⟨⟨⟨pZ,qa⟩,⟨qb,qc⟩⟩,mZ,h⟩:=bS h
 refine RT.bZ .none (Bd N mZ) hN Y ⟨Y,Y,Y,Y,ak⟩ T<|ex Y Y<|ex Y Y ?_
 obtain⟨⟨⟨yG,xC⟩,⟨A8,A9⟩⟩,pW,h⟩:=bS h
 refine RT.bZ .none ((oa N pW).w (args':=[_,_]) ⟨(SV.fT (show cg [ay pZ,nw N (slc 1 (List.map bh qa))] _ from⟨aq,fN,ak⟩)),(SV.fT (show cg [ay qb,nw N (slc 1 (List.map bh qc))] _ from⟨aq,fN,ak⟩)),ak⟩) hN Y ⟨Y,Y,ak⟩ T<|so Y Y Y ?_
 refine RT.done ⟨by kernel_rfl,?_⟩
 refine aW.n<|bf ?_
 obtain rfl:=O h
 exact RZ (.agg Y Y (.k4 Y Y Y Y) Y (.nil))
theorem GP{x1:Qr}{x2:Qr}(N:Nat){r:Qr}(h:n9 x1 x2=some r):dK af 136 N [.v (.int .u8 ((42:Nat):Int)),.agg (eQ x1),.agg (eQ x2)] (.agg ((fQ N) r)):=by
 obtain⟨⟨cu,cm⟩,⟨eE,eG⟩⟩:=x1
 obtain⟨⟨wC,wD⟩,⟨Is,It⟩⟩:=x2
 refine bU Tryz.func136 Y (ae Y) (λdw M vs hN hvs=>?_)
 unfold n9 at h
 refine sr<|bx Y<|bx Y<|al (cs:=[ay false,nw N au,ay false,nw N au]) (by exact⟨aq,bu,aq,bu,ak⟩) Y<|dn<|sr<|ld Y Y (.k4 Y Y Y Y) ?_
 obtain⟨⟨⟨o6,o7⟩,⟨pX,pY⟩⟩,iF,h⟩:=bS h
 refine cl (fO iF) ⟨Y,ak⟩<|mv Y<|ex Y Y<|ex Y Y<|al (cs:=[ay false,nw N au]) (by exact⟨aq,bu,ak⟩) Y<|al (cs:=[ay false,nw N au]) (by exact⟨aq,bu,ak⟩) Y<|so Y Y Y<|so Y Y Y<|dn<|sr<|ld Y Y (.k4 Y Y Y Y) ?_
 obtain⟨⟨⟨kg,kj⟩,⟨nZ,n7⟩⟩,jK,h⟩:=bS h
 refine cl (fO jK) ⟨Y,ak⟩<|mv Y<|ex Y Y<|ex Y Y<|al (cs:=[ay false,nw N au]) (by exact⟨aq,bu,ak⟩) Y<|al (cs:=[ay false,nw N au]) (by exact⟨aq,bu,ak⟩) Y<|so Y Y Y<|so Y Y Y<|dn<|qq<|aZ mixed<|cl mN trivial<|mv Y ?_
 refine RT.look .none [.func (.func 191) #[] #[]] Y Y Y T<|fl Y Y<|ld Y Y (.k2 Y Y)<|ld Y Y (.k2 Y Y)<|ld Y Y (.k2 Y Y)<|ld Y Y (.k2 Y Y) ?_
 obtain⟨⟨⟨pZ,qa⟩,⟨qb,qc⟩⟩,mZ,h⟩:=bS h
 refine RT.bZ .none (Be N mZ) hN Y ⟨Y,Y,Y,Y,ak⟩ T<|ex Y Y<|ex Y Y ?_
 obtain⟨⟨⟨yG,xC⟩,⟨A8,A9⟩⟩,pW,h⟩:=bS h
 refine RT.bZ .none ((oa N pW).w (args':=[_,_]) ⟨(SV.fT (show cg [ay pZ,nw N (slc 1 (List.map bh qa))] _ from⟨aq,fN,ak⟩)),(SV.fT (show cg [ay qb,nw N (slc 1 (List.map bh qc))] _ from⟨aq,fN,ak⟩)),ak⟩) hN Y ⟨Y,Y,ak⟩ T<|so Y Y Y ?_
 refine RT.done ⟨by kernel_rfl,?_⟩
 refine aW.n<|bf ?_
 obtain rfl:=O h
 exact RZ (.agg Y Y (.k4 Y Y Y Y) Y (.nil))
theorem GQ{x1:Qr}{x2:Qr}(N:Nat){r:Qr}(h:lW x1 x2=some r):dK af 136 N [.v (.int .u8 ((47:Nat):Int)),.agg (eQ x1),.agg (eQ x2)] (.agg ((fQ N) r)):=by
 obtain⟨⟨cu,cm⟩,⟨eE,eG⟩⟩:=x1
 obtain⟨⟨wC,wD⟩,⟨Is,It⟩⟩:=x2
 refine bU Tryz.func136 Y (ae Y) (λdw M vs hN hvs=>?_)
 unfold lW at h
 refine sr<|bx Y<|bx Y<|al (cs:=[ay false,nw N au,ay false,nw N au]) (by exact⟨aq,bu,aq,bu,ak⟩) Y<|dn<|sr<|ld Y Y (.k4 Y Y Y Y) ?_
 obtain⟨⟨⟨o6,o7⟩,⟨pX,pY⟩⟩,iF,h⟩:=bS h
 refine cl (fO iF) ⟨Y,ak⟩<|mv Y<|ex Y Y<|ex Y Y<|al (cs:=[ay false,nw N au]) (by exact⟨aq,bu,ak⟩) Y<|al (cs:=[ay false,nw N au]) (by exact⟨aq,bu,ak⟩) Y<|so Y Y Y<|so Y Y Y<|dn<|sr<|ld Y Y (.k4 Y Y Y Y) ?_
 obtain⟨⟨⟨kg,kj⟩,⟨nZ,n7⟩⟩,jK,h⟩:=bS h
 refine cl (fO jK) ⟨Y,ak⟩<|mv Y<|ex Y Y<|ex Y Y<|al (cs:=[ay false,nw N au]) (by exact⟨aq,bu,ak⟩) Y<|al (cs:=[ay false,nw N au]) (by exact⟨aq,bu,ak⟩) Y<|so Y Y Y<|so Y Y Y<|dn<|qq<|aZ mixed<|cl mN trivial<|mv Y ?_
 refine RT.look .none [.func (.func 192) #[] #[]] Y Y Y T<|fl Y Y<|ld Y Y (.k2 Y Y)<|ld Y Y (.k2 Y Y)<|ld Y Y (.k2 Y Y)<|ld Y Y (.k2 Y Y) ?_
 obtain⟨⟨⟨pZ,qa⟩,⟨qb,qc⟩⟩,mZ,h⟩:=bS h
 refine RT.bZ .none (Bf N mZ) hN Y ⟨Y,Y,Y,Y,ak⟩ T<|ex Y Y<|ex Y Y ?_
 obtain⟨⟨⟨yG,xC⟩,⟨A8,A9⟩⟩,pW,h⟩:=bS h
 refine RT.bZ .none ((oa N pW).w (args':=[_,_]) ⟨(SV.fT (show cg [ay pZ,nw N (slc 1 (List.map bh qa))] _ from⟨aq,fN,ak⟩)),(SV.fT (show cg [ay qb,nw N (slc 1 (List.map bh qc))] _ from⟨aq,fN,ak⟩)),ak⟩) hN Y ⟨Y,Y,ak⟩ T<|so Y Y Y ?_
 refine RT.done ⟨by kernel_rfl,?_⟩
 refine aW.n<|bf ?_
 obtain rfl:=O h
 exact RZ (.agg Y Y (.k4 Y Y Y Y) Y (.nil))
theorem GR{x1:Qr}{x2:Qr}{r:Qr}(h:lW x1 x2=some r):Pure af 136 [.v (.int .u8 ((47:Nat):Int)),.agg (eQ x1),.agg (eQ x2)] (.agg (eQ r)):=eT (λN=>GQ N h) (λN=>(SV.fT (qI _ _)))
end
section
open Go.Fw Go.Fw.Z Go.RowKit
theorem D2{x0:Int}(N:Nat){r:Qr}(h:dP x0=some r):dK af 41 N [ax x0] (.agg ((fQ N) r)):=by
 refine bU Tryz.func41 Y (ae Y) (λdw M vs hN hvs=>?_)
 unfold dP at h
 refine sr<|al (cs:=[ay false,nw N au,ay false,nw N au]) (by exact⟨aq,bu,aq,bu,ak⟩) Y<|dn<|sr<|mv Y ?_
 obtain⟨⟨Cj,Ck⟩,h4,h⟩:=bS h
 refine RT.bZ .none (fY N h4) hN Y ⟨Y,ak⟩ T<|bI (cs:=[_,_,_,_]) (cs':=[ay Cj,nw N (slc 1 (List.map bh Ck)),ay false,nw N au]) (.agg Y (.nil)) ⟨aq,aq,aq,bu,ak⟩<|so Y Y Y<|dn<|bf ?_
 obtain rfl:=O h
 exact RZ (.agg Y Y (.k4 Y Y Y Y) Y (.nil))
theorem nG{x0:Int}{r:Qr}(h:dP x0=some r):Pure af 41 [ax x0] (.agg (eQ r)):=eT (λN=>D2 N h) (λN=>(SV.fT (qI _ _)))
theorem nH{x0:Qr}(N:Nat){r:Qr}(h:dQ x0=some r):dK af 93 N [.agg (eQ x0)] (.agg ((fQ N) r)):=by
 obtain⟨⟨bk,bn⟩,⟨bt,bB⟩⟩:=x0
 refine bU Tryz.func93 Y (ae Y) (λdw M vs hN hvs=>?_)
 unfold dQ at h
 refine sr<|bx Y<|al (cs:=[ay false,nw N au,ay false,nw N au]) (by exact⟨aq,bu,aq,bu,ak⟩) Y<|dn<|qq<|sr<|ld Y Y (.k4 Y Y Y Y) ?_
 obtain⟨⟨ZF,ZG,x8c⟩,h8,h⟩:=bS h
 refine cl (iu h8) ⟨Y,ak⟩<|mv Y<|ex Y Y<|ex Y Y<|ex Y Y<|ag Y<|ag Y<|ag Y<|dn<|sr<|mv Y<|dn ?_
 cases x8c
 refine fs<|sr<|ld Y Y (.k4 Y Y Y Y) ?_
 obtain⟨⟨⟨WG,WH⟩,⟨WI,WJ⟩⟩,jO,h⟩:=bS (F h)
 refine cl (fO jO) ⟨Y,ak⟩<|ex Y Y<|ex Y Y ?_
 obtain⟨⟨⟨Af,Ag⟩,⟨Cz,CA⟩⟩,oG,h⟩:=bS h
 refine RT.bZ .none (oa N oG) hN Y ⟨Y,Y,ak⟩ T<|so Y Y Y<|dn<|bf ?_
 obtain rfl:=O h
 exact RZ (.agg Y Y (.k4 Y Y Y Y) Y (.nil))
 refine cT<|sr<|mv Y<|mv Y ?_
 obtain⟨⟨⟨jQ,jR⟩,⟨xK,xL⟩⟩,gD,h⟩:=bS (V h)
 refine RT.bZ .none (pz N gD) hN Y ⟨Y,Y,ak⟩ T<|so Y Y Y<|dn<|bf<|aW.r ?_
 obtain rfl:=O h
 exact RZ (.agg Y Y (.k4 Y Y Y Y) Y (.nil))
theorem xM{x0:Qr}{r:Qr}(h:dQ x0=some r):Pure af 93 [.agg (eQ x0)] (.agg (eQ r)):=eT (λN=>nH N h) (λN=>(SV.fT (qI _ _)))
theorem kz{x0:Qr}{r:Int}(h:fg x0=some r):Pure af 59 [.agg (eQ x0)] (ax r):=by
 obtain⟨⟨bk,bn⟩,⟨bt,bB⟩⟩:=x0
 refine bj Tryz.func59 Y (ae Y) (λdw M vs hvs=>?_)
 unfold fg at h
 refine sr<|bx Y<|ag Y<|dn<|qq<|sr<|fa Y Y<|ld Y Y (.k2 Y Y)<|bE h λx5 h5 h=>cl (ik h5) ⟨Y,ak⟩<|lE h λx6 h6 h=>ls _ Y Y h6<|dn ?_
 cases x6
 refine fs<|sr<|fa Y Y<|ld Y Y (.k2 Y Y)<|bE (F h) λeD iF h=>cl (ik iF) ⟨Y,ak⟩<|ag Y<|dn<|bf ?_
 obtain rfl:=O h
 exact R1 Y
 refine cT<|sr<|fa Y Y<|ld Y Y (.k2 Y Y)<|bE (V h) λx9 h9 h=>cl (ik h9) ⟨Y,ak⟩<|lE h λdI gC h=>RT.neg .none _ Y T gC<|ag Y<|dn<|bf<|aW.r ?_
 obtain rfl:=O h
 exact R1 Y
theorem OW{x0:Qr}{x1:Qr}(N:Nat){r:Qr}(h:wF x0 x1=some r):dK af 132 N [.agg (eQ x0),.agg (eQ x1)] (.agg ((fQ N) r)):=by
 obtain⟨⟨bk,bn⟩,⟨bt,bB⟩⟩:=x0
 obtain⟨⟨cu,cm⟩,⟨eE,eG⟩⟩:=x1
 refine bU Tryz.func132 Y (ae Y) (λdw M vs hN hvs=>?_)
 unfold wF at h
 refine sr<|bx Y<|bx Y<|al (cs:=[ay false,nw N au,ay false,nw N au]) (by exact⟨aq,bu,aq,bu,ak⟩) Y<|dn<|sr<|ld Y Y (.k4 Y Y Y Y) ?_
 obtain⟨⟨Iu,Ft,Iv⟩,iF,h⟩:=bS h
 refine cl (iu iF) ⟨Y,ak⟩<|mv Y<|ex Y Y<|ex Y Y<|ex Y Y<|ag Y<|ag Y<|ag Y<|dn<|sr<|ld Y Y (.k4 Y Y Y Y) ?_
 obtain⟨⟨Iw,Fu,Iy⟩,mw,h⟩:=bS h
 refine cl (iu mw) ⟨Y,ak⟩<|mv Y<|ex Y Y<|ex Y Y<|ex Y Y<|ag Y<|ag Y<|ag Y<|dn<|qq<|qq ?_
 refine bJ h (λj3=>AS.cj 41 [(2,.ptr 2 0),(3,.ptr 3 0),(4,.ptr 4 0),(5,ah Iu),(6,ah Ft),(8,ah Iw),(9,ah Fu),(26,ai j3)] [(4,⟨43,[ai false,.sv (nw N au),ai false,.sv (nw N au)]⟩),(3,⟨43,[ai cu,.sv (slc 1 (List.map bh cm)),ai eE,.sv (slc 1 (List.map bh eG))]⟩),(2,⟨43,[ai bk,.sv (slc 1 (List.map bh bn)),ai bt,.sv (slc 1 (List.map bh bB))]⟩)] []) (λh=>?_) (λBa h=>?_)
 refine aX<|mv Y<|mv Y<|bE h λGf rW h=>?_
 cases Iv
 obtain rfl:=O (F rW)
 exact ww<|pF Y<|dn<|⟨false,h,wR []⟩
 refine gm Y ?_
 obtain rfl:=O (V rW)
 exact pT Y<|dn<|⟨Iy,h,wR []⟩
 try dsimp only
 refine aW.n ?_
 cases Ba
 refine fs<|sr<|ld Y Y (.k4 Y Y Y Y)<|ld Y Y (.k4 Y Y Y Y) ?_
 obtain⟨⟨⟨vh,vi⟩,⟨yK,yL⟩⟩,vm,h⟩:=bS (F h)
 refine RT.bZ .none (GN N vm) hN Y ⟨Y,Y,Y,ak⟩ T<|so Y Y Y<|dn<|bf ?_
 obtain rfl:=O h
 exact RZ (.agg Y Y (.k4 Y Y Y Y) Y (.nil))
 refine cT<|sr<|mv Y<|mv Y<|lE (V h) λgI mZ h=>RT.mul .none _ Y Y T mZ<|mv Y<|mv Y<|lE h λiP pW h=>RT.mul .none _ Y Y T pW<|lE h λoD xp h=>ad _ Y Y xp<|mv Y<|mv Y<|lE h λpg yJ h=>RT.mul .none _ Y Y T yJ ?_
 obtain⟨⟨⟨OQ,OR⟩,⟨OS,OT⟩⟩,DW,h⟩:=bS h
 refine RT.bZ .none (pz N DW) hN Y ⟨Y,Y,ak⟩ T<|so Y Y Y<|dn<|bf<|aW.r ?_
 obtain rfl:=O h
 exact RZ (.agg Y Y (.k4 Y Y Y Y) Y (.nil))
theorem OX{x0:Qr}{x1:Qr}(N:Nat){r:Qr}(h:wG x0 x1=some r):dK af 94 N [.agg (eQ x0),.agg (eQ x1)] (.agg ((fQ N) r)):=by
 obtain⟨⟨bk,bn⟩,⟨bt,bB⟩⟩:=x0
 obtain⟨⟨cu,cm⟩,⟨eE,eG⟩⟩:=x1
 refine bU Tryz.func94 Y (ae Y) (λdw M vs hN hvs=>?_)
 unfold wG at h
 refine sr<|bx Y<|bx Y<|al (cs:=[ay false,nw N au,ay false,nw N au]) (by exact⟨aq,bu,aq,bu,ak⟩) Y<|dn<|sr<|ld Y Y (.k4 Y Y Y Y) ?_
 obtain⟨⟨Iu,Ft,Iv⟩,iF,h⟩:=bS h
 refine cl (iu iF) ⟨Y,ak⟩<|mv Y<|ex Y Y<|ex Y Y<|ex Y Y<|ag Y<|ag Y<|ag Y<|dn<|sr<|ld Y Y (.k4 Y Y Y Y) ?_
 obtain⟨⟨Iw,Fu,Iy⟩,mw,h⟩:=bS h
 refine cl (iu mw) ⟨Y,ak⟩<|mv Y<|ex Y Y<|ex Y Y<|ex Y Y<|ag Y<|ag Y<|ag Y<|dn<|qq<|qq ?_
 refine bJ h (λj3=>AS.cj 41 [(2,.ptr 2 0),(3,.ptr 3 0),(4,.ptr 4 0),(5,ah Iu),(6,ah Ft),(8,ah Iw),(9,ah Fu),(26,ai j3)] [(4,⟨43,[ai false,.sv (nw N au),ai false,.sv (nw N au)]⟩),(3,⟨43,[ai cu,.sv (slc 1 (List.map bh cm)),ai eE,.sv (slc 1 (List.map bh eG))]⟩),(2,⟨43,[ai bk,.sv (slc 1 (List.map bh bn)),ai bt,.sv (slc 1 (List.map bh bB))]⟩)] []) (λh=>?_) (λBa h=>?_)
 refine aX<|mv Y<|mv Y<|bE h λGf rW h=>?_
 cases Iv
 obtain rfl:=O (F rW)
 exact ww<|pF Y<|dn<|⟨false,h,wR []⟩
 refine gm Y ?_
 obtain rfl:=O (V rW)
 exact pT Y<|dn<|⟨Iy,h,wR []⟩
 try dsimp only
 refine aW.n ?_
 cases Ba
 refine fs<|sr<|ld Y Y (.k4 Y Y Y Y)<|ld Y Y (.k4 Y Y Y Y) ?_
 obtain⟨⟨⟨vh,vi⟩,⟨yK,yL⟩⟩,vm,h⟩:=bS (F h)
 refine RT.bZ .none (GO N vm) hN Y ⟨Y,Y,Y,ak⟩ T<|so Y Y Y<|dn<|bf ?_
 obtain rfl:=O h
 exact RZ (.agg Y Y (.k4 Y Y Y Y) Y (.nil))
 refine cT<|sr<|mv Y<|mv Y<|lE (V h) λgI mZ h=>RT.mul .none _ Y Y T mZ<|mv Y<|mv Y<|lE h λiP pW h=>RT.mul .none _ Y Y T pW<|lE h λoD xp h=>sb _ Y Y xp<|mv Y<|mv Y<|lE h λpg yJ h=>RT.mul .none _ Y Y T yJ ?_
 obtain⟨⟨⟨OQ,OR⟩,⟨OS,OT⟩⟩,DW,h⟩:=bS h
 refine RT.bZ .none (pz N DW) hN Y ⟨Y,Y,ak⟩ T<|so Y Y Y<|dn<|bf<|aW.r ?_
 obtain rfl:=O h
 exact RZ (.agg Y Y (.k4 Y Y Y Y) Y (.nil))
theorem Gg{x0:Qr}{x1:Qr}(N:Nat){r:Qr}(h:sG x0 x1=some r):dK af 89 N [.agg (eQ x0),.agg (eQ x1)] (.agg ((fQ N) r)):=by
 obtain⟨⟨bk,bn⟩,⟨bt,bB⟩⟩:=x0
 obtain⟨⟨cu,cm⟩,⟨eE,eG⟩⟩:=x1
 refine bU Tryz.func89 Y (ae Y) (λdw M vs hN hvs=>?_)
 unfold sG at h
 refine sr<|bx Y<|bx Y<|al (cs:=[ay false,nw N au,ay false,nw N au]) (by exact⟨aq,bu,aq,bu,ak⟩) Y<|dn<|sr<|ld Y Y (.k4 Y Y Y Y) ?_
 obtain⟨⟨Iu,Ft,Iv⟩,iF,h⟩:=bS h
 refine cl (iu iF) ⟨Y,ak⟩<|mv Y<|ex Y Y<|ex Y Y<|ex Y Y<|ag Y<|ag Y<|ag Y<|dn<|sr<|ld Y Y (.k4 Y Y Y Y) ?_
 obtain⟨⟨Iw,Fu,Iy⟩,mw,h⟩:=bS h
 refine cl (iu mw) ⟨Y,ak⟩<|mv Y<|ex Y Y<|ex Y Y<|ex Y Y<|ag Y<|ag Y<|ag Y<|dn<|qq<|qq ?_
 refine bJ h (λj3=>AS.cj 37 [(2,.ptr 2 0),(3,.ptr 3 0),(4,.ptr 4 0),(5,ah Iu),(6,ah Ft),(8,ah Iw),(9,ah Fu),(26,ai j3)] [(4,⟨43,[ai false,.sv (nw N au),ai false,.sv (nw N au)]⟩),(3,⟨43,[ai cu,.sv (slc 1 (List.map bh cm)),ai eE,.sv (slc 1 (List.map bh eG))]⟩),(2,⟨43,[ai bk,.sv (slc 1 (List.map bh bn)),ai bt,.sv (slc 1 (List.map bh bB))]⟩)] []) (λh=>?_) (λBa h=>?_)
 refine aX<|mv Y<|mv Y<|bE h λGf rW h=>?_
 cases Iv
 obtain rfl:=O (F rW)
 exact ww<|pF Y<|dn<|⟨false,h,wR []⟩
 refine gm Y ?_
 obtain rfl:=O (V rW)
 exact pT Y<|dn<|⟨Iy,h,wR []⟩
 try dsimp only
 refine aW.n ?_
 cases Ba
 refine fs<|sr<|ld Y Y (.k4 Y Y Y Y)<|ld Y Y (.k4 Y Y Y Y) ?_
 obtain⟨⟨⟨Ga,Gb⟩,⟨acw,acy⟩⟩,yJ,h⟩:=bS (F h)
 refine RT.bZ .none (GP N yJ) hN Y ⟨Y,Y,Y,ak⟩ T<|so Y Y Y<|dn<|bf ?_
 obtain rfl:=O h
 exact RZ (.agg Y Y (.k4 Y Y Y Y) Y (.nil))
 refine cT<|sr<|mv Y<|mv Y<|lE (V h) λgI mZ h=>RT.mul .none _ Y Y T mZ<|mv Y<|mv Y<|lE h λiP pW h=>RT.mul .none _ Y Y T pW ?_
 obtain⟨⟨⟨CB,CC⟩,⟨Iz,IA⟩⟩,xp,h⟩:=bS h
 refine RT.bZ .none (pz N xp) hN Y ⟨Y,Y,ak⟩ T<|so Y Y Y<|dn<|bf<|aW.r ?_
 obtain rfl:=O h
 exact RZ (.agg Y Y (.k4 Y Y Y Y) Y (.nil))
theorem OY{x0:Qr}{x1:Qr}{r:Qr×Int}(h:wH x0 x1=some r):Pure af 105 [.agg (eQ x0),.agg (eQ x1)] (.Ce [.agg (eQ r.1),ax r.2]):=by
 obtain⟨⟨bk,bn⟩,⟨bt,bB⟩⟩:=x0
 obtain⟨⟨cu,cm⟩,⟨eE,eG⟩⟩:=x1
 refine bj Tryz.func105 Y (ae Y) (λdw M vs hvs=>?_)
 unfold wH at h
 refine sr<|bx Y<|bx Y<|al (cs:=[ay false,au,ay false,au]) (by exact⟨aq,aB,aq,aB,ak⟩) Y<|ag Y<|dn<|qq<|sr<|ld Y Y (.k4 Y Y Y Y)<|bE h λeD iF h=>cl (kz iF) ⟨Y,ak⟩<|lE h λei jx h=>eq _ Y Y (ve (p:=eD) (q:=0) jx)<|RT.done ?_
 refine aW.n ?_
 cases ei
 refine fs<|sr<|ld Y Y (.k4 Y Y Y Y) ?_
 obtain⟨⟨Kq,MI,WK⟩,jK,h⟩:=bS (F h)
 refine cl (iu jK) ⟨Y,ak⟩<|mv Y<|ex Y Y<|ex Y Y<|ex Y Y<|ag Y<|ag Y<|ag Y<|dn<|sr<|ld Y Y (.k4 Y Y Y Y) ?_
 obtain⟨⟨Uz,UA,afA⟩,oY,h⟩:=bS h
 refine cl (iu oY) ⟨Y,ak⟩<|mv Y<|ex Y Y<|ex Y Y<|ex Y Y<|ag Y<|ag Y<|ag Y<|dn<|qq<|qq ?_
 refine bJ h (λj3=>AS.cj 48 [(2,.ptr 2 0),(3,.ptr 3 0),(4,.ptr 4 0),(6,ah Kq),(7,ah MI),(9,ah Uz),(10,ah UA),(31,ai j3)] [(4,⟨43,[ai false,.sv au,ai false,.sv au]⟩),(3,⟨43,[ai cu,.sv (slc 1 (List.map bh cm)),ai eE,.sv (slc 1 (List.map bh eG))]⟩),(2,⟨43,[ai bk,.sv (slc 1 (List.map bh bn)),ai bt,.sv (slc 1 (List.map bh bB))]⟩)] []) (λh=>?_) (λIB h=>?_)
 refine aX<|mv Y<|mv Y<|bE h λacB hg7 h=>?_
 cases WK
 obtain rfl:=O (F hg7)
 exact ww<|pF Y<|dn<|⟨false,h,wR []⟩
 refine gm Y ?_
 obtain rfl:=O (V hg7)
 exact pT Y<|dn<|⟨afA,h,wR []⟩
 try dsimp only
 refine aW.n ?_
 cases IB
 refine fs<|sr<|ld Y Y (.k4 Y Y Y Y)<|ld Y Y (.k4 Y Y Y Y) ?_
 obtain⟨⟨⟨F8,F9⟩,⟨acz,acA⟩⟩,zH,h⟩:=bS (F h)
 refine cl (GR zH) ⟨Y,Y,Y,ak⟩<|so Y Y Y<|ag Y<|dn<|bf ?_
 obtain rfl:=O h
 exact RZ (.agg Y Y (.k4 Y Y Y Y) Y (.tmp Y (.nil)))
 refine cT<|qq<|sr<|mv Y<|lE (V h) λoD xp h=>ls _ Y Y xp<|dn ?_
 refine bJ h (λj6=>AS.cj 48 [(4,.ptr 4 0),(6,ah j6.1),(7,ah MI),(9,ah j6.2),(10,ah UA)] [(4,⟨43,[ai false,.sv au,ai false,.sv au]⟩)] []) (λh=>?_) (λj6 h=>?_)
 cases oD
 exact fs<|⟨(Kq,Uz),(F h),wR []⟩
 exact cT<|aX<|mv Y<|lE (V h) λku vE h=>RT.neg .none _ Y T vE<|mv Y<|lE h λuG DW h=>RT.neg .none _ Y T DW<|ag Y<|ag Y<|dn<|⟨(ku,uG),h,wR []⟩
 obtain⟨aji,ajj⟩:=j6
 try dsimp only
 refine aW.n<|sr<|mv Y<|mv Y<|lE h λnj vm h=>RT.mul .none _ Y Y T vm<|mv Y<|mv Y<|lE h λvf EX h=>RT.mul .none _ Y Y T EX ?_
 obtain⟨⟨⟨Gc,Ge⟩,⟨OU,OV⟩⟩,Az,h⟩:=bS h
 refine cl (Ku Az) ⟨Y,Y,ak⟩<|so Y Y Y<|ag Y<|dn<|bf<|aW.r ?_
 obtain rfl:=O h
 exact RZ (.agg Y Y (.k4 Y Y Y Y) Y (.tmp Y (.nil)))
 refine cT<|sr<|bI (cs:=[_,_,_,_]) (cs':=[ay false,au,ay false,au]) (.nil) ⟨aq,aB,aq,aB,ak⟩<|so Y Y Y<|ag Y<|dn<|bf<|aW.r ?_
 obtain rfl:=O (V h)
 exact RZ (.agg Y Y (.k4 Y Y Y Y) Y (.tmp Y (.nil)))
theorem OZ{x0:Qr}(N:Nat){r:Qr}(h:sH x0=some r):dK af 108 N [.agg (eQ x0)] (.agg ((fQ N) r)):=by
 obtain⟨⟨bk,bn⟩,⟨bt,bB⟩⟩:=x0
 refine bU Tryz.func108 Y (ae Y) (λdw M vs hN hvs=>?_)
 unfold sH at h
 refine sr<|bx Y<|al (cs:=[ay false,nw N au,ay false,nw N au]) (by exact⟨aq,bu,aq,bu,ak⟩) Y<|dn<|sr<|ld Y Y (.k4 Y Y Y Y) ?_
 obtain⟨⟨⟨Bb,C4⟩,⟨Fv,GM⟩⟩,h5,h⟩:=bS h
 refine RT.bZ .none (nH N h5) hN Y ⟨Y,ak⟩ T<|al (cs:=[ay false,nw N au,ay false,nw N au]) (by exact⟨aq,bu,aq,bu,ak⟩) Y<|so Y Y Y<|dn<|qq<|aZ mixed<|fa Y Y<|ld Y Y (.k2 Y Y) ?_
 obtain⟨⟨rZ,r5⟩,h8,h⟩:=bS h
 refine RT.bZ .none ((vG N h8).w (args':=[_]) ⟨(SV.fT (show cg [ay Bb,nw N (slc 1 (List.map bh C4))] _ from⟨aq,fN,ak⟩)),ak⟩) hN Y ⟨Y,ak⟩ T<|fa Y Y<|ld Y Y (.k2 Y Y)<|bI (cs:=[_,_,_,_]) (cs':=[ay rZ,nw N (slc 1 (List.map bh r5)),ay Fv,nw N (slc 1 (List.map bh GM))]) (.agg Y (.agg Y (.nil))) ⟨aq,aq,aq,aq,ak⟩<|so Y Y Y ?_
 refine RT.done ⟨by kernel_rfl,?_⟩
 refine aW.n<|bf ?_
 obtain rfl:=O h
 exact RZ (.agg Y Y (.k4 Y Y Y Y) Y (.nil))
theorem O0{x0:Qr}{r:Qr}(h:sH x0=some r):Pure af 108 [.agg (eQ x0)] (.agg (eQ r)):=eT (λN=>OZ N h) (λN=>(SV.fT (qI _ _)))
theorem O1{x0:Qr}{x1:Qr}{r:Int}(h:wI x0 x1=some r):Pure af 86 [.agg (eQ x0),.agg (eQ x1)] (ax r):=by
 obtain⟨⟨bk,bn⟩,⟨bt,bB⟩⟩:=x0
 obtain⟨⟨cu,cm⟩,⟨eE,eG⟩⟩:=x1
 refine bj Tryz.func86 Y (ae Y) (λdw M vs hvs=>?_)
 unfold wI at h
 refine sr<|bx Y<|bx Y<|ag Y<|dn<|sr<|ld Y Y (.k4 Y Y Y Y) ?_
 obtain⟨⟨⟨o6,o7⟩,⟨pX,pY⟩⟩,iF,h⟩:=bS h
 refine cl (fO iF) ⟨Y,ak⟩<|mv Y<|ex Y Y<|ex Y Y<|al (cs:=[ay false,au]) (by exact⟨aq,aB,ak⟩) Y<|al (cs:=[ay false,au]) (by exact⟨aq,aB,ak⟩) Y<|so Y Y Y<|so Y Y Y<|dn<|sr<|ld Y Y (.k4 Y Y Y Y) ?_
 obtain⟨⟨⟨kg,kj⟩,⟨nZ,n7⟩⟩,jK,h⟩:=bS h
 refine cl (fO jK) ⟨Y,ak⟩<|mv Y<|ex Y Y<|ex Y Y<|al (cs:=[ay false,au]) (by exact⟨aq,aB,ak⟩) Y<|al (cs:=[ay false,au]) (by exact⟨aq,aB,ak⟩) Y<|so Y Y Y<|so Y Y Y<|dn<|qq<|qq<|aZ mixed<|ld Y Y (.k2 Y Y)<|bE h λiA oH h=>?_
 refine cl (ik oH) ⟨Y,ak⟩<|ld Y Y (.k2 Y Y)<|bE h λgX oY h=>cl (ik oY) ⟨Y,ak⟩<|ag Y<|ag Y ?_
 refine RT.done ⟨by kernel_rfl,?_⟩
 refine aW.n<|qq ?_
 refine bJ h (λj3=>AS.cj 43 [(5,.ptr 5 0),(6,.ptr 6 0),(7,.ptr 7 0),(8,.ptr 8 0),(9,ah iA),(10,ah gX),(31,ai j3)] [(8,⟨41,[ai nZ,.sv (slc 1 (List.map bh n7))]⟩),(7,⟨41,[ai kg,.sv (slc 1 (List.map bh kj))]⟩),(6,⟨41,[ai pX,.sv (slc 1 (List.map bh pY))]⟩),(5,⟨41,[ai o6,.sv (slc 1 (List.map bh o7))]⟩)] []) (λh=>?_) (λIB h=>?_)
 refine aX<|mv Y<|mv Y<|lE h λiO pN h=>ne _ Y Y (JY (p:=iA) (q:=gX) pN)<|mv Y<|bE h λacC rW h=>?_
 cases iO
 refine gm Y<|lE (F rW) λoF vD rW=>Uk _ Y Y (ve (p:=iA) (q:=0) vD) ?_
 obtain rfl:=O rW
 exact pF Y<|dn<|⟨oF,h,wR []⟩
 obtain rfl:=O (V rW)
 exact ww<|ww<|pT Y<|dn<|⟨true,h,wR []⟩
 try dsimp only
 refine aW.n ?_
 cases IB
 refine fs<|qq<|aZ mixed<|ld Y Y (.k2 Y Y)<|ld Y Y (.k2 Y Y) ?_
 obtain⟨⟨Ah,Ai⟩,Ay,h⟩:=bS (F h)
 refine cl (DY Ay) ⟨Y,Y,ak⟩<|ld Y Y (.k2 Y Y)<|ld Y Y (.k2 Y Y) ?_
 obtain⟨⟨Lm,Ln⟩,GK,h⟩:=bS h
 refine cl (DY GK) ⟨Y,Y,ak⟩<|bE h λnE ym h=>cl (MF ym) ⟨Y,Y,ak⟩<|ag Y ?_
 refine RT.done ⟨by kernel_rfl,?_⟩
 refine aW.n<|bf ?_
 obtain rfl:=O h
 exact R1 Y
 refine cT<|sr<|mv Y<|mv Y<|lE (V h) λsX xu h=>sb _ Y Y xu<|bE h λku vE h=>cl (MK vE) ⟨Y,ak⟩<|ag Y<|dn<|bf<|aW.r ?_
 obtain rfl:=O h
 exact R1 Y
end
section
open Go.Fw
noncomputable def sY(x0:List Qr)(x1:List Qr):Option (List Qr):=(some (x0.length:Int)).bind λfz=>(some (x1.length:Int)).bind λeD=>(some (max (fz:Int) eD)).bind λei=>(VZ (α:=Qr) 64 ei).bind λdH=>(uM (λ(k:Nat) (sI:(List Qr))=>(show Option ((List Qr))from(some (x0.getD k (⟨⟨false,[]⟩,⟨false,[]⟩⟩:Qr))).bind λ⟨⟨O2,O3⟩,⟨O4,O5⟩⟩=>(some (x1.getD k (⟨⟨false,[]⟩,⟨false,[]⟩⟩:Qr))).bind λ⟨⟨O6,O7⟩,⟨O8,O9⟩⟩=>(wG ⟨⟨O2,O3⟩,⟨O4,O5⟩⟩ ⟨⟨O6,O7⟩,⟨O8,O9⟩⟩).bind λ⟨⟨nF,m8⟩,⟨tX,tY⟩⟩=>(nC 64 sI [⟨⟨nF,m8⟩,⟨tX,tY⟩⟩]).bind λiO=>some iO)) (max x0.length x1.length) dH).bind λsI=>some sI
noncomputable def rj(x0:Qr)(x1:Qr)(Pa:Qr):Option (Qr):=match x0 with|⟨⟨bk,bn⟩,⟨bt,bB⟩⟩=>match x1 with|⟨⟨cu,cm⟩,⟨eE,eG⟩⟩=>match Pa with|⟨⟨Pb,Pc⟩,⟨Pd,Pe⟩⟩=>(sG ⟨⟨Pb,Pc⟩,⟨Pd,Pe⟩⟩ ⟨⟨bk,bn⟩,⟨bt,bB⟩⟩).bind λ⟨⟨rZ,r5⟩,⟨C6,C7⟩⟩=>(wF ⟨⟨rZ,r5⟩,⟨C6,C7⟩⟩ ⟨⟨cu,cm⟩,⟨eE,eG⟩⟩).bind λ⟨⟨A3,A4⟩,⟨acD,acE⟩⟩=>some ⟨⟨A3,A4⟩,⟨acD,acE⟩⟩
noncomputable def oI(x0:List Qr)(x1:List Qr)(WQ:Qr):Option (List Qr):=match WQ with|⟨⟨Rw,Rx⟩,⟨Ry,Rz⟩⟩=>(some (x0.length:Int)).bind λfz=>(some (x1.length:Int)).bind λeD=>(some (max (fz:Int) eD)).bind λei=>(VZ (α:=Qr) 64 ei).bind λdH=>(uM (λ(k:Nat) (sI:(List Qr))=>(show Option ((List Qr))from(some (x0.getD k (⟨⟨false,[]⟩,⟨false,[]⟩⟩:Qr))).bind λ⟨⟨O2,O3⟩,⟨O4,O5⟩⟩=>(some (x1.getD k (⟨⟨false,[]⟩,⟨false,[]⟩⟩:Qr))).bind λ⟨⟨O6,O7⟩,⟨O8,O9⟩⟩=>(rj ⟨⟨O2,O3⟩,⟨O4,O5⟩⟩ ⟨⟨O6,O7⟩,⟨O8,O9⟩⟩ ⟨⟨Rw,Rx⟩,⟨Ry,Rz⟩⟩).bind λ⟨⟨nF,m8⟩,⟨tX,tY⟩⟩=>(nC 64 sI [⟨⟨nF,m8⟩,⟨tX,tY⟩⟩]).bind λiO=>some iO)) (max x0.length x1.length) dH).bind λsI=>some sI
noncomputable def yO(x0:List Qr)(x1:List Qr):Option (List Qr):=(sY x0 x1).bind λx7=>some x7
noncomputable def qC(x0:Qr)(x1:List Qr):Option (List Qr):=match x0 with|⟨⟨bk,bn⟩,⟨bt,bB⟩⟩=>(some (x1.length:Int)).bind λx9=>(Hf 64 x9 (⟨⟨false,[]⟩,⟨false,[]⟩⟩:Qr)).bind λdI=>(some (x1.length:Int)).bind λc9=>(bX (λ(s8:Int×(List Qr))=>match s8 with|⟨Pf,Pg⟩=>(show Option ((Int×(List Qr))⊕((List Qr)))from(some (decide ((Pf:Int)<c9))).bind λei=>(bif ei then(cL x1 Pf).bind λ⟨⟨qu,qw⟩,⟨Ph,Pj⟩⟩=>(sG ⟨⟨bk,bn⟩,⟨bt,bB⟩⟩ ⟨⟨qu,qw⟩,⟨Ph,Pj⟩⟩).bind λ⟨⟨wJ,wK⟩,⟨wL,wM⟩⟩=>(kW Pg Pf).bind λjg=>(stM Pg jg ⟨⟨wJ,wK⟩,⟨wL,wM⟩⟩).bind λDL=>(some (IntKind.i64.wrap (Pf+1))).bind λgX=>some (.inl (gX,DL))else some (.inr Pg)))) (0,dI)).bind λIC=>some IC
noncomputable def ja(x0:Qr)(x1:List Qr)(x2:List Qr):Option (List Qr):=match x0 with|⟨⟨bk,bn⟩,⟨bt,bB⟩⟩=>(oI x1 x2 ⟨⟨bk,bn⟩,⟨bt,bB⟩⟩).bind λdI=>some dI
noncomputable def nk(x0:List Qr)(x1:List Qr):Option (Int):=(wv (λ(k:Nat) (s3:Unit)=>(show Option ((Unit)⊕(Int))from(some (x0.getD k (⟨⟨false,[]⟩,⟨false,[]⟩⟩:Qr))).bind λ⟨⟨acF,acG⟩,⟨acH,acI⟩⟩=>(some (x1.getD k (⟨⟨false,[]⟩,⟨false,[]⟩⟩:Qr))).bind λ⟨⟨acJ,acK⟩,⟨acL,acM⟩⟩=>(wI ⟨⟨acF,acG⟩,⟨acH,acI⟩⟩ ⟨⟨acJ,acK⟩,⟨acL,acM⟩⟩).bind λdH=>(some (decide ((dH:Int)≠0))).bind λdX=>(bif dX then some (.inr dH)else some (.inl ())))) (max x0.length x1.length) ()).bind λe3=>match e3 with|.inr v3=>some v3|.inl _=>some 0
noncomputable def wN(x0:List Qr):Option (Int):=(nk x0 []).bind λx4=>some x4
noncomputable def gP(x0:List Qr)(x1:List Qr):Option (Bool):=(nk x0 x1).bind λx7=>(some (decide ((x7:Int)=0))).bind λx8=>some x8
noncomputable def mO(x0:List Qr)(x1:Int):Option (List Qr):=(some (decide ((x1:Int)<1))).bind λx8=>(bif x8 then some []else(some (min (x1:Int) 65536)).bind λdI=>(Hf 64 dI (⟨⟨false,[]⟩,⟨false,[]⟩⟩:Qr)).bind λfz=>(some (x0.length:Int)).bind λeD=>(some (fz.length:Int)).bind λdH=>(some (min (eD:Int) dH)).bind λfB=>(bX (λ(s8:Int×(List Qr))=>match s8 with|⟨Pk,Pm⟩=>(show Option ((Int×(List Qr))⊕((List Qr)))from(some (decide ((Pk:Int)<fB))).bind λeX=>(bif eX then(cL x0 Pk).bind λ⟨⟨vn,vo⟩,⟨yP,yQ⟩⟩=>(dQ ⟨⟨vn,vo⟩,⟨yP,yQ⟩⟩).bind λ⟨⟨Lo,Lp⟩,⟨Lq,Ls⟩⟩=>(kW Pm Pk).bind λiO=>(stM Pm iO ⟨⟨Lo,Lp⟩,⟨Lq,Ls⟩⟩).bind λDL=>(some (IntKind.i64.wrap (Pk+1))).bind λkT=>some (.inl (kT,DL))else some (.inr Pm)))) (0,fz)).bind λID=>some ID)
noncomputable def dR(x0:List Int):Option (List Qr):=(some (x0.length:Int)).bind λx7=>(Hf 64 x7 (⟨⟨false,[]⟩,⟨false,[]⟩⟩:Qr)).bind λx8=>(some (x0.length:Int)).bind λdI=>(bX (λ(s8:Int×(List Qr))=>match s8 with|⟨tZ,IE⟩=>(show Option ((Int×(List Qr))⊕((List Qr)))from(some (decide ((tZ:Int)<dI))).bind λc9=>(bif c9 then(cL x0 tZ).bind λei=>(dP ei).bind λ⟨⟨lS,lT⟩,⟨wO,wP⟩⟩=>(kW IE tZ).bind λij=>(stM IE ij ⟨⟨lS,lT⟩,⟨wO,wP⟩⟩).bind λDL=>(some (IntKind.i64.wrap (tZ+1))).bind λfL=>some (.inl (fL,DL))else some (.inr IE)))) (0,x8)).bind λC8=>some C8
end
section
open Go.Fw Go.Fw.Z Go.RowKit
theorem zJ(a b:List Qr):Pure af 133 [(slc 4 (List.map eQ a)),(slc 4 (List.map eQ b))] (o5 165 [ref [(slc 4 (List.map eQ a))],ref [(slc 4 (List.map eQ b))]]):=by
 refine bj Tryz.func133 Y (ae Y) (λdw M vs hvs=>?_)
 refine sr<|RT.E6 .none (s:=.sv _) Y T Y Y<|RT.E6 .none (s:=.sv _) Y T Y Y<|ag Y<|dn<|sr<|RT.makeFunc .none (.box Y (.box Y (.nil))) T<|an (s:=.kU _ _) Y<|dn<|bR (iU (i:=2) Y [(slc 4 (List.map eQ a))] (.cons Y .nil) .any 0 [(4,.kU 165 [.val (ref [(slc 4 (List.map eQ a))]),.box 3])] (λ_ _ _=>trivial) (xq.h (l:=[(slc 4 (List.map eQ a))])) ⟨@FT.kU _ _ _ _ _ 4 165 [.box 2,.box 3] Y,ak⟩) ?_
 exact bR (iU (i:=3) Y [(slc 4 (List.map eQ b))] (.cons Y .nil) .any 0 [(4,.kU 165 [.val (ref [(slc 4 (List.map eQ a))]),.val (ref [(slc 4 (List.map eQ b))])])] (λ_ _ _=>trivial) (xq.h (l:=[(slc 4 (List.map eQ b))])) ⟨@FT.kU _ _ _ _ _ 4 165 [.val (ref [(slc 4 (List.map eQ a))]),.box 3] Y,ak⟩)<|bR (Q0 4 (o5 165 [ref [(slc 4 (List.map eQ a))],ref [(slc 4 (List.map eQ b))]]) (λ_ _ h=>Q1 h))<|bf<|⟨.inr Y,QO (.tmp Y (.nil)) Y⟩
theorem zK(a b:List Qr):Iter af 165 [ref [(slc 4 (List.map eQ a))],ref [(slc 4 (List.map eQ b))]] (max a.length b.length) (λk=>[.agg (eQ (a.getD k (⟨⟨false,[]⟩,⟨false,[]⟩⟩:Qr))),.agg (eQ (b.getD k (⟨⟨false,[]⟩,⟨false,[]⟩⟩:Qr)))]):=by
 refine CO Tryz.func165 Y Y (ae Y) (λdw M O l J hJ J0 hr=>?_)
 obtain⟨xB,J0⟩:=J0
 have hla:a.length≤9223372036854775807:=by cases xB with|nil=>exact J0.elim|cons _ xB=>exact Hg J0.1
 have hlb:b.length≤9223372036854775807:=by cases xB with|nil=>exact J0.elim|cons _ xB=>cases xB with|nil=>exact J0.2.elim|cons _ _=>exact Hg J0.2.1
 refine cq ?_
 refine aX ?_
 refine RT.fX .none Y Y (tl Y) ?_
 refine RT.len .none Y (tl Y) ?_
 refine RT.fX .none Y Y (tl Y) ?_
 refine RT.len .none Y (tl Y) ?_
 refine RT.max .none (((max a.length b.length:Nat):Int)) Y Y (tl Y) (by simp only[List.length_map];split<;>omega) ?_
 refine RT.mv .none Y (tl Y) ?_
 refine RT.done ?_
 refine aW.n ?_
 refine aY ?_
 refine G2 (I:=λx:{i:Nat//i≤max a.length b.length}=>AS.cj 37 [(0,.sv (.v (.func (.yield l) #[] #[]))),(1,.sv (ref [(slc 4 (List.map eQ a))])),(2,.sv (ref [(slc 4 (List.map eQ b))])),(11,ah ((max a.length b.length:Nat):Int)),(12,ah ((x.1:Nat):Int))] [] [] (x.1)) (μ:=λx=>max a.length b.length-x.1) ⟨0,by omega⟩ (by(try dsimp only);exact cD id Y Y Y Y Y ⟨.sv (by first|exact aq|exact SV.bA (by omega)|exact SV.bA (by push_cast;omega)|exact SV.bA (by dsimp only;omega)|exact SV.imp_eq (by simp)),.sv (by first|exact aq|exact SV.bA (by omega)|exact SV.bA (by push_cast;omega)|exact SV.bA (by dsimp only;omega)|exact SV.imp_eq (by simp)),.sv (by first|exact aq|exact SV.bA (by omega)|exact SV.bA (by push_cast;omega)|exact SV.bA (by dsimp only;omega)|exact SV.imp_eq (by simp)),.sv (by first|exact aq|exact SV.bA (by omega)|exact SV.bA (by push_cast;omega)|exact SV.bA (by dsimp only;omega)|exact SV.imp_eq (by simp)),.sv (by first|exact aq|exact SV.bA (by omega)|exact SV.bA (by push_cast;omega)|exact SV.bA (by dsimp only;omega)|exact SV.imp_eq (by simp)),ak⟩ trivial trivial (λ_ _=>Y)) ?_
 rintro⟨i,hi0⟩
 try dsimp only
 rcases Ie a b i hi0 with⟨hi,E8,Kc⟩|⟨hi,E8,Kc⟩|⟨hi,E8,Kc⟩|hi
 ·
  refine cq ?_
  refine aX ?_
  refine RT.lss .none (true) Y Y (tl Y) (by simp;omega) ?_
  refine RT.done ?_
  refine aW.n ?_
  refine cq ?_
  refine fe Y ?_
  refine bw ?_
  refine aW.n ?_
  refine cq ?_
  refine aY ?_
  refine cq ?_
  refine aX ?_
  refine RT.mv .none Y (tl Y) ?_
  refine RT.Mc .none Y (tl Y) ?_
  refine RT.done ?_
  refine aW.n ?_
  refine cq ?_
  refine aX ?_
  refine RT.CU .none (cs:=eQ ⟨⟨false,[]⟩,⟨false,[]⟩⟩) (by exact⟨aq,aB,aq,aB,ak⟩) Y (tl Y) Y Y ?_
  refine RT.CU .none (cs:=eQ ⟨⟨false,[]⟩,⟨false,[]⟩⟩) (by exact⟨aq,aB,aq,aB,ak⟩) Y (tl Y) Y Y ?_
  refine RT.done ?_
  refine aW.n ?_
  refine cq ?_
  refine cq ?_
  refine aX ?_
  refine RT.mv .none Y (tl Y) ?_
  refine RT.fX .none Y Y (tl Y) ?_
  refine RT.len .none Y (tl Y) ?_
  refine RT.lss .none (true) Y Y (tl Y) (by simp only[List.length_map];simp;omega) ?_
  refine RT.done ?_
  refine aW.n ?_
  refine fe Y ?_
  refine aX ?_
  refine RT.fX .none Y Y (tl Y) ?_
  refine RT.mv .none Y (tl Y) ?_
  refine RT.ixA .none [ay ((a.getD i (⟨⟨false,[]⟩,⟨false,[]⟩⟩:Qr)).num.neg),slc 1 ((a.getD i (⟨⟨false,[]⟩,⟨false,[]⟩⟩:Qr)).num.w.map bh),ay ((a.getD i (⟨⟨false,[]⟩,⟨false,[]⟩⟩:Qr)).den.neg),slc 1 ((a.getD i (⟨⟨false,[]⟩,⟨false,[]⟩⟩:Qr)).den.w.map bh)] (Int.natCast_nonneg i) (by rw[Int.toNat_natCast,List.getElem?_map,jF E8];rfl) Y Y (tl Y) ?_
  refine RT.gy .none Y (tl Y) (cs:=[ay ((a.getD i (⟨⟨false,[]⟩,⟨false,[]⟩⟩:Qr)).num.neg),slc 1 ((a.getD i (⟨⟨false,[]⟩,⟨false,[]⟩⟩:Qr)).num.w.map bh),ay ((a.getD i (⟨⟨false,[]⟩,⟨false,[]⟩⟩:Qr)).den.neg),slc 1 ((a.getD i (⟨⟨false,[]⟩,⟨false,[]⟩⟩:Qr)).den.w.map bh)]) Y Y ?_
  refine RT.store .none Y Y Y Y Y ?_
  refine RT.done ?_
  refine aW.n ?_
  refine cq ?_
  refine cq ?_
  refine aX ?_
  refine RT.mv .none Y (tl Y) ?_
  refine RT.fX .none Y Y (tl Y) ?_
  refine RT.len .none Y (tl Y) ?_
  refine RT.lss .none (true) Y Y (tl Y) (by simp only[List.length_map];simp;omega) ?_
  refine RT.done ?_
  refine aW.n ?_
  refine fe Y ?_
  refine aX ?_
  refine RT.fX .none Y Y (tl Y) ?_
  refine RT.mv .none Y (tl Y) ?_
  refine RT.ixA .none [ay ((b.getD i (⟨⟨false,[]⟩,⟨false,[]⟩⟩:Qr)).num.neg),slc 1 ((b.getD i (⟨⟨false,[]⟩,⟨false,[]⟩⟩:Qr)).num.w.map bh),ay ((b.getD i (⟨⟨false,[]⟩,⟨false,[]⟩⟩:Qr)).den.neg),slc 1 ((b.getD i (⟨⟨false,[]⟩,⟨false,[]⟩⟩:Qr)).den.w.map bh)] (Int.natCast_nonneg i) (by rw[Int.toNat_natCast,List.getElem?_map,jF Kc];rfl) Y Y (tl Y) ?_
  refine RT.gy .none Y (tl Y) (cs:=[ay ((b.getD i (⟨⟨false,[]⟩,⟨false,[]⟩⟩:Qr)).num.neg),slc 1 ((b.getD i (⟨⟨false,[]⟩,⟨false,[]⟩⟩:Qr)).num.w.map bh),ay ((b.getD i (⟨⟨false,[]⟩,⟨false,[]⟩⟩:Qr)).den.neg),slc 1 ((b.getD i (⟨⟨false,[]⟩,⟨false,[]⟩⟩:Qr)).den.w.map bh)]) Y Y ?_
  refine RT.store .none Y Y Y Y Y ?_
  refine RT.done ?_
  refine aW.n ?_
  refine cq ?_
  refine aX ?_
  refine RT.mv .none Y (tl Y) ?_
  refine RT.load .none Y Y (.k4 Y Y Y Y) Y (tl Y) ?_
  refine RT.load .none Y Y (.k4 Y Y Y Y) Y (tl Y) ?_
  refine RT.yield .none hr Y (λ_ h=>h) Y (i) Y Y hi (by exact⟨Y,Y,ak⟩) (tl Y) (λyb=>?_)
  cases yb
  ·
   refine RT.not .none Y (tl Y) true Y ?_
   refine RT.done ?_
   refine aW.n ?_
   refine fe Y ?_
   refine bf ?_
   refine bF.r ?_
   refine aW.r ?_
   refine aW.r ?_
   refine bF.r ?_
   exact⟨.inr rfl,(λh=>by cases h)⟩
  ·
   refine RT.not .none Y (tl Y) false Y ?_
   refine RT.done ?_
   refine aW.n ?_
   refine je Y ?_
   refine bw ?_
   refine bF.n ?_
   refine aW.n ?_
   refine aX ?_
   refine RT.add .none (((i:Nat):Int)+1) Y Y (tl Y) (uL (by omega)) ?_
   refine RT.mv .none Y (tl Y) ?_
   refine RT.done ?_
   refine aW.n ?_
   refine⟨⟨i+1,by omega⟩,(by dsimp only;omega),?_⟩
   try dsimp only
   exact cD id Y Y Y Y Y ⟨.sv (by first|exact aq|exact SV.bA (by omega)|exact SV.bA (by push_cast;omega)|exact SV.bA (by dsimp only;omega)|exact SV.imp_eq (by simp)),.sv (by first|exact aq|exact SV.bA (by omega)|exact SV.bA (by push_cast;omega)|exact SV.bA (by dsimp only;omega)|exact SV.imp_eq (by simp)),.sv (by first|exact aq|exact SV.bA (by omega)|exact SV.bA (by push_cast;omega)|exact SV.bA (by dsimp only;omega)|exact SV.imp_eq (by simp)),.sv (by first|exact aq|exact SV.bA (by omega)|exact SV.bA (by push_cast;omega)|exact SV.bA (by dsimp only;omega)|exact SV.imp_eq (by simp)),.sv (by first|exact aq|exact SV.bA (by omega)|exact SV.bA (by push_cast;omega)|exact SV.bA (by dsimp only;omega)|exact SV.imp_eq (by simp)),ak⟩ trivial trivial (λ_ _=>Y)
 ·
  refine cq ?_
  refine aX ?_
  refine RT.lss .none (true) Y Y (tl Y) (by simp;omega) ?_
  refine RT.done ?_
  refine aW.n ?_
  refine cq ?_
  refine fe Y ?_
  refine bw ?_
  refine aW.n ?_
  refine cq ?_
  refine aY ?_
  refine cq ?_
  refine aX ?_
  refine RT.mv .none Y (tl Y) ?_
  refine RT.Mc .none Y (tl Y) ?_
  refine RT.done ?_
  refine aW.n ?_
  refine cq ?_
  refine aX ?_
  refine RT.CU .none (cs:=eQ ⟨⟨false,[]⟩,⟨false,[]⟩⟩) (by exact⟨aq,aB,aq,aB,ak⟩) Y (tl Y) Y Y ?_
  refine RT.CU .none (cs:=eQ ⟨⟨false,[]⟩,⟨false,[]⟩⟩) (by exact⟨aq,aB,aq,aB,ak⟩) Y (tl Y) Y Y ?_
  refine RT.done ?_
  refine aW.n ?_
  refine cq ?_
  refine cq ?_
  refine aX ?_
  refine RT.mv .none Y (tl Y) ?_
  refine RT.fX .none Y Y (tl Y) ?_
  refine RT.len .none Y (tl Y) ?_
  refine RT.lss .none (true) Y Y (tl Y) (by simp only[List.length_map];simp;omega) ?_
  refine RT.done ?_
  refine aW.n ?_
  refine fe Y ?_
  refine aX ?_
  refine RT.fX .none Y Y (tl Y) ?_
  refine RT.mv .none Y (tl Y) ?_
  refine RT.ixA .none [ay ((a.getD i (⟨⟨false,[]⟩,⟨false,[]⟩⟩:Qr)).num.neg),slc 1 ((a.getD i (⟨⟨false,[]⟩,⟨false,[]⟩⟩:Qr)).num.w.map bh),ay ((a.getD i (⟨⟨false,[]⟩,⟨false,[]⟩⟩:Qr)).den.neg),slc 1 ((a.getD i (⟨⟨false,[]⟩,⟨false,[]⟩⟩:Qr)).den.w.map bh)] (Int.natCast_nonneg i) (by rw[Int.toNat_natCast,List.getElem?_map,jF E8];rfl) Y Y (tl Y) ?_
  refine RT.gy .none Y (tl Y) (cs:=[ay ((a.getD i (⟨⟨false,[]⟩,⟨false,[]⟩⟩:Qr)).num.neg),slc 1 ((a.getD i (⟨⟨false,[]⟩,⟨false,[]⟩⟩:Qr)).num.w.map bh),ay ((a.getD i (⟨⟨false,[]⟩,⟨false,[]⟩⟩:Qr)).den.neg),slc 1 ((a.getD i (⟨⟨false,[]⟩,⟨false,[]⟩⟩:Qr)).den.w.map bh)]) Y Y ?_
  refine RT.store .none Y Y Y Y Y ?_
  refine RT.done ?_
  refine aW.n ?_
  refine cq ?_
  refine cq ?_
  refine aX ?_
  refine RT.mv .none Y (tl Y) ?_
  refine RT.fX .none Y Y (tl Y) ?_
  refine RT.len .none Y (tl Y) ?_
  refine RT.lss .none (false) Y Y (tl Y) (by simp only[List.length_map];simp;omega) ?_
  refine RT.done ?_
  refine aW.n ?_
  refine je Y ?_
  refine bw ?_
  refine aW.n ?_
  refine cq ?_
  refine aX ?_
  refine RT.mv .none Y (tl Y) ?_
  refine RT.load .none Y Y (.k4 Y Y Y Y) Y (tl Y) ?_
  refine RT.load .none Y Y (.k4 Y Y Y Y) Y (tl Y) ?_
  refine RT.yield .none hr Y (λ_ h=>h) Y (i) Y Y hi (by exact⟨Y,(by show AV.sv _=AV.sv _;rw[mA Kc]),ak⟩) (tl Y) (λyb=>?_)
  cases yb
  ·
   refine RT.not .none Y (tl Y) true Y ?_
   refine RT.done ?_
   refine aW.n ?_
   refine fe Y ?_
   refine bf ?_
   refine bF.r ?_
   refine aW.r ?_
   refine aW.r ?_
   refine bF.r ?_
   exact⟨.inr rfl,(λh=>by cases h)⟩
  ·
   refine RT.not .none Y (tl Y) false Y ?_
   refine RT.done ?_
   refine aW.n ?_
   refine je Y ?_
   refine bw ?_
   refine bF.n ?_
   refine aW.n ?_
   refine aX ?_
   refine RT.add .none (((i:Nat):Int)+1) Y Y (tl Y) (uL (by omega)) ?_
   refine RT.mv .none Y (tl Y) ?_
   refine RT.done ?_
   refine aW.n ?_
   refine⟨⟨i+1,by omega⟩,(by dsimp only;omega),?_⟩
   try dsimp only
   exact cD id Y Y Y Y Y ⟨.sv (by first|exact aq|exact SV.bA (by omega)|exact SV.bA (by push_cast;omega)|exact SV.bA (by dsimp only;omega)|exact SV.imp_eq (by simp)),.sv (by first|exact aq|exact SV.bA (by omega)|exact SV.bA (by push_cast;omega)|exact SV.bA (by dsimp only;omega)|exact SV.imp_eq (by simp)),.sv (by first|exact aq|exact SV.bA (by omega)|exact SV.bA (by push_cast;omega)|exact SV.bA (by dsimp only;omega)|exact SV.imp_eq (by simp)),.sv (by first|exact aq|exact SV.bA (by omega)|exact SV.bA (by push_cast;omega)|exact SV.bA (by dsimp only;omega)|exact SV.imp_eq (by simp)),.sv (by first|exact aq|exact SV.bA (by omega)|exact SV.bA (by push_cast;omega)|exact SV.bA (by dsimp only;omega)|exact SV.imp_eq (by simp)),ak⟩ trivial trivial (λ_ _=>Y)
 ·
  refine cq ?_
  refine aX ?_
  refine RT.lss .none (true) Y Y (tl Y) (by simp;omega) ?_
  refine RT.done ?_
  refine aW.n ?_
  refine cq ?_
  refine fe Y ?_
  refine bw ?_
  refine aW.n ?_
  refine cq ?_
  refine aY ?_
  refine cq ?_
  refine aX ?_
  refine RT.mv .none Y (tl Y) ?_
  refine RT.Mc .none Y (tl Y) ?_
  refine RT.done ?_
  refine aW.n ?_
  refine cq ?_
  refine aX ?_
  refine RT.CU .none (cs:=eQ ⟨⟨false,[]⟩,⟨false,[]⟩⟩) (by exact⟨aq,aB,aq,aB,ak⟩) Y (tl Y) Y Y ?_
  refine RT.CU .none (cs:=eQ ⟨⟨false,[]⟩,⟨false,[]⟩⟩) (by exact⟨aq,aB,aq,aB,ak⟩) Y (tl Y) Y Y ?_
  refine RT.done ?_
  refine aW.n ?_
  refine cq ?_
  refine cq ?_
  refine aX ?_
  refine RT.mv .none Y (tl Y) ?_
  refine RT.fX .none Y Y (tl Y) ?_
  refine RT.len .none Y (tl Y) ?_
  refine RT.lss .none (false) Y Y (tl Y) (by simp only[List.length_map];simp;omega) ?_
  refine RT.done ?_
  refine aW.n ?_
  refine je Y ?_
  refine bw ?_
  refine aW.n ?_
  refine cq ?_
  refine cq ?_
  refine aX ?_
  refine RT.mv .none Y (tl Y) ?_
  refine RT.fX .none Y Y (tl Y) ?_
  refine RT.len .none Y (tl Y) ?_
  refine RT.lss .none (true) Y Y (tl Y) (by simp only[List.length_map];simp;omega) ?_
  refine RT.done ?_
  refine aW.n ?_
  refine fe Y ?_
  refine aX ?_
  refine RT.fX .none Y Y (tl Y) ?_
  refine RT.mv .none Y (tl Y) ?_
  refine RT.ixA .none [ay ((b.getD i (⟨⟨false,[]⟩,⟨false,[]⟩⟩:Qr)).num.neg),slc 1 ((b.getD i (⟨⟨false,[]⟩,⟨false,[]⟩⟩:Qr)).num.w.map bh),ay ((b.getD i (⟨⟨false,[]⟩,⟨false,[]⟩⟩:Qr)).den.neg),slc 1 ((b.getD i (⟨⟨false,[]⟩,⟨false,[]⟩⟩:Qr)).den.w.map bh)] (Int.natCast_nonneg i) (by rw[Int.toNat_natCast,List.getElem?_map,jF Kc];rfl) Y Y (tl Y) ?_
  refine RT.gy .none Y (tl Y) (cs:=[ay ((b.getD i (⟨⟨false,[]⟩,⟨false,[]⟩⟩:Qr)).num.neg),slc 1 ((b.getD i (⟨⟨false,[]⟩,⟨false,[]⟩⟩:Qr)).num.w.map bh),ay ((b.getD i (⟨⟨false,[]⟩,⟨false,[]⟩⟩:Qr)).den.neg),slc 1 ((b.getD i (⟨⟨false,[]⟩,⟨false,[]⟩⟩:Qr)).den.w.map bh)]) Y Y ?_
  refine RT.store .none Y Y Y Y Y ?_
  refine RT.done ?_
  refine aW.n ?_
  refine cq ?_
  refine aX ?_
  refine RT.mv .none Y (tl Y) ?_
  refine RT.load .none Y Y (.k4 Y Y Y Y) Y (tl Y) ?_
  refine RT.load .none Y Y (.k4 Y Y Y Y) Y (tl Y) ?_
  refine RT.yield .none hr Y (λ_ h=>h) Y (i) Y Y hi (by exact⟨(by show AV.sv _=AV.sv _;rw[mA E8]),Y,ak⟩) (tl Y) (λyb=>?_)
  cases yb
  ·
   refine RT.not .none Y (tl Y) true Y ?_
   refine RT.done ?_
   refine aW.n ?_
   refine fe Y ?_
   refine bf ?_
   refine bF.r ?_
   refine aW.r ?_
   refine aW.r ?_
   refine bF.r ?_
   exact⟨.inr rfl,(λh=>by cases h)⟩
  ·
   refine RT.not .none Y (tl Y) false Y ?_
   refine RT.done ?_
   refine aW.n ?_
   refine je Y ?_
   refine bw ?_
   refine bF.n ?_
   refine aW.n ?_
   refine aX ?_
   refine RT.add .none (((i:Nat):Int)+1) Y Y (tl Y) (uL (by omega)) ?_
   refine RT.mv .none Y (tl Y) ?_
   refine RT.done ?_
   refine aW.n ?_
   refine⟨⟨i+1,by omega⟩,(by dsimp only;omega),?_⟩
   try dsimp only
   exact cD id Y Y Y Y Y ⟨.sv (by first|exact aq|exact SV.bA (by omega)|exact SV.bA (by push_cast;omega)|exact SV.bA (by dsimp only;omega)|exact SV.imp_eq (by simp)),.sv (by first|exact aq|exact SV.bA (by omega)|exact SV.bA (by push_cast;omega)|exact SV.bA (by dsimp only;omega)|exact SV.imp_eq (by simp)),.sv (by first|exact aq|exact SV.bA (by omega)|exact SV.bA (by push_cast;omega)|exact SV.bA (by dsimp only;omega)|exact SV.imp_eq (by simp)),.sv (by first|exact aq|exact SV.bA (by omega)|exact SV.bA (by push_cast;omega)|exact SV.bA (by dsimp only;omega)|exact SV.imp_eq (by simp)),.sv (by first|exact aq|exact SV.bA (by omega)|exact SV.bA (by push_cast;omega)|exact SV.bA (by dsimp only;omega)|exact SV.imp_eq (by simp)),ak⟩ trivial trivial (λ_ _=>Y)
 ·
  subst hi
  refine cq ?_
  refine aX ?_
  refine RT.lss .none (false) Y Y (tl Y) (by simp) ?_
  refine RT.done ?_
  refine aW.n ?_
  refine cq ?_
  refine je Y ?_
  refine bN ?_
  refine aW.x ?_
  refine aW.x ?_
  refine bF.x ?_
  exact⟨.inl Y,(λ_=>Y)⟩
end
section
open Go.Fw Go.Fw.Z Go.RowKit
theorem IF{x0:List Qr}{x1:List Qr}(N:Nat){r:List Qr}(h:sY x0 x1=some r):dK af 95 N [slc 4 (List.map eQ x0),slc 4 (List.map eQ x1),.v (.func (.func 94) #[] #[])] (nw N (slc 4 (List.map (fQ N) r))):=by
 refine bU Tryz.func95 Y (ae Y) (λdw M vs hN hvs=>?_)
 unfold sY at h
 refine sr<|RT.E6 .none (s:=.sv _) Y T Y Y<|aI Y (bu (N:=N) (n:=4) (e:=(fQ N)))<|dn<|sr<|mv Y<|lE h λfz lp h=>ln Y lp<|mv Y<|lE h λeD iF h=>ln Y iF<|lE h λei jx h=>RT.max .none _ Y Y T (Oo (p:=fz) (q:=eD) jx)<|bE h λdH gD h=>RT.Lb (e:=(fQ N)) .none Y Y T Y T gD<|RT.alloc .none T Y Y<|RT.uK (cells:=[_]) .none Y Y Y Y T Y<|dn<|qq<|sr ?_
 refine mv Y<|mv Y<|cl (zJ x0 x1) ⟨Y,Y,ak⟩<|dn<|aY<|bE h λsI hl5 ho5=>?_
 obtain⟨st5,hs5,ht5,hn5⟩:=vX hl5
 refine qW (zK x0 x1) (λ_ _ _ _ _=>trivial) Y (λk=>AS.cj 29 [(5,.ptr 5 0),(7,.ptr 7 0),(18,.sv (o5 165 [ref [slc 4 (List.map eQ x0)],ref [slc 4 (List.map eQ x1)]]))] [(7,⟨23,[.row 302]⟩),(5,⟨106,[.sv (.v (.func (.func 94) #[] #[]))]⟩)] [(302,TR 43 4 (fQ N) (st5 k))]) [7,5] Y (λ_=>⟨Y,Y⟩) (CP Y) (λ_=>Y) (CQ Y) (by(try dsimp only);rw[hs5];(try dsimp only);exact cD (λi=>bif Nat.beq i 302 then 15 else i) Y Y Y Y Y ⟨.ptr,.ptr,.sv aq,ak⟩ ⟨⟨_,Y,⟨.row Y,ak⟩⟩,⟨_,Y,⟨.sv aq,ak⟩⟩,ak⟩ ⟨⟨_,Y,cg.refl _⟩,ak⟩ (λi hi=>by rw[bV (show i≠302 by omega)];rfl)) (λk hk D hD=>?_) ?_
 have h:=ht5 k hk
 obtain⟨sI,hsk⟩:∃q,st5 k=q:=⟨_,Y⟩
 rw[hsk]at h⊢
 dsimp only[AS.Z5,Cu]
 try dsimp only at h
 obtain⟨⟨⟨O2,O3⟩,⟨O4,O5⟩⟩,afG,h⟩:=bS h
 rw[Option.some.inj afG]
 obtain⟨⟨⟨O6,O7⟩,⟨O8,O9⟩⟩,Wu,h⟩:=bS h
 rw[Option.some.inj Wu]
 refine sr<|al (cs:=[ay false,nw N au,ay false,nw N au]) (by exact⟨aq,bu,aq,bu,ak⟩) Y<|so Y Y Y<|dn<|aX<|al (cs:=[ay false,nw N au,ay false,nw N au]) (by exact⟨aq,bu,aq,bu,ak⟩) Y<|so Y Y Y<|RT.done ?_
 refine aW.n ⟨Y,?_⟩
 dsimp only[AS.Me]
 refine aY<|aZ mixed<|RT.eA .none (s:=.row _) Y Y Y T<|lV Y Y Y<|ld Y Y (.k4 Y Y Y Y)<|ld Y Y (.k4 Y Y Y Y) ?_
 obtain⟨⟨⟨nF,m8⟩,⟨tX,tY⟩⟩,nO,h⟩:=bS h
 refine RT.bZ .none (OX N nO) (Nat.le_trans hN hD) Y ⟨Y,Y,ak⟩ T<|bl (l:=[⟨⟨nF,m8⟩,⟨tX,tY⟩⟩]) (e:=(fQ N)) (.agg Y (.nil)) Y Y Y Y Y Y<|bE h λiO pN h=>aR (k:=[⟨⟨nF,m8⟩,⟨tX,tY⟩⟩]) (e:=(fQ N)) Y Y Y pN<|RT.uK (cells:=[_]) .none Y Y Y Y T Y ?_
 refine RT.done ⟨by kernel_rfl,?_⟩
 refine bF.n ?_
 replace h:=Option.some.inj h
 refine⟨ak,Y,Y,?_⟩
 try dsimp only
 rw[←h]
 try dsimp only
 exact cD (λi=>bif Nat.beq i 302 then 27 else i) Y Y Y Y Y ⟨.ptr,.ptr,.sv aq,ak⟩ ⟨⟨_,Y,⟨.row Y,ak⟩⟩,⟨_,Y,⟨.sv aq,ak⟩⟩,ak⟩ ⟨⟨_,Y,cg.refl _⟩,ak⟩ (λi hi=>by rw[bV (show i≠302 by omega)];rfl)
 rw[hn5]
 try dsimp only
 refine bF.n<|aW.n<|sr<|RT.eA .none (s:=.row _) Y Y Y T<|an (s:=.row _) Y<|dn<|lz (i:=302) (E1:=43) (n:=4) (e:=(fQ N)) (l:=sI) hN (λ_ h=>h) Y<|bf ?_
 obtain rfl:=O ho5
 exact R1 Y
theorem C9{x0:Qr}{x1:Qr}{Pa:Qr}(N:Nat){r:Qr}(h:rj x0 x1 Pa=some r):dK af 141 N [.agg (eQ x0),.agg (eQ x1),ref (eQ Pa)] (.agg ((fQ N) r)):=by
 obtain⟨⟨bk,bn⟩,⟨bt,bB⟩⟩:=x0
 obtain⟨⟨cu,cm⟩,⟨eE,eG⟩⟩:=x1
 obtain⟨⟨Pb,Pc⟩,⟨Pd,Pe⟩⟩:=Pa
 refine bU Tryz.func141 Y (ae Y) (λdw M vs hN hvs=>?_)
 unfold rj at h
 refine sr<|bx Y<|bx Y<|al (cs:=[ay false,nw N au,ay false,nw N au]) (by exact⟨aq,bu,aq,bu,ak⟩) Y<|dn<|qq<|aZ mixed<|RT.gy (cs:=[_,_,_,_]) .none Y T Y Y<|ld Y Y (.k4 Y Y Y Y) ?_
 obtain⟨⟨⟨rZ,r5⟩,⟨C6,C7⟩⟩,h8,h⟩:=bS h
 refine RT.bZ .none (Gg N h8) hN Y ⟨Y,Y,ak⟩ T<|ld Y Y (.k4 Y Y Y Y) ?_
 obtain⟨⟨⟨A3,A4⟩,⟨acD,acE⟩⟩,gC,h⟩:=bS h
 refine RT.bZ .none ((OW N gC).w (args':=[_,_]) ⟨(SV.fT (show cg [ay rZ,nw N (slc 1 (List.map bh r5)),ay C6,nw N (slc 1 (List.map bh C7))] _ from⟨aq,fN,aq,fN,ak⟩)),aq,ak⟩) hN Y ⟨Y,Y,ak⟩ T<|so Y Y Y ?_
 refine RT.done ⟨by kernel_rfl,?_⟩
 refine aW.n<|bf ?_
 obtain rfl:=O h
 exact RZ (.agg Y Y (.k4 Y Y Y Y) Y (.nil))
theorem D3{x0:List Qr}{x1:List Qr}{WQ:Qr}(N:Nat){r:List Qr}(h:oI x0 x1 WQ=some r):dK af 95 N [slc 4 (List.map eQ x0),slc 4 (List.map eQ x1),o5 141 [ref (eQ WQ)]] (nw N (slc 4 (List.map (fQ N) r))):=by
 obtain⟨⟨Rw,Rx⟩,⟨Ry,Rz⟩⟩:=WQ
 refine bU Tryz.func95 Y (ae Y) (λdw M vs hN hvs=>?_)
 unfold oI at h
 refine sr<|RT.E6 .none (s:=.sv _) Y T Y Y<|aI Y (bu (N:=N) (n:=4) (e:=(fQ N)))<|dn<|sr<|mv Y<|lE h λfz lp h=>ln Y lp<|mv Y<|lE h λeD iF h=>ln Y iF<|lE h λei jx h=>RT.max .none _ Y Y T (Oo (p:=fz) (q:=eD) jx)<|bE h λdH gD h=>RT.Lb (e:=(fQ N)) .none Y Y T Y T gD<|RT.alloc .none T Y Y<|RT.uK (cells:=[_]) .none Y Y Y Y T Y<|dn<|qq<|sr ?_
 refine mv Y<|mv Y<|cl (zJ x0 x1) ⟨Y,Y,ak⟩<|dn<|aY<|bE h λsI hl5 ho5=>?_
 obtain⟨st5,hs5,ht5,hn5⟩:=vX hl5
 refine qW (zK x0 x1) (λ_ _ _ _ _=>trivial) Y (λk=>AS.cj 29 [(5,.ptr 5 0),(7,.ptr 7 0),(18,.sv (o5 165 [ref [slc 4 (List.map eQ x0)],ref [slc 4 (List.map eQ x1)]]))] [(7,⟨23,[.row 302]⟩),(5,⟨106,[.sv (o5 141 [ref [ay Rw,slc 1 (List.map bh Rx),ay Ry,slc 1 (List.map bh Rz)]])]⟩)] [(302,TR 43 4 (fQ N) (st5 k))]) [7,5] Y (λ_=>⟨Y,Y⟩) (CP Y) (λ_=>Y) (CQ Y) (by(try dsimp only);rw[hs5];(try dsimp only);exact cD (λi=>bif Nat.beq i 302 then 15 else i) Y Y Y Y Y ⟨.ptr,.ptr,.sv aq,ak⟩ ⟨⟨_,Y,⟨.row Y,ak⟩⟩,⟨_,Y,⟨.sv aq,ak⟩⟩,ak⟩ ⟨⟨_,Y,cg.refl _⟩,ak⟩ (λi hi=>by rw[bV (show i≠302 by omega)];rfl)) (λk hk D hD=>?_) ?_
 have h:=ht5 k hk
 obtain⟨sI,hsk⟩:∃q,st5 k=q:=⟨_,Y⟩
 rw[hsk]at h⊢
 dsimp only[AS.Z5,Cu]
 try dsimp only at h
 obtain⟨⟨⟨O2,O3⟩,⟨O4,O5⟩⟩,afG,h⟩:=bS h
 rw[Option.some.inj afG]
 obtain⟨⟨⟨O6,O7⟩,⟨O8,O9⟩⟩,Wu,h⟩:=bS h
 rw[Option.some.inj Wu]
 refine sr<|al (cs:=[ay false,nw N au,ay false,nw N au]) (by exact⟨aq,bu,aq,bu,ak⟩) Y<|so Y Y Y<|dn<|aX<|al (cs:=[ay false,nw N au,ay false,nw N au]) (by exact⟨aq,bu,aq,bu,ak⟩) Y<|so Y Y Y<|RT.done ?_
 refine aW.n ⟨Y,?_⟩
 dsimp only[AS.Me]
 refine aY<|aZ mixed<|RT.eA .none (s:=.row _) Y Y Y T<|lV Y Y Y<|ld Y Y (.k4 Y Y Y Y)<|ld Y Y (.k4 Y Y Y Y) ?_
 obtain⟨⟨⟨nF,m8⟩,⟨tX,tY⟩⟩,nO,h⟩:=bS h
 refine RT.aeS (args:=[_,_]) (caps:=[_]) .none (C9 N nO) (Nat.le_trans hN hD) Y ⟨Y,Y,ak⟩ T<|bl (l:=[⟨⟨nF,m8⟩,⟨tX,tY⟩⟩]) (e:=(fQ N)) (.agg Y (.nil)) Y Y Y Y Y Y<|bE h λiO pN h=>aR (k:=[⟨⟨nF,m8⟩,⟨tX,tY⟩⟩]) (e:=(fQ N)) Y Y Y pN<|RT.uK (cells:=[_]) .none Y Y Y Y T Y ?_
 refine RT.done ⟨by kernel_rfl,?_⟩
 refine bF.n ?_
 replace h:=Option.some.inj h
 refine⟨ak,Y,Y,?_⟩
 try dsimp only
 rw[←h]
 try dsimp only
 exact cD (λi=>bif Nat.beq i 302 then 27 else i) Y Y Y Y Y ⟨.ptr,.ptr,.sv aq,ak⟩ ⟨⟨_,Y,⟨.row Y,ak⟩⟩,⟨_,Y,⟨.sv aq,ak⟩⟩,ak⟩ ⟨⟨_,Y,cg.refl _⟩,ak⟩ (λi hi=>by rw[bV (show i≠302 by omega)];rfl)
 rw[hn5]
 try dsimp only
 refine bF.n<|aW.n<|sr<|RT.eA .none (s:=.row _) Y Y Y T<|an (s:=.row _) Y<|dn<|lz (i:=302) (E1:=43) (n:=4) (e:=(fQ N)) (l:=sI) hN (λ_ h=>h) Y<|bf ?_
 obtain rfl:=O ho5
 exact R1 Y
theorem RA{x0:List Qr}{x1:List Qr}(N:Nat){r:List Qr}(h:yO x0 x1=some r):dK af 50 N [slc 4 (List.map eQ x0),slc 4 (List.map eQ x1)] (nw N (slc 4 (List.map (fQ N) r))):=by
 refine bU Tryz.func50 Y (ae Y) (λdw M vs hN hvs=>?_)
 unfold yO at h
 refine sr<|aI Y (bu (N:=N) (n:=4) (e:=(fQ N)))<|dn<|sr<|mv Y<|mv Y<|bE h λx7 h7 h=>RT.bZ .none (IF N h7) hN Y ⟨Y,Y,Y,ak⟩ T<|ag Y<|dn<|bf ?_
 obtain rfl:=O h
 exact R1 Y
theorem ML{x0:Qr}{x1:List Qr}(N:Nat){r:List Qr}(h:qC x0 x1=some r):dK af 40 N [.agg (eQ x0),slc 4 (List.map eQ x1)] (nw N (slc 4 (List.map (fQ N) r))):=by
 obtain⟨⟨bk,bn⟩,⟨bt,bB⟩⟩:=x0
 refine bU Tryz.func40 Y (ae Y) (λdw M vs hN hvs=>?_)
 unfold qC at h
 refine sr<|bx Y<|aI Y (bu (N:=N) (n:=4) (e:=(fQ N)))<|dn<|sr<|mv Y<|lE h λx9 h9 h=>ln Y h9<|bE h λdI gC h=>RT.tK (n:=4) (e:=(fQ N)) .none Y Y T Y T (by rfl) (by decide) (by exact⟨aq,bu,aq,bu,ak⟩) gC<|an (s:=.row _) Y<|dn<|qq<|sr<|mv Y<|lE h λc9 fC h=>ln Y fC<|mv Y<|dn<|bE h λe8 Ko Ch=>?_
 refine bK (λ(IC:(List Qr))=>AS.cj 26 [(5,.row 10)] [] [(10,TR 43 4 (fQ N) IC)]) (λIC=>IC=e8) ?_ (λIC Mv=>?_)
 refine aY ?_
 refine bL Ko (λs8=>AS.cj 26 [(2,.ptr 2 0),(5,.row 10),(11,.sv (slc 4 (List.map eQ x1))),(12,ah c9),(13,ah s8.1)] [(2,⟨43,[ai bk,.sv (slc 1 (List.map bh bn)),ai bt,.sv (slc 1 (List.map bh bB))]⟩)] [(10,TR 43 4 (fQ N) s8.2)]) (wR []) (λs8 y8 G8 h Mw Mx=>?_)
 obtain⟨Pf,Pg⟩:=s8
 try dsimp only
 refine sr<|lE h λei jx h=>ls _ Y Y jx<|dn<|qq ?_
 cases ei
 refine cF<|bN<|aW.x<|aW.x<|bF.x<|aW.n ?_
 obtain rfl:=O (F h)
 exact⟨Pg,Mx _ Y,wR []⟩
 refine cT<|bw<|aW.n<|qq<|aY<|sr<|mv Y ?_
 obtain⟨⟨⟨qu,qw⟩,⟨Ph,Pj⟩⟩,lq,h⟩:=bS (V h)
 refine ix Y Y lq<|RT.gy (cs:=[_,_,_,_]) .none Y T Y Y<|al (cs:=[ay false,nw N au,ay false,nw N au]) (by exact⟨aq,bu,aq,bu,ak⟩) Y<|ag Y<|so Y Y Y<|dn<|aX<|mo (s:=.row _) Y<|mv Y<|ld Y Y (.k4 Y Y Y Y)<|ld Y Y (.k4 Y Y Y Y) ?_
 obtain⟨⟨⟨wJ,wK⟩,⟨wL,wM⟩⟩,oH,h⟩:=bS h
 refine RT.bZ .none (Gg N oH) hN Y ⟨Y,Y,ak⟩ T<|bE h λjg qP h=>iR Y Y Y qP<|bE h λDL yI h=>sA ⟨⟨wJ,wK⟩,⟨wL,wM⟩⟩ Y Y Y yI<|RT.done<|bF.n<|aW.n<|aX<|lE h λgX oY h=>ad _ Y Y oY<|mv Y<|RT.done ?_
 obtain rfl:=O h
 exact aW.n ⟨(gX,DL),Mw _ Y,wR []⟩
 subst Mv
 try dsimp only
 refine aW.n<|sr<|mo (s:=.row _) Y<|an (s:=.row _) Y<|dn<|lz (i:=10) (E1:=43) (n:=4) (e:=(fQ N)) (l:=IC) hN (λ_ h=>h) Y<|bf ?_
 obtain rfl:=O Ch
 exact R1 Y
theorem MM{x0:Qr}{x1:List Qr}{r:List Qr}(h:qC x0 x1=some r):Pure af 40 [.agg (eQ x0),slc 4 (List.map eQ x1)] (slc 4 (List.map eQ r)):=eT (λN=>ML N h) (λN=>Ul)
theorem yR{x0:Qr}{x1:List Qr}{x2:List Qr}(N:Nat){r:List Qr}(h:ja x0 x1 x2=some r):dK af 96 N [.agg (eQ x0),slc 4 (List.map eQ x1),slc 4 (List.map eQ x2)] (nw N (slc 4 (List.map (fQ N) r))):=by
 obtain⟨⟨bk,bn⟩,⟨bt,bB⟩⟩:=x0
 refine bU Tryz.func96 Y (ae Y) (λdw M vs hN hvs=>?_)
 unfold ja at h
 refine sr<|bx Y<|aI Y (bu (N:=N) (n:=4) (e:=(fQ N)))<|dn ?_
 refine bR (iU (i:=3) Y [ay bk,slc 1 (List.map bh bn),ay bt,slc 1 (List.map bh bB)] (.k4 Y Y Y Y) .any 0 [(3,.sv (ref [ay bk,slc 1 (List.map bh bn),ay bt,slc 1 (List.map bh bB)]))] (λ_ _ _=>trivial) (xq.h (l:=[ay bk,slc 1 (List.map bh bn),ay bt,slc 1 (List.map bh bB)])) ⟨@FT.ptr _ _ _ _ _ 3 0 Y,ak⟩)<|sr<|mv Y<|mv Y<|RT.Fg (caps:=[_]) .none ⟨Y,ak⟩ T<|bE h λdI gC h=>?_
 refine RT.bZ .none (D3 N gC) hN Y ⟨Y,Y,Y,ak⟩ T<|ag Y<|dn<|bf ?_
 obtain rfl:=O h
 exact R1 Y
theorem Fx{x0:Qr}{x1:List Qr}{x2:List Qr}{r:List Qr}(h:ja x0 x1 x2=some r):Pure af 96 [.agg (eQ x0),slc 4 (List.map eQ x1),slc 4 (List.map eQ x2)] (slc 4 (List.map eQ r)):=eT (λN=>yR N h) (λN=>Ul)
theorem Bg{x0:List Qr}{x1:List Qr}{r:Int}(h:nk x0 x1=some r):Pure af 88 [slc 4 (List.map eQ x0),slc 4 (List.map eQ x1)] (ax r):=by
 refine bj Tryz.func88 Y (ae Y) (λdw M vs hvs=>?_)
 unfold nk at h
 refine sr<|al (cs:=[ax 0]) (by exact⟨aq,ak⟩) Y<|dn<|qq<|sr<|mv Y<|mv Y<|cl (zJ x0 x1) ⟨Y,Y,ak⟩<|dn<|aY<|bE h λe3 hl3 ho3=>?_
 obtain⟨m3,st3,hs3,ht3,hn3⟩:=Ld hl3
 refine ye (zK x0 x1) (λ_ _ _ _ _=>trivial) Y (λk=>AS.cj 19 [(4,.ptr 4 0),(10,.sv (o5 165 [ref [slc 4 (List.map eQ x0)],ref [slc 4 (List.map eQ x1)]]))] [(4,⟨3,[ah 0]⟩)] []) [4] Y (λ_=>⟨Y,Y⟩) (CP Y) (λ_=>Y) (CQ Y) (by(try dsimp only);(try dsimp only);exact cD id Y Y Y Y Y ⟨.ptr,.sv aq,ak⟩ ⟨⟨_,Y,⟨.sv aq,ak⟩⟩,ak⟩ trivial (λ_ _=>Y)) m3 (λk hk hkm D hD=>?_) (λhdn=>?_)
 obtain⟨y3,h,hG3,hE3⟩:=ht3 k hk hkm
 dsimp only[AS.Z5,Cu]
 try dsimp only at h
 obtain⟨⟨⟨acF,acG⟩,⟨acH,acI⟩⟩,anX,h⟩:=bS h
 rw[Option.some.inj anX]
 obtain⟨⟨⟨acJ,acK⟩,⟨acL,acM⟩⟩,anY,h⟩:=bS h
 rw[Option.some.inj anY]
 refine sr<|al (cs:=[ay false,au,ay false,au]) (by exact⟨aq,aB,aq,aB,ak⟩) Y<|so Y Y Y<|dn<|aX<|al (cs:=[ay false,au,ay false,au]) (by exact⟨aq,aB,aq,aB,ak⟩) Y<|so Y Y Y<|RT.done ?_
 refine aW.n ⟨Y,?_⟩
 dsimp only[AS.Me]
 refine aY<|sr<|ld Y Y (.k4 Y Y Y Y)<|ld Y Y (.k4 Y Y Y Y)<|bE h λdH gD h=>cl (O1 gD) ⟨Y,Y,ak⟩<|ag Y<|dn<|sr<|mv Y<|lE h λdX jO h=>ne _ Y Y (JY (p:=dH) (q:=0) jO)<|dn ?_
 cases dX
 refine cF<|bw<|bF.n ?_
 obtain rfl:=O (F h)
 obtain⟨hm3,hq3⟩:=hG3 _ Y
 exact⟨hm3,Y,Y,wR []⟩
 refine cT<|sr<|mv Y<|RT.AL (cells:=[_]) .none (s:=.sv _) Y Y Y T Y<|dn<|bf<|bF.r ?_
 obtain rfl:=O (V h)
 have he3:=hE3 _ Y
 subst he3
 refine⟨Y,Y,?_⟩
 refine bF.r<|aW.r ?_
 obtain rfl:=O ho3
 exact RZ (.one Y Y Y (.nil))
 have hd3:=hn3 hdn
 subst hd3
 obtain⟨ee3,afI⟩:∃q,st3 (max x0.length x1.length)=q:=⟨_,Y⟩
 rw[afI]at ho3
 try dsimp only
 refine bF.n<|aW.n<|sr<|RT.AL (cells:=[_]) .none (s:=.sv _) Y Y Y T Y<|dn<|bf ?_
 obtain rfl:=O ho3
 exact RZ (.one Y Y Y (.nil))
theorem Pn{x0:List Qr}{r:Int}(h:wN x0=some r):Pure af 91 [slc 4 (List.map eQ x0)] (ax r):=by
 refine bj Tryz.func91 Y (ae Y) (λdw M vs hvs=>?_)
 unfold wN at h
 refine sr<|ag Y<|dn<|sr<|mv Y<|bE h λx4 h4 h=>cl ((Bg h4).w (args':=[_,_]) ⟨aq,aB,ak⟩) ⟨Y,Y,ak⟩<|ag Y<|dn<|bf ?_
 obtain rfl:=O h
 exact R1 Y
theorem mP{x0:List Qr}{x1:List Qr}{r:Bool}(h:gP x0 x1=some r):Pure af 37 [slc 4 (List.map eQ x0),slc 4 (List.map eQ x1)] (ay r):=by
 refine bj Tryz.func37 Y (ae Y) (λdw M vs hvs=>?_)
 unfold gP at h
 refine sr<|ag Y<|dn<|sr<|mv Y<|mv Y<|bE h λx7 h7 h=>cl (Bg h7) ⟨Y,Y,ak⟩<|lE h λx8 h8 h=>eq _ Y Y (ve (p:=x7) (q:=0) h8)<|ag Y<|dn<|bf ?_
 obtain rfl:=O h
 exact R1 Y
theorem CD{x0:List Qr}{x1:Int}(N:Nat){r:List Qr}(h:mO x0 x1=some r):dK af 47 N [slc 4 (List.map eQ x0),ax x1] (nw N (slc 4 (List.map (fQ N) r))):=by
 refine bU Tryz.func47 Y (ae Y) (λdw M vs hN hvs=>?_)
 unfold mO at h
 refine sr<|aI Y (bu (N:=N) (n:=4) (e:=(fQ N)))<|dn<|qq<|sr<|mv Y<|lE h λx8 h8 h=>ls _ Y Y h8<|dn ?_
 cases x8
 refine fs<|sr<|mv Y<|lE (F h) λdI gC h=>RT.min .none _ Y Y T (V5 (p:=x1) (q:=65536) gC)<|bE h λfz lp h=>RT.tK (n:=4) (e:=(fQ N)) .none Y Y T Y T (by rfl) (by decide) (by exact⟨aq,bu,aq,bu,ak⟩) lp<|an (s:=.row _) Y<|dn<|qq<|sr<|mv Y<|lE h λeD iF h=>ln Y iF<|mo (s:=.row _) Y<|lE h λdH gD h=>lL Y Y gD<|lE h λfB lq h=>?_
 refine RT.min .none _ Y Y T (V5 (p:=eD) (q:=dH) lq)<|mv Y<|dn<|bE h λe8 Ko Ch=>?_
 refine bK (λ(ID:(List Qr))=>AS.cj 30 [(5,.row 11)] [] [(11,TR 43 4 (fQ N) ID)]) (λID=>ID=e8) ?_ (λID Mv=>?_)
 refine aY ?_
 refine bL Ko (λs8=>AS.cj 30 [(0,.sv (slc 4 (List.map eQ x0))),(5,.row 11),(16,ah fB),(17,ah s8.1)] [] [(11,TR 43 4 (fQ N) s8.2)]) (wR []) (λs8 y8 G8 h Mw Mx=>?_)
 obtain⟨Pk,Pm⟩:=s8
 try dsimp only
 refine sr<|lE h λeX jK h=>ls _ Y Y jK<|dn<|qq ?_
 cases eX
 refine cF<|bN<|aW.x<|aW.x<|bF.x<|aW.n ?_
 obtain rfl:=O (F h)
 exact⟨Pm,Mx _ Y,wR []⟩
 refine cT<|bw<|aW.n<|qq<|aY<|sr<|mv Y<|ag Y<|dn<|aX<|mo (s:=.row _) Y<|mv Y<|mv Y<|mv Y ?_
 obtain⟨⟨⟨vn,vo⟩,⟨yP,yQ⟩⟩,oY,h⟩:=bS (V h)
 refine ix Y Y oY<|RT.gy (cs:=[_,_,_,_]) .none Y T Y Y ?_
 obtain⟨⟨⟨Lo,Lp⟩,⟨Lq,Ls⟩⟩,rV,h⟩:=bS h
 refine RT.bZ .none (nH N rV) hN Y ⟨Y,ak⟩ T<|bE h λiO pN h=>iR Y Y Y pN<|bE h λDL yI h=>sA ⟨⟨Lo,Lp⟩,⟨Lq,Ls⟩⟩ Y Y Y yI<|RT.done<|bF.n<|aW.n<|aX<|lE h λkT uO h=>ad _ Y Y uO<|mv Y<|RT.done ?_
 obtain rfl:=O h
 exact aW.n ⟨(kT,DL),Mw _ Y,wR []⟩
 subst Mv
 try dsimp only
 refine aW.n<|sr<|mo (s:=.row _) Y<|an (s:=.row _) Y<|dn<|lz (i:=11) (E1:=43) (n:=4) (e:=(fQ N)) (l:=ID) hN (λ_ h=>h) Y<|bf ?_
 obtain rfl:=O Ch
 exact R1 Y
 refine cT<|sr<|aI Y (bu (N:=N) (n:=4) (e:=(fQ N)))<|dn<|bf<|aW.r ?_
 obtain rfl:=O (V h)
 exact R1 Y
theorem Kv{x0:List Qr}{x1:Int}{r:List Qr}(h:mO x0 x1=some r):Pure af 47 [slc 4 (List.map eQ x0),ax x1] (slc 4 (List.map eQ r)):=eT (λN=>CD N h) (λN=>Ul)
theorem fU{x0:List Int}{r:List Qr}(h:dR x0=some r):Pure af 54 [slc 1 (List.map bD x0)] (slc 4 (List.map eQ r)):=by
 refine bj Tryz.func54 Y (ae Y) (λdw M vs hvs=>?_)
 unfold dR at h
 refine sr<|aI Y (aB (n:=4) (e:=eQ))<|dn<|sr<|mv Y<|lE h λx7 h7 h=>ln Y h7<|bE h λx8 h8 h=>RT.tK (n:=4) (e:=eQ) .none Y Y T Y T (by rfl) (by decide) (by exact⟨aq,aB,aq,aB,ak⟩) h8<|an (s:=.row _) Y<|dn<|qq<|sr<|mv Y<|lE h λdI gC h=>ln Y gC<|mv Y<|dn<|bE h λe8 Ko Ch=>?_
 refine bK (λ(C8:(List Qr))=>AS.cj 23 [(3,.row 8)] [] [(8,TR 43 4 eQ C8)]) (λC8=>C8=e8) ?_ (λC8 Mv=>?_)
 refine aY ?_
 refine bL Ko (λs8=>AS.cj 23 [(3,.row 8),(9,.sv (slc 1 (List.map bD x0))),(10,ah dI),(11,ah s8.1)] [] [(8,TR 43 4 eQ s8.2)]) (wR []) (λs8 y8 G8 h Mw Mx=>?_)
 obtain⟨tZ,IE⟩:=s8
 try dsimp only
 refine sr<|lE h λc9 fC h=>ls _ Y Y fC<|dn<|qq ?_
 cases c9
 refine cF<|bN<|aW.x<|aW.x<|bF.x<|aW.n ?_
 obtain rfl:=O (F h)
 exact⟨IE,Mx _ Y,wR []⟩
 refine cT<|bw<|aW.n<|qq<|aY<|sr<|mv Y<|bE (V h) λei jx h=>ix Y Y jx<|lr Y Y<|ag Y<|ag Y<|dn<|aX<|mo (s:=.row _) Y<|mv Y<|mv Y ?_
 obtain⟨⟨⟨lS,lT⟩,⟨wO,wP⟩⟩,mw,h⟩:=bS h
 refine cl (nG mw) ⟨Y,ak⟩<|bE h λij oG h=>iR Y Y Y oG<|bE h λDL yI h=>sA ⟨⟨lS,lT⟩,⟨wO,wP⟩⟩ Y Y Y yI<|RT.done<|bF.n<|aW.n<|aX<|lE h λfL ke h=>ad _ Y Y ke<|mv Y<|RT.done ?_
 obtain rfl:=O h
 exact aW.n ⟨(fL,DL),Mw _ Y,wR []⟩
 subst Mv
 try dsimp only
 refine aW.n<|sr<|mo (s:=.row _) Y<|an (s:=.row _) Y<|dn<|bR (cV (i:=8) (E1:=43) (n:=4) (e:=eQ) (l:=C8) Y)<|bf ?_
 obtain rfl:=O Ch
 exact R1 Y
end
section
open Go.Fw
noncomputable def yS(x0:List (List Qr))(x1:Int):Option (List Qr):=cE (λ(IG:Bool)=>(bif IG then some []else(cL x0 x1).bind λdH=>some dH)) λK3=>(some (decide ((x1:Int)<0))).bind λx6=>(bif x6 then some true else(some (x0.length:Int)).bind λdI=>(some (decide ((dI:Int)≤x1))).bind λfz=>some fz).bind λPo=>K3 Po
noncomputable def sJ(x0:List (List Qr)):Option (Int):=(some (x0.length:Int)).bind λx7=>(bX (λ(s6:Int×Int)=>match s6 with|⟨ua,aaw⟩=>(show Option ((Int×Int)⊕(Int))from(some (decide ((aaw:Int)<x7))).bind λx9=>(bif x9 then(cL x0 aaw).bind λdI=>(some (dI.length:Int)).bind λei=>(some (max (ua:Int) ei)).bind λdH=>(some (IntKind.i64.wrap (aaw+1))).bind λfB=>some (.inl (dH,fB))else some (.inr ua)))) (0,0)).bind λyT=>some yT
noncomputable def Bh(x0:List (List Qr))(x1:Int)(x2:Int):Option (Qr):=(yS x0 x1).bind λdI=>cE (λ(WR:Bool)=>(bif WR then some ⟨⟨false,[]⟩,⟨false,[]⟩⟩else(cL dI x2).bind λ⟨⟨wJ,wK⟩,⟨wL,wM⟩⟩=>(dQ ⟨⟨wJ,wK⟩,⟨wL,wM⟩⟩).bind λ⟨⟨vn,vo⟩,⟨yP,yQ⟩⟩=>some ⟨⟨vn,vo⟩,⟨yP,yQ⟩⟩)) λK3=>(some (decide ((x2:Int)<0))).bind λc9=>(bif c9 then some true else(some (dI.length:Int)).bind λfB=>(some (decide ((fB:Int)≤x2))).bind λdX=>some dX).bind λacO=>K3 acO
noncomputable def lX(x0:List (List Int)):Option (List (List Qr)):=(some (x0.length:Int)).bind λx7=>(Hf 24 x7 ([]:List Qr)).bind λx8=>(some (x0.length:Int)).bind λdI=>(bX (λ(s8:Int×(List (List Qr)))=>match s8 with|⟨tZ,IE⟩=>(show Option ((Int×(List (List Qr)))⊕((List (List Qr))))from(some (decide ((tZ:Int)<dI))).bind λc9=>(bif c9 then(cL x0 tZ).bind λei=>(dR ei).bind λjl=>(kW IE tZ).bind λij=>(stM IE ij jl).bind λDL=>(some (IntKind.i64.wrap (tZ+1))).bind λfL=>some (.inl (fL,DL))else some (.inr IE)))) (0,x8)).bind λC8=>some C8
end
section
open Go.Fw Go.Fw.Z Go.RowKit
theorem RB{x0:List (List Qr)}{x1:Int}{r:List Qr}(h:yS x0 x1=some r):Pure af 139 [slc 1 (List.map (eS 4 eQ) x0),.v (.int .i64 x1)] (slc 4 (List.map eQ r)):=by
 refine bj Tryz.func139 Y (ae Y) (λdw M vs hvs=>?_)
 unfold yS at h
 refine sr<|aI Y (aB (n:=4) (e:=eQ))<|dn<|qq<|qq ?_
 refine bJ h (λj3=>AS.cj 17 [(0,.sv (slc 1 (List.map (eS 4 eQ) x0))),(1,.sv (.v (.int .i64 x1))),(12,.sv (.v (.bool j3)))] [] []) (λh=>?_) (λIG h=>?_)
 refine aX<|mv Y<|lE h λx6 h6 h=>ls _ Y Y h6<|mv Y<|bE h λPo rW h=>?_
 cases x6
 refine gm Y<|gm Y<|lE (F rW) λdI gC rW=>gn Y gC<|lE rW λfz lp rW=>RT.geq (.some Y Y) _ Y Y T lp ?_
 obtain rfl:=O rW
 exact pF Y<|dn<|⟨fz,h,wR []⟩
 obtain rfl:=O (V rW)
 exact ww<|ww<|ww<|ww<|pT Y<|dn<|⟨true,h,wR []⟩
 try dsimp only
 refine aW.n ?_
 cases IG
 refine fs<|sr<|mv Y<|mv Y<|bE (F h) λdH gD h=>ix Y Y gD<|lr Y Y<|ag Y<|dn<|bf ?_
 obtain rfl:=O h
 exact R1 Y
 refine cT<|sr<|aI Y (aB (n:=4) (e:=eQ))<|dn<|bf<|aW.r ?_
 obtain rfl:=O (V h)
 exact R1 Y
theorem Gh{x0:List (List Qr)}{r:Int}(h:sJ x0=some r):Pure af 84 [slc 1 (List.map (eS 4 eQ) x0)] (.v (.int .i64 r)):=by
 refine bj Tryz.func84 Y (ae Y) (λdw M vs hvs=>?_)
 unfold sJ at h
 refine sr<|ag Y<|dn<|sr<|ag Y<|dn<|qq<|sr<|mv Y<|lE h λx7 h7 h=>ln Y h7<|mv Y<|dn<|bE h λe6 vA jo=>?_
 refine bK (λ(yT:Int)=>AS.cj 18 [(3,.sv (.v (.int .i64 yT)))] [] []) (λyT=>yT=e6) ?_ (λyT vB=>?_)
 refine aY ?_
 refine bL vA (λs6=>AS.cj 18 [(3,.sv (.v (.int .i64 s6.1))),(6,.sv (slc 1 (List.map (eS 4 eQ) x0))),(7,.sv (.v (.int .i64 x7))),(8,.sv (.v (.int .i64 s6.2)))] [] []) (wR []) (λs6 y6 G6 h vC qy=>?_)
 obtain⟨ua,aaw⟩:=s6
 try dsimp only
 refine sr<|lE h λx9 h9 h=>ls _ Y Y h9<|dn<|qq ?_
 cases x9
 refine cF<|bN<|aW.x<|aW.x<|bF.x<|aW.n ?_
 obtain rfl:=O (F h)
 exact⟨ua,qy _ Y,wR []⟩
 refine cT<|bw<|aW.n<|qq<|aY<|sr<|bE (V h) λdI gC h=>ix Y Y gC<|lr Y Y<|ag Y<|dn<|aX<|mv Y<|mv Y<|lE h λei jx h=>ln Y jx<|lE h λdH gD h=>RT.max .none _ Y Y T (Oo (p:=ua) (q:=ei) gD)<|ag Y<|RT.done<|bF.n<|aW.n<|aX<|lE h λfB lq h=>ad _ Y Y lq<|mv Y<|RT.done ?_
 obtain rfl:=O h
 exact aW.n ⟨(dH,fB),vC _ Y,wR []⟩
 subst vB
 try dsimp only
 refine aW.n<|sr<|mv Y<|ag Y<|dn<|bf ?_
 obtain rfl:=O jo
 exact R1 Y
theorem UB{x0:List (List Qr)}{x1:Int}{x2:Int}{r:Qr}(h:Bh x0 x1 x2=some r):Pure af 103 [slc 1 (List.map (eS 4 eQ) x0),.v (.int .i64 x1),.v (.int .i64 x2)] (.agg (eQ r)):=by
 refine bj Tryz.func103 Y (ae Y) (λdw M vs hvs=>?_)
 unfold Bh at h
 refine sr<|al (cs:=[.v (.bool false),slc 1 (List.map bh []),.v (.bool false),slc 1 (List.map bh [])]) (by exact⟨aq,aB,aq,aB,ak⟩) Y<|dn<|sr<|mv Y<|mv Y<|bE h λdI gC h=>cl (RB gC) ⟨Y,Y,ak⟩<|ag Y<|dn<|qq<|qq ?_
 refine bJ h (λj3=>AS.cj 25 [(2,.sv (.v (.int .i64 x2))),(6,.ptr 6 0),(7,.sv (slc 4 (List.map eQ dI))),(18,.sv (.v (.bool j3)))] [(6,⟨43,[.sv (.v (.bool false)),.sv (slc 1 (List.map bh [])),.sv (.v (.bool false)),.sv (slc 1 (List.map bh []))]⟩)] []) (λh=>?_) (λWR h=>?_)
 refine aX<|mv Y<|lE h λc9 fC h=>ls _ Y Y fC<|mv Y<|bE h λacO rW h=>?_
 cases c9
 refine gm Y<|gm Y<|lE (F rW) λfB lq rW=>gn Y lq<|lE rW λdX jO rW=>RT.geq (.some Y Y) _ Y Y T jO ?_
 obtain rfl:=O rW
 exact pF Y<|dn<|⟨dX,h,wR []⟩
 obtain rfl:=O (V rW)
 exact ww<|ww<|ww<|ww<|pT Y<|dn<|⟨true,h,wR []⟩
 try dsimp only
 refine aW.n ?_
 cases WR
 refine fs<|sr<|mv Y<|mv Y ?_
 obtain⟨⟨⟨wJ,wK⟩,⟨wL,wM⟩⟩,oH,h⟩:=bS (F h)
 refine ix Y Y oH<|RT.gy (cs:=[_,_,_,_]) .none Y T Y Y ?_
 obtain⟨⟨⟨vn,vo⟩,⟨yP,yQ⟩⟩,oY,h⟩:=bS h
 refine cl (xM oY) ⟨Y,ak⟩<|so Y Y Y<|dn<|bf ?_
 obtain rfl:=O h
 exact RZ (.agg Y Y (.cons Y (.cons Y (.cons Y (.cons Y (.nil))))) Y (.nil))
 refine cT<|sr<|bI (cs:=[_,_,_,_]) (cs':=[.v (.bool false),slc 1 (List.map bh []),.v (.bool false),slc 1 (List.map bh [])]) (.nil) ⟨aq,aB,aq,aB,ak⟩<|so Y Y Y<|dn<|bf<|aW.r ?_
 obtain rfl:=O (V h)
 exact RZ (.agg Y Y (.cons Y (.cons Y (.cons Y (.cons Y (.nil))))) Y (.nil))
theorem Aj{x0:List (List Int)}{r:List (List Qr)}(h:lX x0=some r):Pure af 100 [slc 1 (List.map (eS 1 bD) x0)] (slc 1 (List.map (eS 4 eQ) r)):=by
 refine bj Tryz.func100 Y (ae Y) (λdw M vs hvs=>?_)
 unfold lX at h
 refine sr<|aI Y (aB (n:=1) (e:=(eS 4 eQ)))<|dn<|sr<|mv Y<|lE h λx7 h7 h=>ln Y h7<|bE h λx8 h8 h=>RT.tK (n:=1) (e:=(eS 4 eQ)) .none Y Y T Y T (by rfl) (by decide) (by exact⟨aB,ak⟩) h8<|an (s:=.row _) Y<|dn<|qq<|sr<|mv Y<|lE h λdI gC h=>ln Y gC<|mv Y<|dn<|bE h λe8 Ko Ch=>?_
 refine bK (λ(C8:(List (List Qr)))=>AS.cj 23 [(3,.row 8)] [] [(8,TR 23 1 (eS 4 eQ) C8)]) (λC8=>C8=e8) ?_ (λC8 Mv=>?_)
 refine aY ?_
 refine bL Ko (λs8=>AS.cj 23 [(3,.row 8),(9,.sv (slc 1 (List.map (eS 1 bD) x0))),(10,.sv (.v (.int .i64 dI))),(11,.sv (.v (.int .i64 s8.1)))] [] [(8,TR 23 1 (eS 4 eQ) s8.2)]) (wR []) (λs8 y8 G8 h Mw Mx=>?_)
 obtain⟨tZ,IE⟩:=s8
 try dsimp only
 refine sr<|lE h λc9 fC h=>ls _ Y Y fC<|dn<|qq ?_
 cases c9
 refine cF<|bN<|aW.x<|aW.x<|bF.x<|aW.n ?_
 obtain rfl:=O (F h)
 exact⟨IE,Mx _ Y,wR []⟩
 refine cT<|bw<|aW.n<|qq<|aY<|sr<|mv Y<|bE (V h) λei jx h=>ix Y Y jx<|lr Y Y<|ag Y<|ag Y<|dn<|aX<|mo (s:=.row _) Y<|mv Y<|mv Y<|bE h λjl mw h=>cl (fU mw) ⟨Y,ak⟩<|bE h λij oG h=>iR Y Y Y oG<|bE h λDL yI h=>sR jl Y Y Y Y yI<|RT.done<|bF.n<|aW.n<|aX<|lE h λfL ke h=>ad _ Y Y ke ?_
 refine mv Y<|RT.done ?_
 obtain rfl:=O h
 exact aW.n ⟨(fL,DL),Mw _ Y,wR []⟩
 subst Mv
 try dsimp only
 refine aW.n<|sr<|mo (s:=.row _) Y<|an (s:=.row _) Y<|dn<|bR (cV (i:=8) (E1:=23) (n:=1) (e:=(eS 4 eQ)) (l:=C8) Y)<|bf ?_
 obtain rfl:=O Ch
 exact R1 Y
end
end Go.Proofs.YtningmnklfpfjaaGreat
namespace Go.Fw
section
open Go.RowKit
def qe:List (Nat×Row×Value)→(Nat→Value)→Nat→Value
 |[],ν,j=>ν j
 |(k,_,v)::l,ν,j=>if j=k then v else qe l ν j
theorem uc{ν:Nat→Value}:∀{l:List (Nat×Row×Value)} {j:Nat},(∀R v,(j,R,v)∉l)→qe l ν j=ν j
 |[],_,_=>rfl
 |(k,R,v)::l,j,h=>by
  have:j≠k:=λe=>h R v (by rw[e];simp)
  rw[qe,if_neg this]
  exact uc (λR v hm=>h R v (List.mem_cons_of_mem _ hm))
theorem m9{ν:Nat→Value}:∀{l:List (Nat×Row×Value)} {j:Nat} {R:Row} {v:Value},(l.map (·.1)).Nodup→(j,R,v)∈l→qe l ν j=v
 |(k,R',v')::l,j,R,v,hn,h=>by
  rw[List.map_cons,List.nodup_cons]at hn
  rcases List.mem_cons.1 h with e|e
  ·cases e;rw[qe,if_pos rfl]
  ·have:j≠k:=λq=>hn.1 (List.mem_map.2 ⟨(j,R,v),e,q⟩)
   rw[qe,if_neg this];exact m9 hn.2 e
def D4(olds:List Nat)(news:List (Nat×Row×Value)):List (Nat×qO):=olds.map (λj=>(j,.dead))++news.map (λn=>(n.1,.live n.2.1))
theorem zL:∀(l k:List (Nat×qO)) (j:Nat),fy (l++k) j=match fy k j with|some R=>some R|none=>fy l j
 |[],k,j=>by cases h:fy k j<;>simp[h,fy]
 |(i,R)::l,k,j=>by
  rw[List.cons_append,fy,fy,zL l k j]
  cases h:fy k j<;>simp
theorem Da{l:List (Nat×qO)}{j:Nat}(h:∀R,(j,R)∉l):fy l j=none:=by
 induction l with
 |nil=>rfl
 |cons p l ih=>
  obtain⟨i,R⟩:=p
  rw[fy,ih (λR hm=>h R (List.mem_cons_of_mem _ hm))]
  have:j≠i:=λe=>h R (by rw[e];simp)
  simp[this]
theorem Db{l:List (Nat×qO)}{j:Nat}{R:qO}(h:fy l j=some R):(j,R)∈l:=by
 induction l with
 |nil=>cases h
 |cons p l ih=>
  obtain⟨i,R'⟩:=p
  rw[fy]at h
  cases e:fy l j with
  |some R2=>rw[e]at h;cases h;exact List.mem_cons_of_mem _ (ih e)
  |none=>
   rw[e]at h
   by_cases q:j=i
   ·subst q;simp at h;subst h;simp
   ·simp[q]at h
theorem II{l:List (Nat×qO)}{j:Nat}{R:qO}(h:(j,R)∈l):∃R',fy l j=some R':=by
 induction l with
 |nil=>cases h
 |cons p l ih=>
  obtain⟨i,R'⟩:=p
  rw[fy]
  rcases List.mem_cons.1 h with e|e
  ·cases e
   cases q:fy l j with
   |some R2=>exact⟨R2,Y⟩
   |none=>exact⟨R,by simp⟩
  ·obtain⟨R2,h2⟩:=ih e
   exact⟨R2,by rw[h2]⟩
section swap
variable {C:Ctx}{S:AS}
theorem bC.ajr{E:Env}{a:Act}{w w':World}(h:bC C S E a w){i:Nat}{T:TypeId}{cells cells':List AV}{us':List Value}{M':Mem}(hB:S.b i=some ⟨T,cells⟩)(olds:List Nat)(news:List (Nat×Row×Value))
  (hold:∀j∈olds,∃R,S.r j=.live R) (hnew:∀k R v,(k,R,v)∈news→S.r k=.un∧k<1000) (hnd:(news.map (·.1)).Nodup)
  (hM:E.M.le M') (hmn:∀b o x,M' b o=some x→E.M b o=some x∨w.heap.size≤b∨∃j∈olds,(E.ν j).ownBlock=some b) (hin:M'.ep w')
  (an2:w'.heap[E.β i]? =some (.cells ⟨us'⟩ T (0,0))) (hnb:∀o,M' (E.β i) o=none) (CL:eI {E with M:=M',ν:=qe news E.ν} cells' us')
  (hcb:∀x∈cells',(∀j,¬x.mb j)∧∀j,x.mr j→∃R v,(j,R,v)∈news)
  (hrow:∀k R v,(k,R,v)∈news→(∃vs:List Value,w'.ownsRow 0 R.E R.sz v R.n vs∧SV.gw M' R.cells vs)∧∀g,v.ownBlock=some g→((∃j∈olds,(E.ν j).ownBlock=some g)∨w.heap.size≤g)∧(∀o,M' g o=none)∧g≠E.β i)
  (ajs:∀k R v k' R' v' g,(k,R,v)∈news→(k',R',v')∈news→v.ownBlock=some g→v'.ownBlock=some g→k=k')
  (hos:w'.os=w.os) (yU:w'.tape=w.tape) (hout:w'.output=w.output) (hsize:w.heap.size≤w'.heap.size)
  (pV:∀k,k<w.heap.size→k≠E.β i→(∀j∈olds,(E.ν j).ownBlock≠some k)→w'.heap[k]? =w.heap[k]?):
  bC C (AS.cO (D4 olds news) (AS.iQ [(i,⟨T,cells'⟩)] S)) {E with M:=M',ν:=qe news E.ν} a w':=by
 obtain⟨UC,an3,aax,Zz,UD,_⟩:=h.bx i _ hB
 have arW:E.β i<w.heap.size:=(Array.getElem?_eq_some_iff.1 UD).1
 obtain⟨n1,n2,n3,n4,n5⟩:=ic (D4 olds news) (AS.iQ [(i,⟨T,cells'⟩)] S)
 have tOf:(AS.cO (D4 olds news) (AS.iQ [(i,⟨T,cells'⟩)] S)).t=S.t:=n2
 have Gz:∀j,(AS.cO (D4 olds news) (AS.iQ [(i,⟨T,cells'⟩)] S)).b j=if j=i then some ⟨T,cells'⟩else S.b j:=λj=>by
  rw[n3]
  by_cases e:j=i
  ·subst e;rw[if_pos rfl];exact AS.dO _ _ _
  ·rw[if_neg e];exact AS.cJ _ _ _ _ e
 have ajt:∀k R v,(k,R,v)∈news→fy (news.map (λn=>(n.1,qO.live n.2.1))) k=some (.live R):=λk R v hm=>by
  obtain⟨R',vW⟩:=II (l:=news.map (λn=>(n.1,qO.live n.2.1))) (j:=k) (R:=.live R) (List.mem_map.2 ⟨(k,R,v),hm,Y⟩)
  obtain⟨⟨k2,R2,v2⟩,VB,e⟩:=List.mem_map.1 (Db vW)
  have e1:k2=k:=congrArg Prod.fst e
  have e2:qO.live R2=R':=congrArg Prod.snd e
  rw[e1]at VB
  have:R2=R:=by
   have key:∀(l:List (Nat×Row×Value)),(l.map (·.1)).Nodup→(k,R2,v2)∈l→(k,R,v)∈l→R2=R:=by
    intro l
    induction l with
    |nil=>intro _ h;cases h
    |cons p l ih=>
     intro hn h1 h2
     rw[List.map_cons,List.nodup_cons]at hn
     rcases List.mem_cons.1 h1 with e1|e1<;>rcases List.mem_cons.1 h2 with e2|e2
     ·rw[←e1]at e2;cases e2;rfl
     ·exact absurd (List.mem_map.2 ⟨_,e2,by rw[←e1]⟩) hn.1
     ·exact absurd (List.mem_map.2 ⟨_,e1,by rw[←e2]⟩) hn.1
     ·exact ih hn.2 e1 e2
   exact key news hnd VB hm
  rw[vW,←e2,this]
 have aju:∀k R v,(k,R,v)∈news→(AS.cO (D4 olds news) (AS.iQ [(i,⟨T,cells'⟩)] S)).r k=.live R:=λk R v hm=>by
  rw[pM,D4,zL,ajt k R v hm];rfl
 have ajv:∀j,(∀R v,(j,R,v)∉news)→(AS.cO (D4 olds news) (AS.iQ [(i,⟨T,cells'⟩)] S)).r j=if j∈olds then .dead else S.r j:=λj hn=>by
  have e1:fy (news.map (λn=>(n.1,qO.live n.2.1))) j=none:=Da (λR hm=>by
   obtain⟨⟨k2,R2,v2⟩,VB,e⟩:=List.mem_map.1 hm
   cases e;exact hn R2 v2 VB)
  rw[pM,D4,zL,e1]
  by_cases ho:j∈olds
  ·rw[if_pos ho]
   obtain⟨R',vW⟩:=II (l:=olds.map (λj=>(j,qO.dead))) (j:=j) (R:=.dead) (List.mem_map.2 ⟨j,ho,Y⟩)
   obtain⟨j2,_,e⟩:=List.mem_map.1 (Db vW)
   cases e
   rw[vW];rfl
  ·rw[if_neg ho,Da (λR hm=>by obtain⟨j2,VB,e⟩:=List.mem_map.1 hm;cases e;exact ho VB)];rfl
 have WS:∀j,S.r j≠ .un→∀R v,(j,R,v)∉news:=λj hj R v hm=>hj (hnew j R v hm).1
 have rne:∀j,S.r j≠ .un→(AS.cO (D4 olds news) (AS.iQ [(i,⟨T,cells'⟩)] S)).r j≠ .un:=λj hj=>by
  rw[ajv j (WS j hj)]
  split
  ·simp
  ·exact hj
 have Fy:∀j∈olds,∀g,(E.ν j).ownBlock=some g→(C.w0.heap.size≤g∨C.BO g)∧(∀o,E.M g o=none)∧¬E.O g∧(∀n B,S.b n=some B→E.β n≠g)∧g<w.heap.size∧∃c e,w.heap[g]? =some (Obj.cells c e (0,0)):=λj hj g hg=>by
  obtain⟨R,hR⟩:=hold j hj
  obtain⟨⟨us,q1,_⟩,q2⟩:=h.rx j R hR
  obtain⟨q3,q4,q5,q6⟩:=q2 g hg
  refine⟨q3,q4,q5,q6,nR h hR hg,?_⟩
  rcases q1.2 with⟨q7,_⟩|⟨g',cap,cur,q7,_,q8,_⟩
  ·rw[q7]at hg;cases hg
  ·rw[q7]at hg;cases hg;exact⟨_,_,q8⟩
 have keep:∀x:AV,(∀j,x.mr j→S.r j≠ .un)→∀v,x.holds E v→x.holds {E with M:=M',ν:=qe news E.ν} v:=λx hx v hv=>
  AV.dJ (E:=E) (E':={E with M:=M',ν:=qe news E.ν}) hM (λ_ _=>Y) (λj hj=>uc (WS j (hx j hj))) hv
 have noM:∀b,b<w.heap.size→(∀o,E.M b o=none)→(∀j∈olds,(E.ν j).ownBlock≠some b)→∀o,M' b o=none:=λb h1 h2 h3 o=>by
  cases e:M' b o with
  |none=>rfl
  |some v=>
   rcases hmn b o v e with q|q|⟨j,q1,q2⟩
   ·rw[h2 o]at q;cases q
   ·omega
   ·exact absurd q2 (h3 j q1)
 have live:∀j R,(AS.cO (D4 olds news) (AS.iQ [(i,⟨T,cells'⟩)] S)).r j=.live R→(∃v,(j,R,v)∈news)∨((∀R v,(j,R,v)∉news)∧j∉olds∧S.r j=.live R):=λj R hj=>by
  by_cases hn:∃R v,(j,R,v)∈news
  ·obtain⟨R',v,hm⟩:=hn
   rw[aju j R' v hm]at hj;cases hj;exact .inl ⟨v,hm⟩
  ·have hn:∀R v,(j,R,v)∉news:=λR v hm=>hn ⟨R,v,hm⟩
   rw[ajv j hn]at hj
   by_cases ho:j∈olds
   ·rw[if_pos ho]at hj;cases hj
   ·rw[if_neg ho]at hj;exact .inr ⟨hn,ho,hj⟩
 have oth:∀j R,S.r j=.live R→j∉olds→∀g,(E.ν j).ownBlock=some g→∀j'∈olds,(E.ν j').ownBlock≠some g:=λj R hR ho g hg j' hj' e=>by
  obtain⟨R',vW⟩:=hold j' hj'
  have:=h.iN j j' R R' hR vW g hg e
  subst this;exact ho hj'
 exact{
  wf:=by
   refine⟨λs j hj=>?_,λs j hj=>?_,λj B iT x hx m hm=>?_,λj B iT x hx m hm=>?_⟩
   ·rw[tOf]at hj
    obtain⟨B,iT⟩:=h.wf.tb s j hj
    rw[Gz]
    by_cases e:j=i
    ·exact⟨_,if_pos e⟩
    ·exact⟨B,by rw[if_neg e];exact iT⟩
   ·rw[tOf]at hj
    exact rne j (h.wf.tr s j hj)
   ·rw[Gz]at iT⊢
    by_cases e:j=i
    ·rw[if_pos e]at iT;cases iT;exact absurd hm ((hcb x hx).1 m)
    ·rw[if_neg e]at iT
     obtain⟨B2,hB2⟩:=h.wf.bb j B iT x hx m hm
     by_cases e2:m=i
     ·exact⟨_,if_pos e2⟩
     ·exact⟨B2,by rw[if_neg e2];exact hB2⟩
   ·rw[Gz]at iT
    by_cases e:j=i
    ·rw[if_pos e]at iT;cases iT
     obtain⟨R,v,VB⟩:=(hcb x hx).2 m hm
     rw[aju m R v VB];simp
    ·rw[if_neg e]at iT;exact rne m (h.wf.br j B iT x hx m hm)
  marks:=by
   obtain⟨ds,d1,d2,d3⟩:=h.marks
   refine⟨ds,d1,d2,λr hr=>?_⟩
   obtain⟨p1,p2,p3⟩:=d3 r hr
   refine⟨p1,p2,?_⟩
   rw[pV r (Array.getElem?_eq_some_iff.1 p3).1 (λe=>by rw[e,UD]at p3;cases p3) (λj hj e=>by
    obtain⟨_,_,_,_,_,c,e2,q⟩:=Fy j hj r e
    rw[q]at p3;cases p3)]
   exact p3
  size:=by rw[n1];exact h.size
  os:=hos.trans h.os
  tape:=yU.trans h.tape
  output:=hout.trans h.output
  grown:=Nat.le_trans h.grown hsize
  frame:=λk hk hown=>by
   rw[pV k (Nat.lt_of_lt_of_le hk h.grown) (λe=>by
    rcases UC with q|q
    ·omega
    ·exact hown (C.J7 _ (by rw[e];exact q))) (λj hj e=>by
    rcases(Fy j hj k e).1 with q|q
    ·omega
    ·exact hown (C.J7 _ q))]
   exact h.frame k hk hown
  m0:=Mem.le_trans h.m0 hM
  gS:=λb o v e=>by
   rcases hmn b o v e with q|q|⟨j,q1,q2⟩
   ·exact h.gS b o v q
   ·exact .inr (.inl (Nat.le_trans h.grown q))
   ·rcases(Fy j q1 b q2).1 with q|q
    ·exact .inr (.inl q)
    ·exact .inr (.inr (C.J7 _ q))
  ep:=hin
  tm:=λs=>by rw[tOf];exact keep _ (h.wf.tr s) _ (h.tm s)
  bx:=λj B iT=>by
   rw[Gz]at iT
   by_cases e:j=i
   ·rw[if_pos e]at iT;cases iT;subst e
    exact⟨UC,hnb,aax,us',an2,CL⟩
   ·rw[if_neg e]at iT
    obtain⟨p1,p2,p3,vs,p4,p5⟩:=h.bx j B iT
    have hlt:=(Array.getElem?_eq_some_iff.1 p4).1
    have hno:∀j'∈olds,(E.ν j').ownBlock≠some (E.β j):=λj' hj' q=>(Fy j' hj' _ q).2.2.2.1 j B iT Y
    refine⟨p1,noM _ hlt p2 hno,p3,vs,?_,p5.imp (λx hx v hv=>keep x (h.wf.br j B iT x hx) v hv)⟩
    show w'.heap[E.β j]? =_
    rw[pV _ hlt (λq=>e (h.inj j i B _ iT hB q)) hno];exact p4
  inj:=λj j' B B' h1 h2 e=>by
   have key:∀n B,(AS.cO (D4 olds news) (AS.iQ [(i,⟨T,cells'⟩)] S)).b n=some B→∃B',S.b n=some B':=λn B hn=>by
    rw[Gz]at hn
    by_cases e:n=i
    ·subst e;exact⟨_,hB⟩
    ·rw[if_neg e]at hn;exact⟨B,hn⟩
   obtain⟨B1,p1⟩:=key j B h1
   obtain⟨B2,p2⟩:=key j' B' h2
   exact h.inj j j' B1 B2 p1 p2 e
  rx:=λj R hj=>by
   have boxes:∀g,(∀n B,S.b n=some B→E.β n≠g)→∀n B,(AS.cO (D4 olds news) (AS.iQ [(i,⟨T,cells'⟩)] S)).b n=some B→E.β n≠g:=λg hg n B hn=>by
    rw[Gz]at hn
    by_cases e:n=i
    ·subst e;exact hg _ _ hB
    ·rw[if_neg e]at hn;exact hg n B hn
   rcases live j R hj with⟨v,hm⟩|⟨hn,ho,hR⟩
   ·rw[show({E with M:=M',ν:=qe news E.ν}:Env).ν j=v from m9 hnd hm]
    obtain⟨p1,p2⟩:=hrow j R v hm
    refine⟨p1,λg hg=>?_⟩
    obtain⟨p3,p4,p5⟩:=p2 g hg
    rcases p3 with⟨j',q1,q2⟩|p3
    ·obtain⟨o1,o2,o3,o4,_⟩:=Fy j' q1 g q2
     exact⟨o1,p4,o3,boxes g o4⟩
    ·refine⟨.inl (Nat.le_trans h.grown p3),p4,λq=>?_,boxes g (λn B hn q=>?_)⟩
     ·have:=(h.qp g q).1;omega
     ·obtain⟨_,_,_,vs,q4,_⟩:=h.bx n B hn
      have:=(Array.getElem?_eq_some_iff.1 q4).1
      omega
   ·rw[show({E with M:=M',ν:=qe news E.ν}:Env).ν j=E.ν j from uc hn]
    obtain⟨⟨us,p1,p2⟩,p3⟩:=h.rx j R hR
    refine⟨⟨us,eW p1 λg hg=>pV g (nR h hR hg) (λe=>(p3 g hg).2.2.2 i _ hB e.symm) (oth j R hR ho g hg),p2.mono hM⟩,λg hg=>?_⟩
    obtain⟨p4,p5,p6,p7⟩:=p3 g hg
    exact⟨p4,noM g (nR h hR hg) p5 (oth j R hR ho g hg),p6,boxes g p7⟩
  iN:=λj j' R R' h1 h2 g e1 e2=>by
   have mixed:∀j R v j' R' g,(j,R,v)∈news→S.r j'=.live R'→j'∉olds→v.ownBlock=some g→(E.ν j').ownBlock=some g→False:=λj R v j' R' g hm vW ho e1 e2=>by
    rcases((hrow j R v hm).2 g e1).1 with⟨j2,q1,q2⟩|q
    ·exact oth j' R' vW ho g e2 j2 q1 q2
    ·have:=nR h vW e2;omega
   rcases live j R h1 with⟨v,hm⟩|⟨hn,ho,hR⟩<;>rcases live j' R' h2 with⟨v',hm'⟩|⟨hn',ho',vW⟩
   ·rw[show({E with M:=M',ν:=qe news E.ν}:Env).ν j=v from m9 hnd hm]at e1
    rw[show({E with M:=M',ν:=qe news E.ν}:Env).ν j'=v' from m9 hnd hm']at e2
    exact ajs j R v j' R' v' g hm hm' e1 e2
   ·rw[show({E with M:=M',ν:=qe news E.ν}:Env).ν j=v from m9 hnd hm]at e1
    rw[show({E with M:=M',ν:=qe news E.ν}:Env).ν j'=E.ν j' from uc hn']at e2
    exact(mixed j R v j' R' g hm vW ho' e1 e2).elim
   ·rw[show({E with M:=M',ν:=qe news E.ν}:Env).ν j=E.ν j from uc hn]at e1
    rw[show({E with M:=M',ν:=qe news E.ν}:Env).ν j'=v' from m9 hnd hm']at e2
    exact(mixed j' R' v' j R g hm' hR ho e2 e1).elim
   ·rw[show({E with M:=M',ν:=qe news E.ν}:Env).ν j=E.ν j from uc hn]at e1
    rw[show({E with M:=M',ν:=qe news E.ν}:Env).ν j'=E.ν j' from uc hn']at e2
    exact h.iN j j' R R' hR vW g e1 e2
  kV:=h.kV
  gu:=λk v e=>by
   rw[show({E with M:=M',ν:=qe news E.ν}:Env).ν k=E.ν k from uc (λR v hm=>by have:=(hnew k R v hm).2;have:=C.T7 k _ e;omega)]
   exact h.gu k v e
  qp:=λb hb=>by
   obtain⟨p1,p2,p3⟩:=h.qp b hb
   exact⟨Nat.lt_of_lt_of_le p1 hsize,noM b p1 p2 (λj hj e=>(Fy j hj b e).2.2.1 hb),p3⟩
  jj:=by
   have hj:=C.jf S.g S.go E.O E.M M' w w' h.jj hM hin (λb o v e=>by
    rcases hmn b o v e with q|q|⟨j,q1,q2⟩
    ·exact .inl q
    ·exact .inr ⟨.inl (Nat.le_trans h.grown q),λq2=>by have:=(h.qp b q2).1;omega⟩
    ·obtain⟨o1,_,o3,_⟩:=Fy j q1 b q2
     exact .inr ⟨o1,o3⟩) (λb hb=>by
    have hlt:b<w.heap.size∨w.heap.size≤b:=Nat.lt_or_ge _ _
    have hb':b<w.heap.size:=by
     rcases hb with⟨q,_⟩|q
     ·exact Nat.lt_of_lt_of_le q h.grown
     ·exact(h.qp b q).1
    refine pV b hb' (λe=>?_) (λj hj e=>?_)
    ·subst e
     rcases hb with⟨q1,q2⟩|q
     ·rcases UC with p|p
      ·omega
      ·exact q2 p
     ·exact aax q
    ·obtain⟨o1,_,o3,_⟩:=Fy j hj b e
     rcases hb with⟨q1,q2⟩|q
     ·rcases o1 with p|p
      ·omega
      ·exact q2 p
     ·exact o3 q) hos yU hout hsize
   rw[n4,n5];exact hj}
end swap
end
section
open Go.RowKit
inductive Oc where
 |s (x:SV)
 |r (R:Row)
def xN(M:Mem)(w:World):List Oc→List Value→Prop
 |[],[]=>True
 |.s x::l,v::vs=>x.h M v∧xN M w l vs
 |.r R::l,v::vs=>(∃us:List Value,w.ownsRow 0 R.E R.sz v R.n us∧SV.gw M R.cells us)∧xN M w l vs
 |_,_=>False
def rowsOf:List Oc→List Row
 |[]=>[]
 |.s _::l=>rowsOf l
 |.r R::l=>R::rowsOf l
def cQ:List Oc→List Value→List (Row×Value)
 |.s _::l,_::vs=>cQ l vs
 |.r R::l,v::vs=>(R,v)::cQ l vs
 |_,_=>[]
def gK(c:List Oc)(us:List Value)(g:Nat):Prop:=∃p∈cQ c us,p.2.ownBlock=some g
def di:List Nat→List Oc→List AV
 |ids,.s x::l=>.sv x::di ids l
 |i::ids,.r _::l=>.row i::di ids l
 |[],.r _::l=>.sv .any::di [] l
 |_,[]=>[]
def S5(l:List (Row×Value)):Prop:=l.Pairwise λp q=>∀g,p.2.ownBlock=some g→q.2.ownBlock≠some g
structure xO (M:Mem) (w:World) (β:Nat) (T:TypeId) (c:List Oc) (us:List Value):Prop where
 hp:w.heap[β]? =some (.cells ⟨us⟩ T (0,0))
 al:xN M w c us
 nb:∀o,M β o=none
 nr:∀g,gK c us g→g≠β∧∀o,M g o=none
 ap:S5 (cQ c us)
theorem mB{M:Mem}{w:World}:∀{c:List Oc} {us:List Value},xN M w c us→(cQ c us).map (·.1)=rowsOf c
 |[],[],_=>rfl
 |.s _::l,_::vs,h=>mB (c:=l) (us:=vs) h.2
 |.r R::l,v::vs,h=>congrArg (R:: ·) (mB (c:=l) (us:=vs) h.2)
 |[],_::_,h=>h.elim
 |.s _::_,[],h=>h.elim
 |.r _::_,[],h=>h.elim
theorem qf{M:Mem}{w:World}:∀{c:List Oc} {us:List Value},xN M w c us→∀p∈cQ c us,∃vs:List Value,w.ownsRow 0 p.1.E p.1.sz p.2 p.1.n vs∧SV.gw M p.1.cells vs
 |[],[],_,p,hp=>by cases hp
 |.s _::l,_::vs,h,p,hp=>qf (c:=l) (us:=vs) h.2 p hp
 |.r R::l,v::vs,h,p,hp=>by
  rcases List.mem_cons.1 hp with rfl|hp
  ·exact h.1
  ·exact qf (c:=l) (us:=vs) h.2 p hp
 |[],_::_,h,_,_=>h.elim
 |.s _::_,[],h,_,_=>h.elim
 |.r _::_,[],h,_,_=>h.elim
theorem nI{α β:Type}:∀{l:List α} {k:List β} {a:α} {b:β},(a,b)∈l.zip k→a∈l∧b∈k
 |_::_,_::_,_,_,h=>by
  rw[List.zip_cons_cons]at h
  rcases List.mem_cons.1 h with e|e
  ·cases e;simp
  ·have:=nI e;exact⟨List.mem_cons_of_mem _ this.1,List.mem_cons_of_mem _ this.2⟩
 |[],_,_,_,h=>by simp at h
 |_::_,[],_,_,h=>by simp at h
theorem Ho{α β:Type}:∀{l:List α} {k:List β},l.length=k.length→(l.zip k).map (·.1)=l
 |[],[],_=>rfl
 |_::l,_::k,h=>by rw[List.zip_cons_cons,List.map_cons,Ho (by simpa using h)]
 |[],_::_,h=>by simp at h
 |_::_,[],h=>by simp at h
theorem Fz:∀{ids:List Nat} {l:List (Row×Value)},ids.Nodup→S5 l→∀k R v k' R' v' g,(k,R,v)∈ids.zip l→(k',R',v')∈ids.zip l→v.ownBlock=some g→v'.ownBlock=some g→k=k'
 |i::ids,p::l,hn,ha,k,R,v,k',R',v',g,h1,h2,e1,e2=>by
  rw[List.zip_cons_cons]at h1 h2
  rw[List.nodup_cons]at hn
  obtain⟨ha1,ha2⟩:=List.pairwise_cons.1 ha
  rcases List.mem_cons.1 h1 with q1|q1<;>rcases List.mem_cons.1 h2 with q2|q2
  ·cases q1;cases q2;rfl
  ·cases q1;exact absurd e2 (ha1 (R',v') (nI q2).2 g e1)
  ·cases q2;exact absurd e1 (ha1 (R,v) (nI q1).2 g e2)
  ·exact Fz hn.2 ha2 k R v k' R' v' g q1 q2 e1 e2
 |[],_,_,_,_,_,_,_,_,_,_,h1,_,_,_=>by simp at h1
 |_::_,[],_,_,_,_,_,_,_,_,_,h1,_,_,_=>by simp at h1
theorem wQ{E:Env}{w:World}:∀{ids:List Nat} {c:List Oc} {us:List Value},ids.length=(rowsOf c).length→xN E.M w c us→(∀i p,(i,p)∈ids.zip (cQ c us)→E.ν i=p.2)→eI E (di ids c) us
 |ids,[],[],_,_,_=>by cases ids<;>exact trivial
 |ids,.s x::l,v::vs,hl,h,hv=>by
  have ih:=wQ (E:=E) (w:=w) (ids:=ids) (c:=l) (us:=vs) hl h.2 hv
  cases ids<;>exact⟨h.1,ih⟩
 |i::ids,.r R::l,v::vs,hl,h,hv=>by
  refine⟨(hv i (R,v) (by rw[cQ,List.zip_cons_cons];simp)).symm,wQ (w:=w) (ids:=ids) (c:=l) (us:=vs) (by simpa[rowsOf]using hl) h.2 (λj p hm=>hv j p ?_)⟩
  rw[cQ,List.zip_cons_cons];exact List.mem_cons_of_mem _ hm
 |[],.r R::l,_::_,hl,_,_=>by simp[rowsOf]at hl
 |_,[],_::_,_,h,_=>h.elim
 |_,.s _::_,[],_,h,_=>h.elim
 |_,.r _::_,[],_,h,_=>h.elim
theorem wS:∀{ids:List Nat} {c:List Oc} (x:AV),x∈di ids c→(∀j,¬x.mb j)∧∀j,x.mr j→j∈ids
 |ids,[],x,h=>by cases ids<;>simp[di]at h
 |ids,.s y::l,x,h=>by
  have h':x∈AV.sv y::di ids l:=by cases ids<;>exact h
  rcases List.mem_cons.1 h' with rfl|h'
  ·exact⟨λj e=>e,λj e=>e.elim⟩
  ·exact wS x h'
 |i::ids,.r _::l,x,h=>by
  rcases List.mem_cons.1 (show x∈AV.row i::di ids l from h)with rfl|h'
  ·exact⟨λj e=>e,λj e=>by cases e;simp⟩
  ·obtain⟨h1,h2⟩:=wS x h'
   exact⟨h1,λj e=>List.mem_cons_of_mem _ (h2 j e)⟩
 |[],.r _::l,x,h=>by
  rcases List.mem_cons.1 (show x∈AV.sv .any::di [] l from h)with rfl|h'
  ·exact⟨λj e=>e,λj e=>e.elim⟩
  ·exact wS x h'
def Lv(S:AS):List Nat→List Row→Prop
 |[],[]=>True
 |j::js,R::Rs=>S.r j=.live R∧Lv S js Rs
 |_,_=>False
theorem Lv.len{S:AS}:∀{js:List Nat} {Rs:List Row},Lv S js Rs→js.length=Rs.length
 |[],[],_=>rfl
 |_::_,_::_,h=>congrArg (· +1) (Lv.len h.2)
 |[],_::_,h=>h.elim
 |_::_,[],h=>h.elim
theorem Lv.mem{S:AS}:∀{js:List Nat} {Rs:List Row},Lv S js Rs→∀j∈js,∃R,S.r j=.live R
 |j::js,R::Rs,h,k,hk=>by
  rcases List.mem_cons.1 hk with rfl|hk
  ·exact⟨R,h.1⟩
  ·exact Lv.mem h.2 k hk
 |[],_,_,k,hk=>by cases hk
 |_::_,[],h,_,_=>h.elim
theorem Bi{C:Ctx}{S:AS}{E:Env}{a:Act}{w:World}(h:bC C S E a w):∀{js:List Nat} {c:List Oc} {us:List Value},Lv S js (rowsOf c)→eI E (di js c) us→xN E.M w c us∧cQ c us=(rowsOf c).zip (js.map E.ν)
 |[],[],[],_,_=>⟨ak,Y⟩
 |js,.s x::l,v::vs,hL,hv=>by
  have Cf:eI E (AV.sv x::di js l) (v::vs):=by cases js<;>exact hv
  obtain⟨h1,h2⟩:=Bi h (js:=js) (c:=l) (us:=vs) hL Cf.2
  exact⟨⟨Cf.1,h1⟩,h2⟩
 |j::js,.r R::l,v::vs,hL,hv=>by
  have hL:S.r j=.live R∧Lv S js (rowsOf l):=hL
  have Cf:eI E (AV.row j::di js l) (v::vs):=hv
  obtain⟨h1,h2⟩:=Bi h (js:=js) (c:=l) (us:=vs) hL.2 Cf.2
  have e:v=E.ν j:=Cf.1
  obtain⟨q1,_⟩:=h.rx j R hL.1
  rw[←e]at q1
  refine⟨⟨q1,h1⟩,?_⟩
  rw[cQ,h2,e];rfl
 |[],.r _::_,_,hL,_=>hL.elim
 |_::_,[],_,hL,_=>hL.elim
 |[],[],_::_,_,hv=>by simp[di]at hv;exact hv.elim
 |js,.s x::l,[],_,hv=>by
  have Cf:eI E (AV.sv x::di js l) []:=by cases js<;>exact hv
  exact Cf.elim
 |_::_,.r _::_,[],_,hv=>hv.elim
theorem Bj{α β:Type}:∀{l:List α} {k:List β} {b:β},l.length=k.length→b∈k→∃a,(a,b)∈l.zip k
 |a::l,c::k,b,h,hb=>by
  rcases List.mem_cons.1 hb with rfl|hb
  ·exact⟨a,by rw[List.zip_cons_cons];simp⟩
  ·obtain⟨a',h'⟩:=Bj (l:=l) (k:=k) (by simpa using h) hb
   exact⟨a',by rw[List.zip_cons_cons];exact List.mem_cons_of_mem _ h'⟩
 |[],[],_,_,hb=>by cases hb
 |[],_::_,_,h,_=>by simp at h
theorem yV{C:Ctx}{S:AS}{E:Env}{a:Act}{w:World}(h:bC C S E a w){i:Nat}{T:TypeId}{js:List Nat}{c:List Oc}(hB:S.b i=some ⟨T,di js c⟩)(hL:Lv S js (rowsOf c))(hn:js.Nodup):
  ∃us,xO E.M w (E.β i) T c us∧(∀g,gK c us g↔∃j∈js,(E.ν j).ownBlock=some g):=by
 obtain⟨_,q1,_,us,q2,q3⟩:=h.bx i _ hB
 obtain⟨p1,p2⟩:=Bi h hL q3
 have hlen:=hL.len
 have Mb:∀g,gK c us g↔∃j∈js,(E.ν j).ownBlock=some g:=λg=>by
  unfold gK
  rw[p2]
  constructor
  ·rintro⟨⟨R,v⟩,hm,hg⟩
   obtain⟨j,hj,rfl⟩:=List.mem_map.1 (nI hm).2
   exact⟨j,hj,hg⟩
  ·rintro⟨j,hj,hg⟩
   obtain⟨R,hR⟩:=Bj (l:=rowsOf c) (k:=js.map E.ν) (by simp[hlen]) (List.mem_map.2 ⟨j,hj,Y⟩)
   exact⟨(R,E.ν j),hR,hg⟩
 refine⟨us,⟨q2,p1,q1,λg hg=>?_,?_⟩,Mb⟩
 ·obtain⟨j,hj,F2⟩:=(Mb g).1 hg
  obtain⟨R,hR⟩:=hL.mem j hj
  obtain⟨_,q4⟩:=h.rx j R hR
  obtain⟨_,q5,_,q6⟩:=q4 g F2
  exact⟨λe=>q6 i _ hB e.symm,q5⟩
 ·rw[p2]
  have key:∀(js:List Nat) (Rs:List Row),Lv S js Rs→js.Nodup→S5 (Rs.zip (js.map E.ν)):=by
   intro js
   induction js with
   |nil=>intro Rs hL _;cases Rs with|nil=>exact List.Pairwise.nil|cons _ _=>exact hL.elim
   |cons j js ih=>
    intro Rs hL hn
    cases Rs with
    |nil=>exact hL.elim
    |cons R Rs=>
     rw[List.nodup_cons]at hn
     rw[List.map_cons,List.zip_cons_cons]
     refine List.pairwise_cons.2 ⟨λp hp g e1 e2=>?_,ih Rs hL.2 hn.2⟩
     obtain⟨R',v'⟩:=p
     obtain⟨j',hj',rfl⟩:=List.mem_map.1 (nI hp).2
     obtain⟨R2,hR2⟩:=hL.2.mem j' hj'
     have:=h.iN j j' R R2 hL.1 hR2 g e1 e2
     subst this;exact hn.1 hj'
  exact key js _ hL hn
def wU(M:Mem)(β:Nat):Env:=⟨λ_=>β,λ_=>.nilIface,λ_=>False,M⟩
def Fc.oy:Fc→Bool
 |.val _=>true
 |.box i=>Nat.beq i 1000
 |.row _=>false
def AV.oy:AV→Bool
 |.sv _=>true
 |.ptr i _=>Nat.beq i 1000
 |.cmp _ js=>js.all Fc.oy
 |_=>false
def Fc.rnb(i:Nat):Fc→Fc
 |.box _=>.box i
 |c=>c
def AV.rnb(i:Nat):AV→AV
 |.ptr _ o=>.ptr i o
 |.cmp t js=>.cmp t (js.map (Fc.rnb i))
 |x=>x
theorem UE{E:Env}{i:Nat}{x:AV}{v:Value}(hx:x.oy=true)(h:(x.rnb i).holds E v):x.holds (wU E.M (E.β i)) v:=by
 cases x with
 |sv s=>exact h
 |ptr k o=>exact h
 |cmp t js=>
  obtain⟨vs,rfl,h⟩:=h
  refine⟨vs,Y,?_⟩
  have key:∀(l:List Fc) (vs:List Value),(l.all Fc.oy)=true→HN E (l.map (Fc.rnb i)) vs→HN (wU E.M (E.β i)) l vs:=by
   intro l
   induction l with
   |nil=>intro vs _ h;cases vs with|nil=>trivial|cons _ _=>exact h.elim
   |cons c l ih=>
    intro vs ho h
    rw[List.all_cons,Bool.and_eq_true]at ho
    cases vs with
    |nil=>exact h.elim
    |cons u vs=>
     refine⟨?_,ih vs ho.2 h.2⟩
     cases c with
     |val s=>exact h.1
     |box k=>exact h.1
     |row k=>exact(Bool.false_ne_true ho.1).elim
  exact key js vs hx h
 |_=>exact(Bool.false_ne_true hx).elim
theorem Hp{E:Env}{i:Nat}:∀{l:List AV} {vs:List Value},(l.all AV.oy)=true→eI E (l.map (AV.rnb i)) vs→eI (wU E.M (E.β i)) l vs
 |[],[],_,_=>trivial
 |x::l,v::vs,h,hv=>by
  rw[List.all_cons,Bool.and_eq_true]at h
  exact⟨UE h.1 hv.1,Hp h.2 hv.2⟩
 |[],_::_,_,h=>h.elim
 |_::_,[],_,h=>h.elim
def aay(P:Program)(f:FuncId)(args:List AV)(T:TypeId)(c0:List Oc)(res:SV)(c1:List Oc):Prop:=
 ∀(M:Mem) (w:World) (β:Nat) (vs us:List Value),M.ep w→xO M w β T c0 us→eI (wU M β) args vs→
  Calls P f ⟨vs⟩ w λe w'=>∃v M' us',e=.returned v∧M.le M'∧(∀b o x,M' b o=some x→M b o=some x∨w.heap.size≤b∨gK c0 us b)∧M'.ep w'∧res.h M' v∧
   xO M' w' β T c1 us'∧(∀g,gK c1 us' g→gK c0 us g∨w.heap.size≤g)∧w'.os=w.os∧w'.tape=w.tape∧w'.output=w.output∧w.heap.size≤w'.heap.size∧
   ∀k,k<w.heap.size→k≠β→¬gK c0 us k→w'.heap[k]? =w.heap[k]?
def afK(w:World)(M:Mem)(β:Nat)(c:List Oc)(us:List Value):Ctx:={w0:=w,M0:=M,own:=λk=>k=β∨gK c us k,BO:=λk=>k=β∨gK c us k,kV:=λi=>bif Nat.beq i 1000 then some β else none,gu:=λ_=>none,ro:=none,J:=λ_ _ _ _ _=>True,J7:=λ_ h=>h,T7:=λ_ _ h=>(by cases h),jf:=λ_ _ _ _ _ _ _ _ _ _ _ _ _ _ _ _=>trivial}
theorem D5{M:Mem}{w:World}:∀{ids:List Nat} {c:List Oc} {us:List Value},xN M w c us→∀{i:Nat} {R:Row},(i,R)∈ids.zip (rowsOf c)→∃v,(i,R,v)∈ids.zip (cQ c us)
 |ids,.s x::l,v::vs,h,i,R,hm=>by
  have hm':(i,R)∈ids.zip (rowsOf l):=hm
  exact D5 (c:=l) (us:=vs) h.2 hm'
 |k::ids,.r R'::l,v::vs,h,i,R,hm=>by
  have hm':(i,R)∈(k,R')::ids.zip (rowsOf l):=hm
  rw[cQ,List.zip_cons_cons]
  rcases List.mem_cons.1 hm' with e|e
  ·cases e;exact⟨v,by simp⟩
  ·obtain⟨v',h'⟩:=D5 (ids:=ids) (c:=l) (us:=vs) h.2 e
   exact⟨v',List.mem_cons_of_mem _ h'⟩
 |[],.r _::_,_::_,_,_,_,hm=>by simp at hm
 |_,[],[],_,_,_,hm=>by simp[rowsOf]at hm
 |_,[],_::_,h,_,_,_=>h.elim
 |_,.s _::_,[],h,_,_,_=>h.elim
 |_,.r _::_,[],h,_,_,_=>h.elim
theorem S6{n:Nat}{args:List AV}{T:TypeId}{c:List Oc}{M:Mem}{w:World}{β:Nat}{vs us:List Value}(ids:List Nat)(hM:M.ep w)(ho:xO M w β T c us)(hv:eI (wU M β) args vs)(S7:args.all AV.oy=true)(hn:args.length≤n)(Ka:ids.Nodup)(hil:ids.length=(rowsOf c).length):
  bC (afK w M β c us) (AS.JX n args [(1000,⟨T,di ids c⟩)] (ids.zip (rowsOf c))) ⟨λ_=>β,qe (ids.zip (cQ c us)) (λ_=>.nilIface),λ_=>False,M⟩ {tmps:=⟨vs⟩++Array.replicate (n-(⟨vs⟩:Array Value).size) undef,defers:=[]} w:=by
 have hl:=hv.length
 have hrv:(cQ c us).length=(rowsOf c).length:=by rw[←mB ho.al,List.length_map]
 have hnd:((ids.zip (cQ c us)).map (·.1)).Nodup:=by rw[Ho (by omega)];exact Ka
 have acR:∀s,(zA args s).oy=true:=λs=>by
  rcases DF (l:=args) (k:=s)with e|e
  ·rw[e];rfl
  ·exact List.all_eq_true.1 S7 _ e
 have oyB:∀x:AV,x.oy=true→(∀j,x.mb j→j=1000)∧∀j,¬x.mr j:=λx hx=>by
  cases x with
  |sv s=>exact⟨λj e=>e.elim,λj e=>e⟩
  |ptr k o=>exact⟨λj e=>by cases e;exact Nat.eq_of_beq_eq_true hx,λj e=>e⟩
  |cmp t js=>
   refine⟨λj e=>?_,λj e=>?_⟩
   ·exact Nat.eq_of_beq_eq_true (List.all_eq_true.1 hx _ e)
   ·exact Bool.false_ne_true (List.all_eq_true.1 hx _ e)
  |_=>exact(Bool.false_ne_true hx).elim
 have hall:eI ⟨λ_=>β,qe (ids.zip (cQ c us)) (λ_=>.nilIface),λ_=>False,M⟩ args vs:=by
  refine hv.imp (λx hx v hh=>?_)
  exact AV.dJ (E:=wU M β) (E':=⟨λ_=>β,qe (ids.zip (cQ c us)) (λ_=>.nilIface),λ_=>False,M⟩) (Mem.le_refl _) (λ_ _=>Y) (λj hj=>absurd hj ((oyB x (List.all_eq_true.1 S7 x hx)).2 j)) hh
 have live:∀j R,(AS.JX n args [(1000,⟨T,di ids c⟩)] (ids.zip (rowsOf c))).r j=.live R→(j,R)∈ids.zip (rowsOf c):=λj R hj=>by
  have hj:(match JV (ids.zip (rowsOf c)) j with|some R=>qO.live R|none=>.un)=.live R:=hj
  cases e:JV (ids.zip (rowsOf c)) j with
  |none=>rw[e]at hj;cases hj
  |some R'=>rw[e]at hj;cases hj;exact G5 e
 have isLive:∀j∈ids,(AS.JX n args [(1000,⟨T,di ids c⟩)] (ids.zip (rowsOf c))).r j≠ .un:=λj hj=>by
  have key:∀(ids:List Nat) (Rs:List Row),ids.length=Rs.length→j∈ids→∃R,JV (ids.zip Rs) j=some R:=by
   intro ids
   induction ids with
   |nil=>intro _ _ h;cases h
   |cons k ids ih=>
    intro Rs hl hm
    cases Rs with
    |nil=>simp at hl
    |cons R Rs=>
     rw[List.zip_cons_cons,JV]
     by_cases e:j=k
     ·subst e;exact⟨R,by simp⟩
     ·rw[bV e]
      rcases List.mem_cons.1 hm with q|q
      ·exact absurd q e
      ·exact ih Rs (by simpa using hl) q
  obtain⟨R,hR⟩:=key ids _ hil hj
  show(match JV (ids.zip (rowsOf c)) j with|some R=>qO.live R|none=>.un)≠ .un
  rw[hR];simp
 have box:∀j B,(AS.JX n args [(1000,⟨T,di ids c⟩)] (ids.zip (rowsOf c))).b j=some B→j=1000∧B=⟨T,di ids c⟩:=λj B h=>by
  have:=xA h
  simpa using this
 have VU:(AS.JX n args [(1000,⟨T,di ids c⟩)] (ids.zip (rowsOf c))).b 1000=some ⟨T,di ids c⟩:=rfl
 exact{
  wf:=by
   refine⟨λs j hj=>?_,λs j hj=>?_,λi B hB x hx j hj=>?_,λi B hB x hx j hj=>?_⟩
   ·have:=(oyB _ (acR s)).1 j hj
    subst this;exact⟨_,VU⟩
   ·exact absurd hj ((oyB _ (acR s)).2 j)
   ·obtain⟨rfl,rfl⟩:=box i B hB
    exact absurd hj ((wS x hx).1 j)
   ·obtain⟨rfl,rfl⟩:=box i B hB
    exact isLive j ((wS x hx).2 j hj)
  marks:=⟨[],Y,List.nodup_nil,by simp⟩
  size:=by simp[AS.JX];omega
  os:=rfl
  tape:=rfl
  output:=rfl
  grown:=Nat.le_refl _
  frame:=λ_ _ _=>rfl
  m0:=Mem.le_refl _
  gS:=λ_ _ _ e=>.inl e
  ep:=hM
  tm:=λs=>QT hall s
  bx:=λi B h=>by
   obtain⟨rfl,rfl⟩:=box i B h
   refine⟨.inr (.inl Y),ho.nb,λh=>h,us,ho.hp,?_⟩
   exact wQ (w:=w) hil ho.al (λj p hm=>m9 (R:=p.1) (v:=p.2) hnd hm)
  inj:=λi j B1 B2 hi hj _=>by rw[(box i B1 hi).1,(box j B2 hj).1]
  rx:=λj R hj=>by
   obtain⟨v,hm⟩:=D5 ho.al (live j R hj)
   have hν:qe (ids.zip (cQ c us)) (λ_=>Value.nilIface) j=v:=m9 hnd hm
   show(∃vs:List Value,w.ownsRow 0 R.E R.sz (qe (ids.zip (cQ c us)) (λ_=>.nilIface) j) R.n vs∧SV.gw M R.cells vs)∧_
   rw[hν]
   refine⟨qf ho.al (R,v) (nI hm).2,λg hg=>?_⟩
   have hg:v.ownBlock=some g:=by rw[←hν];exact hg
   have hb:gK c us g:=⟨(R,v),(nI hm).2,hg⟩
   obtain⟨q1,q2⟩:=ho.nr g hb
   refine⟨.inr (.inr hb),q2,λh=>h,λk B _ e=>q1 e.symm⟩
  iN:=λj j' R R' h1 h2 g e1 e2=>by
   obtain⟨v,hm⟩:=D5 ho.al (live j R h1)
   obtain⟨v',hm'⟩:=D5 ho.al (live j' R' h2)
   have hν:qe (ids.zip (cQ c us)) (λ_=>Value.nilIface) j=v:=m9 hnd hm
   have an7:qe (ids.zip (cQ c us)) (λ_=>Value.nilIface) j'=v':=m9 hnd hm'
   exact Fz Ka ho.ap j R v j' R' v' g hm hm' (by rw[←hν];exact e1) (by rw[←an7];exact e2)
  kV:=λi b e=>by
   simp only[afK]at e
   cases h:Nat.beq i 1000 with
   |false=>rw[h]at e;cases e
   |true=>rw[h]at e;cases e;rfl
  gu:=λi v e=>by cases e
  qp:=λb e=>e.elim
  jj:=trivial}
theorem IJ{P:Program}{f:FuncId}{fn:Func}{code:Code}{args:List AV}{T:TypeId}{c0 c1:List Oc}{res:SV}(ids:List Nat)(hf:P.funcs[f]? =some fn)(hb:fn.body=some code)(hn:args.length≤fn.ntmps)(S7:args.all AV.oy=true)(Ka:ids.Nodup)(hil:ids.length=(rowsOf c0).length)
  (h:∀(w:World) (M:Mem) (β:Nat) (us:List Value),Ok P (afK w M β c0 us) code (AS.JX fn.ntmps args [(1000,⟨T,di ids c0⟩)] (ids.zip (rowsOf c0))) (λe S=>(e=.normal∨e=.ret)∧VI P S fn.results.toList res∧∃ks:List Nat,S.b 1000=some ⟨T,di ks c1⟩∧Lv S ks (rowsOf c1)∧ks.Nodup)):aay P f args T c0 res c1:=by
 intro M w β vs us hM ho hv
 refine kq Y hf hb (S6 ids hM ho hv S7 hn Ka hil) (h w M β us) ?_
 rintro S' E a w' ⟨hr,ks,hB,hL,hk⟩ hh
 obtain⟨v,hv,hx⟩:=(GA.sv hr).run hh
 have hβ:E.β 1000=β:=hh.kV 1000 β Y
 obtain⟨us',ho',pV⟩:=yV hh hB hL hk
 rw[hβ]at ho'
 refine⟨v,hv,v,E.M,us',Y,hh.m0,λb o x e=>?_,hh.ep,hx,ho',λg hg=>?_,hh.os,hh.tape,hh.output,hh.grown,λk hk hne hno=>hh.frame k hk (λe=>e.elim hne hno)⟩
 ·rcases hh.gS b o x e with q|q|q|q
  ·exact .inl q
  ·exact .inr (.inl q)
  ·rw[show b=β from q,ho'.nb o]at e;cases e
  ·exact .inr (.inr q)
 ·obtain⟨j,hj,F2⟩:=(pV g).1 hg
  obtain⟨R,hR⟩:=hL.mem j hj
  obtain⟨_,q⟩:=hh.rx j R hR
  rcases(q g F2).1 with q1|q1|q1
  ·exact .inr q1
  ·exact absurd q1 (ho'.nr g hg).1
  ·exact .inl q1
end
section
open Go.RowKit
def Un(S:AS):List Nat→Prop
 |[]=>True
 |k::ks=>(S.r k=.un∧k<1000)∧Un S ks
theorem Un.mem{S:AS}:∀{ks:List Nat},Un S ks→∀k∈ks,S.r k=.un∧k<1000
 |k::ks,h,j,hj=>by
  rcases List.mem_cons.1 hj with rfl|hj
  ·exact h.1
  ·exact Un.mem h.2 j hj
 |[],_,j,hj=>by cases hj
theorem Un.congr{S S':AS}:∀{ks:List Nat},(∀k∈ks,S'.r k=S.r k)→Un S ks→Un S' ks
 |[],_,_=>trivial
 |k::ks,h,hu=>⟨by rw[h k (by simp)];exact hu.1,Un.congr (λj hj=>h j (List.mem_cons_of_mem _ hj)) hu.2⟩
theorem Lv.congr{S S':AS}:∀{js:List Nat} {Rs:List Row},(∀k∈js,S'.r k=S.r k)→Lv S js Rs→Lv S' js Rs
 |[],[],_,_=>trivial
 |j::js,R::Rs,h,hl=>⟨by rw[h j (by simp)];exact hl.1,Lv.congr (λk hk=>h k (List.mem_cons_of_mem _ hk)) hl.2⟩
 |[],_::_,_,h=>h.elim
 |_::_,[],_,h=>h.elim
def D6(js ks:List Nat)(c:List Oc):List (Nat×qO):=js.map (λj=>(j,qO.dead))++(ks.zip (rowsOf c)).map (λp=>(p.1,.live p.2))
theorem Pp:∀(ks:List Nat) (l:List (Row×Value)),(ks.zip l).map (λn=>(n.1,qO.live n.2.1))=(ks.zip (l.map (·.1))).map (λp=>(p.1,.live p.2))
 |[],_=>rfl
 |_::_,[]=>rfl
 |k::ks,p::l=>by rw[List.map_cons,List.zip_cons_cons,List.zip_cons_cons,List.map_cons,List.map_cons,Pp ks l]
theorem Pq{M:Mem}{w:World}{c:List Oc}{us:List Value}(h:xN M w c us)(js ks:List Nat):D4 js (ks.zip (cQ c us))=D6 js ks c:=by
 unfold D4 D6
 rw[Pp,mB h]
section steps
variable {P:Program}{C:Ctx}{ops:Array Oper}{S:AS}{nd:Bool}{K:List Ac→AS→Prop}{rest:List Oper}{acc:List Ac}
variable {gd:Option (Nat×Bool)}{rg:List Nat}{d:Nat}{ty:TypeId}{pos:String}{aft:Array Edge}{x y z:Operand}{T U E0:TypeId}
theorem bC.aaz{E:Env}{a:Act}{w w':World}(h:bC C S E a w){i:Nat}{js ks:List Nat}{c0 c1:List Oc}{us us':List Value}{M':Mem}(hB:S.b i=some ⟨T,di js c0⟩)(hL:Lv S js (rowsOf c0))(hks:ks.Nodup)(JW:ks.length=(rowsOf c1).length)(hku:Un S ks)
  (IK:∀g,gK c0 us g↔∃j∈js,(E.ν j).ownBlock=some g) (hM:E.M.le M') (hn:∀b o x,M' b o=some x→E.M b o=some x∨w.heap.size≤b∨gK c0 us b) (hin:M'.ep w') (ho:xO M' w' (E.β i) T c1 us') (hg:∀g,gK c1 us' g→gK c0 us g∨w.heap.size≤g)
  (hos:w'.os=w.os) (yU:w'.tape=w.tape) (hout:w'.output=w.output) (hsize:w.heap.size≤w'.heap.size) (pV:∀k,k<w.heap.size→k≠E.β i→¬gK c0 us k→w'.heap[k]? =w.heap[k]?):
  ∃E':Env,E'.M=M'∧E'.β=E.β∧bC C (AS.cO (D6 js ks c1) (AS.iQ [(i,⟨T,di ks c1⟩)] S)) E' a w':=by
 have hrv:(cQ c1 us').length=(rowsOf c1).length:=by rw[←mB ho.al,List.length_map]
 have hnd:((ks.zip (cQ c1 us')).map (·.1)).Nodup:=by rw[Ho (by omega)];exact hks
 rw[←Pq ho.al js ks]
 refine⟨{E with M:=M',ν:=qe (ks.zip (cQ c1 us')) E.ν},Y,Y,h.ajr hB js (ks.zip (cQ c1 us')) (λj hj=>hL.mem j hj) (λk R v hm=>hku.mem k (nI hm).1) hnd hM (λb o x e=>?_) hin ho.hp ho.nb ?_ (λx hx=>?_) (λk R v hm=>?_) (Fz hks ho.ap) hos yU hout hsize (λk hk hne hno=>pV k hk hne (λq=>?_))⟩
 ·rcases hn b o x e with q|q|q
  ·exact .inl q
  ·exact .inr (.inl q)
  ·exact .inr (.inr ((IK b).1 q))
 ·exact wQ (E:={E with M:=M',ν:=qe (ks.zip (cQ c1 us')) E.ν}) (w:=w') JW ho.al (λj p hm=>m9 (R:=p.1) (v:=p.2) hnd hm)
 ·obtain⟨q1,q2⟩:=wS x hx
  refine⟨q1,λj hj=>?_⟩
  have hj:=q2 j hj
  have key:∀(ks:List Nat) (l:List (Row×Value)),ks.length=l.length→j∈ks→∃R v,(j,R,v)∈ks.zip l:=by
   intro ks
   induction ks with
   |nil=>intro _ _ h;cases h
   |cons k ks ih=>
    intro l hl hm
    cases l with
    |nil=>simp at hl
    |cons p l=>
     rw[List.zip_cons_cons]
     rcases List.mem_cons.1 hm with q|q
     ·subst q;exact⟨p.1,p.2,by simp⟩
     ·obtain⟨R,v,h⟩:=ih l (by simpa using hl) q
      exact⟨R,v,List.mem_cons_of_mem _ h⟩
  exact key ks _ (by omega) hj
 ·refine⟨qf ho.al (R,v) (nI hm).2,λg N2=>?_⟩
  have hb:gK c1 us' g:=⟨(R,v),(nI hm).2,N2⟩
  obtain⟨q1,q2⟩:=ho.nr g hb
  refine⟨?_,q2,q1⟩
  rcases hg g hb with q|q
  ·exact .inl ((IK g).1 q)
  ·exact .inr q
 ·obtain⟨j,hj,e⟩:=(IK k).1 q
  exact hno j hj e
theorem RT.Lt(hg:Gd ops S gd rg){f:FuncId}[cZ P f]{g:Operand}{xs:Array Operand}{at_:Array TypeId}{args:List AV}{T:TypeId}{c0 c1:List Oc}{res:SV}(hp:aay P f args T c0 res c1)(i:Nat)(js ks:List Nat)(hB:S.b i=some ⟨T,di js c0⟩)(hL:Lv S js (rowsOf c0))(hjs:js.Nodup)(hks:ks.Nodup)(JW:ks.length=(rowsOf c1).length)(hku:Un S ks)
  (S7:args.all AV.oy=true) (hf:S.ev g=.sv (.v (.func (.func f) #[] #[]))) (hargs:CN S xs.toList (args.map (AV.rnb i))) (hd:d<S.n)
  (next:RunT P C ops nd K rest (⟨rg++(bp g++xs.toList.flatMap bp),[i],js++ks,⟨some (d,.sv res),[(i,⟨T,di ks c1⟩)],D6 js ks c1⟩⟩::acc) ((AS.cO (D6 js ks c1) (AS.iQ [(i,⟨T,di ks c1⟩)] S)).set d (.sv res))):RunT P C ops nd K (⟨some d,.call ⟨.value g,xs,at_⟩,ty,pos,aft,gd⟩::rest) acc S:=by
 refine .inl ⟨_,[i],js++ks,_,?_,next⟩
 rintro S' hn ht hb hr k a w L Q ho ⟨E,h⟩ hLL
 refine dy (C:=C) ho (hg.wanted h (λs hs=>ht s (List.mem_append_left _ hs)) Y) ?_
 have AM:a.eval g=.func (.func f) #[] ⟨[]⟩:=by
  have h1:=h.ev g;rw[bQ (λ_ h=>List.mem_append_right _ (List.mem_append_left _ h)) ht,hf]at h1;exact h1
 have hall:=Hp S7 (CN.vals h hargs (λs hs=>ht s (List.mem_append_right _ (List.mem_append_right _ hs))))
 have iT:S'.b i=some ⟨T,di js c0⟩:=by rw[hb i (by simp)];exact hB
 have hL':Lv S' js (rowsOf c0):=hL.congr (λk hk=>hr k (List.mem_append_left _ hk))
 have an8:Un S' ks:=hku.congr (λk hk=>hr k (List.mem_append_right _ hk))
 obtain⟨us,ho1,IK⟩:=yV h iT hL' hjs
 refine dm (C:=C) (by intro c h;cases h) (tG AM) ?_
 rw[List.append_nil]
 refine⟨λh=>by simp at h,kp ((hp E.M w (E.β i) _ us h.ep ho1 hall).mono ?_)⟩
 rintro e w' ⟨v,M',us',rfl,hM,hnew,hin,hv,SZ,ZH,hos,yU,hout,hsize,pV⟩
 obtain⟨E',e1,e2,h1⟩:=h.aaz iT hL' hks JW an8 IK hM hnew hin SZ ZH hos yU hout hsize pV
 refine hLL _ _ ⟨_,h1.put (x:=.sv res) (v:=v) (by show res.h E'.M v;rw[e1];exact hv) ?_ iz⟩
 rw[(ic _ _).1];show d<S'.n;omega
theorem RT.cC(hg:Gd ops S gd rg){i o:Nat}(hx:S.ev x=.ptr i o)(hd:d<S.n)
  (next:RunT P C ops nd K rest (⟨rg++bp x,[],[],⟨some (d,.ptr i o),[],[]⟩⟩::acc) (S.set d (.ptr i o))):RunT P C ops nd K (⟨some d,.nilCheck x,ty,pos,aft,gd⟩::rest) acc S:=
 RT.value hg (bp x) [] [] (.ptr i o) hd (by intro c h;cases h) (λS' ht _ _ E a w h=>by
  have hx':S'.ev x=.ptr i o:=by rw[bQ (λ_ h=>h) ht,hx]
  have h1:=h.ev x
  rw[hx']at h1
  have h2:a.eval x=.pointer (some ⟨E.β i,o,none⟩):=h1
  exact⟨a.eval x,by simp[execOp,h2],h1,qS h.wf hx'⟩) next
class S8 (P:Program) (T:TypeId):Prop where
 u:P.underlying T=some (.pointer (P.pointee T))
theorem RT.RC(hg:Gd ops S gd rg)[tT:S8 P T]{i o:Nat}(hx:S.ev x=.ptr i o)(hy:S.ev y=.sv (.v (.pointer none)))(hd:d<S.n)
  (next:RunT P C ops nd K rest (⟨rg++(bp x++bp y),[],[],⟨some (d,.sv (.v (.bool false))),[],[]⟩⟩::acc) (S.set d (.sv (.v (.bool false))))):RunT P C ops nd K (⟨some d,.binOp .eql T x y U,ty,pos,aft,gd⟩::rest) acc S:=
 RT.value hg (bp x++bp y) [] [] (.sv (.v (.bool false))) hd (by intro c h;cases h) (λS' ht _ _ E a w h=>by
  have h1:=h.ev x
  rw[bQ (λ_ h=>List.mem_append_left _ h) ht,hx]at h1
  have h2:=h.ev y
  rw[bQ (λ_ h=>List.mem_append_right _ h) ht,hy]at h2
  have h1:a.eval x=.pointer (some ⟨E.β i,o,none⟩):=h1
  have h2:a.eval y=.pointer none:=h2
  have e:=run_eql_pointer_nil (P:=P) w T (some ⟨E.β i,o,none⟩) tT.u
  refine⟨.bool false,?_,Y,iz⟩
  simp[execOp,h1,h2,eqGuard,e]) next
theorem RT.MN(hg:Gd ops S gd rg)[tT:S8 P T](hx:S.ev x=.sv (.v (.pointer none)))(hy:S.ev y=.sv (.v (.pointer none)))(hd:d<S.n)
  (next:RunT P C ops nd K rest (⟨rg++(bp x++bp y),[],[],⟨some (d,.sv (.v (.bool true))),[],[]⟩⟩::acc) (S.set d (.sv (.v (.bool true))))):RunT P C ops nd K (⟨some d,.binOp .eql T x y U,ty,pos,aft,gd⟩::rest) acc S:=
 RT.N8 hg (by intro c h;cases h) hx hy hd (λρ w h1 h2=>by
  have e:=run_eql_pointer_nil (P:=P) w T none tT.u
  simp[execOp,h1,h2,eqGuard,e]) next
def Fc.av:Fc→AV
 |.val s=>.sv s
 |.box i=>.ptr i 0
 |.row i=>.row i
theorem RT.D7(hg:Gd ops S gd rg){i:Nat}{js:List Fc}{s:Fc}(hx:S.ev x=.cmp .Ce js)(hi:js[i]? =some s)(hd:d<S.n)
  (next:RunT P C ops nd K rest (⟨rg++bp x,[],[],⟨some (d,s.av),[],[]⟩⟩::acc) (S.set d s.av)):RunT P C ops nd K (⟨some d,.extract x i,ty,pos,aft,gd⟩::rest) acc S:=
 RT.value hg (bp x) [] [] s.av hd (by intro c h;cases h) (λS' ht _ _ E a w h=>by
  have hx':S'.ev x=.cmp .Ce js:=by rw[bQ (λ_ h=>h) ht,hx]
  have h1:=h.ev x
  rw[hx']at h1
  obtain⟨l1,l2⟩:=qS h.wf hx'
  obtain⟨vs,hv,hall⟩:=h1
  have hv:a.eval x=.tuple ⟨vs⟩:=hv
  obtain⟨u,hu,hs⟩:=hall.get hi
  have hm:=List.mem_of_getElem? hi
  refine⟨u,by simp[execOp,hv,Instr.extract,hu],?_,λj e=>?_,λj e=>?_⟩
  ·cases s<;>exact hs
  ·cases s with
   |val s=>exact e.elim
   |box k=>have e:j=k:=e;subst e;exact l1 j hm
   |row k=>exact e.elim
  ·cases s with
   |val s=>exact e.elim
   |box k=>exact e.elim
   |row k=>have e:j=k:=e;subst e;exact l2 j hm) next
def an9(tp:Bool)(p:Value)(rs:List Value):Value:=bif tp then .tuple ⟨p::rs⟩else p
def RE(P:Program)(f:FuncId)(args:List SV)(tp:Bool)(rest:List SV)(T:TypeId)(c:List Oc):Prop:=
 ∀(M:Mem) (w:World) (vs:List Value),M.ep w→SV.gw M args vs→
  Calls P f ⟨vs⟩ w λe w'=>∃β rs M' us,e=.returned (an9 tp (.pointer (some ⟨β,0,none⟩)) rs)∧M.le M'∧(∀b o x,M' b o=some x→M b o=some x∨w.heap.size≤b)∧M'.ep w'∧SV.gw M' rest rs∧
   xO M' w' β T c us∧w.heap.size≤β∧(∀g,gK c us g→w.heap.size≤g)∧Below w.heap.size w w'
theorem Pr{w:World}{M:Mem}{S':AS}{E:Env}{a:Act}{w':World}{k:Nat}{ks:List Nat}{c:List Oc}(hB:S'.b k=some ⟨T,di ks c⟩)(hL:Lv S' ks (rowsOf c))(hk:ks.Nodup)(hh:bC (Oe w M) S' E a w'):
  ∃us,M.le E.M∧(∀b o x,E.M b o=some x→M b o=some x∨w.heap.size≤b)∧E.M.ep w'∧xO E.M w' (E.β k) T c us∧w.heap.size≤E.β k∧(∀g,gK c us g→w.heap.size≤g)∧Below w.heap.size w w':=by
 obtain⟨us,ho,pV⟩:=yV hh hB hL hk
 refine⟨us,hh.m0,λb o x e=>?_,hh.ep,ho,(hh.bx k _ hB).1.elim id (λh=>h.elim),λg hg=>?_,hh.os,hh.tape,hh.output,hh.grown,λk hk=>hh.frame k hk (λh=>h)⟩
 ·rcases hh.gS b o x e with h|h|h
  ·exact .inl h
  ·exact .inr h
  ·exact h.elim
 ·obtain⟨j,hj,F2⟩:=(pV g).1 hg
  obtain⟨R,hR⟩:=hL.mem j hj
  exact((hh.rx j R hR).2 g F2).1.elim id (λh=>h.elim)
theorem Ps{f:FuncId}{fn:Func}{code:Code}{args:List SV}{c:List Oc}(hf:P.funcs[f]? =some fn)(hb:fn.body=some code)(hn:args.length≤fn.ntmps)
  (h:∀(w:World) (M:Mem) (vs:List Value),SV.gw M args vs→Ok P (Oe w M) code (AS.init fn.ntmps args) (λe S=>(e=.normal∨e=.ret)∧∃(k:Nat) (ks:List Nat),GA P S fn.results.toList (.ptr k 0)∧S.b k=some ⟨T,di ks c⟩∧Lv S ks (rowsOf c)∧ks.Nodup)):RE P f args false [] T c:=by
 intro M w vs hM hvs
 refine kq Y hf hb (pU hM hvs hn) (h w M vs hvs) ?_
 rintro S' E a w' ⟨k,ks,hr,hB,hL,hk⟩ hh
 obtain⟨v,hv,hx⟩:=hr.run hh
 obtain rfl:v=.pointer (some ⟨E.β k,0,none⟩):=hx
 obtain⟨us,q1,q2,q3,q4,q5,q6,q7⟩:=Pr hB hL hk hh
 exact⟨_,hv,E.β k,[],E.M,us,Y,q1,q2,q3,ak,q4,q5,q6,q7⟩
theorem Gi{f:FuncId}{fn:Func}{code:Code}{args:List SV}{s:SV}{c:List Oc}{t1 t2:Nat}(hf:P.funcs[f]? =some fn)(hb:fn.body=some code)(hn:args.length≤fn.ntmps)(hres:fn.results=#[.tmp t1,.tmp t2])
  (h:∀(w:World) (M:Mem) (vs:List Value),SV.gw M args vs→Ok P (Oe w M) code (AS.init fn.ntmps args) (λe S=>(e=.normal∨e=.ret)∧∃(k:Nat) (ks:List Nat),S.t t1=.ptr k 0∧S.t t2=.sv s∧S.b k=some ⟨T,di ks c⟩∧Lv S ks (rowsOf c)∧ks.Nodup)):RE P f args true [s] T c:=by
 intro M w vs hM hvs
 refine kq Y hf hb (pU hM hvs hn) (h w M vs hvs) ?_
 rintro S' E a w' ⟨k,ks,hr1,hr2,hB,hL,hk⟩ hh
 have h1:=hh.tm t1
 rw[hr1]at h1
 have h1:a.tmps.getD t1 undef=.pointer (some ⟨E.β k,0,none⟩):=h1
 have h2:=hh.tm t2
 rw[hr2]at h2
 obtain⟨us,q1,q2,q3,q4,q5,q6,q7⟩:=Pr hB hL hk hh
 refine⟨.tuple #[.pointer (some ⟨E.β k,0,none⟩),a.tmps.getD t2 undef],?_,E.β k,[a.tmps.getD t2 undef],E.M,us,Y,q1,q2,q3,⟨h2,ak⟩,q4,q5,q6,q7⟩
 rw[Array.getD_eq_getD_getElem?]at h1
 simp[results,hres,h1]
theorem bC.S9{a:Act}{w:World}:∀(ks:List Nat) (l:List (Row×Value)) {S:AS} {E:Env},bC C S E a w→ks.length=l.length→ks.Nodup→Un S ks→(∀p∈l,∃vs:List Value,w.ownsRow 0 p.1.E p.1.sz p.2 p.1.n vs∧SV.gw E.M p.1.cells vs)→S5 l→(∀p∈l,∀g,p.2.ownBlock=some g→Ub C S E g)→
  ∃E':Env,E'.M=E.M∧E'.β=E.β∧E'.O=E.O∧(∀i p,(i,p)∈ks.zip l→E'.ν i=p.2)∧(∀i,i∉ks→E'.ν i=E.ν i)∧bC C (AS.cO ((ks.zip l).map (λn=>(n.1,.live n.2.1))) S) E' a w
 |[],[],S,E,h,_,_,_,_,_,_=>⟨E,Y,Y,Y,λi p hm=>(by simp at hm),λ_ _=>Y,h⟩
 |k::ks,p::l,S,E,h,hl,hn,hu,ho,ha,hf=>by
  obtain⟨R,v⟩:=p
  rw[List.nodup_cons]at hn
  obtain⟨ha1,ha2⟩:=List.pairwise_cons.1 ha
  obtain⟨vs,ho1,SZ⟩:=ho (R,v) (by simp)
  have h1:=h.Ma hu.1.1 hu.1.2 [] none (.inl ⟨Y,Y⟩) (R':=R) ho1 SZ (λg hg=>.inr (hf (R,v) (by simp) g hg)) (zB w none)
  have hu':Un (AS.cO ([]++[(k,.live R)]) S) ks:=hu.2.congr (λj hj=>by
   show(AS.ya S k _).r j=_
   exact AS.pR _ _ _ _ (λe=>hn.1 (e▸hj)))
  obtain⟨E',q1,q2,q3,q4,q5,q6⟩:=bC.S9 ks l h1 (by simpa using hl) hn.2 hu' (λp hp=>ho p (List.mem_cons_of_mem _ hp)) ha2 (λp hp g hg=>by
   obtain⟨f1,f2,f3,f4,f5⟩:=hf p (List.mem_cons_of_mem _ hp) g hg
   refine⟨f1,f2,f3,f4,λj R' vW e=>?_⟩
   have vW:(AS.ya S k (.live R)).r j=.live R':=vW
   by_cases ej:j=k
   ·subst ej
    have e:(if j=j then v else E.ν j).ownBlock=some g:=e
    rw[if_pos rfl]at e
    exact ha1 p hp g e hg
   ·rw[AS.pR _ _ _ _ ej]at vW
    have e:(if j=k then v else E.ν j).ownBlock=some g:=e
    rw[if_neg ej]at e
    exact f5 j R' vW e)
  refine⟨E',q1,q2,q3,λi p hm=>?_,λi hi=>?_,q6⟩
  ·rw[List.zip_cons_cons]at hm
   rcases List.mem_cons.1 hm with e|e
   ·cases e
    rw[q5 k hn.1]
    show(if k=k then v else E.ν k)=v
    rw[if_pos rfl]
   ·exact q4 i p e
  ·rw[q5 i (λhm=>hi (List.mem_cons_of_mem _ hm))]
   show(if i=k then v else E.ν i)=E.ν i
   rw[if_neg (λe=>hi (by rw[e];simp))]
 |[],_::_,_,_,_,hl,_,_,_,_,_=>by simp at hl
 |_::_,[],_,_,_,hl,_,_,_,_,_=>by simp at hl
theorem IL(i:Nat)(B:wc):∀(l:List (Nat×qO)) (S:AS),AS.cO l (S.oE i B)=(AS.cO l S).oE i B
 |[],_=>rfl
 |(j,R)::l,S=>IL i B l (S.ya j R)
theorem Bk{α β:Type}:∀{l:List α} {k:List β} {a:α},l.length=k.length→a∈l→∃b,(a,b)∈l.zip k
 |a::l,c::k,b,h,hb=>by
  rcases List.mem_cons.1 hb with rfl|hb
  ·exact⟨c,by rw[List.zip_cons_cons];simp⟩
  ·obtain⟨a',h'⟩:=Bk (l:=l) (k:=k) (by simpa using h) hb
   exact⟨a',by rw[List.zip_cons_cons];exact List.mem_cons_of_mem _ h'⟩
 |[],_,_,_,hb=>by cases hb
 |_::_,[],_,h,_=>by simp at h
theorem bC.newObj{E:Env}{a:Act}{w w':World}(h:bC C S E a w){i:Nat}(hi:S.b i=none)(hp:C.kV i=none){ks:List Nat}{c:List Oc}{us:List Value}{M':Mem}{β:Nat}(hks:ks.Nodup)(JW:ks.length=(rowsOf c).length)(hku:Un S ks)
  (hM:E.M.le M') (hn:∀b o x,M' b o=some x→E.M b o=some x∨w.heap.size≤b) (hin:M'.ep w') (ho:xO M' w' β T c us) (hβ:w.heap.size≤β) (hg:∀g,gK c us g→w.heap.size≤g) (Md:Below w.heap.size w w'):
  ∃E':Env,E'.M=M'∧E'.β i=β∧bC C (AS.cO (D6 [] ks c) (AS.iQ [(i,⟨T,di ks c⟩)] S)) E' a w':=by
 have hrv:(cQ c us).length=(rowsOf c).length:=by rw[←mB ho.al,List.length_map]
 have h0:=h.grow hM hn hin Md
 obtain⟨E1,q1,q2,q3,q4,q5,h1⟩:=bC.S9 ks (cQ c us) h0 (by omega) hks hku (qf ho.al) ho.ap (λp hp g N2=>h.He (hg g ⟨p,hp,N2⟩) (ho.nr g ⟨p,hp,N2⟩).2)
 have hS1:AS.cO ((ks.zip (cQ c us)).map (λn=>(n.1,.live n.2.1))) S=AS.cO (D6 [] ks c) S:=by rw[←Pq ho.al [] ks];rfl
 rw[hS1]at h1
 obtain⟨f1,f2,f3,f4,f5⟩:=h.He (M':=M') hβ ho.nb
 have hi1:(AS.cO (D6 [] ks c) S).b i=none:=by rw[(ic _ _).2.2.1];exact hi
 have hfree:Ub C (AS.cO (D6 [] ks c) S) E1 β:=by
  refine⟨f1,by rw[q1];exact f2,by rw[q3];exact f3,λj B hB=>?_,λj R hR e=>?_⟩
  ·rw[(ic _ _).2.2.1]at hB;rw[q2];exact f4 j B hB
  ·by_cases hj:j∈ks
   ·obtain⟨p,hm⟩:=Bk (l:=ks) (k:=cQ c us) (by omega) hj
    rw[q4 j p hm]at e
    exact(ho.nr β ⟨p,(nI hm).2,e⟩).1 Y
   ·rw[pM,Da (λR hm=>by
     obtain⟨x,hx,e⟩:=List.mem_map.1 (show(j,R)∈(ks.zip (rowsOf c)).map (λp=>(p.1,qO.live p.2))from hm)
     obtain⟨k,R2⟩:=x
     have e:k=j:=congrArg Prod.fst e
     exact hj (e▸(nI hx).1))]at hR
    rw[q5 j hj]at e
    exact f5 j R hR e
 have h2:=h1.SQ hi1 hp hfree ho.hp (wQ (w:=w') JW (by rw[q1];exact ho.al) q4) (λx hx=>by
  obtain⟨p1,p2⟩:=wS x hx
  refine⟨λj e=>absurd e (p1 j),λj e=>?_⟩
  obtain⟨R,hm⟩:=Bk (l:=ks) (k:=rowsOf c) JW (p2 j e)
  obtain⟨R',vW⟩:=II (l:=D6 [] ks c) (j:=j) (R:=.live R) (List.mem_map.2 ⟨(j,R),hm,Y⟩)
  rw[pM,vW]
  obtain⟨x,hx,e⟩:=List.mem_map.1 (show(j,R')∈(ks.zip (rowsOf c)).map (λp=>(p.1,qO.live p.2))from Db vW)
  rw[←show qO.live x.2=R' from congrArg Prod.snd e]
  simp)
 refine⟨{E1 with β:=λj=>if j=i then β else E1.β j},q1,?_,?_⟩
 rotate_left 1
 ·rw[show AS.iQ [(i,(⟨T,di ks c⟩:wc))] S=S.oE i ⟨T,di ks c⟩from Y,IL]
  exact h2
 ·show(if i=i then β else E1.β i)=β
  rw[if_pos rfl]
theorem RT.MO(hg:Gd ops S gd rg){f:FuncId}[cZ P f]{g:Operand}{xs:Array Operand}{at_:Array TypeId}{args:List SV}{T:TypeId}{c:List Oc}(hp:RE P f args false [] T c)(ks:List Nat)(hks:ks.Nodup)(JW:ks.length=(rowsOf c).length)(hku:Un S ks)(hf:S.ev g=.sv (.v (.func (.func f) #[] #[])))(hargs:kf S xs.toList args)(hd:d<S.n)(hdb:S.b d=none)(QX:C.kV d=none)
  (next:RunT P C ops nd K rest (⟨rg++(bp g++xs.toList.flatMap bp),[d],ks,⟨some (d,.ptr d 0),[(d,⟨T,di ks c⟩)],D6 [] ks c⟩⟩::acc) ((AS.cO (D6 [] ks c) (AS.iQ [(d,⟨T,di ks c⟩)] S)).set d (.ptr d 0))):RunT P C ops nd K (⟨some d,.call ⟨.value g,xs,at_⟩,ty,pos,aft,gd⟩::rest) acc S:=by
 refine .inl ⟨_,[d],ks,_,?_,next⟩
 rintro S' hn ht hb hr i a w L Q ho ⟨E,h⟩ hL
 refine dy (C:=C) ho (hg.wanted h (λs hs=>ht s (List.mem_append_left _ hs)) Y) ?_
 have AM:a.eval g=.func (.func f) #[] ⟨[]⟩:=by
  have h1:=h.ev g;rw[bQ (λ_ h=>List.mem_append_right _ (List.mem_append_left _ h)) ht,hf]at h1;exact h1
 have hall:=kf.vals h hargs (λs hs=>ht s (List.mem_append_right _ (List.mem_append_right _ hs)))
 have hdn:S'.b d=none:=by rw[hb d (by simp)];exact hdb
 refine dm (C:=C) (by intro c h;cases h) (tG AM) ?_
 rw[List.append_nil]
 refine⟨λh=>by simp at h,kp ((hp E.M w _ h.ep hall).mono ?_)⟩
 rintro e w' ⟨β,rs,M',us,rfl,hM,hnew,hin,hrs,SZ,hβ,ZH,Md⟩
 obtain⟨E',e1,e2,h1⟩:=h.newObj hdn QX hks JW (hku.congr hr) hM hnew hin SZ hβ ZH Md
 refine hL _ _ ⟨_,h1.put (x:=.ptr d 0) (v:=.pointer (some ⟨β,0,none⟩)) (by show _=Value.pointer (some ⟨E'.β d,0,none⟩);rw[e2]) ?_ ⟨λj e=>?_,λj e=>e.elim⟩⟩
 ·rw[(ic _ _).1];show d<S'.n;omega
 ·have e:j=d:=e
  subst e
  rw[(ic _ _).2.2.1]
  exact⟨_,AS.dO _ _ _⟩
theorem RT.Ta(hg:Gd ops S gd rg){f:FuncId}[cZ P f]{g:Operand}{xs:Array Operand}{at_:Array TypeId}{args:List SV}{T:TypeId}{c:List Oc}{s:SV}(hp:RE P f args true [s] T c)(ks:List Nat)(hks:ks.Nodup)(JW:ks.length=(rowsOf c).length)(hku:Un S ks)(hf:S.ev g=.sv (.v (.func (.func f) #[] #[])))(hargs:kf S xs.toList args)(hd:d<S.n)(hdb:S.b d=none)(QX:C.kV d=none)
  (next:RunT P C ops nd K rest (⟨rg++(bp g++xs.toList.flatMap bp),[d],ks,⟨some (d,.cmp .Ce [.box d,.val s]),[(d,⟨T,di ks c⟩)],D6 [] ks c⟩⟩::acc) ((AS.cO (D6 [] ks c) (AS.iQ [(d,⟨T,di ks c⟩)] S)).set d (.cmp .Ce [.box d,.val s]))):RunT P C ops nd K (⟨some d,.call ⟨.value g,xs,at_⟩,ty,pos,aft,gd⟩::rest) acc S:=by
 refine .inl ⟨_,[d],ks,_,?_,next⟩
 rintro S' hn ht hb hr i a w L Q ho ⟨E,h⟩ hL
 refine dy (C:=C) ho (hg.wanted h (λs hs=>ht s (List.mem_append_left _ hs)) Y) ?_
 have AM:a.eval g=.func (.func f) #[] ⟨[]⟩:=by
  have h1:=h.ev g;rw[bQ (λ_ h=>List.mem_append_right _ (List.mem_append_left _ h)) ht,hf]at h1;exact h1
 have hall:=kf.vals h hargs (λs hs=>ht s (List.mem_append_right _ (List.mem_append_right _ hs)))
 have hdn:S'.b d=none:=by rw[hb d (by simp)];exact hdb
 refine dm (C:=C) (by intro c h;cases h) (tG AM) ?_
 rw[List.append_nil]
 refine⟨λh=>by simp at h,kp ((hp E.M w _ h.ep hall).mono ?_)⟩
 rintro e w' ⟨β,rs,M',us,rfl,hM,hnew,hin,hrs,SZ,hβ,ZH,Md⟩
 obtain⟨E',e1,e2,h1⟩:=h.newObj hdn QX hks JW (hku.congr hr) hM hnew hin SZ hβ ZH Md
 match rs,hrs with
 |[r],hrs=>
  refine hL _ _ ⟨_,h1.put (x:=.cmp .Ce [.box d,.val s]) (v:=.tuple #[.pointer (some ⟨β,0,none⟩),r]) ⟨[.pointer (some ⟨β,0,none⟩),r],Y,by show _=Value.pointer (some ⟨E'.β d,0,none⟩);rw[e2],by show s.h E'.M r;rw[e1];exact hrs.1,ak⟩ ?_ ⟨λj e=>?_,λj e=>?_⟩⟩
  ·rw[(ic _ _).1];show d<S'.n;omega
  ·have e:j=d:=by simpa[AV.mb]using e
   subst e
   rw[(ic _ _).2.2.1]
   exact⟨_,AS.dO _ _ _⟩
  ·simp[AV.mr]at e
end steps
end
section
open Go.RowKit
def IM(P:Program)(f:FuncId)(args:List AV)(T:TypeId)(c:List Oc)(res:SV):Prop:=
 ∀(M:Mem) (w:World) (β:Nat) (vs us:List Value),M.ep w→xO M w β T c us→eI (wU M β) args vs→
  Calls P f ⟨vs⟩ w λe w'=>∃v M',e=.returned v∧M.le M'∧(∀b o x,M' b o=some x→M b o=some x∨w.heap.size≤b)∧M'.ep w'∧res.h M' v∧
   xO M' w' β T c us∧w'.os=w.os∧w'.tape=w.tape∧w'.output=w.output∧w.heap.size≤w'.heap.size∧∀k,k<w.heap.size→k≠β→¬gK c us k→w'.heap[k]? =w.heap[k]?
def lkV:List (Nat×Row×Value)→Nat→Option Value
 |[],_=>none
 |(k,_,v)::l,j=>if j=k then some v else lkV l j
theorem MP:∀{l:List (Nat×Row×Value)} {j:Nat} {v:Value},lkV l j=some v→∃R,(j,R,v)∈l
 |(k,R,u)::l,j,v,h=>by
  rw[lkV]at h
  by_cases e:j=k
  ·rw[if_pos e]at h;cases h;subst e;exact⟨R,by simp⟩
  ·rw[if_neg e]at h
   obtain⟨R',hm⟩:=MP h
   exact⟨R',List.mem_cons_of_mem _ hm⟩
 |[],_,_,h=>by cases h
theorem WT:∀{l:List (Nat×Row×Value)} {j:Nat} {R:Row} {v:Value},(l.map (·.1)).Nodup→(j,R,v)∈l→lkV l j=some v
 |(k,R',v')::l,j,R,v,hn,h=>by
  rw[List.map_cons,List.nodup_cons]at hn
  rw[lkV]
  rcases List.mem_cons.1 h with e|e
  ·cases e;rw[if_pos rfl]
  ·have:j≠k:=λq=>hn.1 (List.mem_map.2 ⟨(j,R,v),e,q⟩)
   rw[if_neg this];exact WT hn.2 e
theorem afM{ids:List Nat}(h:(ids.all λi=>Nat.ble 1000 i)=true):∀i∈ids,1000≤i:=λi hi=>ae (List.all_eq_true.1 h i hi)
def aaC(w:World)(M:Mem)(β:Nat)(c:List Oc)(us:List Value)(ids:List Nat)(Ka:(ids.all λi=>Nat.ble 1000 i)=true):Ctx:={w0:=w,M0:=M,own:=λk=>k=β∨gK c us k,BO:=λk=>k=β∨gK c us k,kV:=λi=>bif Nat.beq i 1000 then some β else none,gu:=lkV (ids.zip (cQ c us)),ro:=none,J:=λ_ _ _ _ _=>True,J7:=λ_ h=>h,T7:=λ_ _ h=>(by obtain⟨R,hm⟩:=MP h;exact afM Ka _ (nI hm).1),jf:=λ_ _ _ _ _ _ _ _ _ _ _ _ _ _ _ _=>trivial}
def Oc.cst:Oc→Prop
 |.s x=>∃v,x=.v v
 |.r _=>True
def MQ:List Oc→Prop
 |[]=>True
 |c::l=>c.cst∧MQ l
theorem MR{M M':Mem}{w w':World}:∀{c:List Oc} {us us':List Value},MQ c→xN M w c us→xN M' w' c us'→cQ c us=cQ c us'→us=us'
 |[],[],[],_,_,_,_=>rfl
 |.s x::l,v::vs,v'::vs',hc,h,h',e=>by
  obtain⟨y,rfl⟩:=hc.1
  have e1:v=y:=h.1
  have e2:v'=y:=h'.1
  rw[e1,e2,MR hc.2 h.2 h'.2 e]
 |.r R::l,v::vs,v'::vs',hc,h,h',e=>by
  rw[cQ,cQ]at e
  have e1:=(List.cons.inj e).1
  have e2:=(List.cons.inj e).2
  rw[MR hc.2 h.2 h'.2 e2]
  rw[(Prod.mk.inj e1).2]
 |[],[],_::_,_,_,h,_=>h.elim
 |[],_::_,_,_,h,_,_=>h.elim
 |.s _::_,[],_,_,h,_,_=>h.elim
 |.r _::_,[],_,_,h,_,_=>h.elim
 |.s _::_,_::_,[],_,_,h,_=>h.elim
 |.r _::_,_::_,[],_,_,h,_=>h.elim
section steps
variable {P:Program}{C:Ctx}{ops:Array Oper}{S:AS}{nd:Bool}{K:List Ac→AS→Prop}{rest:List Oper}{acc:List Ac}
variable {gd:Option (Nat×Bool)}{rg:List Nat}{d:Nat}{ty:TypeId}{pos:String}{aft:Array Edge}{x y z:Operand}{T U E0:TypeId}
theorem bC.Tc{E:Env}{a:Act}{w w':World}(h:bC C S E a w){i:Nat}{js:List Nat}{c:List Oc}{us:List Value}{M':Mem}(hB:S.b i=some ⟨T,di js c⟩)(hL:Lv S js (rowsOf c))(hjs:js.Nodup)(G3:xO E.M w (E.β i) T c us)
  (hM:E.M.le M') (hn:∀b o x,M' b o=some x→E.M b o=some x∨w.heap.size≤b) (hin:M'.ep w') (ho:xO M' w' (E.β i) T c us)
  (hos:w'.os=w.os) (yU:w'.tape=w.tape) (hout:w'.output=w.output) (hsize:w.heap.size≤w'.heap.size) (pV:∀k,k<w.heap.size→k≠E.β i→¬gK c us k→w'.heap[k]? =w.heap[k]?):
  bC C S {E with M:=M'} a w':=by
 obtain⟨UC,an3,aax,us0,UD,ajz⟩:=h.bx i _ hB
 obtain rfl:us0=us:=by
  rw[G3.hp]at UD
  have:=Option.some.inj UD
  injection this with e
  injection e with e
  exact e.symm
 obtain⟨_,hrv⟩:=Bi h hL ajz
 have hlen:=hL.len
 have Mb:∀g,gK c us0 g↔∃j∈js,(E.ν j).ownBlock=some g:=λg=>by
  unfold gK
  rw[hrv]
  constructor
  ·rintro⟨⟨R,v⟩,hm,hg⟩
   obtain⟨j,hj,rfl⟩:=List.mem_map.1 (nI hm).2
   exact⟨j,hj,hg⟩
  ·rintro⟨j,hj,hg⟩
   obtain⟨R,hR⟩:=Bj (l:=rowsOf c) (k:=js.map E.ν) (by simp[hlen]) (List.mem_map.2 ⟨j,hj,Y⟩)
   exact⟨(R,E.ν j),hR,hg⟩
 have Fy:∀g,gK c us0 g→(C.w0.heap.size≤g∨C.BO g)∧¬E.O g∧(∀n B,S.b n=some B→E.β n≠g)∧∃c e,w.heap[g]? =some (Obj.cells c e (0,0)):=λg hg=>by
  obtain⟨j,hj,F2⟩:=(Mb g).1 hg
  obtain⟨R,hR⟩:=hL.mem j hj
  obtain⟨⟨us,q1,_⟩,q2⟩:=h.rx j R hR
  obtain⟨q3,q4,q5,q6⟩:=q2 g F2
  refine⟨q3,q5,q6,?_⟩
  rcases q1.2 with⟨q7,_⟩|⟨g',cap,cur,q7,_,q8,_⟩
  ·rw[q7]at F2;cases F2
  ·rw[q7]at F2;cases F2;exact⟨_,_,q8⟩
 have keep:∀x:AV,∀v,x.holds E v→x.holds {E with M:=M'} v:=λx v hv=>AV.dJ (E:=E) (E':={E with M:=M'}) hM (λ_ _=>Y) (λ_ _=>Y) hv
 have noM:∀b,b<w.heap.size→(∀o,E.M b o=none)→∀o,M' b o=none:=λb h1 h2 o=>by
  cases e:M' b o with
  |none=>rfl
  |some v=>
   rcases hn b o v e with q|q
   ·rw[h2 o]at q;cases q
   ·omega
 exact{
  wf:=h.wf
  marks:=by
   obtain⟨ds,d1,d2,d3⟩:=h.marks
   refine⟨ds,d1,d2,λr hr=>?_⟩
   obtain⟨p1,p2,p3⟩:=d3 r hr
   refine⟨p1,p2,?_⟩
   rw[pV r (Array.getElem?_eq_some_iff.1 p3).1 (λe=>by rw[e,UD]at p3;cases p3) (λe=>by
    obtain⟨_,_,_,c,e2,q⟩:=Fy r e
    rw[q]at p3;cases p3)]
   exact p3
  size:=h.size
  os:=hos.trans h.os
  tape:=yU.trans h.tape
  output:=hout.trans h.output
  grown:=Nat.le_trans h.grown hsize
  frame:=λk hk hown=>by
   rw[pV k (Nat.lt_of_lt_of_le hk h.grown) (λe=>by
    rcases UC with q|q
    ·omega
    ·exact hown (C.J7 _ (by rw[e];exact q))) (λe=>by
    rcases(Fy k e).1 with q|q
    ·omega
    ·exact hown (C.J7 _ q))]
   exact h.frame k hk hown
  m0:=Mem.le_trans h.m0 hM
  gS:=λb o v e=>by
   rcases hn b o v e with q|q
   ·exact h.gS b o v q
   ·exact .inr (.inl (Nat.le_trans h.grown q))
  ep:=hin
  tm:=λs=>keep _ _ (h.tm s)
  bx:=λj B iT=>by
   obtain⟨p1,p2,p3,vs,p4,p5⟩:=h.bx j B iT
   have hlt:=(Array.getElem?_eq_some_iff.1 p4).1
   by_cases e:j=i
   ·subst e
    rw[hB]at iT;cases iT
    refine⟨p1,ho.nb,p3,us0,ho.hp,?_⟩
    exact ajz.imp (λx _ v hv=>keep x v hv)
   ·refine⟨p1,noM _ hlt p2,p3,vs,?_,p5.imp (λx _ v hv=>keep x v hv)⟩
    show w'.heap[E.β j]? =_
    rw[pV _ hlt (λq=>e (h.inj j i B _ iT hB q)) (λq=>(Fy _ q).2.2.1 j B iT Y)];exact p4
  inj:=h.inj
  rx:=λj R hR=>by
   obtain⟨⟨vs,p1,p2⟩,p3⟩:=h.rx j R hR
   by_cases hj:j∈js
   ·have hz:(R,E.ν j)∈cQ c us0:=by
     rw[hrv]
     have key:∀(js:List Nat) (Rs:List Row),Lv S js Rs→j∈js→(R,E.ν j)∈Rs.zip (js.map E.ν):=by
      intro js
      induction js with
      |nil=>intro _ _ h;cases h
      |cons k js ih=>
       intro Rs hl hm
       cases Rs with
       |nil=>exact hl.elim
       |cons R' Rs=>
        rw[List.map_cons,List.zip_cons_cons]
        rcases List.mem_cons.1 hm with q|q
        ·subst q
         have:=hl.1
         rw[hR]at this;cases this
         simp
        ·exact List.mem_cons_of_mem _ (ih Rs hl.2 q)
     exact key js _ hL hj
    refine⟨qf ho.al _ hz,λg hg=>?_⟩
    obtain⟨p4,p5,p6,p7⟩:=p3 g hg
    exact⟨p4,(ho.nr g ⟨_,hz,hg⟩).2,p6,p7⟩
   ·have oth:∀g,(E.ν j).ownBlock=some g→¬gK c us0 g:=λg hg q=>by
     obtain⟨j',hj',e⟩:=(Mb g).1 q
     obtain⟨R',vW⟩:=hL.mem j' hj'
     have:=h.iN j j' R R' hR vW g hg e
     subst this;exact hj hj'
    refine⟨⟨vs,eW p1 λg hg=>pV g (nR h hR hg) (λe=>(p3 g hg).2.2.2 i _ hB e.symm) (oth g hg),p2.mono hM⟩,λg hg=>?_⟩
    obtain⟨p4,p5,p6,p7⟩:=p3 g hg
    exact⟨p4,noM g (nR h hR hg) p5,p6,p7⟩
  iN:=h.iN
  kV:=h.kV
  gu:=h.gu
  qp:=λb hb=>by
   obtain⟨p1,p2,p3⟩:=h.qp b hb
   exact⟨Nat.lt_of_lt_of_le p1 hsize,noM b p1 p2,p3⟩
  jj:=C.jf S.g S.go E.O E.M M' w w' h.jj hM hin (λb o v e=>by
    rcases hn b o v e with q|q
    ·exact .inl q
    ·exact .inr ⟨.inl (Nat.le_trans h.grown q),λq2=>by have:=(h.qp b q2).1;omega⟩) (λb hb=>by
    have hb':b<w.heap.size:=by
     rcases hb with⟨q,_⟩|q
     ·exact Nat.lt_of_lt_of_le q h.grown
     ·exact(h.qp b q).1
    refine pV b hb' (λe=>?_) (λe=>?_)
    ·subst e
     rcases hb with⟨q1,q2⟩|q
     ·rcases UC with p|p
      ·omega
      ·exact q2 p
     ·exact aax q
    ·obtain⟨o1,o3,_⟩:=Fy b e
     rcases hb with⟨q1,q2⟩|q
     ·rcases o1 with p|p
      ·omega
      ·exact q2 p
     ·exact o3 q) hos yU hout hsize}
theorem RT.sK(hg:Gd ops S gd rg){f:FuncId}[cZ P f]{g:Operand}{xs:Array Operand}{at_:Array TypeId}{args:List AV}{T:TypeId}{c:List Oc}{res:SV}(hp:IM P f args T c res)(i:Nat)(js:List Nat)(hB:S.b i=some ⟨T,di js c⟩)(hL:Lv S js (rowsOf c))(hjs:js.Nodup)
  (S7:args.all AV.oy=true) (hf:S.ev g=.sv (.v (.func (.func f) #[] #[]))) (hargs:CN S xs.toList (args.map (AV.rnb i))) (hd:d<S.n)
  (next:RunT P C ops nd K rest (⟨rg++(bp g++xs.toList.flatMap bp),[i],js,⟨some (d,.sv res),[],[]⟩⟩::acc) (S.set d (.sv res))):RunT P C ops nd K (⟨some d,.call ⟨.value g,xs,at_⟩,ty,pos,aft,gd⟩::rest) acc S:=by
 refine .inl ⟨_,[i],js,_,?_,next⟩
 rintro S' hn ht hb hr k a w L Q ho ⟨E,h⟩ hLL
 refine dy (C:=C) ho (hg.wanted h (λs hs=>ht s (List.mem_append_left _ hs)) Y) ?_
 have AM:a.eval g=.func (.func f) #[] ⟨[]⟩:=by
  have h1:=h.ev g;rw[bQ (λ_ h=>List.mem_append_right _ (List.mem_append_left _ h)) ht,hf]at h1;exact h1
 have hall:=Hp S7 (CN.vals h hargs (λs hs=>ht s (List.mem_append_right _ (List.mem_append_right _ hs))))
 have iT:S'.b i=some ⟨T,di js c⟩:=by rw[hb i (by simp)];exact hB
 have hL':Lv S' js (rowsOf c):=hL.congr (λk hk=>hr k hk)
 obtain⟨us,ho1,IK⟩:=yV h iT hL' hjs
 refine dm (C:=C) (by intro c h;cases h) (tG AM) ?_
 rw[List.append_nil]
 refine⟨λh=>by simp at h,kp ((hp E.M w (E.β i) _ us h.ep ho1 hall).mono ?_)⟩
 rintro e w' ⟨v,M',rfl,hM,hnew,hin,hv,SZ,hos,yU,hout,hsize,pV⟩
 have h1:=h.Tc iT hL' hjs ho1 hM hnew hin SZ hos yU hout hsize pV
 exact hLL _ _ ⟨_,h1.put (x:=.sv res) (v:=v) hv (by show d<S'.n;omega) iz⟩
end steps
end
end Go.Fw
namespace Go.Proofs.YtningmnklfpfjaaGreat
section
open Go.Fw
noncomputable def vH(x0:Lr):Option (Sz):=match x0 with|⟨bk,bn,bt,bB⟩=>(some (bn.length:Int)).bind λx7=>(some (bt.length:Int)).bind λdI=>(some (bB.length:Int)).bind λeD=>some ⟨bk,x7,dI,eD⟩
noncomputable def oe(x0:Lr):Option (Bool):=match x0 with|⟨bk,bn,bt,bB⟩=>(vH ⟨bk,bn,bt,bB⟩).bind λ⟨Bb,C4,Fv,GM⟩=>cE (λ(WU:Bool)=>(bif WU then some false else cE (λ(RF:Bool)=>(bif RF then some false else cE (λ(acU:Bool)=>some acU) λK16=>(sJ bn).bind λpg=>(some (decide ((pg:Int)≤Bb))).bind λvY=>(bif vY then(sJ bt).bind λvf=>(some (decide ((vf:Int)≤Bb))).bind λvg=>some vg else some false).bind λWV=>K16 WV)) λGG=>(some (decide ((128:Int)<Fv))).bind λjH=>(bif jH then some true else(some (decide ((GM:Int)≠Fv))).bind λiP=>some iP).bind λWW=>GG WW)) λWX=>(some (decide ((Bb:Int)<0))).bind λx8=>(bif x8 then some true else(some (decide ((64:Int)<Bb))).bind λc9=>some c9).bind λWY=>(bif WY then some true else(some (decide ((C4:Int)<1))).bind λdX=>some dX).bind λafN=>(bif afN then some true else(some (decide ((4:Int)<C4))).bind λiA=>some iA).bind λafO=>WX afO
end
section
open Go.Fw Go.Fw.Z Go.RowKit
theorem Kw{x0:Lr}{r:Sz}(h:vH x0=some r):Pure af 83 [.agg (K0 x0)] (.agg (eSz r)):=by
 obtain⟨bk,bn,bt,bB⟩:=x0
 refine bj Tryz.func83 Y (ae Y) (λdw M vs hvs=>?_)
 unfold vH at h
 refine sr<|bx Y<|al (cs:=[ax 0,ax 0,ax 0,ax 0]) (by exact⟨aq,aq,aq,aq,ak⟩) Y<|dn<|sr<|fa Y Y<|lV Y Y Y<|fa Y Y<|lV Y Y Y<|lE h λx7 h7 h=>ln Y h7<|fa Y Y<|lV Y Y Y<|lE h λdI gC h=>ln Y gC<|fa Y Y ?_
 refine lV Y Y Y<|lE h λeD iF h=>ln Y iF<|bI (cs:=[_,_,_,_]) (cs':=[ax bk,ax x7,ax dI,ax eD]) (.one Y (.one Y (.one Y (.one Y (.nil))))) ⟨aq,aq,aq,aq,ak⟩<|so Y Y Y<|dn<|bf ?_
 obtain rfl:=O h
 exact RZ (.agg Y Y (.k4 Y Y Y Y) Y (.nil))
theorem xP{x0:Lr}{r:Bool}(h:oe x0=some r):Pure af 34 [.agg (K0 x0)] (ay r):=by
 obtain⟨bk,bn,bt,bB⟩:=x0
 refine bj Tryz.func34 Y (ae Y) (λdw M vs hvs=>?_)
 unfold oe at h
 refine sr<|bx Y<|ag Y<|dn<|sr<|ld Y Y (.k4 Y Y Y Y) ?_
 obtain⟨⟨Bb,C4,Fv,GM⟩,h5,h⟩:=bS h
 refine cl (Kw h5) ⟨Y,ak⟩<|al (cs:=[ax 0,ax 0,ax 0,ax 0]) (by exact⟨aq,aq,aq,aq,ak⟩) Y<|so Y Y Y<|dn<|qq<|qq ?_
 refine bJ h (λTd=>AS.cj 48 [(1,.ptr 1 0),(3,.ptr 3 0),(23,ai Td)] [(3,⟨97,[ah Bb,ah C4,ah Fv,ah GM]⟩),(1,⟨25,[ah bk,.sv (slc 1 (List.map (eS 4 eQ) bn)),.sv (slc 1 (List.map (eS 4 eQ) bt)),.sv (slc 4 (List.map eQ bB))]⟩)] []) (λh=>?_) (λWU h=>?_)
 refine aX<|fa Y Y<|lV Y Y Y<|lE h λx8 h8 h=>ls _ Y Y h8<|mv Y<|bE h λWY MS h=>?_
 cases x8
 refine RT.fieldAddr (.some Y Y) Y T Y<|RT.yy (.some Y Y) Y Y Y T<|lE (F MS) λc9 fC MS=>gg _ Y Y fC ?_
 obtain rfl:=O MS
 refine pF Y<|mv Y<|bE h λaob aaD h=>?_
 cases c9
 refine RT.fieldAddr (.some Y Y) Y T Y<|RT.yy (.some Y Y) Y Y Y T<|lE (F aaD) λdX jO aaD=>RT.lss (.some Y Y) _ Y Y T jO ?_
 obtain rfl:=O aaD
 refine pF Y<|mv Y<|bE h λaoc aaE h=>?_
 cases dX
 refine RT.fieldAddr (.some Y Y) Y T Y<|RT.yy (.some Y Y) Y Y Y T<|lE (F aaE) λiA oH aaE=>gg _ Y Y oH ?_
 obtain rfl:=O aaE
 exact pF Y<|dn<|⟨iA,h,wR []⟩
 obtain rfl:=O (V aaE)
 exact ww<|ww<|ww<|pT Y<|dn<|⟨true,h,wR []⟩
 obtain rfl:=O (V aaD)
 refine ww<|ww<|ww<|pT Y<|mv Y<|bE h λafP Kx h=>?_
 obtain rfl:=O (V Kx)
 exact ww<|ww<|ww<|pT Y<|dn<|⟨true,h,wR []⟩
 obtain rfl:=O (V MS)
 refine ww<|ww<|ww<|pT Y<|mv Y<|bE h λRG jq h=>?_
 obtain rfl:=O (V jq)
 refine ww<|ww<|ww<|pT Y<|mv Y<|bE h λaod kn h=>?_
 obtain rfl:=O (V kn)
 exact ww<|ww<|ww<|pT Y<|dn<|⟨true,h,wR []⟩
 try dsimp only
 refine aW.n ?_
 cases WU
 refine fs<|qq<|qq ?_
 refine bJ (F h) (λGI=>AS.cj 48 [(1,.ptr 1 0),(3,.ptr 3 0),(33,ai GI)] [(3,⟨97,[ah Bb,ah C4,ah Fv,ah GM]⟩),(1,⟨25,[ah bk,.sv (slc 1 (List.map (eS 4 eQ) bn)),.sv (slc 1 (List.map (eS 4 eQ) bt)),.sv (slc 4 (List.map eQ bB))]⟩)] []) (λh=>?_) (λRF h=>?_)
 refine aX<|fa Y Y<|lV Y Y Y<|lE h λjH rV h=>gt _ Y Y rV<|mv Y<|bE h λWW rY h=>?_
 cases jH
 refine RT.fieldAddr (.some Y Y) Y T Y<|RT.yy (.some Y Y) Y Y Y T<|RT.fieldAddr (.some Y Y) Y T Y<|RT.yy (.some Y Y) Y Y Y T<|lE (F rY) λiP pW rY=>gq _ Y Y (JY (p:=GM) (q:=Fv) pW) ?_
 obtain rfl:=O rY
 exact pF Y<|dn<|⟨iP,h,wR []⟩
 obtain rfl:=O (V rY)
 exact ww<|ww<|ww<|ww<|ww<|pT Y<|dn<|⟨true,h,wR []⟩
 try dsimp only
 refine aW.n ?_
 cases RF
 refine fs<|qq ?_
 refine bJ (F h) (λVt=>AS.cj 48 [(2,ai Vt)] [] []) (λh=>?_) (λacU h=>?_)
 refine aZ mixed<|fa Y Y<|lV Y Y Y<|bE h λpg yJ h=>cl (Gh yJ) ⟨Y,ak⟩<|fa Y Y<|lV Y Y Y<|lE h λvY DX h=>RT.leq .none _ Y Y T DX<|mv Y<|bE h λWV wB h=>?_
 cases vY
 obtain rfl:=O (F wB)
 refine ww<|ww<|ww<|ww<|ww<|ww<|pF Y<|ag Y ?_
 refine RT.done ⟨by kernel_rfl,?_⟩
 exact aW.n<|⟨false,h,wR []⟩
 refine RT.fieldAddr (.some Y Y) Y T Y<|RT.yy (.some Y Y) Y Y Y T<|bE (V wB) λvf EX wB=>gc (Gh EX) ⟨Y,ak⟩<|RT.fieldAddr (.some Y Y) Y T Y<|RT.yy (.some Y Y) Y Y Y T<|lE wB λvg h46 wB=>RT.leq (.some Y Y) _ Y Y T h46 ?_
 obtain rfl:=O wB
 refine pT Y<|ag Y ?_
 refine RT.done ⟨by kernel_rfl,?_⟩
 exact aW.n<|⟨vg,h,wR []⟩
 try dsimp only
 refine aW.n<|bf ?_
 obtain rfl:=O h
 exact R1 Y
 refine cT<|sr<|ag Y<|dn<|bf<|aW.r ?_
 obtain rfl:=O (V h)
 exact R1 Y
 refine cT<|sr<|ag Y<|dn<|bf<|aW.r ?_
 obtain rfl:=O (V h)
 exact R1 Y
end
end Go.Proofs.YtningmnklfpfjaaGreat
namespace Go.Fw
section
open Go.RowKit
def Te(P:Program)(f:FuncId)(args:Nat→List AV)(T:TypeId)(c:List Oc)(Post:Nat→Mem→World→Value→Prop):Prop:=
 ∀(M:Mem) (w:World) (β:Nat) (vs us:List Value),M.ep w→xO M w β T c us→eI (wU M β) (args β) vs→
  Calls P f ⟨vs⟩ w λe w'=>∃v M',e=.returned v∧M.le M'∧(∀b o x,M' b o=some x→M b o=some x∨w.heap.size≤b)∧M'.ep w'∧Post w.heap.size M' w' v∧
   xO M' w' β T c us∧w'.os=w.os∧w'.tape=w.tape∧w'.output=w.output∧w.heap.size≤w'.heap.size∧∀k,k<w.heap.size→k≠β→¬gK c us k→w'.heap[k]? =w.heap[k]?
theorem Pt{P:Program}{f:FuncId}{fn:Func}{code:Code}{args:Nat→List AV}{T:TypeId}{c:List Oc}{Post:Nat→Mem→World→Value→Prop}(ids:List Nat)(hf:P.funcs[f]? =some fn)(hb:fn.body=some code)(hn:∀β,(args β).length≤fn.ntmps)(S7:∀β,(args β).all AV.oy=true)(Ka:ids.Nodup)(hil:ids.length=(rowsOf c).length)(hge:(ids.all λi=>Nat.ble 1000 i)=true)(afQ:MQ c)(Rq:AS→Prop)
  (h:∀(w:World) (M:Mem) (β:Nat) (us:List Value),Ok P (aaC w M β c us ids hge) code (AS.JX fn.ntmps (args β) [(1000,⟨T,di ids c⟩)] (ids.zip (rowsOf c))) (λe S=>(e=.normal∨e=.ret)∧Rq S∧S.b 1000=some ⟨T,di ids c⟩∧Lv S ids (rowsOf c)))
  (hr:∀(w:World) (M:Mem) (β:Nat) (us:List Value) (S':AS) (E:Env) (a:Act) (w':World),Rq S'→bC (aaC w M β c us ids hge) S' E a w'→S'.b 1000=some ⟨T,di ids c⟩→(∀g,gK c us g→∃j∈ids,(E.ν j).ownBlock=some g)→(∀j∈ids,∃R,S'.r j=.live R)→∃v,(results fn a.tmps).run P w'=.ok v w'∧Post w.heap.size E.M w' v):Te P f args T c Post:=by
 intro M w β vs us hM ho hv
 have hrv:(cQ c us).length=(rowsOf c).length:=by rw[←mB ho.al,List.length_map]
 have hnd:((ids.zip (cQ c us)).map (·.1)).Nodup:=by rw[Ho (by omega)];exact Ka
 have aeB:bC (aaC w M β c us ids hge) (AS.JX fn.ntmps (args β) [(1000,⟨T,di ids c⟩)] (ids.zip (rowsOf c))) ⟨λ_=>β,qe (ids.zip (cQ c us)) (λ_=>.nilIface),λ_=>False,M⟩ {tmps:=⟨vs⟩++Array.replicate (fn.ntmps-(⟨vs⟩:Array Value).size) undef,defers:=[]} w:=by
  have h0:=S6 (n:=fn.ntmps) ids hM ho hv (S7 β) (hn β) Ka hil
  exact{wf:=h0.wf,marks:=h0.marks,size:=h0.size,os:=h0.os,tape:=h0.tape,output:=h0.output,grown:=h0.grown,frame:=h0.frame,m0:=h0.m0,gS:=h0.gS,ep:=h0.ep,tm:=h0.tm,bx:=h0.bx,inj:=h0.inj,rx:=h0.rx,iN:=h0.iN,kV:=h0.kV,gu:=λi v e=>(by
   obtain⟨R,hm⟩:=MP e
   exact m9 hnd hm),qp:=h0.qp,jj:=trivial}
 refine kq Y hf hb aeB (h w M β us) ?_
 rintro S' E a w' ⟨hq,hB,hL⟩ hh
 have hβ:E.β 1000=β:=hh.kV 1000 β Y
 obtain⟨us',ho',pV⟩:=yV hh hB hL Ka
 rw[hβ]at ho'
 obtain⟨_,_,_,us2,q2,q3⟩:=hh.bx 1000 _ hB
 rw[hβ,ho'.hp]at q2
 obtain rfl:us'=us2:=by
  have:=Option.some.inj q2
  injection this with e
  injection e
 obtain⟨_,aoe⟩:=Bi hh hL q3
 have nT:cQ c us=cQ c us':=by
  rw[aoe]
  have key:∀(ids:List Nat) (l:List (Row×Value)) (Rs:List Row),ids.length=l.length→l.map (·.1)=Rs→(∀i R v,(i,R,v)∈ids.zip l→E.ν i=v)→l=Rs.zip (ids.map E.ν):=by
   intro ids
   induction ids with
   |nil=>intro l Rs hl hm _;cases l with|nil=>cases hm;rfl|cons _ _=>simp at hl
   |cons i ids ih=>
    intro l Rs hl hm hν
    cases l with
    |nil=>simp at hl
    |cons p l=>
     cases hm
     obtain⟨R,v⟩:=p
     rw[List.map_cons,List.map_cons,List.zip_cons_cons,hν i R v (by rw[List.zip_cons_cons];simp),←ih l _ (by simpa using hl) Y (λi R v hm=>hν i R v (by rw[List.zip_cons_cons];exact List.mem_cons_of_mem _ hm))]
  exact key ids _ _ (by omega) (mB ho.al) (λi R v hm=>hh.gu i v (WT hnd hm))
 obtain rfl:us=us':=MR afQ ho.al ho'.al nT
 obtain⟨v,hv,hx⟩:=hr w M β us S' E a w' hq hh hB (λg hg=>(pV g).1 hg) (λj hj=>hL.mem j hj)
 refine⟨v,hv,v,E.M,Y,hh.m0,λb o x e=>?_,hh.ep,hx,ho',hh.os,hh.tape,hh.output,hh.grown,λk hk hne hno=>hh.frame k hk (λe=>e.elim hne hno)⟩
 rcases hh.gS b o x e with q|q|q|q
 ·exact .inl q
 ·exact .inr q
 ·rw[show b=β from q,ho'.nb o]at e;cases e
 ·rw[(ho'.nr b q).2 o]at e;cases e
section steps
variable {P:Program}{C:Ctx}{ops:Array Oper}{S:AS}{nd:Bool}{K:List Ac→AS→Prop}{rest:List Oper}{acc:List Ac}
variable {gd:Option (Nat×Bool)}{rg:List Nat}{d:Nat}{ty:TypeId}{pos:String}{aft:Array Edge}{x y z:Operand}{T U E0:TypeId}
end steps
end
section
open Go.RowKit
instance{cs:List SV}:One (ref cs):=⟨λ_ _ h=>by obtain⟨b,o,rfl,_⟩:=h;rfl⟩
section steps
variable {P:Program}{C:Ctx}{ops:Array Oper}{S:AS}{nd:Bool}{K:List Ac→AS→Prop}{rest:List Oper}{acc:List Ac}
variable {gd:Option (Nat×Bool)}{rg:List Nat}{d:Nat}{ty:TypeId}{pos:String}{aft:Array Edge}{x y z:Operand}{T U E0:TypeId}
theorem RT.cz(hg:Gd ops S gd rg){cs:List SV}(hx:S.ev x=.sv (ref cs))(hd:d<S.n)
  (next:RunT P C ops nd K rest (⟨rg++bp x,[],[],⟨some (d,.sv (ref cs)),[],[]⟩⟩::acc) (S.set d (.sv (ref cs)))):RunT P C ops nd K (⟨some d,.nilCheck x,ty,pos,aft,gd⟩::rest) acc S:=
 RT.value hg (bp x) [] [] (.sv (ref cs)) hd (by intro c h;cases h) (λS' ht _ _ E a w h=>by
  have h1:=h.ev x
  rw[bQ (λ_ h=>h) ht,hx]at h1
  have h1:(ref cs).h E.M (a.eval x):=h1
  obtain⟨b,o,e,h2⟩:=h1
  exact⟨a.eval x,by simp[execOp,e],⟨b,o,e,h2⟩,iz⟩) next
theorem RT.WZ(hg:Gd ops S gd rg)[tT:S8 P T]{cs:List SV}(hx:S.ev x=.sv (ref cs))(hy:S.ev y=.sv (.v (.pointer none)))(hd:d<S.n)
  (next:RunT P C ops nd K rest (⟨rg++(bp x++bp y),[],[],⟨some (d,.sv (.v (.bool false))),[],[]⟩⟩::acc) (S.set d (.sv (.v (.bool false))))):RunT P C ops nd K (⟨some d,.binOp .eql T x y U,ty,pos,aft,gd⟩::rest) acc S:=
 RT.value hg (bp x++bp y) [] [] (.sv (.v (.bool false))) hd (by intro c h;cases h) (λS' ht _ _ E a w h=>by
  have h1:=h.ev x
  rw[bQ (λ_ h=>List.mem_append_left _ h) ht,hx]at h1
  have h2:=h.ev y
  rw[bQ (λ_ h=>List.mem_append_right _ h) ht,hy]at h2
  have h1:(ref cs).h E.M (a.eval x):=h1
  obtain⟨b,o,h1,_⟩:=h1
  have h2:a.eval y=.pointer none:=h2
  have e:=run_eql_pointer_nil (P:=P) w T (some ⟨b,o,none⟩) tT.u
  refine⟨.bool false,?_,Y,iz⟩
  simp[execOp,h1,h2,eqGuard,e]) next
end steps
end
section
open Go.RowKit
noncomputable def CE(M:Mem)(w:World)(p:Nat→Prop):Mem:=λb o=>@ite _ (p b) (Classical.propDecidable _) (match w.cell? ⟨b,o,none⟩with|some v=>if v.oneCell'=true then some v else none|none=>none) (M b o)
noncomputable def D8(M:Mem)(p:Nat→Prop):Mem:=λb o=>@ite _ (p b) (Classical.propDecidable _) none (M b o)
theorem Pu{M:Mem}{w:World}{p:Nat→Prop}{b o:Nat}{v:Value}(hb:p b)(hc:w.cell? ⟨b,o,none⟩=some v)(h1:v.oneCell'=true):CE M w p b o=some v:=by
 unfold CE;rw[if_pos hb,hc];simp[h1]
theorem UF{M:Mem}{w:World}{p:Nat→Prop}(h:M.ep w):(CE M w p).ep w:=λb o v e=>by
 unfold CE at e
 split at e
 ·split at e
  ·rename_i q
   split at e
   ·rename_i h1;cases e;exact Fact.of q h1
   ·cases e
  ·cases e
 ·exact h b o v e
theorem D9{M:Mem}{w:World}{p:Nat→Prop}(h:∀b,p b→∀o,M b o=none):M.le (CE M w p):=λb o v e=>by
 unfold CE;rw[if_neg];exact e
 intro hb;rw[h b hb o]at e;cases e
theorem Pv{M:Mem}{p:Nat→Prop}:(D8 M p).le M:=λb o v e=>by
 unfold D8 at e
 split at e
 ·cases e
 ·exact e
theorem Pw{M:Mem}{p:Nat→Prop}{b o:Nat}{v:Value}(hb:¬p b)(e:M b o=some v):D8 M p b o=some v:=by unfold D8;rw[if_neg hb];exact e
theorem IN{M:Mem}{p:Nat→Prop}{b:Nat}(hb:p b)(o:Nat):D8 M p b o=none:=by unfold D8;rw[if_pos hb]
def OcI:List Oc→List SV→Prop
 |[],[]=>True
 |.s x::l,y::k=>(SV.imp x y∧∀M v,x.h M v→v.oneCell'=true)∧OcI l k
 |.r R::l,y::k=>(∃rows,Rows R.sz rows R.cells∧rows.length=R.n∧(∀M vs,SV.gw M R.cells vs→∀v∈vs,v.oneCell'=true)∧SV.imp (slc R.sz rows) y)∧OcI l k
 |_,_=>False
theorem fm{E:TypeId}{n:Nat}{α:Type}{e:α→List SV}{l:List α}[el:EL e n]:∃rows,Rows (TR E n e l).sz rows (TR E n e l).cells∧rows.length=(TR E n e l).n∧(∀M vs,SV.gw M (TR E n e l).cells vs→∀v∈vs,v.oneCell'=true)∧SV.imp (slc (TR E n e l).sz rows) (slc n (l.map e)):=
 ⟨l.map e,wm l,by simp,qt l,aq⟩
theorem W0{M:Mem}{w:World}{p:Nat→Prop}{R:Row}{v:Value}{rows:List (List SV)}(hno:∀b,p b→∀o,M b o=none)(hb:∀g,v.ownBlock=some g→p g)(ho:∃vs:List Value,w.ownsRow 0 R.E R.sz v R.n vs∧SV.gw M R.cells vs)
  (nT:Rows R.sz rows R.cells) (hn:rows.length=R.n) (hone:∀M vs,SV.gw M R.cells vs→∀v∈vs,v.oneCell'=true):(slc R.sz rows).h (CE M w p) v∧v.oneCell'=true:=by
 obtain⟨vs,hown,hvs⟩:=ho
 have nN:=AO nT
 rcases hown.2 with⟨h1,h2⟩|⟨g,cap,cur,h1,_,h2,h3,h4,h5,h6⟩
 ·rw[h2]at hn
  exact⟨.inl ⟨none,h1,List.length_eq_zero_iff.1 hn⟩,by rw[h1];rfl⟩
 ·have hg:p g:=hb g (by rw[h1];rfl)
  have hm:maxLen=9223372036854775807:=by decide
  refine⟨.inr ⟨g,0,cap,by rw[h1,hn],by rw[hn];exact h3,by omega,λk row hk=>?_⟩,by rw[h1];rfl⟩
  obtain⟨q1,q2⟩:=yB nT k row hk
  refine⟨q1,λj s hs=>?_⟩
  have EW:=q2 j s hs
  obtain⟨y,hy,hys⟩:=hvs.get EW
  have hlt:k*R.sz+j<R.n*R.sz:=by
   have:=(List.getElem?_eq_some_iff.1 EW).1
   rw[nN,hn]at this;exact this
  have h1':=hone _ _ hvs y (List.mem_of_getElem? hy)
  refine⟨y,Pu hg ?_ h1',h1',s.mono (D9 hno) hys⟩
  rw[←h6,List.getElem?_take,if_pos hlt]at hy
  simp only[World.cell?,h2]
  simpa using hy
theorem MT{M:Mem}{w:World}{p:Nat→Prop}(hno:∀b,p b→∀o,M b o=none):∀{c:List Oc} {cs:List SV} {us:List Value} {k:Nat} {s:SV},OcI c cs→xN M w c us→(∀q∈cQ c us,∀g,q.2.ownBlock=some g→p g)→cs[k]? =some s→∃y,us[k]? =some y∧y.oneCell'=true∧s.h (CE M w p) y
 |.s x::l,y::cs,u::us,k,s,hi,ho,hb,hk=>by
  cases k with
  |zero=>cases hk;exact⟨u,rfl,hi.1.2 _ _ ho.1,y.mono (D9 hno) (hi.1.1 _ _ ho.1)⟩
  |succ k=>exact MT hno (c:=l) (cs:=cs) (us:=us) (k:=k) hi.2 ho.2 hb hk
 |.r R::l,y::cs,u::us,k,s,hi,ho,hb,hk=>by
  cases k with
  |zero=>
   cases hk
   obtain⟨rows,q1,q2,q3,q4⟩:=hi.1
   obtain⟨r1,r2⟩:=W0 hno (λg hg=>hb (R,u) (by rw[cQ];simp) g hg) ho.1 q1 q2 q3
   exact⟨u,Y,r2,q4 _ _ r1⟩
  |succ k=>exact MT hno (c:=l) (cs:=cs) (us:=us) (k:=k) hi.2 ho.2 (λq hq=>hb q (by rw[cQ];exact List.mem_cons_of_mem _ hq)) hk
 |[],[],_,_,_,_,_,_,hk=>by simp at hk
 |[],_::_,_,_,_,hi,_,_,_=>hi.elim
 |.s _::_,[],_,_,_,hi,_,_,_=>hi.elim
 |.r _::_,[],_,_,_,hi,_,_,_=>hi.elim
 |.s _::_,_::_,[],_,_,_,ho,_,_=>ho.elim
 |.r _::_,_::_,[],_,_,_,ho,_,_=>ho.elim
theorem Dc{M M':Mem}{w w':World}(hM:M.le M'):∀{c:List Oc} {us:List Value},xN M w c us→(∀q∈cQ c us,∀g,q.2.ownBlock=some g→w'.heap[g]? =w.heap[g]?)→xN M' w' c us
 |[],[],_,_=>trivial
 |.s x::l,u::us,h,hs=>⟨x.mono hM h.1,Dc hM (c:=l) (us:=us) h.2 hs⟩
 |.r R::l,u::us,h,hs=>by
  obtain⟨vs,h1,h2⟩:=h.1
  exact⟨⟨vs,eW h1 (λg hg=>hs (R,u) (by rw[cQ];simp) g hg),h2.mono hM⟩,Dc hM (c:=l) (us:=us) h.2 (λq hq=>hs q (by rw[cQ];exact List.mem_cons_of_mem _ hq))⟩
 |[],_::_,h,_=>h.elim
 |.s _::_,[],h,_=>h.elim
 |.r _::_,[],h,_=>h.elim
def AV.ajA(cells:List SV):AV→SV
 |.sv s=>s
 |_=>ref cells
def AV.acV:AV→Bool
 |.sv _=>true
 |.ptr i o=>Nat.beq i 1000&&Nat.beq o 0
 |_=>false
theorem Px{M M':Mem}{β:Nat}{cells:List SV}(hM:M.le M')(hc:(ref cells).h M' (.pointer (some ⟨β,0,none⟩))):∀{args:List AV} {vs:List Value},(args.all AV.acV)=true→eI (wU M β) args vs→SV.gw M' (args.map (AV.ajA cells)) vs
 |[],[],_,_=>trivial
 |x::l,v::vs,hy,h=>by
  rw[List.all_cons,Bool.and_eq_true]at hy
  refine⟨?_,Px hM hc hy.2 h.2⟩
  cases x with
  |sv s=>exact s.mono hM h.1
  |ptr i o=>
   have h1:=Bool.and_eq_true_iff.1 hy.1
   have e:v=.pointer (some ⟨β,o,none⟩):=h.1
   rw[e,Nat.eq_of_beq_eq_true h1.2];exact hc
  |_=>exact(Bool.false_ne_true hy.1).elim
 |[],_::_,_,h=>h.elim
 |_::_,[],_,h=>h.elim
theorem iv{P:Program}{f:FuncId}{args:List AV}{T:TypeId}{c:List Oc}{cells:List SV}{r:Nat→SV}{res:SV}(hp:∀N,dK P f N (args.map (AV.ajA cells)) (r N))(hy:args.all AV.acV=true)(hi:OcI c cells)(hr:∀N M v,(r N).h M v→res.h (M.fr N) v):IM P f args T c res:=by
 intro M w β vs us hM ho hv
 have hno:∀b,(b=β∨gK c us b)→∀o,M b o=none:=λb hb o=>by
  rcases hb with rfl|hb
  ·exact ho.nb o
  ·exact(ho.nr b hb).2 o
 have hlt:∀b,(b=β∨gK c us b)→b<w.heap.size:=λb hb=>by
  rcases hb with rfl|⟨q,hq,hg⟩
  ·exact(Array.getElem?_eq_some_iff.1 ho.hp).1
  ·obtain⟨ws,h1,_⟩:=qf ho.al q hq
   rcases h1.2 with⟨h2,_⟩|⟨g,cap,cur,h2,_,h3,_⟩
   ·rw[h2]at hg;cases hg
   ·rw[h2]at hg;cases hg;exact(Array.getElem?_eq_some_iff.1 h3).1
 have nN:(ref cells).h (CE M w (λb=>b=β∨gK c us b)) (.pointer (some ⟨β,0,none⟩)):=⟨β,0,Y,λk s hk=>by
  obtain⟨y,h1,h2,h3⟩:=MT hno hi ho.al (λq hq g hg=>.inr ⟨q,hq,hg⟩) hk
  refine⟨y,Pu (.inl Y) ?_ h2,h2,h3⟩
  simp only[World.cell?,ho.hp]
  simpa using h1⟩
 refine(hp w.heap.size _ w vs (Nat.le_refl _) (UF hM) (Px (D9 hno) nN hy hv)).mono ?_
 rintro e w' ⟨v,M',rfl,hM',hnew,aof,hres,hb⟩
 have hMM:M.le (D8 M' (λb=>b=β∨gK c us b)):=λb o x e=>Pw (λhb=>by rw[hno b hb o]at e;cases e) (hM' b o x (D9 hno b o x e))
 refine⟨v,D8 M' (λb=>b=β∨gK c us b),Y,hMM,λb o x e=>?_,λb o x e=>aof b o x (Pv b o x e),res.mono (λb o x e=>?_) (hr _ _ _ hres),?_,hb.os,hb.tape,hb.output,hb.size,λk hk _ _=>hb.block k hk⟩
 ·rcases hnew b o x (Pv b o x e)with q|q
  ·refine .inl ?_
   unfold CE at q
   split at q
   ·rename_i Kc
    have e2:D8 M' (λb=>b=β∨gK c us b) b o=none:=IN (p:=λb=>b=β∨gK c us b) Kc o
    rw[e2]at e;cases e
   ·exact q
  ·exact .inr q
 ·unfold Mem.fr at e
  split at e
  ·rename_i hN
   exact Pw (λKc=>by have:=hlt b Kc;omega) e
  ·cases e
 ·exact⟨by rw[hb.block β (hlt β (.inl Y))];exact ho.hp,Dc hMM ho.al (λq hq g hg=>hb.block g (hlt g (.inr ⟨q,hq,hg⟩))),λo=>IN (p:=λb=>b=β∨gK c us b) (.inl Y) o,λg hg=>⟨(ho.nr g hg).1,λo=>IN (p:=λb=>b=β∨gK c us b) (.inr hg) o⟩,ho.ap⟩
theorem sZ{P:Program}{f:FuncId}{args:List SV}{r:SV}(h:Pure P f args r)(N:Nat):dK P f N args r:=λM w vs _ hM hv=>h M w vs hM hv
theorem afR{s:SV}:∀(N:Nat) (M:Mem) (v:Value),(nw N s).h M v→s.h (M.fr N) v:=λ_ _ _ h=>h.1
theorem Hq{l:List Qr}:∀(N:Nat) (M:Mem) (v:Value),(nw N (slc 4 (l.map (fQ N)))).h M v→(slc 4 (l.map eQ)).h (M.fr N) v:=λN M v h=>Ul (M.fr N) v (by
 obtain⟨h1,h2⟩:=h
 rw[←Mem.We]at h1
 exact⟨h1,λg e=>by rw[Mem.We];exact h2 g e⟩)
theorem Tf{x:Value}:∀(N:Nat) (M:Mem) (v:Value),(SV.v x).h M v→(SV.v x).h (M.fr N) v:=λ_ _ _ h=>h
theorem MU{P:Program}{f:FuncId}{fn:Func}{code:Code}{args:Nat→List AV}{T:TypeId}{c:List Oc}{res:SV}(ids:List Nat)(hf:P.funcs[f]? =some fn)(hb:fn.body=some code)(hn:∀β,(args β).length≤fn.ntmps)(S7:∀β,(args β).all AV.oy=true)(Ka:ids.Nodup)(hil:ids.length=(rowsOf c).length)(hge:(ids.all λi=>Nat.ble 1000 i)=true)(afQ:MQ c)
  (h:∀(w:World) (M:Mem) (β:Nat) (us:List Value),Ok P (aaC w M β c us ids hge) code (AS.JX fn.ntmps (args β) [(1000,⟨T,di ids c⟩)] (ids.zip (rowsOf c))) (λe S=>(e=.normal∨e=.ret)∧VI P S fn.results.toList res∧S.b 1000=some ⟨T,di ids c⟩∧Lv S ids (rowsOf c))):Te P f args T c (λ_ M' _ v=>res.h M' v):=
 Pt ids hf hb hn S7 Ka hil hge afQ _ h (λw M β us S' E a w' hr hh _ _ _=>by
  obtain⟨v,hv,hx⟩:=(GA.sv hr).run hh
  exact⟨v,hv,hx⟩)
section steps
variable {P:Program}{C:Ctx}{ops:Array Oper}{S:AS}{nd:Bool}{K:List Ac→AS→Prop}{rest:List Oper}{acc:List Ac}{Q:Exit→AS→Prop}
variable {gd:Option (Nat×Bool)}{rg:List Nat}{d:Nat}{ty:TypeId}{pos:String}{aft:Array Edge}{x y z:Operand}{T U E0:TypeId}
theorem aaF{c:Code}{i k β:Nat}(hp:C.kV k=some β)(hB:S.b i=some ⟨T,[.ptr k 0]⟩)(h:Ok P C c (S.oE i ⟨T,[.sv (.v (.pointer (some ⟨β,0,none⟩)))]⟩) Q):Ok P C c S Q:=λa w ⟨E,hh⟩=>by
 refine h a w ⟨E,?_⟩
 have hβ:E.β k=β:=hh.kV k β hp
 have Gz:∀j B,(S.oE i ⟨T,[.sv (.v (.pointer (some ⟨β,0,none⟩)))]⟩).b j=some B→(j=i∧B=⟨T,[.sv (.v (.pointer (some ⟨β,0,none⟩)))]⟩)∨(j≠i∧S.b j=some B):=λj B e=>by
  by_cases hj:j=i
  ·subst hj;rw[AS.dO]at e;cases e;exact .inl ⟨rfl,rfl⟩
  ·rw[AS.cJ _ _ _ _ hj]at e;exact .inr ⟨hj,e⟩
 have bTo:∀j,(∃B,S.b j=some B)→∃B,(S.oE i ⟨T,[.sv (.v (.pointer (some ⟨β,0,none⟩)))]⟩).b j=some B:=λj ⟨B,e⟩=>by
  by_cases hj:j=i
  ·subst hj;exact⟨_,AS.dO _ _ _⟩
  ·exact⟨B,by rw[AS.cJ _ _ _ _ hj];exact e⟩
 have afS:∀j B,(S.oE i ⟨T,[.sv (.v (.pointer (some ⟨β,0,none⟩)))]⟩).b j=some B→∃B',S.b j=some B':=λj B e=>by
  rcases Gz j B e with⟨rfl,_⟩|⟨_,q⟩
  ·exact⟨_,hB⟩
  ·exact⟨_,q⟩
 exact{hh with
  wf:=⟨λs j hj=>bTo j (hh.wf.tb s j hj),hh.wf.tr,λj B e y hy m hm=>by
    rcases Gz j B e with⟨rfl,rfl⟩|⟨_,q⟩
    ·obtain rfl:y=_:=by simpa using hy
     exact(hm:False).elim
    ·exact bTo m (hh.wf.bb j B q y hy m hm),λj B e y hy m hm=>by
    rcases Gz j B e with⟨rfl,rfl⟩|⟨_,q⟩
    ·obtain rfl:y=_:=by simpa using hy
     exact(hm:False).elim
    ·exact hh.wf.br j B q y hy m hm⟩
  bx:=λj B e=>by
   rcases Gz j B e with⟨rfl,rfl⟩|⟨_,q⟩
   ·obtain⟨h1,h2,h3,vs,h4,h5⟩:=hh.bx j _ hB
    refine⟨h1,h2,h3,vs,h4,?_⟩
    match vs,h5 with
    |[v],h5=>exact⟨(show v=.pointer (some ⟨β,0,none⟩)from hβ▸h5.1),ak⟩
   ·exact hh.bx j B q
  inj:=λj j' B B' e e' q=>by
   obtain⟨_,h1⟩:=afS j B e
   obtain⟨_,h2⟩:=afS j' B' e'
   exact hh.inj j j' _ _ h1 h2 q
  rx:=λj R hR=>by
   obtain⟨p1,p2⟩:=hh.rx j R hR
   refine⟨p1,λg hg=>?_⟩
   obtain⟨q1,q2,q3,q4⟩:=p2 g hg
   refine⟨q1,q2,q3,λm B e=>?_⟩
   obtain⟨_,h1⟩:=afS m B e
   exact q4 m _ h1}
theorem RT.FA(hg:Gd ops S gd rg)[tV:zo P T]{k β:Nat}{B:wc}(hx:S.ev x=.sv (ref [.v (.pointer (some ⟨β,0,none⟩))]))(hp:C.kV k=some β)(hB:S.b k=some B)(hd:d<S.n)
  (next:RunT P C ops nd K rest (⟨rg++bp x,[k],[],⟨some (d,.ptr k 0),[],[]⟩⟩::acc) (S.set d (.ptr k 0))):RunT P C ops nd K (⟨some d,.load T x,ty,pos,aft,gd⟩::rest) acc S:=
 RT.value hg (bp x) [k] [] (.ptr k 0) hd (by intro c h;cases h) (λS' ht hb _ E a w h=>by
  have h1:=h.ev x
  rw[bQ (λ_ h=>h) ht,hx]at h1
  obtain⟨b,o,e,hc⟩:=h1
  obtain⟨u,hu,hu1,hs⟩:=hc 0 _ Y
  have hβ:E.β k=β:=h.kV k β hp
  have hs:u=.pointer (some ⟨β,0,none⟩):=hs
  refine⟨u,?_,by show u=.pointer (some ⟨E.β k,0,none⟩);rw[hβ];exact hs,λj e=>?_,λj e=>e.elim⟩
  ·have hcc:w.cell? ⟨b,o,none⟩=some u:=(h.ep _ _ _ hu).cell hu1
   simp[execOp,e,Instr.loadAt,Instr.sureAddr,loadVar,tV.isAgg,hcc]
  ·have e:j=k:=e
   subst e
   exact⟨B,by rw[hb j (by simp)];exact hB⟩) next
theorem RT.aaG(hg:Gd ops S gd rg){f:FuncId}[cZ P f]{g:Operand}{xs:Array Operand}{at_:Array TypeId}{args:List AV}{caps:Nat→List SV}{β:Nat}{T:TypeId}{c:List Oc}{res:SV}(hp:Te P f (λβ=>args++(caps β).map AV.sv) T c (λ_ M' _ v=>res.h M' v))(i:Nat)(js:List Nat)(QX:C.kV i=some β)(hB:S.b i=some ⟨T,di js c⟩)(hL:Lv S js (rowsOf c))(hjs:js.Nodup)
  (S7:args.all AV.oy=true) (hf:S.ev g=.sv (o5 f (caps β))) (hargs:CN S xs.toList (args.map (AV.rnb i))) (hd:d<S.n)
  (next:RunT P C ops nd K rest (⟨rg++(bp g++xs.toList.flatMap bp),[i],js,⟨some (d,.sv res),[],[]⟩⟩::acc) (S.set d (.sv res))):RunT P C ops nd K (⟨some d,.call ⟨.value g,xs,at_⟩,ty,pos,aft,gd⟩::rest) acc S:=by
 refine .inl ⟨_,[i],js,_,?_,next⟩
 rintro S' hn ht hb hr k a w L Q ho ⟨E,h⟩ hLL
 refine dy (C:=C) ho (hg.wanted h (λs hs=>ht s (List.mem_append_left _ hs)) Y) ?_
 have AM:(o5 f (caps β)).h E.M (a.eval g):=by
  have h1:=h.ev g;rw[bQ (λ_ h=>List.mem_append_right _ (List.mem_append_left _ h)) ht,hf]at h1;exact h1
 obtain⟨xB,AM,J0⟩:=AM
 have hβ:E.β i=β:=h.kV i β QX
 have hall:=Hp S7 (CN.vals h hargs (λs hs=>ht s (List.mem_append_right _ (List.mem_append_right _ hs))))
 have iT:S'.b i=some ⟨T,di js c⟩:=by rw[hb i (by simp)];exact hB
 have hL':Lv S' js (rowsOf c):=hL.congr (λk hk=>hr k hk)
 obtain⟨us,ho1,IK⟩:=yV h iT hL' hjs
 have ajB:eI (wU E.M (E.β i)) (args++(caps (E.β i)).map AV.sv) (xs.toList.map a.eval++xB):=hall.append (eI.Dz (E:=wU E.M (E.β i)) (by rw[hβ];exact J0))
 have hrun:(execOp a.eval ⟨some d,.call ⟨.value g,xs,at_⟩,ty,pos,aft,gd⟩).run P w=.ok (.enter f ⟨xs.toList.map a.eval++xB⟩) w:=by
  have e2:xs.map a.eval++⟨xB⟩=⟨xs.toList.map a.eval++xB⟩:=by apply Array.ext';simp
  have e1:=cZ.run (P:=P) (f:=f) (xs.map a.eval++⟨xB⟩) w
  rw[←e2]
  simp[execOp,resolve,AM,Deferred.ofValue,invoke,e1]
 refine dm (C:=C) (by intro c h;cases h) hrun ?_
 refine⟨λh=>by simp at h,kp ((hp E.M w (E.β i) _ us h.ep ho1 ajB).mono ?_)⟩
 rintro e w' ⟨v,M',rfl,hM,hnew,hin,hv,SZ,hos,yU,hout,hsize,pV⟩
 have h1:=h.Tc iT hL' hjs ho1 hM hnew hin SZ hos yU hout hsize pV
 exact hLL _ _ ⟨_,h1.put (x:=.sv res) (v:=v) hv (by show d<S'.n;omega) iz⟩
theorem aaH{α:Type}(l k:List α):(JZ l k).length=l.length:=by unfold JZ;simp;omega
theorem Lu{M:Mem}{b:Nat}{α:Type}{e:α→List SV}[el:EL e 1]:∀(k:List α) (o:Nat),(∀(i:Nat) (row:List SV),(k.map e)[i]? =some row→∀(q:Nat) (s:SV),row[q]? =some s→∃y,M b (o+i*1+q)=some y∧y.oneCell'=true∧s.h M y)→∃cs:List Value,cs.length=k.length∧SV.gw M (k.flatMap e) cs∧∀j v,cs[j]? =some v→M b (o+j)=some v∧v.oneCell'=true
 |[],_,_=>⟨[],Y,ak,λj v h=>by simp at h⟩
 |x::k,o,h=>by
  obtain⟨cs,h1,h2,h3⟩:=Lu k (o+1) (λi row hr q s hs=>by
   have:=h (i+1) row (by simpa using hr) q s hs
   rwa[show o+(i+1)*1+q=o+1+i*1+q by omega]at this)
  have hl:=el.len x
  match he:e x,hl with
  |[s],_=>
   obtain⟨y,q1,q2,q3⟩:=h 0 [s] (by simp[he]) 0 s Y
   refine⟨y::cs,by simp[h1],?_,λj v hj=>?_⟩
   ·rw[List.flatMap_cons,he];exact⟨q3,h2⟩
   ·cases j with
    |zero=>cases hj;exact⟨by simpa using q1,q2⟩
    |succ j=>rw[show o+(j+1)=o+1+j by omega];exact h3 j v (by simpa using hj)
theorem Py{M:Mem}{α:Type}{e:α→List SV}[el:EL e 1]:∀(l:List α) (vs:List Value) (m:Nat),SV.gw M (l.flatMap e) vs→SV.gw M ((l.drop m).flatMap e) (vs.drop m)
 |l,vs,0,h=>by simpa using h
 |[],vs,m+1,h=>by
  cases vs with
  |nil=>trivial
  |cons _ _=>exact h.elim
 |x::l,vs,m+1,h=>by
  have hl:=el.len x
  match he:e x,hl with
  |[s],_=>
   rw[List.flatMap_cons,he]at h
   match vs,h with
   |v::vs,h=>exact Py l vs m h.2
theorem RT.Tg(hg:Gd ops S gd rg)[tS:gU P T E0 1]{α:Type}{e:α→List SV}[el:EL e 1]{i:Nat}{E1:TypeId}{l k:List α}{m:Int}(hx:S.ev x=.row i)(hR:S.r i=.live (TR E1 1 e l))(hy:S.ev y=.sv (slc 1 (k.map e)))(hd:d<S.n)(hm:((Min.min k.length l.length:Nat):Int)=m)
  (next:RunT P C ops nd K rest (⟨rg++(bp x++bp y),[],[i],⟨some (d,.sv (.v (.int .i64 m))),[],[(i,.live (TR E1 1 e (JZ l k)))]⟩⟩::acc) ((AS.cO [(i,.live (TR E1 1 e (JZ l k)))] S).set d (.sv (.v (.int .i64 m))))):RunT P C ops nd K (⟨some d,.call ⟨.builtin .copy,#[x,y],#[T,U]⟩,ty,pos,aft,gd⟩::rest) acc S:=by
 subst hm
 refine .inl ⟨_,[],[i],_,?_,next⟩
 rintro S' hn' ht _ VF ix a w L Q ho ⟨E,h⟩ hL
 refine dy (C:=C) ho (hg.wanted h (λs hs=>ht s (List.mem_append_left _ hs)) Y) ?_
 have vW:S'.r i=.live (TR E1 1 e l):=by rw[VF i (by simp)];exact hR
 have h1:a.eval x=E.ν i:=by
  have h1:=h.ev x
  rw[bQ (λ_ h=>List.mem_append_right _ (List.mem_append_left _ h)) ht,hx]at h1;exact h1
 have h2:(slc 1 (k.map e)).h E.M (a.eval y):=by
  have h2:=h.ev y
  rw[bQ (λ_ h=>List.mem_append_right _ (List.mem_append_right _ h)) ht,hy]at h2;exact h2
 have hsrc:∃sa sc,a.eval y=.slice sa k.length sc:=by
  rcases h2 with⟨sa,q1,q2⟩|⟨b,o,c,q1,_⟩
  ·have:k=[]:=List.map_eq_nil_iff.1 q2
   subst this;exact⟨sa,0,q1⟩
  ·rw[List.length_map]at q1;exact⟨_,c,q1⟩
 obtain⟨⟨us,hown,G3⟩,_⟩:=h.rx i _ vW
 have aog:∃da dc,E.ν i=.slice da l.length dc:=by
  rcases hown.2 with⟨q1,q2⟩|⟨g,cap,cur,q1,_⟩
  ·have q2:l.length=0:=q2
   exact⟨none,0,by rw[q2];exact q1⟩
  ·exact⟨_,cap,q1⟩
 obtain⟨sa,sc,hs⟩:=hsrc
 by_cases h0:Nat.min k.length l.length=0
 ·obtain⟨da,dc,hdv⟩:=aog
  have hc:JZ l k=l:=by
   rcases Nat.eq_zero_or_pos l.length with q|q
   ·have:=List.length_eq_zero_iff.1 q
    subst this;simp[JZ]
   ·have:k.length=0:=by
     have h0:Min.min k.length l.length=0:=h0
     omega
    have:=List.length_eq_zero_iff.1 this
    subst this;simp[JZ]
  have hr:(execOp a.eval ⟨some d,.call ⟨.builtin .copy,#[x,y],#[T,U]⟩,ty,pos,aft,gd⟩).run P w=.ok (.value (goInt 0)) w:=by
   have:=run_copy_none (P:=P) w T U ty E0 da sa l.length dc k.length sc tS.u tS.s h0
   simp[execOp,resolve,invoke,builtin,h1,hs,hdv,this]
  refine dm (C:=C) (by intro c h;cases h) hr (hL _ _ ⟨E,?_⟩)
  rw[hc]
  have e0:((Min.min k.length l.length:Nat):Int)=0:=by
   have h0:Min.min k.length l.length=0:=h0
   rw[h0];rfl
  rw[e0]
  have:AS.app S' ⟨some (d,.sv (.v (.int .i64 0))),[],[(i,.live (TR E1 1 e l))]⟩=S'.set d (.sv (.v (.int .i64 0))):=by
   show(AS.ya S' i _).set d _=_
   rw[AS.KY vW]
  rw[this]
  exact h.put (x:=.sv (.v (.int .i64 0))) (v:=.int .i64 0) Y (by show d<S'.n;omega) iz
 ·have hpos:0<Min.min k.length l.length:=Nat.pos_of_ne_zero h0
  obtain⟨g,F2⟩:∃g,(E.ν i).ownBlock=some g:=by
   rcases hown.2 with⟨_,q2⟩|⟨g,cap,cur,q1,_⟩
   ·have q2:l.length=0:=q2
    omega
   ·exact⟨g,by rw[q1];rfl⟩
  obtain⟨cur,vs,q1,q2,q3,q4,cap,q5,q6,q7,q8⟩:=HW h vW F2
  replace q2:cur.take (l.length*1)=vs:=q2
  replace q3:vs.length=l.length*1:=q3
  replace q6:l.length≤cap:=q6
  replace q8:cur.length=cap*1:=q8
  rcases h2 with⟨sa',r1,r2⟩|⟨b,o,c,r1,_,_,r4⟩
  ·have:k=[]:=List.map_eq_nil_iff.1 r2
   subst this;simp at hpos
  rw[List.length_map]at r1
  rw[hs]at r1
  cases r1
  obtain⟨cs,c1,c2,c3⟩:=Lu (M:=E.M) (b:=b) (e:=e) (k.take (Min.min k.length l.length)) o (λj row hr q s hq=>by
   refine(r4 j row ?_).2 q s hq
   rw[List.map_take,List.getElem?_take]at hr
   split at hr
   ·exact hr
   ·cases hr)
  have nN:cs.length=Nat.min k.length l.length:=by rw[c1,List.length_take];show Min.min (Min.min k.length l.length) k.length=Min.min k.length l.length;omega
  have afT:cs.length=Min.min k.length l.length:=nN
  have hrun:=run_copy_row (P:=P) w T U ty E0 g 0 l.length cap ⟨b,o,none⟩ k.length sc ⟨cur⟩ E1 cs tS.u tS.s q1 nN (λj v hj=>by
   rw[jN];exact(h.ep _ _ _ (c3 j v hj).1).cell (c3 j v hj).2) (by simp;omega) (λv hv=>by
   obtain⟨j,hj,rfl⟩:=List.getElem_of_mem hv
   exact(c3 j _ (List.getElem?_eq_getElem hj)).2)
  have hr:(execOp a.eval ⟨some d,.call ⟨.builtin .copy,#[x,y],#[T,U]⟩,ty,pos,aft,gd⟩).run P w=.ok (.value (goInt cs.length)) (w.setRow g (cs++cur.drop cs.length).toArray):=by
   have hrun:(Builtin.copy_ #[T,U] ty #[.slice (some ⟨g,0,none⟩) l.length cap,.slice (some ⟨b,o,none⟩) k.length sc]).run P w=.ok (goInt cs.length) (w.setRow g (cs++cur.drop cs.length).toArray):=by simpa using hrun
   have q5:E.ν i=.slice (some ⟨g,0,none⟩) l.length cap:=q5
   simp[execOp,resolve,invoke,builtin,h1,hs,q5,hrun]
  have aoh:JZ l k=k.take (Min.min k.length l.length)++l.drop (Min.min k.length l.length):=by
   unfold JZ
   have e1:k.take l.length=k.take (Min.min k.length l.length):=by rw[List.take_eq_take_iff];omega
   have e2:l.drop k.length=l.drop (Min.min k.length l.length):=by rw[List.drop_eq_drop_iff];omega
   rw[e1,e2]
  have hall:SV.gw E.M ((JZ l k).flatMap e) (cs++vs.drop cs.length):=by
   rw[aoh,List.flatMap_append,←afT]
   rw[←afT]at c2
   exact SV.gw.append c2 (Py l vs cs.length q4)
  have hh:=setRow_heap w g ⟨cur⟩ (cs++cur.drop cs.length).toArray E1 (0,0) q1
  have ajC:(w.setRow g (cs++cur.drop cs.length).toArray).ownsRow 0 E1 1 (E.ν i) l.length (cs++vs.drop cs.length):=by
   refine⟨by simp;omega,.inr ⟨g,cap,_,q5,Nat.zero_le _,hh,q6,q7,by simp;omega,?_⟩⟩
   rw[←q2]
   simp only[List.take_append,List.length_take,List.drop_take]
   congr 1
   ·rw[List.take_of_length_le (by omega)]
  have hp:=h.QS vW F2 (w':=w.setRow g (cs++cur.drop cs.length).toArray) ⟨_,_,q1⟩ Y Y Y (by simp[World.setRow]) (λk' hk'=>setRow_other w g k' _ hk') ajC hall
  refine dm (C:=C) (by intro c h;cases h) hr (hL _ _ ⟨E,?_⟩)
  have hrow:(⟨(TR E1 1 e l).E,(TR E1 1 e l).sz,(TR E1 1 e l).n,(JZ l k).flatMap e⟩:Row)=TR E1 1 e (JZ l k):=by
   show Row.mk _ _ l.length _=Row.mk _ _ (JZ l k).length _
   rw[aaH]
  rw[hrow]at hp
  rw[←afT]
  exact hp.put (x:=.sv (.v (.int .i64 cs.length))) (v:=.int .i64 cs.length) Y (by show d<S'.n;omega) iz
end steps
end
end Go.Fw
namespace Go.Proofs.YtningmnklfpfjaaGreat
section
open Go.Fw
noncomputable def dB(x0:Tb):Option (Bool):=match x0 with|⟨bk,bn,bt,bB,cI⟩=>cE (λ(ajD:Bool)=>some ajD) λK3=>(bif false then none else(some (!bk)).bind λdI=>some dI).bind λacW=>K3 acW
noncomputable def iI(x0:Tb):Option (Int):=match x0 with|⟨bk,bn,bt,bB,cI⟩=>(some (cI.length:Int)).bind λfz=>(some (IntKind.i64.wrap (bn+fz))).bind λc9=>some c9
noncomputable def oJ(x0:Tb)(x1:Int):Option (List Qr):=match x0 with|⟨bk,bn,bt,bB,cI⟩=>(some (cI.length:Int)).bind λc9=>(Hf 64 c9 (⟨⟨false,[]⟩,⟨false,[]⟩⟩:Qr)).bind λeD=>(some (cI.length:Int)).bind λeX=>(bX (λ(s8:Int×(List Qr))=>match s8 with|⟨Pz,PA⟩=>(show Option ((Int×(List Qr))⊕((List Qr)))from(some (decide ((Pz:Int)<eX))).bind λij=>(bif ij then(cL cI Pz).bind λiA=>(cL iA x1).bind λ⟨⟨acX,acY⟩,⟨acZ,ac0⟩⟩=>(dQ ⟨⟨acX,acY⟩,⟨acZ,ac0⟩⟩).bind λ⟨⟨sn,sq⟩,⟨Gj,Gk⟩⟩=>(kW PA Pz).bind λnU=>(stM PA nU ⟨⟨sn,sq⟩,⟨Gj,Gk⟩⟩).bind λDL=>(some (IntKind.i64.wrap (Pz+1))).bind λiP=>some (.inl (iP,DL))else some (.inr PA)))) (0,eD)).bind λIP=>some IP
noncomputable def nm(x0:Tb)(x1:Int):Option (List Qr):=match x0 with|⟨bk,bn,bt,bB,cI⟩=>(some (bt.length:Int)).bind λc9=>(some (IntKind.i64.wrap (c9+bn))).bind λdX=>(Hf 64 dX (⟨⟨false,[]⟩,⟨false,[]⟩⟩:Qr)).bind λeX=>(some (decide ((x1:Int)<bn))).bind λgX=>cE (λ(W2:(List Qr))=>some W2) λWX=>(bif gX then(some (bt.length:Int)).bind λgI=>(bX (λ(QE:Int×(List Qr))=>match QE with|⟨IQ,IS⟩=>(show Option ((Int×(List Qr))⊕((List Qr)))from(some (decide ((IQ:Int)<gI))).bind λnU=>(bif nU then(cL bt IQ).bind λoD=>(cL oD x1).bind λ⟨⟨Ea,Eb⟩,⟨Lw,Lx⟩⟩=>(kW IS IQ).bind λyF=>(stM IS yF ⟨⟨Ea,Eb⟩,⟨Lw,Lx⟩⟩).bind λZI=>(some (IntKind.i64.wrap (IQ+1))).bind λnE=>some (.inl (nE,ZI))else some (.inr IS)))) (0,eX)).bind λDd=>(some (bt.length:Int)).bind λr9=>(some (IntKind.i64.wrap (r9+x1))).bind λAB=>(dP (-1)).bind λ⟨⟨Lh,Li⟩,⟨W4,W5⟩⟩=>(kW Dd AB).bind λAD=>(stM Dd AD ⟨⟨Lh,Li⟩,⟨W4,W5⟩⟩).bind λl22=>WX l22 else WX eX)
noncomputable def lY(x0:Tb)(x1:List Qr):Option (List Qr):=match x0 with|⟨bk,bn,bt,bB,cI⟩=>(some (bt.length:Int)).bind λc9=>(some (IntKind.i64.wrap (c9+bn))).bind λdX=>(Hf 64 dX (⟨⟨false,[]⟩,⟨false,[]⟩⟩:Qr)).bind λeX=>(some (x1.length:Int)).bind λij=>(bX (λ(pA:(List Qr)×Int)=>match pA with|⟨IT,zM⟩=>(show Option (((List Qr)×Int)⊕((List Qr)))from(some (decide ((zM:Int)<ij))).bind λiA=>(bif iA then(cL x1 zM).bind λ⟨⟨vn,vo⟩,⟨yP,yQ⟩⟩=>cE (λ(RH:Bool)=>cE (λ(W6:(List Qr))=>(some (IntKind.i64.wrap (zM+1))).bind λAE=>some (.inl (W6,AE))) λK21=>(bif RH then(cL bB zM).bind λAB=>(nm ⟨bk,bn,bt,bB,cI⟩ AB).bind λAD=>(ja ⟨⟨vn,vo⟩,⟨yP,yQ⟩⟩ AD IT).bind λCg=>K21 Cg else K21 IT)) λK19=>(cL bB zM).bind λnU=>(some (decide ((nU:Int)<bn))).bind λuG=>(bif uG then(fg ⟨⟨vn,vo⟩,⟨yP,yQ⟩⟩).bind λnj=>(some (decide ((nj:Int)≠0))).bind λyF=>some yF else some false).bind λW7=>K19 W7 else some (.inr IT)))) (eX,0)).bind λyW=>some yW
noncomputable def kA(x0:Tb):Option (List Int):=match x0 with|⟨bk,bn,bt,bB,cI⟩=>(dB ⟨bk,bn,bt,bB,cI⟩).bind λx5=>(bif x5 then some []else(some (bB.length:Int)).bind λdI=>(Hf 8 dI (0:Int)).bind λfz=>some (JZ fz bB))
noncomputable def jL(x0:Tb):Option (List Qr):=match x0 with|⟨bk,bn,bt,bB,cI⟩=>(dB ⟨bk,bn,bt,bB,cI⟩).bind λx4=>(bif x4 then some []else(iI ⟨bk,bn,bt,bB,cI⟩).bind λx7=>(oJ ⟨bk,bn,bt,bB,cI⟩ x7).bind λx8=>some x8)
noncomputable def e5(x0:Tb)(x1:Int):Option (List Qr):=match x0 with|⟨bk,bn,bt,bB,cI⟩=>cE (λ(W8:Bool)=>(bif W8 then some []else(oJ ⟨bk,bn,bt,bB,cI⟩ x1).bind λij=>(lY ⟨bk,bn,bt,bB,cI⟩ ij).bind λfL=>(nm ⟨bk,bn,bt,bB,cI⟩ x1).bind λgX=>(yO fL gX).bind λjG=>some jG)) λK6=>(dB ⟨bk,bn,bt,bB,cI⟩).bind λx6=>(bif x6 then some true else(some (decide ((x1:Int)<0))).bind λx9=>some x9).bind λac1=>(bif ac1 then some true else(iI ⟨bk,bn,bt,bB,cI⟩).bind λei=>(some (decide ((ei:Int)≤x1))).bind λdH=>some dH).bind λafU=>K6 afU
noncomputable def kC(x0:Tb):Option (List Qr):=match x0 with|⟨bk,bn,bt,bB,cI⟩=>(dB ⟨bk,bn,bt,bB,cI⟩).bind λx4=>(bif x4 then some []else(jL ⟨bk,bn,bt,bB,cI⟩).bind λx7=>(lY ⟨bk,bn,bt,bB,cI⟩ x7).bind λx8=>some x8)
noncomputable def iJ(x0:Tb):Option (List Qr):=match x0 with|⟨bk,bn,bt,bB,cI⟩=>(dB ⟨bk,bn,bt,bB,cI⟩).bind λx7=>(bif x7 then some []else(Hf 64 bn (⟨⟨false,[]⟩,⟨false,[]⟩⟩:Qr)).bind λc9=>(jL ⟨bk,bn,bt,bB,cI⟩).bind λei=>(some (ei.length:Int)).bind λdH=>(bX (λ(uH:Int×(List Qr))=>match uH with|⟨IU,IV⟩=>(show Option ((Int×(List Qr))⊕((List Qr)))from(some (decide ((IU:Int)<dH))).bind λdX=>(bif dX then(cL ei IU).bind λ⟨⟨lS,lT⟩,⟨wO,wP⟩⟩=>(cL bB IU).bind λjH=>(some (decide ((jH:Int)<bn))).bind λiP=>cE (λ(RI:(List Qr))=>(some (IntKind.i64.wrap (IU+1))).bind λvf=>some (.inl (vf,RI))) λGG=>(bif iP then(cL bB IU).bind λvY=>(kW IV vY).bind λnE=>(stM IV nE ⟨⟨lS,lT⟩,⟨wO,wP⟩⟩).bind λTh=>GG Th else GG IV)else some (.inr IV)))) (0,c9)).bind λIW=>some IW)
noncomputable def sL(x0:Tb):Option (List (List Qr)):=match x0 with|⟨bk,bn,bt,bB,cI⟩=>(dB ⟨bk,bn,bt,bB,cI⟩).bind λx7=>(bif x7 then some []else(some (cI.length:Int)).bind λc9=>(bX (λ(s6:Int×(List (List Qr)))=>match s6 with|⟨Ti,gL⟩=>(show Option ((Int×(List (List Qr)))⊕((List (List Qr))))from(some (decide ((Ti:Int)<c9))).bind λei=>(bif ei then(cL cI Ti).bind λdH=>(iI ⟨bk,bn,bt,bB,cI⟩).bind λij=>(mO dH ij).bind λfL=>(nC 24 gL [fL]).bind λjg=>(some (IntKind.i64.wrap (Ti+1))).bind λgX=>some (.inl (gX,jg))else some (.inr gL)))) (0,[])).bind λdj=>some dj)
noncomputable def jS(x0:Tb):Option (Bool):=match x0 with|⟨bk,bn,bt,bB,cI⟩=>(dB ⟨bk,bn,bt,bB,cI⟩).bind λx6=>(bif x6 then some false else(jL ⟨bk,bn,bt,bB,cI⟩).bind λx8=>(some (x8.length:Int)).bind λx9=>(bX (λ(Tj:Int)=>(show Option ((Int)⊕((Unit)⊕(Bool)))from(some (decide ((Tj:Int)<x9))).bind λfz=>(bif fz then(cL x8 Tj).bind λ⟨⟨jh,iX⟩,⟨Tk,Tl⟩⟩=>(fg ⟨⟨jh,iX⟩,⟨Tk,Tl⟩⟩).bind λdH=>(some (decide ((dH:Int)<0))).bind λfB=>(bif fB then some (.inr (.inr false))else(some (IntKind.i64.wrap (Tj+1))).bind λdX=>some (.inl dX))else some (.inr (.inl ()))))) 0).bind λe6=>match e6 with|.inr v6=>some v6|.inl _=>some true)
noncomputable def jy(x0:Tb):Option (Bool):=match x0 with|⟨bk,bn,bt,bB,cI⟩=>(dB ⟨bk,bn,bt,bB,cI⟩).bind λx5=>(bif x5 then some false else(wv (λ(k:Nat) (s3:Unit)=>(show Option ((Unit)⊕(Bool))from(some ((k:Nat):Int)).bind λp8=>(e5 ⟨bk,bn,bt,bB,cI⟩ p8).bind λfz=>(wN fz).bind λc9=>(some (decide ((c9:Int)<0))).bind λeD=>(bif eD then some (.inr false)else some (.inl ())))) ((IntKind.i64.wrap (Tb.vars ⟨bk,bn,bt,bB,cI⟩+((Tb.rows ⟨bk,bn,bt,bB,cI⟩).length:Int))).toNat) ()).bind λe3=>match e3 with|.inr v3=>some v3|.inl _=>some true)
noncomputable def gZ(x0:Tb):Option (List (List Qr)):=match x0 with|⟨bk,bn,bt,bB,cI⟩=>(dB ⟨bk,bn,bt,bB,cI⟩).bind λx6=>(bif x6 then some []else(uM (λ(k:Nat) (FB:(List (List Qr)))=>(show Option ((List (List Qr)))from(some ((k:Nat):Int)).bind λp9=>(e5 ⟨bk,bn,bt,bB,cI⟩ p9).bind λeD=>(nC 24 FB [eD]).bind λdH=>some dH)) ((IntKind.i64.wrap (Tb.vars ⟨bk,bn,bt,bB,cI⟩+((Tb.rows ⟨bk,bn,bt,bB,cI⟩).length:Int))).toNat) []).bind λFB=>some FB)
noncomputable def dW(x0:Lr):Option (Bool×Int×(List (List Qr))×(List Int)×(List (List Qr))):=match x0 with|⟨bk,bn,bt,bB⟩=>(some (bn.length:Int)).bind λdH=>(bX (λ(s6:Int×(List (List Qr)))=>match s6 with|⟨Tm,MV⟩=>(show Option ((Int×(List (List Qr)))⊕((List (List Qr))))from(some (decide ((Tm:Int)<dH))).bind λdX=>(bif dX then(cL bn Tm).bind λeX=>(mO eX bk).bind λkT=>(nC 24 MV [kT]).bind λoF=>(some (IntKind.i64.wrap (Tm+1))).bind λoD=>some (.inl (oD,oF))else some (.inr MV)))) (0,[])).bind λyo=>(some (bt.length:Int)).bind λpg=>(bX (λ(s30:Int×(List Int)×(List (List Qr)))=>match s30 with|⟨wV,BW,BX⟩=>(show Option ((Int×(List Int)×(List (List Qr)))⊕((List Int)×(List (List Qr))))from(some (decide ((wV:Int)<pg))).bind λqX=>(bif qX then(some (bt.length:Int)).bind λsj=>(some (IntKind.i64.wrap (bk+sj))).bind λzu=>(some (IntKind.i64.wrap (zu+1))).bind λvg=>(Hf 64 vg (⟨⟨false,[]⟩,⟨false,[]⟩⟩:Qr)).bind λsE=>(bX (λ(S0:Int×(List Qr))=>match S0 with|⟨IX,IY⟩=>(show Option ((Int×(List Qr))⊕((List Qr)))from(some (decide ((IX:Int)<bk))).bind λBT=>(bif BT then(Bh bt wV IX).bind λ⟨⟨Ly,Lz⟩,⟨LA,LB⟩⟩=>(kW IY IX).bind λDx=>(stM IY Dx ⟨⟨Ly,Lz⟩,⟨LA,LB⟩⟩).bind λZC=>(some (IntKind.i64.wrap (IX+1))).bind λQ4=>some (.inl (Q4,ZC))else some (.inr IY)))) (0,sE)).bind λDe=>(some (IntKind.i64.wrap (bk+wV))).bind λQ7=>(dP 1).bind λ⟨⟨LC,LD⟩,⟨LF,LG⟩⟩=>(kW De Q7).bind λQ8=>(stM De Q8 ⟨⟨LC,LD⟩,⟨LF,LG⟩⟩).bind λl42=>(some (l42.length:Int)).bind λHr=>(some (IntKind.i64.wrap (Hr-1))).bind λUs=>(cL bB wV).bind λ⟨⟨ac2,ac3⟩,⟨ac4,ac5⟩⟩=>(dQ ⟨⟨ac2,ac3⟩,⟨ac4,ac5⟩⟩).bind λ⟨⟨W9,Xa⟩,⟨Xb,Xc⟩⟩=>(kW l42 Us).bind λF7=>(stM l42 F7 ⟨⟨W9,Xa⟩,⟨Xb,Xc⟩⟩).bind λl44=>(nC 24 BX [l44]).bind λIj=>(some (IntKind.i64.wrap (bk+wV))).bind λZJ=>(nC 8 BW [ZJ]).bind λafW=>(some (IntKind.i64.wrap (wV+1))).bind λKl=>some (.inl (Kl,afW,Ij))else some (.inr (BW,BX))))) (0,[],[])).bind λe30=>match e30 with|⟨Tn,To⟩=>some (true,bk,yo,Tn,To)
noncomputable def nn(x0:Lr):Option (Bool×Int×(List (List Qr))×(List Int)×(List (List Qr))):=match x0 with|⟨bk,bn,bt,bB⟩=>(oe ⟨bk,bn,bt,bB⟩).bind λx5=>(some (!x5)).bind λx6=>(bif x6 then none else(dW ⟨bk,bn,bt,bB⟩).bind λ⟨rZ,r5,C6,C7,ajF⟩=>some (rZ,r5,C6,C7,ajF))
noncomputable def ud(x0:List Qr)(Pa:Qr):Option (List Qr):=match Pa with|⟨⟨Pb,Pc⟩,⟨Pd,Pe⟩⟩=>(qC ⟨⟨Pb,Pc⟩,⟨Pd,Pe⟩⟩ x0).bind λx6=>some x6
noncomputable def oK(o0:Bool)(o1:Int)(o2:List (List Qr))(o3:List Int)(o4:List (List Qr))(x0:List Qr)(Pa:Int)(c_2:Int):Option (List Qr):=(cL x0 Pa).bind λ⟨⟨rZ,r5⟩,⟨C6,C7⟩⟩=>(fg ⟨⟨rZ,r5⟩,⟨C6,C7⟩⟩).bind λdI=>(some (decide ((dI:Int)=0))).bind λfz=>(bif fz then some x0 else(cL x0 Pa).bind λ⟨⟨jQ,jR⟩,⟨xK,xL⟩⟩=>(sH ⟨⟨jQ,jR⟩,⟨xK,xL⟩⟩).bind λ⟨⟨q9,rf⟩,⟨Ak,Al⟩⟩=>(kW o4 c_2).bind λjg=>(o4[jg]?).bind λgX=>(ja ⟨⟨q9,rf⟩,⟨Ak,Al⟩⟩ gX x0).bind λjH=>some jH)
noncomputable def cX(o0:Bool)(o1:Int)(o2:List (List Qr))(o3:List Int)(o4:List (List Qr))(x1:Int)(x2:Int):Option ((List (List Qr))×(List Int)×(List (List Qr))):=(dP 1).bind λ⟨⟨AY,AZ⟩,⟨ac6,ac7⟩⟩=>(kW o4 x1).bind λjl=>(o4[jl]?).bind λij=>(cL ij x2).bind λ⟨⟨wJ,wK⟩,⟨wL,wM⟩⟩=>(wH ⟨⟨AY,AZ⟩,⟨ac6,ac7⟩⟩ ⟨⟨wJ,wK⟩,⟨wL,wM⟩⟩).bind λ⟨⟨⟨FC,FD⟩,⟨FE,FF⟩⟩,UA⟩=>(kW o4 x1).bind λyF=>(o4[yF]?).bind λnE=>(ud nE ⟨⟨FC,FD⟩,⟨FE,FF⟩⟩).bind λvf=>(kW o4 x1).bind λsj=>(stM o4 sj vf).bind λl2=>(some (l2.length:Int)).bind λBT=>(bX (λ(Ad:Int×(List (List Qr)))=>match Ad with|⟨xQ,jZ⟩=>(show Option ((Int×(List (List Qr)))⊕((List (List Qr))))from(some (decide ((xQ:Int)<BT))).bind λKy=>(bif Ky then(kW jZ xQ).bind λAE=>(jZ[AE]?).bind λJ2=>(some (decide ((xQ:Int)≠x1))).bind λUo=>cE (λ(Bl:(List (List Qr)))=>(some (IntKind.i64.wrap (xQ+1))).bind λJ3=>some (.inl (J3,Bl))) λXd=>(bif Uo then(oK o0 o1 o2 o3 jZ J2 x2 x1).bind λQ8=>(kW jZ xQ).bind λWh=>(stM jZ Wh Q8).bind λl17=>Xd l17 else Xd jZ)else some (.inr jZ)))) (0,l2)).bind λyX=>some (o2,o3,yX)
noncomputable def dA(o0:Bool)(o1:Int)(o2:List (List Qr))(o3:List Int)(o4:List (List Qr))(x1:Int)(x2:Int):Option (Int×(List (List Qr))×(List Int)×(List (List Qr))):=(dB (⟨o0,o1,o2,o3,o4⟩:Tb)).bind λdI=>(bif dI then some (2,o2,o3,o4)else cE (λ(Xe:Bool)=>(bif Xe then some (1,o2,o3,o4)else(some (o3.length:Int)).bind λpg=>(bX (λ(MW:Int)=>(show Option ((Int)⊕((Unit)⊕(Int×(List (List Qr))×(List Int)×(List (List Qr)))))from(some (decide ((MW:Int)<pg))).bind λqX=>(bif qX then(kW o3 MW).bind λvY=>(o3[vY]?).bind λnj=>(some (decide ((nj:Int)=x2))).bind λvf=>(bif vf then some (.inr (.inr (1,o2,o3,o4)))else(some (IntKind.i64.wrap (MW+1))).bind λsj=>some (.inl sj))else some (.inr (.inl ()))))) 0).bind λEc=>match Ec with|.inr jT=>some jT|.inl _=>(kW o4 x1).bind λAB=>(o4[AB]?).bind λBT=>(cL BT x2).bind λ⟨⟨ac8,ac9⟩,⟨ada,adb⟩⟩=>(fg ⟨⟨ac8,ac9⟩,⟨ada,adb⟩⟩).bind λAE=>(some (decide ((AE:Int)=0))).bind λJ2=>(bif J2 then some (7,o2,o3,o4)else(cX o0 o1 o2 o3 o4 x1 x2).bind λ⟨ZI,l21,l22⟩=>(kW l21 x1).bind λx67=>(stM l21 x67 x2).bind λl24=>some (0,ZI,l24,l22)))) λWX=>(some (decide ((x1:Int)<0))).bind λc9=>(bif c9 then some true else(some (o4.length:Int)).bind λjl=>(some (decide ((jl:Int)≤x1))).bind λij=>some ij).bind λXf=>(bif Xf then some true else(some (decide ((x2:Int)<0))).bind λgX=>some gX).bind λafX=>(bif afX then some true else(iI (⟨o0,o1,o2,o3,o4⟩:Tb)).bind λgI=>(some (decide ((gI:Int)≤x2))).bind λoF=>some oF).bind λafY=>WX afY)
end
section
open Go.Fw Go.Fw.Z Go.RowKit
instance:S8 af 30:=⟨by kernel_rfl⟩
theorem fP{x0:Tb}{r:Bool}(h:dB x0=some r):Pure af 57 [ref (zC x0)] (ay r):=by
 obtain⟨bk,bn,bt,bB,cI⟩:=x0
 refine bj Tryz.func57 Y (ae Y) (λdw M vs hvs=>?_)
 unfold dB at h
 refine sr<|ag Y<|dn<|qq ?_
 refine bJ h (λj3=>AS.cj 12 [(2,ai j3)] [] []) (λh=>?_) (λajD h=>?_)
 refine aX<|mv Y<|RT.WZ .none Y Y T<|mv Y<|bE h λacW rW h=>gm Y<|RT.cz (.some Y Y) Y T<|RT.bT (.some Y Y) Y T Y<|gr Y Y<|lE (F rW) λdI gC rW=>Q2 Y _ gC ?_
 obtain rfl:=O rW
 exact pF Y<|ag Y<|dn<|⟨dI,h,wR []⟩
 try dsimp only
 refine aW.n<|bf ?_
 obtain rfl:=O h
 exact R1 Y
theorem ry{x0:Tb}{r:Int}(h:iI x0=some r):Pure af 58 [ref (zC x0)] (ax r):=by
 obtain⟨bk,bn,bt,bB,cI⟩:=x0
 refine bj Tryz.func58 Y (ae Y) (λdw M vs hvs=>?_)
 unfold iI at h
 refine sr<|ag Y<|dn<|qq<|aZ mixed<|mv Y<|RT.cz .none Y T<|RT.bT .none Y T Y<|lr Y Y<|mv Y<|RT.cz .none Y T<|RT.bT .none Y T Y<|lr Y Y<|lE h λfz lp h=>ln Y lp<|lE h λc9 fC h=>ad _ Y Y fC<|ag Y ?_
 refine RT.done ⟨by kernel_rfl,?_⟩
 refine aW.n<|bf ?_
 obtain rfl:=O h
 exact R1 Y
theorem CF{x0:Tb}{x1:Int}(N:Nat){r:List Qr}(h:oJ x0 x1=some r):dK af 64 N [ref (zC x0),ax x1] (nw N (slc 4 (List.map (fQ N) r))):=by
 obtain⟨bk,bn,bt,bB,cI⟩:=x0
 refine bU Tryz.func64 Y (ae Y) (λdw M vs hN hvs=>?_)
 unfold oJ at h
 refine sr<|aI Y (bu (N:=N) (n:=4) (e:=(fQ N)))<|dn<|sr<|mv Y<|RT.cz .none Y T<|RT.bT .none Y T Y<|lr Y Y<|lE h λc9 fC h=>ln Y fC<|bE h λeD iF h=>RT.tK (n:=4) (e:=(fQ N)) .none Y Y T Y T (by rfl) (by decide) (by exact⟨aq,bu,aq,bu,ak⟩) iF<|an (s:=.row _) Y<|dn<|qq<|sr<|mv Y<|RT.cz .none Y T ?_
 refine RT.bT .none Y T Y<|lr Y Y<|lE h λeX jK h=>ln Y jK<|mv Y<|dn<|bE h λe8 Ko Ch=>?_
 refine bK (λ(IP:(List Qr))=>AS.cj 34 [(5,.row 13)] [] [(13,TR 43 4 (fQ N) IP)]) (λIP=>IP=e8) ?_ (λIP Mv=>?_)
 refine aY ?_
 refine bL Ko (λs8=>AS.cj 34 [(1,ah x1),(5,.row 13),(17,.sv (slc 1 (List.map (eS 4 eQ) cI))),(18,ah eX),(19,ah s8.1)] [] [(13,TR 43 4 (fQ N) s8.2)]) (wR []) (λs8 y8 G8 h Mw Mx=>?_)
 obtain⟨Pz,PA⟩:=s8
 try dsimp only
 refine sr<|lE h λij oG h=>ls _ Y Y oG<|dn<|qq ?_
 cases ij
 refine cF<|bN<|aW.x<|aW.x<|bF.x<|aW.n ?_
 obtain rfl:=O (F h)
 exact⟨PA,Mx _ Y,wR []⟩
 refine cT<|bw<|aW.n<|qq<|aY<|sr<|mv Y<|bE (V h) λiA oH h=>ix Y Y oH<|lr Y Y<|ag Y<|ag Y<|dn<|aX<|mo (s:=.row _) Y<|mv Y<|mv Y<|mv Y ?_
 obtain⟨⟨⟨acX,acY⟩,⟨acZ,ac0⟩⟩,uO,h⟩:=bS h
 refine ix Y Y uO<|RT.gy (cs:=[_,_,_,_]) .none Y T Y Y ?_
 obtain⟨⟨⟨sn,sq⟩,⟨Gj,Gk⟩⟩,vD,h⟩:=bS h
 refine RT.bZ .none (nH N vD) hN Y ⟨Y,ak⟩ T<|bE h λnU yz h=>iR Y Y Y yz<|bE h λDL yI h=>sA ⟨⟨sn,sq⟩,⟨Gj,Gk⟩⟩ Y Y Y yI<|RT.done<|bF.n<|aW.n<|aX<|lE h λiP pW h=>ad _ Y Y pW<|mv Y<|RT.done ?_
 obtain rfl:=O h
 exact aW.n ⟨(iP,DL),Mw _ Y,wR []⟩
 subst Mv
 try dsimp only
 refine aW.n<|sr<|mo (s:=.row _) Y<|an (s:=.row _) Y<|dn<|lz (i:=13) (E1:=43) (n:=4) (e:=(fQ N)) (l:=IP) hN (λ_ h=>h) Y<|bf ?_
 obtain rfl:=O Ch
 exact R1 Y
theorem Bm{x0:Tb}{x1:Int}{r:List Qr}(h:nm x0 x1=some r):Pure af 78 [ref (zC x0),ax x1] (slc 4 (List.map eQ r)):=by
 obtain⟨bk,bn,bt,bB,cI⟩:=x0
 refine bj Tryz.func78 Y (ae Y) (λdw M vs hvs=>?_)
 unfold nm at h
 refine sr<|aI Y (aB (n:=4) (e:=eQ))<|dn<|qq<|aZ mixed<|mv Y<|RT.cz .none Y T<|RT.bT .none Y T Y<|lr Y Y<|lE h λc9 fC h=>ln Y fC<|mv Y<|RT.cz .none Y T<|RT.bT .none Y T Y<|lr Y Y<|lE h λdX jO h=>ad _ Y Y jO<|bE h λeX jK h=>RT.tK (n:=4) (e:=eQ) .none Y Y T Y T (by rfl) (by decide) (by exact⟨aq,aB,aq,aB,ak⟩) jK ?_
 refine an (s:=.row _) Y ?_
 refine RT.done ⟨by kernel_rfl,?_⟩
 refine aW.n<|qq<|sr<|mv Y<|mv Y<|RT.cz .none Y T<|RT.bT .none Y T Y<|lr Y Y<|lE h λgX oY h=>ls _ Y Y oY<|dn ?_
 refine bJ h (λTd=>AS.cj 54 [(5,.row 18)] [] [(18,TR 43 4 eQ Td)]) (λh=>?_) (λW2 h=>?_)
 cases gX
 exact fs<|⟨eX,(F h),wR []⟩
 refine cT<|qq<|sr<|mv Y<|RT.cz .none Y T<|RT.bT .none Y T Y<|lr Y Y<|lE (V h) λgI mZ h=>ln Y mZ<|mv Y<|dn<|bE h λe18 Xg sM=>?_
 refine bK (λ(Dd:(List Qr))=>AS.cj 54 [(0,.sv (ref [ay bk,ax bn,slc 1 (List.map (eS 4 eQ) bt),slc 1 (List.map bD bB),slc 1 (List.map (eS 4 eQ) cI)])),(1,ah x1),(5,.row 18)] [] [(18,TR 43 4 eQ Dd)]) (λDd=>Dd=e18) ?_ (λDd Xh=>?_)
 refine aY ?_
 refine bL Xg (λQE=>AS.cj 54 [(0,.sv (ref [ay bk,ax bn,slc 1 (List.map (eS 4 eQ) bt),slc 1 (List.map bD bB),slc 1 (List.map (eS 4 eQ) cI)])),(1,ah x1),(5,.row 18),(28,.sv (slc 1 (List.map (eS 4 eQ) bt))),(29,ah gI),(30,ah QE.1)] [] [(18,TR 43 4 eQ QE.2)]) (wR []) (λQE y18 G18 h Xi RJ=>?_)
 obtain⟨IQ,IS⟩:=QE
 try dsimp only
 refine sr<|lE h λnU yz h=>ls _ Y Y yz<|dn<|qq ?_
 cases nU
 refine cF<|bN<|aW.x<|aW.x<|bF.x<|aW.n ?_
 obtain rfl:=O (F h)
 exact⟨IS,RJ _ Y,wR []⟩
 refine cT<|bw<|aW.n<|qq<|aY<|sr<|mv Y<|bE (V h) λoD xp h=>ix Y Y xp<|lr Y Y<|ag Y<|ag Y<|dn<|aX<|mo (s:=.row _) Y<|mv Y<|mv Y<|mv Y ?_
 obtain⟨⟨⟨Ea,Eb⟩,⟨Lw,Lx⟩⟩,DX,h⟩:=bS h
 refine ix Y Y DX<|RT.gy (cs:=[_,_,_,_]) .none Y T Y Y<|bE h λyF GK h=>iR Y Y Y GK<|bE h λZI Xj h=>sA ⟨⟨Ea,Eb⟩,⟨Lw,Lx⟩⟩ Y Y Y Xj<|RT.done<|bF.n<|aW.n<|aX<|lE h λnE ym h=>ad _ Y Y ym<|mv Y<|RT.done ?_
 obtain rfl:=O h
 exact aW.n ⟨(nE,ZI),Xi _ Y,wR []⟩
 subst Xh
 try dsimp only
 refine aW.n<|aZ mixed<|mo (s:=.row _) Y<|mv Y<|RT.cz .none Y T<|RT.bT .none Y T Y<|lr Y Y<|lE sM λr9 h48 sM=>ln Y h48<|mv Y<|lE sM λAB Kn sM=>ad _ Y Y Kn ?_
 obtain⟨⟨⟨Lh,Li⟩,⟨W4,W5⟩⟩,Ip,sM⟩:=bS sM
 refine cl (nG Ip) ⟨Y,ak⟩<|bE sM λAD GL sM=>iR Y Y Y GL<|bE sM λl22 ajH sM=>sA ⟨⟨Lh,Li⟩,⟨W4,W5⟩⟩ Y Y Y ajH ?_
 refine RT.done ⟨by kernel_rfl,?_⟩
 exact aW.n<|⟨l22,sM,wR []⟩
 try dsimp only
 refine aW.n<|sr<|mo (s:=.row _) Y<|an (s:=.row _) Y<|dn<|bR (cV (i:=18) (E1:=43) (n:=4) (e:=eQ) (l:=W2) Y)<|bf ?_
 obtain rfl:=O h
 exact R1 Y
theorem Am{x0:Tb}{x1:List Qr}(N:Nat){r:List Qr}(h:lY x0 x1=some r):dK af 77 N [ref (zC x0),slc 4 (List.map eQ x1)] (nw N (slc 4 (List.map (fQ N) r))):=by
 obtain⟨bk,bn,bt,bB,cI⟩:=x0
 refine bU Tryz.func77 Y (ae Y) (λdw M vs hN hvs=>?_)
 unfold lY at h
 refine sr<|aI Y (bu (N:=N) (n:=4) (e:=(fQ N)))<|dn<|qq<|aZ mixed<|mv Y<|RT.cz .none Y T<|RT.bT .none Y T Y<|lr Y Y<|lE h λc9 fC h=>ln Y fC<|mv Y<|RT.cz .none Y T<|RT.bT .none Y T Y<|lr Y Y<|lE h λdX jO h=>ad _ Y Y jO<|bE h λeX jK h=>RT.tK (n:=4) (e:=(fQ N)) .none Y Y T Y T (by rfl) (by decide) (by exact⟨aq,bu,aq,bu,ak⟩) jK ?_
 refine an (s:=.row _) Y ?_
 refine RT.done ⟨by kernel_rfl,?_⟩
 refine aW.n<|qq<|sr<|mv Y<|lE h λij oG h=>ln Y oG<|mv Y<|dn<|lz (i:=18) (E1:=43) (n:=4) (e:=(fQ N)) (l:=eX) hN (λ_ h=>h) Y<|bE h λEc wW ko=>?_
 refine bK (λ(yW:(List Qr))=>AS.cj 57 [(5,.sv (nw N (slc 4 (List.map (fQ N) yW))))] [] []) (λyW=>yW=Ec) ?_ (λyW uS=>?_)
 refine aY ?_
 refine bL wW (λpA=>AS.cj 57 [(0,.sv (ref [ay bk,ax bn,slc 1 (List.map (eS 4 eQ) bt),slc 1 (List.map bD bB),slc 1 (List.map (eS 4 eQ) cI)])),(5,.sv (nw N (slc 4 (List.map (fQ N) pA.1)))),(19,.sv (slc 4 (List.map eQ x1))),(20,ah ij),(21,ah pA.2)] [] []) (wR []) (λpA ZK ZL h yp vI=>?_)
 obtain⟨IT,zM⟩:=pA
 try dsimp only
 refine sr<|lE h λiA oH h=>ls _ Y Y oH<|dn<|qq ?_
 cases iA
 refine cF<|bN<|aW.x<|aW.x<|bF.x<|aW.n ?_
 obtain rfl:=O (F h)
 exact⟨IT,vI _ Y,wR []⟩
 refine cT<|bw<|aW.n<|qq<|aY<|sr<|mv Y ?_
 obtain⟨⟨⟨vn,vo⟩,⟨yP,yQ⟩⟩,oY,h⟩:=bS (V h)
 refine ix Y Y oY<|RT.gy (cs:=[_,_,_,_]) .none Y T Y Y<|al (cs:=[ay false,nw N au,ay false,nw N au]) (by exact⟨aq,bu,aq,bu,ak⟩) Y<|ag Y<|so Y Y Y<|dn<|qq ?_
 refine bJ h (λj19=>AS.cj 57 [(0,.sv (ref [ay bk,ax bn,slc 1 (List.map (eS 4 eQ) bt),slc 1 (List.map bD bB),slc 1 (List.map (eS 4 eQ) cI)])),(5,.sv (nw N (slc 4 (List.map (fQ N) IT)))),(6,ah zM),(7,.ptr 7 0),(19,.sv (slc 4 (List.map eQ x1))),(20,ah ij),(21,ah zM),(42,ai j19)] [(7,⟨43,[ai vn,.sv (slc 1 (List.map bh vo)),ai yP,.sv (slc 1 (List.map bh yQ))]⟩)] []) (λh=>?_) (λRH h=>?_)
 refine aZ mixed<|mv Y<|RT.cz .none Y T<|RT.bT .none Y T Y<|lr Y Y<|mv Y<|bE h λnU yz h=>ix Y Y yz<|lr Y Y<|mv Y<|RT.cz .none Y T<|RT.bT .none Y T Y<|lr Y Y<|lE h λuG DW h=>ls _ Y Y DW<|mv Y<|bE h λW7 Kx h=>?_
 cases uG
 obtain rfl:=O (F Kx)
 refine ww<|ww<|ww<|pF Y ?_
 refine RT.done ⟨by kernel_rfl,?_⟩
 exact aW.n<|⟨false,h,wR []⟩
 refine gl Y Y (.k4 Y Y Y Y)<|bE (V Kx) λnj vm Kx=>gc (kz vm) ⟨Y,ak⟩<|lE Kx λyF GK Kx=>gq _ Y Y (JY (p:=nj) (q:=0) GK) ?_
 obtain rfl:=O Kx
 refine pT Y ?_
 refine RT.done ⟨by kernel_rfl,?_⟩
 exact aW.n<|⟨yF,h,wR []⟩
 try dsimp only
 refine aW.n ?_
 refine bJ h (λj21=>AS.cj 57 [(0,.sv (ref [ay bk,ax bn,slc 1 (List.map (eS 4 eQ) bt),slc 1 (List.map bD bB),slc 1 (List.map (eS 4 eQ) cI)])),(5,.sv (nw N (slc 4 (List.map (fQ N) j21)))),(19,.sv (slc 4 (List.map eQ x1))),(20,ah ij),(21,ah zM)] [] []) (λh=>?_) (λW6 h=>?_)
 cases RH
 exact fs<|⟨IT,(F h),wR []⟩
 refine cT<|aZ mixed<|ld Y Y (.k4 Y Y Y Y)<|mv Y<|mv Y<|RT.cz .none Y T<|RT.bT .none Y T Y<|lr Y Y<|mv Y<|bE (V h) λAB Kn h=>ix Y Y Kn<|lr Y Y<|bE h λAD GL h=>cl (Bm GL) ⟨Y,Y,ak⟩<|mv Y<|bE h λCg Ll h=>RT.bZ .none ((yR N Ll).w (args':=[_,_,_]) ⟨aq,aq,Ul,ak⟩) hN Y ⟨Y,Y,Y,ak⟩ T ?_
 refine ag Y ?_
 refine RT.done ⟨by kernel_rfl,?_⟩
 exact aW.n<|⟨Cg,h,wR []⟩
 try dsimp only
 refine bF.n<|aW.n<|aX<|lE h λAE OO h=>ad _ Y Y OO<|mv Y<|RT.done ?_
 obtain rfl:=O h
 exact aW.n ⟨(W6,AE),yp _ Y,wR []⟩
 subst uS
 try dsimp only
 refine aW.n<|sr<|mv Y<|ag Y<|dn<|bf ?_
 obtain rfl:=O ko
 exact R1 Y
theorem Ed{x0:Tb}(N:Nat){r:List Int}(h:kA x0=some r):dK af 17 N [ref (zC x0)] (nw N (slc 1 (List.map bD r))):=by
 obtain⟨bk,bn,bt,bB,cI⟩:=x0
 refine bU Tryz.func17 Y (ae Y) (λdw M vs hN hvs=>?_)
 unfold kA at h
 refine sr<|aI Y (bu (N:=N) (n:=1) (e:=bD))<|dn<|qq<|sr<|mv Y<|bE h λx5 h5 h=>cl (fP h5) ⟨Y,ak⟩<|dn ?_
 cases x5
 refine fs<|sr<|mv Y<|RT.cz .none Y T<|RT.bT .none Y T Y<|lr Y Y<|lE (F h) λdI gC h=>ln Y gC<|bE h λfz lp h=>RT.tK (n:=1) (e:=bD) .none Y Y T Y T (by rfl) (by decide) (by exact⟨aq,ak⟩) lp<|an (s:=.row _) Y<|dn<|sr<|mo (s:=.row _) Y<|mv Y<|RT.cz .none Y T<|RT.bT .none Y T Y<|lr Y Y ?_
 refine RT.Tg (l:=fz) (k:=bB) (e:=bD) .none Y Y Y T Y<|dn<|sr<|mo (s:=.row _) Y<|an (s:=.row _) Y<|dn<|lz (i:=11) (E1:=3) (n:=1) (e:=bD) (l:=(JZ fz bB)) hN (λ_ h=>h) Y<|bf ?_
 obtain rfl:=O h
 exact R1 Y
 refine cT<|sr<|aI Y (bu (N:=N) (n:=1) (e:=bD))<|dn<|bf<|aW.r ?_
 obtain rfl:=O (V h)
 exact R1 Y
theorem MX{x0:Tb}{r:List Int}(h:kA x0=some r):Pure af 17 [ref (zC x0)] (slc 1 (List.map bD r)):=eT (λN=>Ed N h) (λN=>fN)
theorem zN{x0:Tb}(N:Nat){r:List Qr}(h:jL x0=some r):dK af 19 N [ref (zC x0)] (nw N (slc 4 (List.map (fQ N) r))):=by
 obtain⟨bk,bn,bt,bB,cI⟩:=x0
 refine bU Tryz.func19 Y (ae Y) (λdw M vs hN hvs=>?_)
 unfold jL at h
 refine sr<|aI Y (bu (N:=N) (n:=4) (e:=(fQ N)))<|dn<|qq<|sr<|mv Y<|bE h λx4 h4 h=>cl (fP h4) ⟨Y,ak⟩<|dn ?_
 cases x4
 refine fs<|sr<|mv Y<|mv Y<|bE (F h) λx7 h7 h=>cl (ry h7) ⟨Y,ak⟩<|bE h λx8 h8 h=>RT.bZ .none (CF N h8) hN Y ⟨Y,Y,ak⟩ T<|ag Y<|dn<|bf ?_
 obtain rfl:=O h
 exact R1 Y
 refine cT<|sr<|aI Y (bu (N:=N) (n:=4) (e:=(fQ N)))<|dn<|bf<|aW.r ?_
 obtain rfl:=O (V h)
 exact R1 Y
theorem IZ{x0:Tb}{r:List Qr}(h:jL x0=some r):Pure af 19 [ref (zC x0)] (slc 4 (List.map eQ r)):=eT (λN=>zN N h) (λN=>Ul)
theorem qg{x0:Tb}{x1:Int}(N:Nat){r:List Qr}(h:e5 x0 x1=some r):dK af 28 N [ref (zC x0),ax x1] (nw N (slc 4 (List.map (fQ N) r))):=by
 obtain⟨bk,bn,bt,bB,cI⟩:=x0
 refine bU Tryz.func28 Y (ae Y) (λdw M vs hN hvs=>?_)
 unfold e5 at h
 refine sr<|aI Y (bu (N:=N) (n:=4) (e:=(fQ N)))<|dn<|qq<|qq ?_
 refine bJ h (λj6=>AS.cj 26 [(0,.sv (ref [ay bk,ax bn,slc 1 (List.map (eS 4 eQ) bt),slc 1 (List.map bD bB),slc 1 (List.map (eS 4 eQ) cI)])),(1,ah x1),(16,ai j6)] [] []) (λh=>?_) (λW8 h=>?_)
 refine aX<|mv Y<|bE h λx6 h6 h=>cl (fP h6) ⟨Y,ak⟩<|mv Y<|bE h λac1 hg7 h=>?_
 cases x6
 refine gm Y<|lE (F hg7) λx9 h9 hg7=>RT.lss (.some Y Y) _ Y Y T h9 ?_
 obtain rfl:=O hg7
 refine pF Y<|mv Y<|bE h λar3 WM h=>?_
 cases x9
 refine gm Y<|gm Y<|bE (F WM) λei jx WM=>gc (ry jx) ⟨Y,ak⟩<|lE WM λdH gD WM=>RT.geq (.some Y Y) _ Y Y T gD ?_
 obtain rfl:=O WM
 exact pF Y<|dn<|⟨dH,h,wR []⟩
 obtain rfl:=O (V WM)
 exact ww<|ww<|ww<|ww<|pT Y<|dn<|⟨true,h,wR []⟩
 obtain rfl:=O (V hg7)
 refine ww<|ww<|pT Y<|mv Y<|bE h λar4 hg9 h=>?_
 obtain rfl:=O (V hg9)
 exact ww<|ww<|ww<|ww<|pT Y<|dn<|⟨true,h,wR []⟩
 try dsimp only
 refine aW.n ?_
 cases W8
 refine fs<|sr<|mv Y<|mv Y<|mv Y<|bE (F h) λij oG h=>RT.bZ .none (CF N oG) hN Y ⟨Y,Y,ak⟩ T<|bE h λfL ke h=>RT.bZ .none ((Am N ke).w (args':=[_,_]) ⟨aq,Ul,ak⟩) hN Y ⟨Y,Y,ak⟩ T<|mv Y<|mv Y<|bE h λgX oY h=>cl (Bm oY) ⟨Y,Y,ak⟩<|bE h λjG nO h=>RT.bZ .none ((RA N nO).w (args':=[_,_]) ⟨Ul,aq,ak⟩) hN Y ⟨Y,Y,ak⟩ T ?_
 refine ag Y<|dn<|bf ?_
 obtain rfl:=O h
 exact R1 Y
 refine cT<|sr<|aI Y (bu (N:=N) (n:=4) (e:=(fQ N)))<|dn<|bf<|aW.r ?_
 obtain rfl:=O (V h)
 exact R1 Y
theorem Df{x0:Tb}{x1:Int}{r:List Qr}(h:e5 x0 x1=some r):Pure af 28 [ref (zC x0),ax x1] (slc 4 (List.map eQ r)):=eT (λN=>qg N h) (λN=>Ul)
theorem Ee{x0:Tb}(N:Nat){r:List Qr}(h:kC x0=some r):dK af 38 N [ref (zC x0)] (nw N (slc 4 (List.map (fQ N) r))):=by
 obtain⟨bk,bn,bt,bB,cI⟩:=x0
 refine bU Tryz.func38 Y (ae Y) (λdw M vs hN hvs=>?_)
 unfold kC at h
 refine sr<|aI Y (bu (N:=N) (n:=4) (e:=(fQ N)))<|dn<|qq<|sr<|mv Y<|bE h λx4 h4 h=>cl (fP h4) ⟨Y,ak⟩<|dn ?_
 cases x4
 refine fs<|sr<|mv Y<|mv Y<|bE (F h) λx7 h7 h=>RT.bZ .none (zN N h7) hN Y ⟨Y,ak⟩ T<|bE h λx8 h8 h=>RT.bZ .none ((Am N h8).w (args':=[_,_]) ⟨aq,Ul,ak⟩) hN Y ⟨Y,Y,ak⟩ T<|ag Y<|dn<|bf ?_
 obtain rfl:=O h
 exact R1 Y
 refine cT<|sr<|aI Y (bu (N:=N) (n:=4) (e:=(fQ N)))<|dn<|bf<|aW.r ?_
 obtain rfl:=O (V h)
 exact R1 Y
theorem MY{x0:Tb}{r:List Qr}(h:kC x0=some r):Pure af 38 [ref (zC x0)] (slc 4 (List.map eQ r)):=eT (λN=>Ee N h) (λN=>Ul)
theorem An{x0:Tb}(N:Nat){r:List Qr}(h:iJ x0=some r):dK af 21 N [ref (zC x0)] (nw N (slc 4 (List.map (fQ N) r))):=by
 obtain⟨bk,bn,bt,bB,cI⟩:=x0
 refine bU Tryz.func21 Y (ae Y) (λdw M vs hN hvs=>?_)
 unfold iJ at h
 refine sr<|aI Y (bu (N:=N) (n:=4) (e:=(fQ N)))<|dn<|qq<|sr<|mv Y<|bE h λx7 h7 h=>cl (fP h7) ⟨Y,ak⟩<|dn ?_
 cases x7
 refine fs<|sr<|mv Y<|RT.cz .none Y T<|RT.bT .none Y T Y<|lr Y Y<|bE (F h) λc9 fC h=>RT.tK (n:=4) (e:=(fQ N)) .none Y Y T Y T (by rfl) (by decide) (by exact⟨aq,bu,aq,bu,ak⟩) fC<|an (s:=.row _) Y<|dn<|qq<|sr<|mv Y<|bE h λei jx h=>RT.bZ .none (zN N jx) hN Y ⟨Y,ak⟩ T<|lE h λdH gD h=>RT.Lf .none Y T gD<|mv Y ?_
 refine dn<|bE h λFm yh pq=>?_
 refine bK (λ(IW:(List Qr))=>AS.cj 45 [(3,.row 12)] [] [(12,TR 43 4 (fQ N) IW)]) (λIW=>IW=Fm) ?_ (λIW yj=>?_)
 refine aY ?_
 refine bL yh (λuH=>AS.cj 45 [(0,.sv (ref [ay bk,ax bn,slc 1 (List.map (eS 4 eQ) bt),slc 1 (List.map bD bB),slc 1 (List.map (eS 4 eQ) cI)])),(3,.row 12),(14,.sv (nw N (slc 4 (List.map (fQ N) ei)))),(15,ah dH),(16,ah uH.1)] [] [(12,TR 43 4 (fQ N) uH.2)]) (wR []) (λuH ZD ZE h yl uN=>?_)
 obtain⟨IU,IV⟩:=uH
 try dsimp only
 refine sr<|lE h λdX jO h=>ls _ Y Y jO<|dn<|qq ?_
 cases dX
 refine cF<|bN<|aW.x<|aW.x<|bF.x<|aW.n ?_
 obtain rfl:=O (F h)
 exact⟨IV,uN _ Y,wR []⟩
 refine cT<|bw<|aW.n<|qq<|aY<|sr<|mv Y ?_
 obtain⟨⟨⟨lS,lT⟩,⟨wO,wP⟩⟩,mw,h⟩:=bS (V h)
 refine RT.aiN .none Y Y T mw<|RT.gy (cs:=[_,_,_,_]) .none Y T Y Y<|al (cs:=[ay false,nw N au,ay false,nw N au]) (by exact⟨aq,bu,aq,bu,ak⟩) Y<|ag Y<|so Y Y Y<|dn<|qq<|aZ mixed<|mv Y<|RT.cz .none Y T<|RT.bT .none Y T Y<|lr Y Y<|mv Y<|bE h λjH rV h=>ix Y Y rV ?_
 refine lr Y Y<|mv Y<|RT.cz .none Y T<|RT.bT .none Y T Y<|lr Y Y<|lE h λiP pW h=>ls _ Y Y pW ?_
 refine RT.done ⟨by kernel_rfl,?_⟩
 refine aW.n ?_
 refine bJ h (λGI=>AS.cj 45 [(0,.sv (ref [ay bk,ax bn,slc 1 (List.map (eS 4 eQ) bt),slc 1 (List.map bD bB),slc 1 (List.map (eS 4 eQ) cI)])),(3,.row 12),(14,.sv (nw N (slc 4 (List.map (fQ N) ei)))),(15,ah dH),(16,ah IU)] [] [(12,TR 43 4 (fQ N) GI)]) (λh=>?_) (λRI h=>?_)
 cases iP
 exact fs<|⟨IV,(F h),wR []⟩
 refine cT<|aZ mixed<|mo (s:=.row _) Y<|mv Y<|RT.cz .none Y T<|RT.bT .none Y T Y<|lr Y Y<|mv Y<|bE (V h) λvY DX h=>ix Y Y DX<|lr Y Y<|ld Y Y (.k4 Y Y Y Y)<|bE h λnE ym h=>iR Y Y Y ym<|bE h λTh Xk h=>sA ⟨⟨lS,lT⟩,⟨wO,wP⟩⟩ Y Y Y Xk ?_
 refine RT.done ⟨by kernel_rfl,?_⟩
 exact aW.n<|⟨Th,h,wR []⟩
 try dsimp only
 refine bF.n<|aW.n<|aX<|lE h λvf EX h=>ad _ Y Y EX<|mv Y<|RT.done ?_
 obtain rfl:=O h
 exact aW.n ⟨(vf,RI),yl _ Y,wR []⟩
 subst yj
 try dsimp only
 refine aW.n<|sr<|mo (s:=.row _) Y<|an (s:=.row _) Y<|dn<|lz (i:=12) (E1:=43) (n:=4) (e:=(fQ N)) (l:=IW) hN (λ_ h=>h) Y<|bf ?_
 obtain rfl:=O pq
 exact R1 Y
 refine cT<|sr<|aI Y (bu (N:=N) (n:=4) (e:=(fQ N)))<|dn<|bf<|aW.r ?_
 obtain rfl:=O (V h)
 exact R1 Y
theorem GS{x0:Tb}{r:List Qr}(h:iJ x0=some r):Pure af 21 [ref (zC x0)] (slc 4 (List.map eQ r)):=eT (λN=>An N h) (λN=>Ul)
theorem PB{x0:Tb}(N:Nat){r:List (List Qr)}(h:sL x0=some r):dK af 18 N [ref (zC x0)] (nw N (slc 1 (List.map (fS N 4 (fQ N)) r))):=by
 obtain⟨bk,bn,bt,bB,cI⟩:=x0
 refine bU Tryz.func18 Y (ae Y) (λdw M vs hN hvs=>?_)
 unfold sL at h
 refine sr<|aI Y (bu (N:=N) (n:=1) (e:=(fS N 4 (fQ N))))<|dn<|qq<|sr<|mv Y<|bE h λx7 h7 h=>cl (fP h7) ⟨Y,ak⟩<|dn ?_
 cases x7
 refine fs<|sr<|ag Y<|dn<|bR (c8 3 304 23 1 Y Y T)<|qq<|sr<|mv Y<|RT.cz .none Y T<|RT.bT .none Y T Y<|lr Y Y<|lE (F h) λc9 fC h=>ln Y fC<|mv Y<|dn<|bE h λe6 vA jo=>?_
 refine bK (λ(dj:(List (List Qr)))=>AS.cj 26 [(3,.row 306)] [] [(306,TR 23 1 (fS N 4 (fQ N)) dj)]) (λdj=>dj=e6) ?_ (λdj vB=>?_)
 refine aY ?_
 refine bL vA (λs6=>AS.cj 26 [(0,.sv (ref [ay bk,ax bn,slc 1 (List.map (eS 4 eQ) bt),slc 1 (List.map bD bB),slc 1 (List.map (eS 4 eQ) cI)])),(3,.row 306),(11,.sv (slc 1 (List.map (eS 4 eQ) cI))),(12,ah c9),(13,ah s6.1)] [] [(306,TR 23 1 (fS N 4 (fQ N)) s6.2)]) (cD (λi=>bif Nat.beq i 306 then 304 else i) Y Y Y Y Y ⟨.sv aq,.row Y,.sv aq,.sv aq,.sv aq,ak⟩ trivial ⟨⟨_,Y,cg.refl _⟩,ak⟩ (λi hi=>by rw[bV (show i≠306 by omega)];rfl)) (λs6 y6 G6 h vC qy=>?_)
 obtain⟨Ti,gL⟩:=s6
 try dsimp only
 refine sr<|lE h λei jx h=>ls _ Y Y jx<|dn<|qq ?_
 cases ei
 refine cF<|bN<|aW.x<|aW.x<|bF.x<|aW.n ?_
 obtain rfl:=O (F h)
 exact⟨gL,qy _ Y,wR []⟩
 refine cT<|bw<|aW.n<|qq<|aY<|sr<|bE (V h) λdH gD h=>ix Y Y gD<|lr Y Y<|ag Y<|dn<|aX<|mo (s:=.row _) Y<|mv Y<|mv Y<|bE h λij oG h=>cl (ry oG) ⟨Y,ak⟩<|bE h λfL ke h=>RT.bZ .none (CD N ke) hN Y ⟨Y,Y,ak⟩ T<|bl (l:=[fL]) (e:=(fS N 4 (fQ N))) (.one Y (.nil)) Y Y Y Y Y Y<|bE h λjg qP h=>aR (k:=[fL]) (e:=(fS N 4 (fQ N))) Y Y Y qP ?_
 refine an (s:=.row _) Y<|RT.done<|bF.n<|aW.n<|aX<|lE h λgX oY h=>ad _ Y Y oY<|mv Y<|RT.done ?_
 obtain rfl:=O h
 exact aW.n ⟨(gX,jg),vC _ Y,cD (λi=>bif Nat.beq i 306 then 23 else i) Y Y Y Y Y ⟨.sv aq,.row Y,.sv aq,.sv aq,.sv aq,ak⟩ trivial ⟨⟨_,Y,cg.refl _⟩,ak⟩ (λi hi=>by rw[bV (show i≠306 by omega)];rfl)⟩
 subst vB
 try dsimp only
 refine aW.n<|sr<|mo (s:=.row _) Y<|an (s:=.row _) Y<|dn<|lz (i:=306) (E1:=23) (n:=1) (e:=(fS N 4 (fQ N))) (l:=dj) hN (λ_ h=>h) Y<|bf ?_
 obtain rfl:=O jo
 exact R1 Y
 refine cT<|sr<|aI Y (bu (N:=N) (n:=1) (e:=(fS N 4 (fQ N))))<|dn<|bf<|aW.r ?_
 obtain rfl:=O (V h)
 exact R1 Y
theorem PC{x0:Tb}{r:List (List Qr)}(h:sL x0=some r):Pure af 18 [ref (zC x0)] (slc 1 (List.map (eS 4 eQ) r)):=eT (λN=>PB N h) (λN=>aiP)
theorem Ao{x0:Tb}{r:Bool}(h:jS x0=some r):Pure af 35 [ref (zC x0)] (ay r):=by
 obtain⟨bk,bn,bt,bB,cI⟩:=x0
 refine bj Tryz.func35 Y (ae Y) (λdw M vs hvs=>?_)
 unfold jS at h
 refine sr<|ag Y<|dn<|qq<|sr<|mv Y<|bE h λx6 h6 h=>cl (fP h6) ⟨Y,ak⟩<|dn ?_
 cases x6
 refine fs<|qq<|sr<|mv Y<|bE (F h) λx8 h8 h=>cl (IZ h8) ⟨Y,ak⟩<|lE h λx9 h9 h=>ln Y h9<|mv Y<|dn<|bE h λe6 vA jo=>?_
 refine bK (λ(uI:Unit)=>AS.cj 18 [] [] []) (λuI=>.inl uI=e6) ?_ (λuI vB=>?_)
 refine aY ?_
 refine bL vA (λs6=>AS.cj 18 [(8,.sv (slc 4 (List.map eQ x8))),(9,ah x9),(10,ah s6)] [] []) (wR []) (λTj y6 G6 h vC qy=>?_)
 try dsimp only
 refine sr<|lE h λfz lp h=>ls _ Y Y lp<|dn<|qq ?_
 cases fz
 refine cF<|bN<|aW.x<|aW.x<|bF.x<|aW.n ?_
 obtain rfl:=O (F h)
 exact⟨(),qy _ Y,wR []⟩
 refine cT<|bw<|aW.n<|qq<|aY<|sr ?_
 obtain⟨⟨⟨jh,iX⟩,⟨Tk,Tl⟩⟩,fC,h⟩:=bS (V h)
 refine ix Y Y fC<|RT.gy (cs:=[_,_,_,_]) .none Y T Y Y<|al (cs:=[ay false,au,ay false,au]) (by exact⟨aq,aB,aq,aB,ak⟩) Y<|so Y Y Y<|dn<|sr<|ld Y Y (.k4 Y Y Y Y)<|bE h λdH gD h=>cl (kz gD) ⟨Y,ak⟩<|lE h λfB lq h=>ls _ Y Y lq<|dn ?_
 cases fB
 refine cF<|bw<|bF.n<|aW.n<|aX<|lE (F h) λdX jO h=>ad _ Y Y jO<|mv Y<|RT.done ?_
 obtain rfl:=O h
 exact aW.n ⟨dX,vC _ Y,wR []⟩
 refine cT<|sr<|ag Y<|dn<|bf<|bF.r<|aW.r ?_
 obtain rfl:=O (V h)
 have GJ:=qy _ Y
 subst GJ
 refine aW.r<|bF.r<|aW.r<|aW.r ?_
 obtain rfl:=O jo
 exact R1 Y
 subst vB
 try dsimp only
 refine aW.n<|sr<|ag Y<|dn<|bf ?_
 obtain rfl:=O jo
 exact R1 Y
 refine cT<|sr<|ag Y<|dn<|bf<|aW.r ?_
 obtain rfl:=O (V h)
 exact R1 Y
theorem Bn(t:Tb):Pure af 65 [ref (zC t)] (o5 114 [ref [ref (zC t)]]):=by
 refine bj Tryz.func65 Y (ae Y) (λdw M vs hvs=>?_)
 exact sr<|RT.E6 .none (s:=.sv _) Y T Y Y<|ag Y<|dn<|sr<|RT.makeFunc .none (.box Y (.nil)) T<|an (s:=.kU _ _) Y<|dn<|bR (iU (i:=1) Y [ref (zC t)] (.cons Y .nil) .any 0 [(2,.kU 114 [.val (ref [ref (zC t)])])] (λ_ _ _=>trivial) (xq.h (l:=[ref (zC t)])) ⟨@FT.kU _ _ _ _ _ 2 114 [.box 1] Y,ak⟩)<|bR (Q0 2 (o5 114 [ref [ref (zC t)]]) (λ_ _ h=>Q1 h))<|bf<|⟨.inr Y,QO (.tmp Y (.nil)) Y⟩
theorem aaJ(n:Int):IntKind.i64.wrap n≤9223372036854775807:=by
 show(if(true&&decide (n%18446744073709551616≥9223372036854775808))=true then n%18446744073709551616-18446744073709551616 else n%18446744073709551616)≤9223372036854775807
 by_cases h:n%18446744073709551616≥9223372036854775808
 ·simp only[h,decide_true,Bool.and_self,if_true];omega
 ·simp only[h,decide_false,Bool.and_false,Bool.false_eq_true,if_false];omega
theorem width_eq(t:Tb):iI t=some (IntKind.i64.wrap (t.vars+(t.rows.length:Int))):=by
 cases t;rfl
theorem Bo(t:Tb):Iter af 114 [ref [ref (zC t)]] (IntKind.i64.wrap (t.vars+(t.rows.length:Int))).toNat (λk=>[ax (k:Int)]):=by
 refine CO Tryz.func114 Y Y (ae Y) (λdw M O l J hJ J0 hr=>?_)
 have hw:=aaJ (t.vars+(t.rows.length:Int))
 have hwd:=width_eq t
 generalize (IntKind.i64.wrap (t.vars+(t.rows.length:Int)))=W at hw hwd hr⊢
 refine cq ?_
 refine aX ?_
 refine RT.fX .none Y Y (tl Y) ?_
 refine RT.call .none (ry hwd) Y ⟨Y,ak⟩ (tl Y) ?_
 refine RT.mv .none Y (tl Y) ?_
 refine RT.done ?_
 refine aW.n ?_
 refine aY ?_
 refine G2 (I:=λx:{i:Nat//i≤W.toNat}=>AS.cj 14 [(0,.sv (.v (.func (.yield l) #[] #[]))),(1,.sv (ref [ref (zC t)])),(5,ah W),(6,ah ((x.1:Nat):Int))] [] [] (x.1)) (μ:=λx=>W.toNat-x.1) ⟨0,by omega⟩ (by(try dsimp only);exact cD id Y Y Y Y Y ⟨.sv (by first|exact aq|exact SV.bA (by omega)|exact SV.bA (by push_cast;omega)|exact SV.bA (by dsimp only;omega)|exact SV.imp_eq (by simp)),.sv (by first|exact aq|exact SV.bA (by omega)|exact SV.bA (by push_cast;omega)|exact SV.bA (by dsimp only;omega)|exact SV.imp_eq (by simp)),.sv (by first|exact aq|exact SV.bA (by omega)|exact SV.bA (by push_cast;omega)|exact SV.bA (by dsimp only;omega)|exact SV.imp_eq (by simp)),.sv (by first|exact aq|exact SV.bA (by omega)|exact SV.bA (by push_cast;omega)|exact SV.bA (by dsimp only;omega)|exact SV.imp_eq (by simp)),ak⟩ trivial trivial (λ_ _=>Y)) ?_
 rintro⟨i,hi0⟩
 try dsimp only
 rcases Nat.lt_or_eq_of_le hi0 with hi|hi
 ·
  refine cq ?_
  refine aX ?_
  refine RT.lss .none (true) Y Y (tl Y) (by simp;omega) ?_
  refine RT.done ?_
  refine aW.n ?_
  refine cq ?_
  refine fe Y ?_
  refine bw ?_
  refine aW.n ?_
  refine cq ?_
  refine aY ?_
  refine cq ?_
  refine aX ?_
  refine RT.mv .none Y (tl Y) ?_
  refine RT.Mc .none Y (tl Y) ?_
  refine RT.done ?_
  refine aW.n ?_
  refine cq ?_
  refine aX ?_
  refine RT.mv .none Y (tl Y) ?_
  refine RT.mv .none Y (tl Y) ?_
  refine RT.yield .none hr Y (λ_ h=>h) Y (i) Y Y (by omega) (by exact⟨Y,ak⟩) (tl Y) (λyb=>?_)
  cases yb
  ·
   refine RT.not .none Y (tl Y) true Y ?_
   refine RT.done ?_
   refine aW.n ?_
   refine fe Y ?_
   refine bf ?_
   refine bF.r ?_
   refine aW.r ?_
   refine aW.r ?_
   refine bF.r ?_
   exact⟨.inr rfl,(λh=>by cases h)⟩
  ·
   refine RT.not .none Y (tl Y) false Y ?_
   refine RT.done ?_
   refine aW.n ?_
   refine je Y ?_
   refine bw ?_
   refine bF.n ?_
   refine aW.n ?_
   refine aX ?_
   refine RT.add .none (((i:Nat):Int)+1) Y Y (tl Y) (uL (by omega)) ?_
   refine RT.mv .none Y (tl Y) ?_
   refine RT.done ?_
   refine aW.n ?_
   refine⟨⟨i+1,by omega⟩,(by dsimp only;omega),?_⟩
   try dsimp only
   exact cD id Y Y Y Y Y ⟨.sv (by first|exact aq|exact SV.bA (by omega)|exact SV.bA (by push_cast;omega)|exact SV.bA (by dsimp only;omega)|exact SV.imp_eq (by simp)),.sv (by first|exact aq|exact SV.bA (by omega)|exact SV.bA (by push_cast;omega)|exact SV.bA (by dsimp only;omega)|exact SV.imp_eq (by simp)),.sv (by first|exact aq|exact SV.bA (by omega)|exact SV.bA (by push_cast;omega)|exact SV.bA (by dsimp only;omega)|exact SV.imp_eq (by simp)),.sv (by first|exact aq|exact SV.bA (by omega)|exact SV.bA (by push_cast;omega)|exact SV.bA (by dsimp only;omega)|exact SV.imp_eq (by simp)),ak⟩ trivial trivial (λ_ _=>Y)
 ·
  subst hi
  refine cq ?_
  refine aX ?_
  refine RT.lss .none (false) Y Y (tl Y) (by simp;omega) ?_
  refine RT.done ?_
  refine aW.n ?_
  refine cq ?_
  refine je Y ?_
  refine bN ?_
  refine aW.x ?_
  refine aW.x ?_
  refine bF.x ?_
  exact⟨.inl Y,(λ_=>Y)⟩
theorem Bp{x0:Tb}{r:Bool}(h:jy x0=some r):Pure af 42 [ref (zC x0)] (ay r):=by
 obtain⟨bk,bn,bt,bB,cI⟩:=x0
 refine bj Tryz.func42 Y (ae Y) (λdw M vs hvs=>?_)
 unfold jy at h
 refine sr<|RT.E6 .none (s:=.sv _) Y T Y Y<|al (cs:=[ay false]) (by exact⟨aq,ak⟩) Y<|dn<|qq<|sr<|lV Y Y Y<|bE h λx5 h5 h=>cl (fP h5) ⟨Y,ak⟩<|dn ?_
 cases x5
 refine fs<|qq<|sr<|lV Y Y Y<|cl (Bn ⟨bk,bn,bt,bB,cI⟩) ⟨Y,ak⟩<|dn<|aY<|bE (F h) λe3 hl3 ho3=>?_
 obtain⟨m3,st3,hs3,ht3,hn3⟩:=Ld hl3
 refine ye (Bo ⟨bk,bn,bt,bB,cI⟩) (λ_ _ _ _ _=>trivial) Y (λk=>AS.cj 14 [(1,.ptr 1 0),(2,.ptr 2 0),(7,.sv (o5 114 [ref [ref [ay bk,ax bn,slc 1 (List.map (eS 4 eQ) bt),slc 1 (List.map bD bB),slc 1 (List.map (eS 4 eQ) cI)]]]))] [(2,⟨4,[ai false]⟩),(1,⟨30,[.sv (ref [ay bk,ax bn,slc 1 (List.map (eS 4 eQ) bt),slc 1 (List.map bD bB),slc 1 (List.map (eS 4 eQ) cI)])]⟩)] []) [2,1] Y (λ_=>⟨Y,Y⟩) (CP Y) (λ_=>Y) (CQ Y) (by(try dsimp only);(try dsimp only);exact cD id Y Y Y Y Y ⟨.ptr,.ptr,.sv aq,ak⟩ ⟨⟨_,Y,⟨.sv aq,ak⟩⟩,⟨_,Y,⟨.sv aq,ak⟩⟩,ak⟩ trivial (λ_ _=>Y)) m3 (λk hk hkm D hD=>?_) (λhdn=>?_)
 obtain⟨y3,h,hG3,hE3⟩:=ht3 k hk hkm
 dsimp only[AS.Z5,Cu]
 try dsimp only at h
 refine lE h λp8 hp8 h=>?_
 rw[hp8]
 refine aX<|ag Y<|RT.done ?_
 refine aW.n ⟨Y,?_⟩
 dsimp only[AS.Me]
 refine aY<|sr<|lV Y Y Y<|mv Y<|bE h λfz lp h=>cl (Df lp) ⟨Y,Y,ak⟩<|bE h λc9 fC h=>cl (Pn fC) ⟨Y,ak⟩<|lE h λeD iF h=>ls _ Y Y iF<|dn ?_
 cases eD
 refine cF<|bw<|bF.n ?_
 obtain rfl:=O (F h)
 obtain⟨hm3,hq3⟩:=hG3 _ Y
 exact⟨hm3,Y,Y,wR []⟩
 refine cT<|sr<|RT.AL (cells:=[_]) .none (s:=.sv _) Y Y Y T Y<|dn<|bf<|bF.r ?_
 obtain rfl:=O (V h)
 have he3:=hE3 _ Y
 subst he3
 refine⟨Y,Y,?_⟩
 refine bF.r<|aW.r ?_
 obtain rfl:=O ho3
 exact RZ (.one Y Y Y (.nil))
 have hd3:=hn3 hdn
 subst hd3
 obtain⟨ee3,afI⟩:∃q,st3 ((IntKind.i64.wrap (Tb.vars ⟨bk,bn,bt,bB,cI⟩+((Tb.rows ⟨bk,bn,bt,bB,cI⟩).length:Int))).toNat)=q:=⟨_,Y⟩
 rw[afI]at ho3
 try dsimp only
 refine bF.n<|aW.n<|sr<|RT.AL (cells:=[_]) .none (s:=.sv _) Y Y Y T Y<|dn<|bf ?_
 obtain rfl:=O ho3
 exact RZ (.one Y Y Y (.nil))
 refine cT<|sr<|RT.AL (cells:=[_]) .none (s:=.sv _) Y Y Y T Y<|dn<|bf<|aW.r ?_
 obtain rfl:=O (V h)
 exact RZ (.one Y Y Y (.nil))
theorem Cm{x0:Tb}(N:Nat){r:List (List Qr)}(h:gZ x0=some r):dK af 20 N [ref (zC x0)] (nw N (slc 1 (List.map (fS N 4 (fQ N)) r))):=by
 obtain⟨bk,bn,bt,bB,cI⟩:=x0
 refine bU Tryz.func20 Y (ae Y) (λdw M vs hN hvs=>?_)
 unfold gZ at h
 refine sr<|RT.E6 .none (s:=.sv _) Y T Y Y<|aI Y (bu (N:=N) (n:=1) (e:=(fS N 4 (fQ N))))<|dn<|qq<|sr<|lV Y Y Y<|bE h λx6 h6 h=>cl (fP h6) ⟨Y,ak⟩<|dn ?_
 cases x6
 refine fs<|sr<|RT.alloc .none T Y Y<|dn<|bR (BS 3 0 302 23 1 Y Y Y T)<|qq<|sr<|lV Y Y Y<|cl (Bn ⟨bk,bn,bt,bB,cI⟩) ⟨Y,ak⟩<|dn<|aY<|bE (F h) λFB hl5 ho5=>?_
 obtain⟨st5,hs5,ht5,hn5⟩:=vX hl5
 refine qW (Bo ⟨bk,bn,bt,bB,cI⟩) (λ_ _ _ _ _=>trivial) Y (λk=>AS.cj 17 [(1,.ptr 1 0),(3,.ptr 3 0),(8,.sv (o5 114 [ref [ref [ay bk,ax bn,slc 1 (List.map (eS 4 eQ) bt),slc 1 (List.map bD bB),slc 1 (List.map (eS 4 eQ) cI)]]]))] [(3,⟨22,[.row 304]⟩),(1,⟨30,[.sv (ref [ay bk,ax bn,slc 1 (List.map (eS 4 eQ) bt),slc 1 (List.map bD bB),slc 1 (List.map (eS 4 eQ) cI)])]⟩)] [(304,TR 23 1 (fS N 4 (fQ N)) (st5 k))]) [3,1] Y (λ_=>⟨Y,Y⟩) (CP Y) (λ_=>Y) (CQ Y) (by(try dsimp only);rw[hs5];(try dsimp only);exact cD (λi=>bif Nat.beq i 304 then 302 else i) Y Y Y Y Y ⟨.ptr,.ptr,.sv aq,ak⟩ ⟨⟨_,Y,⟨.row Y,ak⟩⟩,⟨_,Y,⟨.sv aq,ak⟩⟩,ak⟩ ⟨⟨_,Y,cg.refl _⟩,ak⟩ (λi hi=>by rw[bV (show i≠304 by omega)];rfl)) (λk hk D hD=>?_) ?_
 have h:=ht5 k hk
 obtain⟨FB,hsk⟩:∃q,st5 k=q:=⟨_,Y⟩
 rw[hsk]at h⊢
 dsimp only[AS.Z5,Cu]
 try dsimp only at h
 refine lE h λp9 hp9 h=>?_
 rw[hp9]
 refine aX<|ag Y<|RT.done ?_
 refine aW.n ⟨Y,?_⟩
 dsimp only[AS.Me]
 refine aY<|aZ mixed<|RT.eA .none (s:=.row _) Y Y Y T<|lV Y Y Y<|mv Y<|bE h λeD iF h=>RT.bZ .none (qg N iF) (Nat.le_trans hN hD) Y ⟨Y,Y,ak⟩ T<|bl (l:=[eD]) (e:=(fS N 4 (fQ N))) (.one Y (.nil)) Y Y Y Y Y Y<|bE h λdH gD h=>aR (k:=[eD]) (e:=(fS N 4 (fQ N))) Y Y Y gD<|RT.uK (cells:=[_]) .none Y Y Y Y T Y ?_
 refine RT.done ⟨by kernel_rfl,?_⟩
 refine bF.n ?_
 replace h:=Option.some.inj h
 refine⟨ak,Y,Y,?_⟩
 try dsimp only
 rw[←h]
 try dsimp only
 exact cD (λi=>bif Nat.beq i 304 then 15 else i) Y Y Y Y Y ⟨.ptr,.ptr,.sv aq,ak⟩ ⟨⟨_,Y,⟨.row Y,ak⟩⟩,⟨_,Y,⟨.sv aq,ak⟩⟩,ak⟩ ⟨⟨_,Y,cg.refl _⟩,ak⟩ (λi hi=>by rw[bV (show i≠304 by omega)];rfl)
 rw[hn5]
 try dsimp only
 refine bF.n<|aW.n<|sr<|RT.eA .none (s:=.row _) Y Y Y T<|an (s:=.row _) Y<|dn<|lz (i:=304) (E1:=23) (n:=1) (e:=(fS N 4 (fQ N))) (l:=FB) hN (λ_ h=>h) Y<|bf ?_
 obtain rfl:=O ho5
 exact R1 Y
 refine cT<|sr<|aI Y (bu (N:=N) (n:=1) (e:=(fS N 4 (fQ N))))<|dn<|bf<|aW.r ?_
 obtain rfl:=O (V h)
 exact R1 Y
theorem Cn{x0:Tb}{r:List (List Qr)}(h:gZ x0=some r):Pure af 20 [ref (zC x0)] (slc 1 (List.map (eS 4 eQ) r)):=eT (λN=>Cm N h) (λN=>aiP)
theorem I0{o0:Bool}{o1:Int}{o2:List (List Qr)}{o3:List Int}{o4:List (List Qr)}{r:Bool}(h:dB (⟨o0,o1,o2,o3,o4⟩:Tb)=some r):IM af 57 [.ptr 1000 0] 79 [.s (ay o0),.s (ax o1),.r (TR 23 1 (eS 4 eQ) o2),.r (TR 3 1 bD o3),.r (TR 23 1 (eS 4 eQ) o4)] (ay r):=iv (cells:=zC (⟨o0,o1,o2,o3,o4⟩:Tb)) (r:=λN=>(ay r)) (λN=>by exact sZ (fP h) N) Y ⟨⟨aq,λ_ _ q=>One.h _ _ q⟩,⟨aq,λ_ _ q=>One.h _ _ q⟩,fm,fm,fm,ak⟩ Tf
theorem MZ{o0:Bool}{o1:Int}{o2:List (List Qr)}{o3:List Int}{o4:List (List Qr)}{r:Int}(h:iI (⟨o0,o1,o2,o3,o4⟩:Tb)=some r):IM af 58 [.ptr 1000 0] 79 [.s (ay o0),.s (ax o1),.r (TR 23 1 (eS 4 eQ) o2),.r (TR 3 1 bD o3),.r (TR 23 1 (eS 4 eQ) o4)] (ax r):=iv (cells:=zC (⟨o0,o1,o2,o3,o4⟩:Tb)) (r:=λN=>(ax r)) (λN=>by exact sZ (ry h) N) Y ⟨⟨aq,λ_ _ q=>One.h _ _ q⟩,⟨aq,λ_ _ q=>One.h _ _ q⟩,fm,fm,fm,ak⟩ Tf
theorem M1{o0:Bool}{o1:Int}{o2:List (List Qr)}{o3:List Int}{o4:List (List Qr)}{r:List Int}(h:kA (⟨o0,o1,o2,o3,o4⟩:Tb)=some r):IM af 17 [.ptr 1000 0] 79 [.s (ay o0),.s (ax o1),.r (TR 23 1 (eS 4 eQ) o2),.r (TR 3 1 bD o3),.r (TR 23 1 (eS 4 eQ) o4)] (slc 1 (List.map bD r)):=iv (cells:=zC (⟨o0,o1,o2,o3,o4⟩:Tb)) (r:=λN=>nw N (slc 1 (List.map bD r))) (λN=>by exact Ed N h) Y ⟨⟨aq,λ_ _ q=>One.h _ _ q⟩,⟨aq,λ_ _ q=>One.h _ _ q⟩,fm,fm,fm,ak⟩ afR
theorem Dg{o0:Bool}{o1:Int}{o2:List (List Qr)}{o3:List Int}{o4:List (List Qr)}{r:List Qr}(h:jL (⟨o0,o1,o2,o3,o4⟩:Tb)=some r):IM af 19 [.ptr 1000 0] 79 [.s (ay o0),.s (ax o1),.r (TR 23 1 (eS 4 eQ) o2),.r (TR 3 1 bD o3),.r (TR 23 1 (eS 4 eQ) o4)] (slc 4 (List.map eQ r)):=iv (cells:=zC (⟨o0,o1,o2,o3,o4⟩:Tb)) (r:=λN=>nw N (slc 4 (List.map (fQ N) r))) (λN=>by exact zN N h) Y ⟨⟨aq,λ_ _ q=>One.h _ _ q⟩,⟨aq,λ_ _ q=>One.h _ _ q⟩,fm,fm,fm,ak⟩ Hq
theorem Dh{o0:Bool}{o1:Int}{o2:List (List Qr)}{o3:List Int}{o4:List (List Qr)}{x1:Int}{r:List Qr}(h:e5 (⟨o0,o1,o2,o3,o4⟩:Tb) x1=some r):IM af 28 [.ptr 1000 0,ah x1] 79 [.s (ay o0),.s (ax o1),.r (TR 23 1 (eS 4 eQ) o2),.r (TR 3 1 bD o3),.r (TR 23 1 (eS 4 eQ) o4)] (slc 4 (List.map eQ r)):=iv (cells:=zC (⟨o0,o1,o2,o3,o4⟩:Tb)) (r:=λN=>nw N (slc 4 (List.map (fQ N) r))) (λN=>by exact qg N h) Y ⟨⟨aq,λ_ _ q=>One.h _ _ q⟩,⟨aq,λ_ _ q=>One.h _ _ q⟩,fm,fm,fm,ak⟩ Hq
theorem Ef{o0:Bool}{o1:Int}{o2:List (List Qr)}{o3:List Int}{o4:List (List Qr)}{r:List Qr}(h:kC (⟨o0,o1,o2,o3,o4⟩:Tb)=some r):IM af 38 [.ptr 1000 0] 79 [.s (ay o0),.s (ax o1),.r (TR 23 1 (eS 4 eQ) o2),.r (TR 3 1 bD o3),.r (TR 23 1 (eS 4 eQ) o4)] (slc 4 (List.map eQ r)):=iv (cells:=zC (⟨o0,o1,o2,o3,o4⟩:Tb)) (r:=λN=>nw N (slc 4 (List.map (fQ N) r))) (λN=>by exact Ee N h) Y ⟨⟨aq,λ_ _ q=>One.h _ _ q⟩,⟨aq,λ_ _ q=>One.h _ _ q⟩,fm,fm,fm,ak⟩ Hq
theorem GU{o0:Bool}{o1:Int}{o2:List (List Qr)}{o3:List Int}{o4:List (List Qr)}{r:List Qr}(h:iJ (⟨o0,o1,o2,o3,o4⟩:Tb)=some r):IM af 21 [.ptr 1000 0] 79 [.s (ay o0),.s (ax o1),.r (TR 23 1 (eS 4 eQ) o2),.r (TR 3 1 bD o3),.r (TR 23 1 (eS 4 eQ) o4)] (slc 4 (List.map eQ r)):=iv (cells:=zC (⟨o0,o1,o2,o3,o4⟩:Tb)) (r:=λN=>nw N (slc 4 (List.map (fQ N) r))) (λN=>by exact An N h) Y ⟨⟨aq,λ_ _ q=>One.h _ _ q⟩,⟨aq,λ_ _ q=>One.h _ _ q⟩,fm,fm,fm,ak⟩ Hq
theorem GV{o0:Bool}{o1:Int}{o2:List (List Qr)}{o3:List Int}{o4:List (List Qr)}{r:Bool}(h:jS (⟨o0,o1,o2,o3,o4⟩:Tb)=some r):IM af 35 [.ptr 1000 0] 79 [.s (ay o0),.s (ax o1),.r (TR 23 1 (eS 4 eQ) o2),.r (TR 3 1 bD o3),.r (TR 23 1 (eS 4 eQ) o4)] (ay r):=iv (cells:=zC (⟨o0,o1,o2,o3,o4⟩:Tb)) (r:=λN=>(ay r)) (λN=>by exact sZ (Ao h) N) Y ⟨⟨aq,λ_ _ q=>One.h _ _ q⟩,⟨aq,λ_ _ q=>One.h _ _ q⟩,fm,fm,fm,ak⟩ Tf
theorem Bq{o0:Bool}{o1:Int}{o2:List (List Qr)}{o3:List Int}{o4:List (List Qr)}{r:Bool}(h:jy (⟨o0,o1,o2,o3,o4⟩:Tb)=some r):IM af 42 [.ptr 1000 0] 79 [.s (ay o0),.s (ax o1),.r (TR 23 1 (eS 4 eQ) o2),.r (TR 3 1 bD o3),.r (TR 23 1 (eS 4 eQ) o4)] (ay r):=iv (cells:=zC (⟨o0,o1,o2,o3,o4⟩:Tb)) (r:=λN=>(ay r)) (λN=>by exact sZ (Bp h) N) Y ⟨⟨aq,λ_ _ q=>One.h _ _ q⟩,⟨aq,λ_ _ q=>One.h _ _ q⟩,fm,fm,fm,ak⟩ Tf
end
section
open Go.Fw Go.Fw.Z Go.RowKit
set_option maxHeartbeats 4000000 in
theorem j0{x0:Lr}{r:Bool×Int×(List (List Qr))×(List Int)×(List (List Qr))}(h:dW x0=some r):RE af 56 [.agg (K0 x0)] false [] 79 [.s (ay r.1),.s (ax r.2.1),.r (TR 23 1 (eS 4 eQ) r.2.2.1),.r (TR 3 1 bD r.2.2.2.1),.r (TR 23 1 (eS 4 eQ) r.2.2.2.2)]:=by
 obtain⟨bk,bn,bt,bB⟩:=x0
 refine Ps Tryz.func56 Y (ae Y) (λdw M vs hvs=>?_)
 unfold dW at h
 refine sr<|bx Y<|ag Y<|dn<|sr<|fa Y Y<|lV Y Y Y<|bI (cs:=[_,_,_,_,_]) (cs':=[ay true,ax bk,.v (.slice none 0 0),.v (.slice none 0 0),.v (.slice none 0 0)]) (.one Y (.one Y (.nil))) ⟨aq,aq,aq,aq,aq,ak⟩<|bx Y<|an (s:=.ptr _ _) Y<|dn<|bR (BS 12 2 304 23 1 Y Y Y T)<|bR (BS 12 3 305 3 1 Y Y Y T) ?_
 refine bR (BS 12 4 306 23 1 Y Y Y T)<|qq<|sr<|fa Y Y<|lV Y Y Y<|lE h λdH gD h=>ln Y gD<|mv Y<|dn<|bE h λe6 vA jo=>?_
 refine bK (λ(yo:(List (List Qr)))=>AS.cj 105 [(1,.ptr 1 0),(3,.ptr 12 0)] [(12,⟨79,[ai true,ah bk,.row 308,.row 305,.row 306]⟩),(1,⟨25,[ah bk,.sv (slc 1 (List.map (eS 4 eQ) bn)),.sv (slc 1 (List.map (eS 4 eQ) bt)),.sv (slc 4 (List.map eQ bB))]⟩)] [(308,TR 23 1 (eS 4 eQ) yo),(305,TR 3 1 bD []),(306,TR 23 1 (eS 4 eQ) [])]) (λyo=>yo=e6) ?_ (λyo vB=>?_)
 refine aY ?_
 refine bL vA (λs6=>AS.cj 105 [(1,.ptr 1 0),(3,.ptr 12 0),(14,.sv (slc 1 (List.map (eS 4 eQ) bn))),(15,ah dH),(16,ah s6.1)] [(12,⟨79,[ai true,ah bk,.row 308,.row 305,.row 306]⟩),(1,⟨25,[ah bk,.sv (slc 1 (List.map (eS 4 eQ) bn)),.sv (slc 1 (List.map (eS 4 eQ) bt)),.sv (slc 4 (List.map eQ bB))]⟩)] [(308,TR 23 1 (eS 4 eQ) s6.2),(305,TR 3 1 bD []),(306,TR 23 1 (eS 4 eQ) [])]) (cD (λi=>bif Nat.beq i 308 then 304 else i) Y Y Y Y Y ⟨.ptr,.ptr,.sv aq,.sv aq,.sv aq,ak⟩ ⟨⟨_,Y,⟨.sv aq,.sv aq,.row Y,.row Y,.row Y,ak⟩⟩,⟨_,Y,⟨.sv aq,.sv aq,.sv aq,.sv aq,ak⟩⟩,ak⟩ ⟨⟨_,Y,cg.refl _⟩,⟨_,Y,cg.refl _⟩,⟨_,Y,cg.refl _⟩,ak⟩ (λi hi=>by rw[bV (show i≠308 by omega)];rfl)) (λs6 y6 G6 h vC qy=>?_)
 obtain⟨Tm,MV⟩:=s6
 try dsimp only
 refine sr<|lE h λdX jO h=>ls _ Y Y jO<|dn<|qq ?_
 cases dX
 refine cF<|bN<|aW.x<|aW.x<|bF.x<|aW.n ?_
 obtain rfl:=O (F h)
 exact⟨MV,qy _ Y,wR []⟩
 refine cT<|bw<|aW.n<|qq<|aY<|sr<|bE (V h) λeX jK h=>ix Y Y jK<|lr Y Y<|ag Y<|dn<|aZ mixed<|mo (s:=.ptr _ _) Y<|mo (s:=.ptr _ _) Y<|RT.cC .none Y T<|fa Y Y<|RT.eA .none (s:=.row _) Y Y Y T<|mv Y<|fa Y Y<|lV Y Y Y<|bE h λkT uO h=>cl (Kv uO) ⟨Y,Y,ak⟩<|bl (l:=[kT]) (e:=(eS 4 eQ)) (.one Y (.nil)) Y Y Y Y Y Y ?_
 refine bE h λoF vD h=>aR (k:=[kT]) (e:=(eS 4 eQ)) Y Y Y vD<|RT.cC .none Y T<|fa Y Y<|RT.uK (cells:=[_,_,_,_,_]) .none Y Y Y Y T Y ?_
 refine RT.done ⟨by kernel_rfl,?_⟩
 refine bF.n<|aW.n<|aX<|lE h λoD xp h=>ad _ Y Y xp<|mv Y<|RT.done ?_
 obtain rfl:=O h
 exact aW.n ⟨(oD,oF),vC _ Y,cD (λi=>bif Nat.beq i 308 then 30 else i) Y Y Y Y Y ⟨.ptr,.ptr,.sv aq,.sv aq,.sv aq,ak⟩ ⟨⟨_,Y,⟨.sv aq,.sv aq,.row Y,.row Y,.row Y,ak⟩⟩,⟨_,Y,⟨.sv aq,.sv aq,.sv aq,.sv aq,ak⟩⟩,ak⟩ ⟨⟨_,Y,cg.refl _⟩,⟨_,Y,cg.refl _⟩,⟨_,Y,cg.refl _⟩,ak⟩ (λi hi=>by rw[bV (show i≠308 by omega)];rfl)⟩
 subst vB
 try dsimp only
 refine aW.n<|qq<|sr<|fa Y Y<|lV Y Y Y<|lE jo λpg yJ jo=>ln Y yJ<|mv Y<|dn<|bE jo λe30 aok aol=>?_
 refine bK (λ(UG:(List Int)×(List (List Qr)))=>AS.cj 105 [(3,.ptr 12 0)] [(12,⟨79,[ai true,ah bk,.row 308,.row 312,.row 313]⟩)] [(308,TR 23 1 (eS 4 eQ) yo),(312,TR 3 1 bD UG.1),(313,TR 23 1 (eS 4 eQ) UG.2)]) (λUG=>UG=e30) ?_ (λUG aom=>?_)
 refine aY ?_
 refine bL aok (λs30=>AS.cj 105 [(1,.ptr 1 0),(3,.ptr 12 0),(36,ah pg),(37,ah s30.1)] [(12,⟨79,[ai true,ah bk,.row 308,.row 312,.row 313]⟩),(1,⟨25,[ah bk,.sv (slc 1 (List.map (eS 4 eQ) bn)),.sv (slc 1 (List.map (eS 4 eQ) bt)),.sv (slc 4 (List.map eQ bB))]⟩)] [(308,TR 23 1 (eS 4 eQ) yo),(312,TR 3 1 bD s30.2.1),(313,TR 23 1 (eS 4 eQ) s30.2.2)]) (cD (λi=>bif Nat.beq i 312 then 305 else bif Nat.beq i 313 then 306 else i) Y Y Y Y Y ⟨.ptr,.ptr,.sv aq,.sv aq,ak⟩ ⟨⟨_,Y,⟨.sv aq,.sv aq,.row Y,.row Y,.row Y,ak⟩⟩,⟨_,Y,⟨.sv aq,.sv aq,.sv aq,.sv aq,ak⟩⟩,ak⟩ ⟨⟨_,Y,cg.refl _⟩,⟨_,Y,cg.refl _⟩,⟨_,Y,cg.refl _⟩,ak⟩ (λi hi=>by rw[bV (show i≠312 by omega)];rw[bV (show i≠313 by omega)];rfl)) (λs30 y30 G30 h aon aoo=>?_)
 obtain⟨wV,BW,BX⟩:=s30
 try dsimp only
 refine sr<|lE h λqX Ay h=>ls _ Y Y Ay<|dn<|qq ?_
 cases qX
 refine cF<|bN<|aW.x<|aW.x<|bF.x<|aW.n ?_
 obtain rfl:=O (F h)
 exact⟨(BW,BX),aoo _ Y,wR []⟩
 refine cT<|bw<|aW.n<|qq<|aY<|sr<|mv Y<|ag Y<|dn<|sr<|fa Y Y<|lV Y Y Y<|fa Y Y<|lV Y Y Y<|lE (V h) λsj Az h=>ln Y Az<|lE h λzu Io h=>ad _ Y Y Io<|lE h λvg h46 h=>ad _ Y Y h46<|bE h λsE zH h=>RT.tK (n:=4) (e:=eQ) .none Y Y T Y T (by rfl) (by decide) (by exact⟨aq,aB,aq,aB,ak⟩) zH ?_
 refine an (s:=.row _) Y<|dn<|qq<|sr<|fa Y Y<|lV Y Y Y<|mv Y<|dn<|bE h λe38 afa kX=>?_
 refine bK (λ(De:(List Qr))=>AS.cj 105 [(1,.ptr 1 0),(3,.ptr 12 0),(6,ah wV),(7,.row 47),(36,ah pg),(37,ah wV)] [(12,⟨79,[ai true,ah bk,.row 308,.row 312,.row 313]⟩),(1,⟨25,[ah bk,.sv (slc 1 (List.map (eS 4 eQ) bn)),.sv (slc 1 (List.map (eS 4 eQ) bt)),.sv (slc 4 (List.map eQ bB))]⟩)] [(47,TR 43 4 eQ De),(308,TR 23 1 (eS 4 eQ) yo),(312,TR 3 1 bD BW),(313,TR 23 1 (eS 4 eQ) BX)]) (λDe=>De=e38) ?_ (λDe afb=>?_)
 refine aY ?_
 refine bL afa (λS0=>AS.cj 105 [(1,.ptr 1 0),(3,.ptr 12 0),(6,ah wV),(7,.row 47),(36,ah pg),(37,ah wV),(49,ah bk),(50,ah S0.1)] [(12,⟨79,[ai true,ah bk,.row 308,.row 312,.row 313]⟩),(1,⟨25,[ah bk,.sv (slc 1 (List.map (eS 4 eQ) bn)),.sv (slc 1 (List.map (eS 4 eQ) bt)),.sv (slc 4 (List.map eQ bB))]⟩)] [(47,TR 43 4 eQ S0.2),(308,TR 23 1 (eS 4 eQ) yo),(312,TR 3 1 bD BW),(313,TR 23 1 (eS 4 eQ) BX)]) (wR []) (λS0 y38 G38 h afc afd=>?_)
 obtain⟨IX,IY⟩:=S0
 try dsimp only
 refine sr<|lE h λBT Ip h=>ls _ Y Y Ip<|dn<|qq ?_
 cases BT
 refine cF<|bN<|aW.x<|aW.x<|bF.x<|aW.n ?_
 obtain rfl:=O (F h)
 exact⟨IY,afd _ Y,wR []⟩
 refine cT<|bw<|aW.n<|qq<|aY<|sr<|mv Y<|ag Y<|dn<|aX<|mo (s:=.row _) Y<|mv Y<|fa Y Y<|lV Y Y Y<|mv Y<|mv Y ?_
 obtain⟨⟨⟨Ly,Lz⟩,⟨LA,LB⟩⟩,h59,h⟩:=bS (V h)
 refine cl (UB h59) ⟨Y,Y,Y,ak⟩<|bE h λDx N5 h=>iR Y Y Y N5<|bE h λZC ajI h=>sA ⟨⟨Ly,Lz⟩,⟨LA,LB⟩⟩ Y Y Y ajI<|RT.done<|bF.n<|aW.n<|aX<|lE h λQ4 h61 h=>ad _ Y Y h61<|mv Y<|RT.done ?_
 obtain rfl:=O h
 exact aW.n ⟨(Q4,ZC),afc _ Y,wR []⟩
 subst afb
 try dsimp only
 refine aW.n<|qq<|aZ mixed<|mo (s:=.row _) Y<|fa Y Y<|lV Y Y Y<|mv Y<|lE kX λQ7 h66 kX=>ad _ Y Y h66 ?_
 obtain⟨⟨⟨LC,LD⟩,⟨LF,LG⟩⟩,h67,kX⟩:=bS kX
 refine cl (nG h67) ⟨Y,ak⟩<|bE kX λQ8 h68 kX=>iR Y Y Y h68<|bE kX λl42 Wv kX=>sA ⟨⟨LC,LD⟩,⟨LF,LG⟩⟩ Y Y Y Wv ?_
 refine RT.done ⟨by kernel_rfl,?_⟩
 refine aW.n<|sr<|mo (s:=.row _) Y<|mo (s:=.row _) Y<|lE kX λHr Xl kX=>lL Y Y Xl<|lE kX λUs h72 kX=>sb _ Y Y h72<|fa Y Y<|lV Y Y Y<|mv Y ?_
 obtain⟨⟨⟨ac2,ac3⟩,⟨ac4,ac5⟩⟩,h76,kX⟩:=bS kX
 refine ix Y Y h76<|RT.gy (cs:=[_,_,_,_]) .none Y T Y Y ?_
 obtain⟨⟨⟨W9,Xa⟩,⟨Xb,Xc⟩⟩,UH,kX⟩:=bS kX
 refine cl (xM UH) ⟨Y,ak⟩<|bE kX λF7 Ux kX=>iR Y Y Y Ux<|bE kX λl44 ajK kX=>sA ⟨⟨W9,Xa⟩,⟨Xb,Xc⟩⟩ Y Y Y ajK<|dn<|qq<|bR (cV (i:=47) (E1:=43) (n:=4) (e:=eQ) (l:=l44) Y)<|aX<|mo (s:=.ptr _ _) Y<|mo (s:=.ptr _ _) Y<|RT.cC .none Y T<|fa Y Y<|RT.eA .none (s:=.row _) Y Y Y T<|mv Y<|bl (l:=[l44]) (e:=(eS 4 eQ)) (.one Y (.nil)) Y Y Y Y Y Y ?_
 refine bE kX λIj h87 kX=>aR (k:=[l44]) (e:=(eS 4 eQ)) Y Y Y h87<|RT.cC .none Y T<|fa Y Y<|RT.uK (cells:=[_,_,_,_,_]) .none Y Y Y Y T Y<|dn<|aZ mixed<|mo (s:=.ptr _ _) Y<|mo (s:=.ptr _ _) Y<|RT.cC .none Y T<|fa Y Y<|RT.eA .none (s:=.row _) Y Y Y T<|fa Y Y<|lV Y Y Y<|mv Y<|lE kX λZJ h98 kX=>ad _ Y Y h98 ?_
 refine bl (l:=[ZJ]) (e:=bD) (.one Y (.nil)) Y Y Y Y Y Y<|bE kX λafW aop kX=>aR (k:=[ZJ]) (e:=bD) Y Y Y aop<|RT.cC .none Y T<|fa Y Y<|RT.uK (cells:=[_,_,_,_,_]) .none Y Y Y Y T Y ?_
 refine RT.done ⟨by kernel_rfl,?_⟩
 refine bF.n<|aW.n<|aX<|lE kX λKl Wz kX=>ad _ Y Y Wz<|mv Y<|RT.done ?_
 obtain rfl:=O kX
 exact aW.n ⟨(Kl,afW,Ij),aon _ Y,cD (λi=>bif Nat.beq i 312 then 100 else bif Nat.beq i 313 then 87 else i) Y Y Y Y Y ⟨.ptr,.ptr,.sv aq,.sv aq,ak⟩ ⟨⟨_,Y,⟨.sv aq,.sv aq,.row Y,.row Y,.row Y,ak⟩⟩,⟨_,Y,⟨.sv aq,.sv aq,.sv aq,.sv aq,ak⟩⟩,ak⟩ ⟨⟨_,Y,cg.refl _⟩,⟨_,Y,cg.refl _⟩,⟨_,Y,cg.refl _⟩,ak⟩ (λi hi=>by rw[bV (show i≠312 by omega)];rw[bV (show i≠313 by omega)];rfl)⟩
 subst aom
 obtain⟨Tn,To⟩:=UG
 try dsimp only
 refine aW.n<|sr<|mo (s:=.ptr _ _) Y<|an (s:=.ptr _ _) Y<|dn<|bf ?_
 obtain rfl:=O aol
 exact⟨.inr Y,12,[308,312,313],.tmp Y,Y,⟨Y,Y,Y,ak⟩,by decide⟩
theorem I1{x0:Lr}{r:Bool×Int×(List (List Qr))×(List Int)×(List (List Qr))}(h:nn x0=some r):RE af 12 [.agg (K0 x0)] true [ax 0] 79 [.s (ay r.1),.s (ax r.2.1),.r (TR 23 1 (eS 4 eQ) r.2.2.1),.r (TR 3 1 bD r.2.2.2.1),.r (TR 23 1 (eS 4 eQ) r.2.2.2.2)]:=by
 obtain⟨bk,bn,bt,bB⟩:=x0
 refine Gi (t1:=2) (t2:=3) Tryz.func12 Y (ae Y) Y (λdw M vs hvs=>?_)
 unfold nn at h
 refine sr<|bx Y<|ag Y<|ag Y<|dn<|qq<|sr<|ld Y Y (.k4 Y Y Y Y)<|bE h λx5 h5 h=>cl (xP h5) ⟨Y,ak⟩<|lE h λx6 h6 h=>nt Y _ h6<|dn ?_
 cases x6
 refine fs<|sr<|ld Y Y (.k4 Y Y Y Y) ?_
 obtain⟨⟨rZ,r5,C6,C7,ajF⟩,h8,h⟩:=bS (F h)
 refine RT.MO .none (j0 h8) [304,305,306] (by decide) Y ⟨⟨Y,T⟩,⟨Y,T⟩,⟨Y,T⟩,ak⟩ Y ⟨Y,ak⟩ T Y Y<|an (s:=.ptr _ _) Y<|ag Y<|dn<|bf ?_
 obtain rfl:=O h
 exact⟨.inr Y,8,[304,305,306],Y,Y,Y,⟨Y,Y,Y,ak⟩,by decide⟩
 refine cT<|sr<|ag Y<|ag Y<|dn<|bf<|aW.r ?_
 replace h:=V h
 cases h
theorem M3{x0:List Qr}{Pa:Qr}{r:List Qr}(h:ud x0 Pa=some r):Pure af 106 [slc 4 (List.map eQ x0),ref (eQ Pa)] (slc 4 (List.map eQ r)):=by
 obtain⟨⟨Pb,Pc⟩,⟨Pd,Pe⟩⟩:=Pa
 refine bj Tryz.func106 Y (ae Y) (λdw M vs hvs=>?_)
 unfold ud at h
 refine sr<|aI Y (aB (n:=4) (e:=eQ))<|dn<|sr<|RT.gy (cs:=[_,_,_,_]) .none Y T Y Y<|mv Y<|bE h λx6 h6 h=>cl (MM h6) ⟨Y,Y,ak⟩<|ag Y<|dn<|bf ?_
 obtain rfl:=O h
 exact R1 Y
theorem Kz{o0:Bool}{o1:Int}{o2:List (List Qr)}{o3:List Int}{o4:List (List Qr)}{x0:List Qr}{Pa:Int}{c_2:Int}{r:List Qr}(h:oK o0 o1 o2 o3 o4 x0 Pa c_2=some r):Te af 107 (λβ=>[.sv (slc 4 (List.map eQ x0)),.sv (ref [ax Pa]),.sv (ref [.v (.pointer (some ⟨β,0,none⟩))]),.sv (ref [ax c_2])]) 79 [.s (ay o0),.s (ax o1),.r (TR 23 1 (eS 4 eQ) o2),.r (TR 3 1 bD o3),.r (TR 23 1 (eS 4 eQ) o4)] (λ_ M' _ v=>SV.h (slc 4 (List.map eQ r)) M' v):=by
 refine MU [1001,1002,1003] Tryz.func107 Y (λ_=>(ae Y)) (λ_=>Y) (by decide) Y Y ⟨⟨_,Y⟩,⟨_,Y⟩,ak,ak,ak,ak⟩ (λdw M β us=>?_)
 unfold oK at h
 refine sr<|aI Y (aB (n:=4) (e:=eQ))<|dn<|qq<|sr<|mv Y<|lr Y Y ?_
 obtain⟨⟨⟨rZ,r5⟩,⟨C6,C7⟩⟩,h8,h⟩:=bS h
 refine ix Y Y h8<|RT.gy (cs:=[_,_,_,_]) .none Y T Y Y<|bE h λdI gC h=>cl (kz gC) ⟨Y,ak⟩<|lE h λfz lp h=>eq _ Y Y (ve (p:=dI) (q:=0) lp)<|dn ?_
 cases fz
 refine fs<|qq<|aZ mixed<|mv Y<|lr Y Y ?_
 obtain⟨⟨⟨jQ,jR⟩,⟨xK,xL⟩⟩,gD,h⟩:=bS (F h)
 refine ix Y Y gD<|RT.gy (cs:=[_,_,_,_]) .none Y T Y Y ?_
 obtain⟨⟨⟨q9,rf⟩,⟨Ak,Al⟩⟩,jO,h⟩:=bS h
 refine cl (O0 jO) ⟨Y,ak⟩<|RT.FA (k:=1000) .none Y Y Y T<|RT.cC .none Y T<|fa Y Y<|RT.eA .none (s:=.row _) Y Y Y T<|lr Y Y<|bE h λjg qP h=>iR Y Y Y qP<|bE h λgX oY h=>lR (e:=(eS 4 eQ)) Y Y oY Y<|mv Y<|bE h λjH rV h=>cl (Fx rV) ⟨Y,Y,Y,ak⟩<|ag Y ?_
 refine RT.done ⟨by kernel_rfl,?_⟩
 refine aW.n<|bf ?_
 obtain rfl:=O h
 exact⟨.inr Y,lu (.tmp Y (.nil)) aq,Y,⟨Y,Y,Y,ak⟩⟩
 refine cT<|sr<|mv Y<|ag Y<|dn<|bf<|aW.r ?_
 obtain rfl:=O (V h)
 exact⟨.inr Y,lu (.tmp Y (.nil)) aq,Y,⟨Y,Y,Y,ak⟩⟩
set_option maxHeartbeats 4000000 in
theorem gp{o0:Bool}{o1:Int}{o2:List (List Qr)}{o3:List Int}{o4:List (List Qr)}{x1:Int}{x2:Int}{r:(List (List Qr))×(List Int)×(List (List Qr))}(h:cX o0 o1 o2 o3 o4 x1 x2=some r):aay af 60 [.ptr 1000 0,ah x1,ah x2] 79 [.s (ay o0),.s (ax o1),.r (TR 23 1 (eS 4 eQ) o2),.r (TR 3 1 bD o3),.r (TR 23 1 (eS 4 eQ) o4)] (.any) [.s (ay o0),.s (ax o1),.r (TR 23 1 (eS 4 eQ) r.1),.r (TR 3 1 bD r.2.1),.r (TR 23 1 (eS 4 eQ) r.2.2)]:=by
 refine IJ [1001,1002,1003] Tryz.func60 Y (ae Y) Y (by decide) Y (λdw M β us=>?_)
 unfold cX at h
 refine sr<|RT.E6 .none (s:=.ptr _ _) Y T Y Y<|RT.E6 .none (s:=.sv _) Y T Y Y<|RT.E6 .none (s:=.sv _) Y T Y Y<|dn<|aaF (i:=3) Y Y<|bR (iU (i:=3) Y [.v (.pointer (some ⟨β,0,none⟩))] (.cons Y (.nil)) .any 0 [(3,.sv (ref [.v (.pointer (some ⟨β,0,none⟩))]))] (λ_ _ _=>trivial) (xq.h (l:=[.v (.pointer (some ⟨β,0,none⟩))])) ⟨@FT.ptr _ _ _ _ _ 3 0 Y,ak⟩)<|bR (iU (i:=4) Y [ax x1] (.cons Y (.nil)) .any 0 [(4,.sv (ref [ax x1]))] (λ_ _ _=>trivial) (xq.h (l:=[ax x1])) ⟨@FT.ptr _ _ _ _ _ 4 0 Y,ak⟩) ?_
 refine bR (iU (i:=5) Y [ax x2] (.cons Y (.nil)) .any 0 [(5,.sv (ref [ax x2]))] (λ_ _ _=>trivial) (xq.h (l:=[ax x2])) ⟨@FT.ptr _ _ _ _ _ 5 0 Y,ak⟩)<|qq<|aZ mixed ?_
 obtain⟨⟨⟨AY,AZ⟩,⟨ac6,ac7⟩⟩,iF,h⟩:=bS h
 refine cl (nG iF) ⟨Y,ak⟩<|RT.FA (k:=1000) .none Y Y Y T<|RT.cC .none Y T<|fa Y Y<|RT.eA .none (s:=.row _) Y Y Y T<|lr Y Y<|bE h λjl mw h=>iR Y Y Y mw<|bE h λij oG h=>lR (e:=(eS 4 eQ)) Y Y oG Y<|lr Y Y ?_
 obtain⟨⟨⟨wJ,wK⟩,⟨wL,wM⟩⟩,oH,h⟩:=bS h
 refine ix Y Y oH<|RT.gy (cs:=[_,_,_,_]) .none Y T Y Y ?_
 obtain⟨⟨⟨⟨FC,FD⟩,⟨FE,FF⟩⟩,UA⟩,oY,h⟩:=bS h
 refine cl (OY oY) ⟨Y,Y,ak⟩<|mv Y<|ex Y Y<|ex Y Y<|al (cs:=[ay false,au,ay false,au]) (by exact⟨aq,aB,aq,aB,ak⟩) Y<|so Y Y Y<|ag Y ?_
 refine RT.done ⟨by kernel_rfl,?_⟩
 refine aW.n ?_
 refine bR (iU (i:=6) Y [ay FC,slc 1 (List.map bh FD),ay FE,slc 1 (List.map bh FF)] (.k4 Y Y Y Y) .any 0 [(6,.sv (ref [ay FC,slc 1 (List.map bh FD),ay FE,slc 1 (List.map bh FF)]))] (λ_ _ _=>trivial) (xq.h (l:=[ay FC,slc 1 (List.map bh FD),ay FE,slc 1 (List.map bh FF)])) ⟨@FT.ptr _ _ _ _ _ 6 0 Y,ak⟩)<|sr<|RT.Fg (caps:=[_]) .none ⟨Y,ak⟩ T<|bI (cs:=[_]) (cs':=[o5 106 [ref [ay FC,slc 1 (List.map bh FD),ay FE,slc 1 (List.map bh FF)]]]) (.one Y (.nil)) ⟨aq,ak⟩ ?_
 refine RT.alloc .none T Y Y<|so Y Y Y<|dn<|qq<|aZ mixed<|RT.FA (k:=1000) .none Y Y Y T<|RT.cC .none Y T<|fa Y Y<|RT.eA .none (s:=.row _) Y Y Y T<|lr Y Y<|fa Y Y<|lV Y Y Y<|RT.FA (k:=1000) .none Y Y Y T<|RT.cC .none Y T<|fa Y Y<|RT.eA .none (s:=.row _) Y Y Y T<|lr Y Y<|bE h λyF GK h=>iR Y Y Y GK ?_
 refine bE h λnE ym h=>lR (e:=(eS 4 eQ)) Y Y ym Y<|bE h λvf EX h=>RT.aiJ (args:=[_]) (caps:=[_]) .none (M3 EX) Y ⟨Y,ak⟩ T<|bE h λsj Az h=>iR Y Y Y Az<|bE h λl2 aoq h=>sR vf Y Y Y Y aoq ?_
 refine RT.done ⟨by kernel_rfl,?_⟩
 refine aW.n<|sr<|RT.Fg (caps:=[_,_,_]) .none ⟨Y,Y,Y,ak⟩ T<|bI (cs:=[_]) (cs':=[o5 107 [ref [ax x2],ref [.v (.pointer (some ⟨β,0,none⟩))],ref [ax x1]]]) (.one Y (.nil)) ⟨aq,ak⟩<|RT.alloc .none T Y Y<|so Y Y Y<|dn<|sr<|RT.FA (k:=1000) .none Y Y Y T<|RT.cC .none Y T<|fa Y Y<|RT.eA .none (s:=.row _) Y Y Y T<|lE h λBT Ip h=>lL Y Y Ip ?_
 refine mv Y<|dn<|bE h λUr My tW=>?_
 refine bK (λ(yX:(List (List Qr)))=>AS.cj 71 [] [(1000,⟨79,[ai o0,ah o1,.row 1001,.row 1002,.row 1003]⟩)] [(1001,TR 23 1 (eS 4 eQ) o2),(1002,TR 3 1 bD o3),(1003,TR 23 1 (eS 4 eQ) yX)]) (λyX=>yX=Ur) ?_ (λyX Mz=>?_)
 refine aY ?_
 refine bL My (λAd=>AS.cj 71 [(3,.sv (ref [.v (.pointer (some ⟨β,0,none⟩))])),(4,.sv (ref [ax x1])),(9,.ptr 9 0),(50,.row 1003),(51,ah BT),(52,ah Ad.1)] [(1000,⟨79,[ai o0,ah o1,.row 1001,.row 1002,.row 1003]⟩),(9,⟨124,[.sv (o5 107 [ref [ax x2],ref [.v (.pointer (some ⟨β,0,none⟩))],ref [ax x1]])]⟩)] [(1003,TR 23 1 (eS 4 eQ) Ad.2),(1001,TR 23 1 (eS 4 eQ) o2),(1002,TR 3 1 bD o3)]) (wR []) (λAd y12 G12 h MA MB=>?_)
 obtain⟨xQ,jZ⟩:=Ad
 try dsimp only
 refine sr<|lE h λKy Rh h=>ls _ Y Y Rh<|dn<|qq ?_
 cases Ky
 refine cF<|bN<|aW.x<|aW.x<|bF.x<|aW.n ?_
 obtain rfl:=O (F h)
 exact⟨jZ,MB _ Y,wR []⟩
 refine cT<|bw<|aW.n<|qq<|aY<|sr<|mv Y<|bE (V h) λAE OO h=>iR Y Y Y OO<|bE h λJ2 Mu h=>lR (e:=(eS 4 eQ)) Y Y Mu Y<|ag Y<|ag Y<|dn<|sr<|mv Y<|lr Y Y<|lE h λUo h59 h=>ne _ Y Y (JY (p:=xQ) (q:=x1) h59)<|dn ?_
 refine bJ h (λj15=>AS.cj 71 [(3,.sv (ref [.v (.pointer (some ⟨β,0,none⟩))])),(4,.sv (ref [ax x1])),(9,.ptr 9 0),(50,.row 1003),(51,ah BT),(52,ah xQ)] [(1000,⟨79,[ai o0,ah o1,.row 1001,.row 1002,.row 1003]⟩),(9,⟨124,[.sv (o5 107 [ref [ax x2],ref [.v (.pointer (some ⟨β,0,none⟩))],ref [ax x1]])]⟩)] [(1003,TR 23 1 (eS 4 eQ) j15),(1001,TR 23 1 (eS 4 eQ) o2),(1002,TR 3 1 bD o3)]) (λh=>?_) (λBl h=>?_)
 cases Uo
 exact fs<|⟨jZ,(F h),wR []⟩
 refine cT<|aZ mixed<|RT.FA (k:=1000) .none Y Y Y T<|RT.cC .none Y T<|fa Y Y<|RT.eA .none (s:=.row _) Y Y Y T<|mv Y<|fa Y Y<|lV Y Y Y<|mv Y<|bE (V h) λQ8 h68 h=>RT.aaG (args:=[.sv (slc 4 (List.map eQ J2))]) (caps:=λβ=>[ref [ax x2],ref [.v (.pointer (some ⟨β,0,none⟩))],ref [ax x1]]) .none (Kz h68) 1000 [1001,1002,1003] Y Y ⟨Y,Y,Y,ak⟩ (by decide) Y Y (.cons Y (.nil)) T ?_
 refine bE h λWh h69 h=>iR Y Y Y h69<|bE h λl17 ajM h=>sR Q8 Y Y Y Y ajM ?_
 refine RT.done ⟨by kernel_rfl,?_⟩
 exact aW.n<|⟨l17,h,wR []⟩
 try dsimp only
 refine bF.n<|aW.n<|aX<|lE h λJ3 h70 h=>ad _ Y Y h70<|mv Y<|RT.done ?_
 obtain rfl:=O h
 exact aW.n ⟨(J3,Bl),MA _ Y,wR []⟩
 subst Mz
 try dsimp only
 obtain rfl:=O tW
 exact⟨.inl Y,lu .nil (λ_ _ _=>trivial),[1001,1002,1003],Y,⟨Y,Y,Y,ak⟩,by decide⟩
set_option maxHeartbeats 4000000 in
theorem pB{o0:Bool}{o1:Int}{o2:List (List Qr)}{o3:List Int}{o4:List (List Qr)}{x1:Int}{x2:Int}{r:Int×(List (List Qr))×(List Int)×(List (List Qr))}(h:dA o0 o1 o2 o3 o4 x1 x2=some r):aay af 14 [.ptr 1000 0,ah x1,ah x2] 79 [.s (ay o0),.s (ax o1),.r (TR 23 1 (eS 4 eQ) o2),.r (TR 3 1 bD o3),.r (TR 23 1 (eS 4 eQ) o4)] (ax r.1) [.s (ay o0),.s (ax o1),.r (TR 23 1 (eS 4 eQ) r.2.1),.r (TR 3 1 bD r.2.2.1),.r (TR 23 1 (eS 4 eQ) r.2.2.2)]:=by
 refine IJ [1001,1002,1003] Tryz.func14 Y (ae Y) Y (by decide) Y (λdw M β us=>?_)
 unfold dA at h
 refine sr<|ag Y<|dn<|qq<|sr<|mo (s:=.ptr _ _) Y<|bE h λdI gC h=>RT.sK .none (I0 gC) 1000 [1001,1002,1003] Y ⟨Y,Y,Y,ak⟩ (by decide) Y Y (.cons Y (.nil)) T<|dn ?_
 cases dI
 refine fs<|qq<|qq ?_
 refine bJ (F h) (λTd=>AS.cj 68 [(0,.ptr 1000 0),(1,ah x1),(2,ah x2),(31,ai Td)] [(1000,⟨79,[ai o0,ah o1,.row 1001,.row 1002,.row 1003]⟩)] [(1001,TR 23 1 (eS 4 eQ) o2),(1002,TR 3 1 bD o3),(1003,TR 23 1 (eS 4 eQ) o4)]) (λh=>?_) (λXe h=>?_)
 refine aX<|mv Y<|lE h λc9 fC h=>ls _ Y Y fC<|mv Y<|bE h λXf ue h=>?_
 cases c9
 refine gm Y<|RT.move (.some Y Y) (s:=.ptr _ _) Y T<|RT.cC (.some Y Y) Y T<|RT.fieldAddr (.some Y Y) Y T Y<|RT.eA (.some Y Y) (s:=.row _) Y Y Y T<|lE (F ue) λjl mw ue=>RT.Ou (.some Y Y) Y Y T mw<|lE ue λij oG ue=>RT.geq (.some Y Y) _ Y Y T oG ?_
 obtain rfl:=O ue
 refine pF Y<|mv Y<|bE h λaor I2 h=>?_
 cases ij
 refine gm Y<|lE (F I2) λgX oY I2=>RT.lss (.some Y Y) _ Y Y T oY ?_
 obtain rfl:=O I2
 refine pF Y<|mv Y<|bE h λaos yM h=>?_
 cases gX
 refine gm Y<|RT.move (.some Y Y) (s:=.ptr _ _) Y T<|bE (F yM) λgI mZ yM=>RT.sK (.some Y Y) (MZ mZ) 1000 [1001,1002,1003] Y ⟨Y,Y,Y,ak⟩ (by decide) Y Y (.cons Y (.nil)) T<|lE yM λoF vD yM=>RT.geq (.some Y Y) _ Y Y T vD ?_
 obtain rfl:=O yM
 exact pF Y<|dn<|⟨oF,h,wR []⟩
 obtain rfl:=O (V yM)
 exact ww<|ww<|ww<|ww<|pT Y<|dn<|⟨true,h,wR []⟩
 obtain rfl:=O (V I2)
 refine ww<|ww<|pT Y<|mv Y<|bE h λaot r6 h=>?_
 obtain rfl:=O (V r6)
 exact ww<|ww<|ww<|ww<|pT Y<|dn<|⟨true,h,wR []⟩
 obtain rfl:=O (V ue)
 refine ww<|ww<|ww<|ww<|ww<|ww<|ww<|pT Y<|mv Y<|bE h λaou C5 h=>?_
 obtain rfl:=O (V C5)
 refine ww<|ww<|pT Y<|mv Y<|bE h λaov kY h=>?_
 obtain rfl:=O (V kY)
 exact ww<|ww<|ww<|ww<|pT Y<|dn<|⟨true,h,wR []⟩
 try dsimp only
 refine aW.n ?_
 cases Xe
 refine fs<|qq<|sr<|mo (s:=.ptr _ _) Y<|RT.cC .none Y T<|fa Y Y<|RT.eA .none (s:=.row _) Y Y Y T<|lE (F h) λpg yJ h=>lL Y Y yJ<|mv Y<|dn<|bE h λEc wW ko=>?_
 refine bK (λ(yY:Unit)=>AS.cj 68 [(0,.ptr 1000 0),(1,ah x1),(2,ah x2)] [(1000,⟨79,[ai o0,ah o1,.row 1001,.row 1002,.row 1003]⟩)] [(1001,TR 23 1 (eS 4 eQ) o2),(1002,TR 3 1 bD o3),(1003,TR 23 1 (eS 4 eQ) o4)]) (λyY=>.inl yY=Ec) ?_ (λyY uS=>?_)
 refine aY ?_
 refine bL wW (λpA=>AS.cj 68 [(0,.ptr 1000 0),(1,ah x1),(2,ah x2),(35,.row 1002),(36,ah pg),(37,ah pA)] [(1000,⟨79,[ai o0,ah o1,.row 1001,.row 1002,.row 1003]⟩)] [(1002,TR 3 1 bD o3),(1001,TR 23 1 (eS 4 eQ) o2),(1003,TR 23 1 (eS 4 eQ) o4)]) (wR []) (λMW ZK ZL h yp vI=>?_)
 try dsimp only
 refine sr<|lE h λqX Ay h=>ls _ Y Y Ay<|dn<|qq ?_
 cases qX
 refine cF<|bN<|aW.x<|aW.x<|bF.x<|aW.n ?_
 obtain rfl:=O (F h)
 exact⟨(),vI _ Y,wR []⟩
 refine cT<|bw<|aW.n<|qq<|aY<|sr<|bE (V h) λvY DX h=>iR Y Y Y DX<|bE h λnj vm h=>lR Y Y vm Y<|ag Y<|dn<|sr<|mv Y<|mv Y<|lE h λvf EX h=>eq _ Y Y (ve (p:=nj) (q:=x2) EX)<|dn ?_
 cases vf
 refine cF<|bw<|bF.n<|aW.n<|aX<|lE (F h) λsj Az h=>ad _ Y Y Az<|mv Y<|RT.done ?_
 obtain rfl:=O h
 exact aW.n ⟨sj,yp _ Y,wR []⟩
 refine cT<|sr<|ag Y<|dn<|bf<|bF.r<|aW.r ?_
 obtain rfl:=O (V h)
 have Xm:=vI _ Y
 subst Xm
 refine aW.r<|bF.r<|aW.r<|aW.r ?_
 obtain rfl:=O ko
 exact⟨.inr Y,lu (.tmp Y (.nil)) aq,[1001,1002,1003],Y,⟨Y,Y,Y,ak⟩,by decide⟩
 subst uS
 try dsimp only
 refine aW.n<|qq<|sr<|mo (s:=.ptr _ _) Y<|RT.cC .none Y T<|fa Y Y<|RT.eA .none (s:=.row _) Y Y Y T<|mv Y<|bE ko λAB Kn ko=>iR Y Y Y Kn<|bE ko λBT Ip ko=>lR (e:=(eS 4 eQ)) Y Y Ip Y<|mv Y ?_
 obtain⟨⟨⟨ac8,ac9⟩,⟨ada,adb⟩⟩,Rh,ko⟩:=bS ko
 refine ix Y Y Rh<|RT.gy (cs:=[_,_,_,_]) .none Y T Y Y<|bE ko λAE OO ko=>cl (kz OO) ⟨Y,ak⟩<|lE ko λJ2 Mu ko=>eq _ Y Y (ve (p:=AE) (q:=0) Mu)<|dn ?_
 cases J2
 refine fs<|sr<|mo (s:=.ptr _ _) Y<|mv Y<|mv Y ?_
 obtain⟨⟨ZI,l21,l22⟩,N5,ko⟩:=bS (F ko)
 refine RT.Lt .none (gp N5) 1000 [1001,1002,1003] [304,305,306] Y ⟨Y,Y,Y,ak⟩ (by decide) (by decide) Y ⟨⟨Y,T⟩,⟨Y,T⟩,⟨Y,T⟩,ak⟩ Y Y (.k3 Y Y Y) T<|dn<|sr<|mo (s:=.ptr _ _) Y<|RT.cC .none Y T<|fa Y Y<|RT.eA .none (s:=.row _) Y Y Y T<|mv Y<|mv Y<|bE ko λx67 h67 ko=>iR Y Y Y h67<|bE ko λl24 ajN ko=>sR x2 Y Y Y Y ajN ?_
 refine dn<|sr<|ag Y<|dn<|bf ?_
 obtain rfl:=O ko
 exact⟨.inr Y,lu (.tmp Y (.nil)) aq,[304,305,306],Y,⟨Y,Y,Y,ak⟩,by decide⟩
 refine cT<|sr<|ag Y<|dn<|bf<|aW.r ?_
 obtain rfl:=O (V ko)
 exact⟨.inr Y,lu (.tmp Y (.nil)) aq,[1001,1002,1003],Y,⟨Y,Y,Y,ak⟩,by decide⟩
 refine cT<|sr<|ag Y<|dn<|bf<|aW.r ?_
 obtain rfl:=O (V h)
 exact⟨.inr Y,lu (.tmp Y (.nil)) aq,[1001,1002,1003],Y,⟨Y,Y,Y,ak⟩,by decide⟩
 refine cT<|sr<|ag Y<|dn<|bf<|aW.r ?_
 obtain rfl:=O (V h)
 exact⟨.inr Y,lu (.tmp Y (.nil)) aq,[1001,1002,1003],Y,⟨Y,Y,Y,ak⟩,by decide⟩
end
section
open Go.Fw
noncomputable def ee(x0:List Int):Option (List Int):=(some (x0.length:Int)).bind λx5=>(bX (λ(Eg:Int)=>(show Option ((Int)⊕(Int))from cE (λ(RK:Bool)=>(bif RK then(some (IntKind.i64.wrap (Eg-1))).bind λdX=>some (.inl dX)else some (.inr Eg))) λGG=>(some (decide ((0:Int)<Eg))).bind λx7=>(bif x7 then(some (IntKind.i64.wrap (Eg-1))).bind λfz=>(cL x0 fz).bind λc9=>(some (decide ((c9:Int)=0))).bind λei=>some ei else some false).bind λXn=>GG Xn)) x5).bind λRL=>(GD x0 0 RL).bind λij=>some ij
noncomputable def cP(x0:List Nat):Option (List Int):=(bX (λ(s6:Int×(List Int))=>match s6 with|⟨qQ,gL⟩=>(show Option ((Int×(List Int))⊕((List Int)))from(some (x0.length:Int)).bind λx7=>(some (decide ((qQ:Int)<x7))).bind λx8=>(bif x8 then(cL x0 qQ).bind λei=>(some (ei%65536)).bind λfB=>(some (IntKind.i64.wrap (fB:Int))).bind λdX=>(cL x0 qQ).bind λij=>(some (ij/65536%4294967296)).bind λiA=>(some (IntKind.i64.wrap (iA:Int))).bind λjg=>(nC 8 gL [dX,jg]).bind λjG=>(some (IntKind.i64.wrap (qQ+1))).bind λdI=>some (.inl (dI,jG))else some (.inr gL)))) (0,[])).bind λdj=>(ee dj).bind λiO=>some iO
noncomputable def ga(x0:List Int)(x1:Int):Option (Int):=(some (x0.length:Int)).bind λx7=>(some (decide ((x1:Int)<x7))).bind λx8=>(bif x8 then(cL x0 x1).bind λfz=>some fz else some 0)
noncomputable def ef(x0:Bool)(x1:List Int):Option (Zr):=(ee x1).bind λx8=>(bX (λ(s6:Int×(List Nat))=>match s6 with|⟨mz,gL⟩=>(show Option ((Int×(List Nat))⊕((List Nat)))from(some (x8.length:Int)).bind λfz=>(some (decide ((mz:Int)<fz))).bind λc9=>(bif c9 then(ga x8 mz).bind λeX=>(some ((eX%4294967296).toNat)).bind λjl=>(some (IntKind.i64.wrap (mz+1))).bind λiA=>(ga x8 iA).bind λjg=>(some ((jg%4294967296).toNat)).bind λgX=>(some ((gX*65536)%4294967296)).bind λjG=>(some ((jl+jG)%4294967296)).bind λjH=>(nC 4 gL [jH]).bind λkT=>(some (IntKind.i64.wrap (mz+2))).bind λei=>some (.inl (ei,kT))else some (.inr gL)))) (0,[])).bind λdj=>cE (λ(Xo:Bool)=>some ⟨Xo,dj⟩) λK9=>(bif x0 then(some (dj.length:Int)).bind λiP=>(some (decide ((0:Int)<iP))).bind λoD=>some oD else some false).bind λXp=>K9 Xp
noncomputable def kZ(x0:Zr):Option (Zr):=match x0 with|⟨bk,bn⟩=>(cP bn).bind λx7=>(ef bk x7).bind λ⟨rZ,r5⟩=>some ⟨rZ,r5⟩
noncomputable def oL(x0:Zr)(x1:Zr):Option (Bool):=match x0 with|⟨bk,bn⟩=>match x1 with|⟨cu,cm⟩=>cE (λ(Xq:Bool)=>(bif Xq then some false else(bX (λ(GH:Int)=>(show Option ((Int)⊕((Unit)⊕(Bool)))from(some (bn.length:Int)).bind λjg=>(some (decide ((GH:Int)<jg))).bind λgX=>(bif gX then(cL bn GH).bind λoF=>(cL cm GH).bind λku=>(some (decide ((oF:Nat)≠ku))).bind λuG=>(bif uG then some (.inr (.inr false))else(some (IntKind.i64.wrap (GH+1))).bind λjH=>some (.inl jH))else some (.inr (.inl ()))))) 0).bind λe9=>match e9 with|.inr v9=>some v9|.inl _=>some true)) λK3=>(some (!(bk==cu))).bind λdI=>(bif dI then some true else(some (bn.length:Int)).bind λei=>(some (cm.length:Int)).bind λdX=>(some (decide ((ei:Int)≠dX))).bind λeX=>some eX).bind λXr=>K3 Xr
noncomputable def oM(x0:Int):Option (Zr):=(some ((x0%18446744073709551616).toNat)).bind λx5=>(some (decide ((x0:Int)<0))).bind λx7=>cE (λ(OH:Nat)=>(some (decide ((x0:Int)<0))).bind λfz=>(some (OH%4294967296)).bind λeD=>(some (eD%4294967296)).bind λei=>(some (OH/4294967296%18446744073709551616)).bind λfB=>(some (fB%4294967296)).bind λdX=>(kZ ⟨fz,[ei,dX]⟩).bind λ⟨Af,Ag⟩=>some ⟨Af,Ag⟩) λK2=>(bif x7 then(some (wj 18446744073709551616 0 x5)).bind λx9=>K2 x9 else K2 x5)
noncomputable def mD(x0:List Int)(x1:List Int):Option (Int):=(some (x0.length:Int)).bind λx7=>(some (x1.length:Int)).bind λx9=>(some (max (x7:Int) x9)).bind λdI=>(some (IntKind.i64.wrap (dI-1))).bind λfz=>(bX (λ(iD:Int)=>(show Option ((Int)⊕((Unit)⊕(Int)))from(some (decide ((0:Int)≤iD))).bind λeD=>(bif eD then(ga x0 iD).bind λeX=>(ga x1 iD).bind λfL=>(some (decide ((eX:Int)<fL))).bind λiA=>(bif iA then some (.inr (.inr (-1)))else(ga x0 iD).bind λjG=>(ga x1 iD).bind λkT=>(some (decide ((kT:Int)<jG))).bind λgI=>(bif gI then some (.inr (.inr 1))else(some (IntKind.i64.wrap (iD-1))).bind λdH=>some (.inl dH)))else some (.inr (.inl ()))))) fz).bind λe6=>match e6 with|.inr v6=>some v6|.inl _=>some 0
noncomputable def kD(x0:List Int)(x1:List Int):Option (List Int):=(bX (λ(pA:Int×Int×(List Int))=>match pA with|⟨GW,RM,I3⟩=>(show Option ((Int×Int×(List Int))⊕((List Int)))from cE (λ(RN:Bool)=>(bif RN then(ga x0 RM).bind λiO=>(ga x1 RM).bind λoF=>(some (IntKind.i64.wrap (iO+oF))).bind λnU=>(some (IntKind.i64.wrap (nU+GW))).bind λoD=>(some (Int.tmod oD 65536)).bind λpg=>(nC 8 I3 [pg]).bind λqX=>(some (IntKind.i64.wrap (Int.tdiv oD 65536))).bind λnj=>(some (IntKind.i64.wrap (RM+1))).bind λgX=>some (.inl (nj,gX,qX))else some (.inr I3))) λK22=>(some (x0.length:Int)).bind λfz=>(some (decide ((RM:Int)<fz))).bind λc9=>(bif c9 then some true else(some (x1.length:Int)).bind λfB=>(some (decide ((RM:Int)<fB))).bind λdX=>some dX).bind λRG=>(bif RG then some true else(some (decide ((0:Int)<GW))).bind λfL=>some fL).bind λaf1=>K22 af1)) (0,0,[])).bind λzO=>(ee zO).bind λnE=>some nE
noncomputable def jz(x0:List Int)(x1:List Int):Option (List Int):=(bX (λ(s8:Int×Int×(List Int))=>match s8 with|⟨OD,UI,yf⟩=>(show Option ((Int×Int×(List Int))⊕((List Int)))from(some (x0.length:Int)).bind λfz=>(some (decide ((UI:Int)<fz))).bind λc9=>(bif c9 then(ga x0 UI).bind λdX=>(ga x1 UI).bind λij=>(some (IntKind.i64.wrap (dX-ij))).bind λfL=>(some (IntKind.i64.wrap (fL-OD))).bind λjg=>(some (decide ((jg:Int)<0))).bind λjG=>cE (λ(Td:Int×Int)=>match Td with|⟨af2,aaK⟩=>(nC 8 yf [aaK]).bind λnU=>(some (IntKind.i64.wrap (UI+1))).bind λei=>some (.inl (af2,ei,nU))) λWX=>(bif jG then(some (IntKind.i64.wrap (jg+65536))).bind λiO=>WX (1,iO)else WX (0,jg))else some (.inr yf)))) (0,0,[])).bind λyg=>(ee yg).bind λoD=>some oD
noncomputable def gE(x0:List Int):Option (Int):=(some (x0.length:Int)).bind λx6=>(some (IntKind.i64.wrap (x6-1))).bind λx7=>(bX (λ(s6:Int×Int)=>match s6 with|⟨ua,qQ⟩=>(show Option ((Int×Int)⊕(Int))from(some (decide ((0:Int)≤qQ))).bind λx9=>(bif x9 then(some (IntKind.i64.wrap (ua*65536))).bind λeD=>(cL x0 qQ).bind λfB=>(some (IntKind.i64.wrap (eD+fB))).bind λeX=>(some (IntKind.i64.wrap (qQ-1))).bind λfz=>some (.inl (eX,fz))else some (.inr ua)))) (0,x7)).bind λyT=>some yT
noncomputable def mQ(x0:Int):Option (List Int):=(some (Int.tmod x0 65536)).bind λx4=>(some (IntKind.i64.wrap (Int.tdiv x0 65536))).bind λx6=>(some (Int.tmod x6 65536)).bind λx7=>(some (IntKind.i64.wrap (Int.tdiv x0 65536))).bind λx9=>(some (IntKind.i64.wrap (Int.tdiv x9 65536))).bind λdI=>(ee [x4,x7,dI]).bind λc9=>some c9
noncomputable def gG(x0:List Int)(x1:Int):Option (List Int):=(bX (λ(uH:Int×Int×(List Int))=>match uH with|⟨KA,Xs,og⟩=>(show Option ((Int×Int×(List Int))⊕((List Int)))from cE (λ(Di:Bool)=>(bif Di then(ga x0 Xs).bind λfL=>(some (IntKind.i64.wrap (fL*x1))).bind λjg=>(some (IntKind.i64.wrap (jg+KA))).bind λjG=>(some (Int.tmod jG 65536)).bind λkT=>(nC 8 og [kT]).bind λoF=>(some (IntKind.i64.wrap (Int.tdiv jG 65536))).bind λiP=>(some (IntKind.i64.wrap (Xs+1))).bind λeX=>some (.inl (iP,eX,oF))else some (.inr og))) λGG=>(some (x0.length:Int)).bind λfz=>(some (decide ((Xs:Int)<fz))).bind λc9=>(bif c9 then some true else(some (decide ((0:Int)<KA))).bind λdH=>some dH).bind λI4=>GG I4)) (0,0,[])).bind λjU=>(ee jU).bind λsX=>some sX
noncomputable def uf(x0:List Int)(x1:List Int):Option (List Int):=(some (x0.length:Int)).bind λx9=>(some (x1.length:Int)).bind λfz=>(some (IntKind.i64.wrap (x9+fz))).bind λc9=>(some (decide ((c9:Int)≤3))).bind λeD=>(bif eD then(gE x0).bind λdH=>(gE x1).bind λdX=>(some (IntKind.i64.wrap (dH*dX))).bind λeX=>(mQ eX).bind λjl=>some jl else(some (x0.length:Int)).bind λfL=>(some (IntKind.i64.wrap (fL-1))).bind λiA=>(bX (λ(pA:(List Int)×Int)=>match pA with|⟨qh,GW⟩=>(show Option (((List Int)×Int)⊕((List Int)))from(some (decide ((0:Int)≤GW))).bind λgX=>(bif gX then(nC 8 [0] qh).bind λgI=>(bX (λ(AF:(List Int)×Int)=>match AF with|⟨I5,su⟩=>(show Option (((List Int)×Int)⊕((List Int)))from(cL x0 GW).bind λoD=>(some (decide ((su:Int)<oD))).bind λku=>(bif ku then(cL x0 GW).bind λnE=>(some (IntKind.i64.wrap (nE-su))).bind λzu=>(some (min (1024:Int) zu)).bind λvg=>(gG x1 vg).bind λsE=>(kD I5 sE).bind λr9=>(some (IntKind.i64.wrap (su+1024))).bind λuG=>some (.inl (r9,uG))else some (.inr I5)))) (gI,0)).bind λEh=>(some (IntKind.i64.wrap (GW-1))).bind λjH=>some (.inl (Eh,jH))else some (.inr qh)))) ([],iA)).bind λyW=>(ee yW).bind λAB=>some AB)
noncomputable def qD(x0:List Int)(x1:List Int):Option ((List Int)×(List Int)):=cE (λ(Xt:Bool)=>(bif Xt then(gE x0).bind λjg=>(gE x1).bind λjG=>(Aw jg jG).bind λjH=>(mQ jH).bind λiO=>(gE x0).bind λgI=>(gE x1).bind λnU=>(Kf gI nU).bind λiP=>(mQ iP).bind λoD=>some (iO,oD)else(some (x0.length:Int)).bind λku=>(Hf 8 ku (0:Int)).bind λpg=>(some (x1.length:Int)).bind λqX=>(some (decide ((qX:Int)=1))).bind λvY=>(bif vY then(some (x0.length:Int)).bind λyF=>(some (IntKind.i64.wrap (yF-1))).bind λnE=>(bX (λ(QE:Int×Int×(List Int))=>match QE with|⟨Tp,PD,I6⟩=>(show Option ((Int×Int×(List Int))⊕(Int×(List Int)))from(some (decide ((0:Int)≤PD))).bind λsj=>(bif sj then(some (IntKind.i64.wrap (Tp*65536))).bind λr9=>(cL x0 PD).bind λBT=>(some (IntKind.i64.wrap (r9+BT))).bind λKy=>(cL x1 0).bind λAx=>(Aw Ky Ax).bind λDx=>(cL x1 0).bind λx63=>(Kf Ky x63).bind λN4=>(kW I6 PD).bind λQ7=>(stM I6 Q7 Dx).bind λZI=>(some (IntKind.i64.wrap (PD-1))).bind λvg=>some (.inl (N4,vg,ZI))else some (.inr (Tp,I6))))) (0,nE,pg)).bind λe18=>match e18 with|⟨Xu,RO⟩=>(ee RO).bind λQ8=>(ee [Xu]).bind λHr=>some (Q8,Hr)else(some (x0.length:Int)).bind λx73=>(some (IntKind.i64.wrap (x73-1))).bind λx74=>(bX (λ(s44:(List Int)×Int×(List Int))=>match s44 with|⟨PE,zP,zQ⟩=>(show Option (((List Int)×Int×(List Int))⊕((List Int)×(List Int)))from(some (decide ((0:Int)≤zP))).bind λx76=>(bif x76 then(cL x0 zP).bind λx81=>(nC 8 [x81] PE).bind λx85=>(ee x85).bind λRa=>(some (Ra.length:Int)).bind λx88=>(some (x1.length:Int)).bind λVr=>(some (decide ((x88:Int)<Vr))).bind λx91=>cE (λ(Xv:Int)=>(bX (λ(s54:Int×Int)=>match s54 with|⟨rz,wX⟩=>(show Option ((Int×Int)⊕(Int))from(some (IntKind.i64.wrap (wX-rz))).bind λLH=>(some (decide ((1:Int)<LH))).bind λx95=>(bif x95 then(some (IntKind.i64.wrap (rz+wX))).bind λZJ=>(some (IntKind.i64.wrap (Int.tdiv ZJ 2))).bind λx99=>(gG x1 x99).bind λKk=>(mD Kk Ra).bind λKm=>(some (decide ((Km:Int)≤0))).bind λUt=>cE (λ(j56:Int×Int)=>match j56 with|⟨RQ,RR⟩=>some (.inl (RQ,RR))) λK56=>(bif Ut then K56 (x99,wX)else K56 (rz,x99))else some (.inr rz)))) (0,Xv)).bind λBr=>(gG x1 Br).bind λRb=>(jz Ra Rb).bind λXw=>(kW zQ zP).bind λaaL=>(stM zQ aaL Br).bind λl58=>(some (IntKind.i64.wrap (zP-1))).bind λJ5=>some (.inl (Xw,J5,l58))) λK46=>(bif x91 then K46 1 else K46 65536)else some (.inr (PE,zQ))))) ([],x74,pg)).bind λe44=>match e44 with|⟨adf,RU⟩=>(ee RU).bind λCo=>some (Co,adf)))) λK3=>(some (x0.length:Int)).bind λdH=>(some (decide ((dH:Int)≤3))).bind λfB=>(bif fB then(some (x1.length:Int)).bind λjl=>(some (decide ((jl:Int)≤3))).bind λij=>some ij else some false).bind λXx=>K3 Xx
noncomputable def fV(x0:Zr):Option (Int):=match x0 with|⟨bk,bn⟩=>(cP bn).bind λx5=>(some (x5.length:Int)).bind λx6=>(some (decide ((x6:Int)=0))).bind λx7=>(bif x7 then some 0 else(bif bk then some (-1)else some 1))
noncomputable def ug(x0:Zr)(x1:Zr):Option (Int):=match x0 with|⟨bk,bn⟩=>match x1 with|⟨cu,cm⟩=>(fV ⟨bk,bn⟩).bind λx7=>(fV ⟨cu,cm⟩).bind λx9=>(some (decide ((x7:Int)≠x9))).bind λdI=>(bif dI then(fV ⟨bk,bn⟩).bind λc9=>(fV ⟨cu,cm⟩).bind λei=>(some (decide ((c9:Int)<ei))).bind λdH=>(bif dH then some (-1)else some 1)else(cP bn).bind λeX=>(cP cm).bind λfL=>(mD eX fL).bind λiA=>(fV ⟨bk,bn⟩).bind λgX=>(some (decide ((gX:Int)<0))).bind λjG=>(bif jG then(some (IntKind.i64.wrap (0-iA))).bind λiO=>some iO else some iA))
noncomputable def qE(x0:Zr):Option (Zr):=match x0 with|⟨bk,bn⟩=>(some (!bk)).bind λx5=>(cP bn).bind λx8=>(ef x5 x8).bind λ⟨PF,PG⟩=>some ⟨PF,PG⟩
noncomputable def uh(x0:Zr):Option (Zr):=match x0 with|⟨bk,bn⟩=>(cP bn).bind λx5=>(ef false x5).bind λ⟨I7,I8⟩=>some ⟨I7,I8⟩
noncomputable def uj(x0:Zr)(x1:Zr):Option (Zr):=match x0 with|⟨bk,bn⟩=>match x1 with|⟨cu,cm⟩=>(cP bn).bind λx9=>(cP cm).bind λc9=>(some (bk==cu)).bind λdX=>(bif dX then(kD x9 c9).bind λiA=>(ef bk iA).bind λ⟨Ap,Aq⟩=>some ⟨Ap,Aq⟩else(mD x9 c9).bind λjH=>(some (decide ((0:Int)≤jH))).bind λiO=>(bif iO then(jz x9 c9).bind λiP=>(ef bk iP).bind λ⟨CB,CC⟩=>some ⟨CB,CC⟩else(jz c9 x9).bind λqX=>(ef cu qX).bind λ⟨Ea,Eb⟩=>some ⟨Ea,Eb⟩))
noncomputable def kE(x0:Zr)(x1:Zr):Option (Zr):=match x0 with|⟨bk,bn⟩=>match x1 with|⟨cu,cm⟩=>(some (!(bk==cu))).bind λx9=>(cP bn).bind λc9=>(cP cm).bind λdH=>(uf c9 dH).bind λfB=>(ef x9 fB).bind λ⟨q9,rf⟩=>some ⟨q9,rf⟩
noncomputable def qF(x0:Zr)(x1:Zr):Option (Zr×Zr×Int):=match x0 with|⟨bk,bn⟩=>match x1 with|⟨cu,cm⟩=>(cP bn).bind λeD=>(cP cm).bind λfB=>(some (fB.length:Int)).bind λeX=>(some (decide ((eX:Int)=0))).bind λjl=>(bif jl then some (⟨false,[]⟩,⟨false,[]⟩,7)else(qD eD fB).bind λ⟨Im,Mt⟩=>cE (λ(j3:Bool×Bool)=>match j3 with|⟨Xy,C0⟩=>cE (λ(j5:(List Int)×(List Int))=>match j5 with|⟨Wp,OL⟩=>(some (!(C0==cu))).bind λzu=>(ef zu Wp).bind λ⟨F8,F9⟩=>(ef false OL).bind λ⟨OM,ON⟩=>some (⟨F8,F9⟩,⟨OM,ON⟩,0)) λK5=>(bif Xy then(kD Im [1]).bind λuG=>(jz fB Mt).bind λnj=>K5 (uG,nj)else K5 (Im,Mt))) λK3=>(bif bk then(some (Mt.length:Int)).bind λiP=>(some (decide ((0:Int)<iP))).bind λoD=>some oD else some false).bind λadg=>K3 (adg,bk))
noncomputable def uo(x0:Zr)(x1:Zr):Option (Zr):=match x0 with|⟨bk,bn⟩=>match x1 with|⟨cu,cm⟩=>(cP bn).bind λfz=>(cP cm).bind λei=>(bX (λ(s6:(List Int)×(List Int))=>match s6 with|⟨iD,mz⟩=>(show Option (((List Int)×(List Int))⊕((List Int)))from(some (mz.length:Int)).bind λfB=>(some (decide ((0:Int)<fB))).bind λdX=>(bif dX then(qD iD mz).bind λ⟨aoy,af5⟩=>some (.inl (mz,af5))else some (.inr iD)))) (fz,ei)).bind λwE=>(ef false wE).bind λ⟨S3,OG⟩=>some ⟨S3,OG⟩
end
section
open Go.Fw Go.Fw.Z Go.RowKit
theorem fR{x0:List Int}{r:List Int}(h:ee x0=some r):Pure af 176 [slc 1 (List.map bD x0)] (slc 1 (List.map bD r)):=by
 refine bj Tryz.func176 Y (ae Y) (λdw M vs hvs=>?_)
 unfold ee at h
 refine sr<|aI Y (aB (n:=1) (e:=bD))<|dn<|sr<|mv Y<|lE h λx5 h5 h=>ln Y h5<|ag Y<|dn<|qq<|bE h λFm yh pq=>?_
 refine bK (λ(RL:Int)=>AS.cj 21 [(0,.sv (slc 1 (List.map bD x0))),(3,ah RL)] [] []) (λRL=>RL=Fm) ?_ (λRL yj=>?_)
 refine aY ?_
 refine bL yh (λuH=>AS.cj 21 [(0,.sv (slc 1 (List.map bD x0))),(3,ah uH)] [] []) (wR []) (λEg ZD ZE h yl uN=>?_)
 try dsimp only
 refine qq<|qq ?_
 refine bJ h (λGI=>AS.cj 21 [(0,.sv (slc 1 (List.map bD x0))),(3,ah Eg),(15,ai GI)] [] []) (λh=>?_) (λRK h=>?_)
 refine aX<|mv Y<|lE h λx7 h7 h=>gt _ Y Y h7<|mv Y<|bE h λXn dD h=>?_
 cases x7
 obtain rfl:=O (F dD)
 exact ww<|ww<|ww<|ww<|ww<|ww<|pF Y<|dn<|⟨false,h,wR []⟩
 refine gm Y<|gm Y<|lE (V dD) λfz lp dD=>RT.sub (.some Y Y) _ Y Y T lp<|bE dD λc9 fC dD=>RT.Uj (.some Y Y) Y Y T fC<|gr Y Y<|lE dD λei jx dD=>Uk _ Y Y (ve (p:=c9) (q:=0) jx) ?_
 obtain rfl:=O dD
 exact pT Y<|dn<|⟨ei,h,wR []⟩
 try dsimp only
 refine aW.n ?_
 cases RK
 refine cF<|bN<|aW.x<|aW.x<|bF.x<|aW.n ?_
 obtain rfl:=O (F h)
 exact⟨Eg,uN _ Y,wR []⟩
 refine cT<|bw<|aW.n<|aY<|aX<|mv Y<|lE (V h) λdX jO h=>sb _ Y Y jO<|ag Y<|RT.done<|bF.n ?_
 obtain rfl:=O h
 exact aW.n ⟨dX,yl _ Y,wR []⟩
 subst yj
 try dsimp only
 refine aW.n<|sr<|mv Y<|mv Y<|bE pq λij oG pq=>RT.Ic .none 0 RL Y Y ⟨_,Y⟩ T oG<|ag Y<|dn<|bf ?_
 obtain rfl:=O pq
 exact R1 Y
theorem dz{x0:List Nat}{r:List Int}(h:cP x0=some r):Pure af 146 [slc 1 (List.map bh x0)] (slc 1 (List.map bD r)):=by
 refine bj Tryz.func146 Y (ae Y) (λdw M vs hvs=>?_)
 unfold cP at h
 refine sr<|aI Y (aB (n:=1) (e:=bD))<|dn<|sr<|ag Y<|dn<|bR (c8 3 304 3 1 Y Y T)<|qq<|sr<|ag Y<|dn<|bE h λe6 vA jo=>?_
 refine bK (λ(dj:(List Int))=>AS.cj 28 [(3,.row 306)] [] [(306,TR 3 1 bD dj)]) (λdj=>dj=e6) ?_ (λdj vB=>?_)
 refine aY ?_
 refine bL vA (λs6=>AS.cj 28 [(0,.sv (slc 1 (List.map bh x0))),(3,.row 306),(4,ah s6.1)] [] [(306,TR 3 1 bD s6.2)]) (cD (λi=>bif Nat.beq i 306 then 304 else i) Y Y Y Y Y ⟨.sv aq,.row Y,.sv aq,ak⟩ trivial ⟨⟨_,Y,cg.refl _⟩,ak⟩ (λi hi=>by rw[bV (show i≠306 by omega)];rfl)) (λs6 y6 G6 h vC qy=>?_)
 obtain⟨qQ,gL⟩:=s6
 try dsimp only
 refine qq<|sr<|mv Y<|mv Y<|lE h λx7 h7 h=>ln Y h7<|lE h λx8 h8 h=>ls _ Y Y h8<|dn ?_
 cases x8
 refine cF<|bN<|aW.x<|aW.x<|bF.x<|aW.n ?_
 obtain rfl:=O (F h)
 exact⟨gL,qy _ Y,wR []⟩
 refine cT<|bw<|aW.n<|qq<|aY<|aZ mixed<|mo (s:=.row _) Y<|mv Y<|mv Y<|bE (V h) λei jx h=>ix Y Y jx<|lr Y Y<|lE h λfB lq h=>RT.rem .none _ Y Y T (by decide) (ace (a:=ei) (b:=65536) lq)<|lE h λdX jO h=>cv _ Y jO<|mv Y<|mv Y<|bE h λij oG h=>ix Y Y oG<|lr Y Y<|lE h λiA oH h=>RT.quo .none _ Y Y T (by decide) (UK.aiz (a:=ij) (b:=65536) oH) ?_
 refine lE h λjg qP h=>cv _ Y qP<|bl (l:=[dX,jg]) (e:=bD) (.one Y (.one Y (.nil))) Y Y Y Y Y Y<|bE h λjG nO h=>aR (k:=[dX,jg]) (e:=bD) Y Y Y nO<|an (s:=.row _) Y ?_
 refine RT.done ⟨by kernel_rfl,?_⟩
 refine bF.n<|aW.n<|aX<|mv Y<|lE h λdI gC h=>ad _ Y Y gC<|ag Y<|RT.done ?_
 obtain rfl:=O h
 exact aW.n ⟨(dI,jG),vC _ Y,cD (λi=>bif Nat.beq i 306 then 25 else i) Y Y Y Y Y ⟨.sv aq,.row Y,.sv aq,ak⟩ trivial ⟨⟨_,Y,cg.refl _⟩,ak⟩ (λi hi=>by rw[bV (show i≠306 by omega)];rfl)⟩
 subst vB
 try dsimp only
 refine aW.n<|qq<|bR (cV (i:=306) (E1:=3) (n:=1) (e:=bD) (l:=dj) Y)<|aX<|mv Y<|bE jo λiO pN jo=>cl (fR pN) ⟨Y,ak⟩<|ag Y<|dn<|bf ?_
 obtain rfl:=O jo
 exact R1 Y
theorem iK{x0:List Int}{x1:Int}{r:Int}(h:ga x0 x1=some r):Pure af 179 [slc 1 (List.map bD x0),ax x1] (ax r):=by
 refine bj Tryz.func179 Y (ae Y) (λdw M vs hvs=>?_)
 unfold ga at h
 refine sr<|ag Y<|dn<|qq<|sr<|mv Y<|mv Y<|lE h λx7 h7 h=>ln Y h7<|lE h λx8 h8 h=>ls _ Y Y h8<|dn ?_
 cases x8
 refine fs<|sr<|ag Y<|dn<|bf ?_
 obtain rfl:=O (F h)
 exact R1 Y
 refine cT<|sr<|mv Y<|mv Y<|bE (V h) λfz lp h=>ix Y Y lp<|lr Y Y<|ag Y<|dn<|bf<|aW.r ?_
 obtain rfl:=O h
 exact R1 Y
theorem jA{x0:Bool}{x1:List Int}{r:Zr}(h:ef x0 x1=some r):Pure af 152 [ay x0,slc 1 (List.map bD x1)] (.agg (eZ r)):=by
 refine bj Tryz.func152 Y (ae Y) (λdw M vs hvs=>?_)
 unfold ef at h
 refine sr<|al (cs:=[ay false,au]) (by exact⟨aq,aB,ak⟩) Y<|dn<|sr<|mv Y<|bE h λx8 h8 h=>cl (fR h8) ⟨Y,ak⟩<|ag Y<|dn<|sr<|ag Y<|dn<|bR (c8 5 304 130 1 Y Y T)<|qq<|sr<|ag Y<|dn<|bE h λe6 vA jo=>?_
 refine bK (λ(dj:(List Nat))=>AS.cj 37 [(0,ai x0),(4,.ptr 4 0),(5,.row 306)] [(4,⟨41,[ai false,.sv au]⟩)] [(306,TR 130 1 bh dj)]) (λdj=>dj=e6) ?_ (λdj vB=>?_)
 refine aY ?_
 refine bL vA (λs6=>AS.cj 37 [(0,ai x0),(1,.sv (slc 1 (List.map bD x8))),(4,.ptr 4 0),(5,.row 306),(6,ah s6.1)] [(4,⟨41,[ai false,.sv au]⟩)] [(306,TR 130 1 bh s6.2)]) (cD (λi=>bif Nat.beq i 306 then 304 else i) Y Y Y Y Y ⟨.sv aq,.sv aq,.ptr,.row Y,.sv aq,ak⟩ ⟨⟨_,Y,⟨.sv aq,.sv aq,ak⟩⟩,ak⟩ ⟨⟨_,Y,cg.refl _⟩,ak⟩ (λi hi=>by rw[bV (show i≠306 by omega)];rfl)) (λs6 y6 G6 h vC qy=>?_)
 obtain⟨mz,gL⟩:=s6
 try dsimp only
 refine qq<|sr<|mv Y<|mv Y<|lE h λfz lp h=>ln Y lp<|lE h λc9 fC h=>ls _ Y Y fC<|dn ?_
 cases c9
 refine cF<|bN<|aW.x<|aW.x<|bF.x<|aW.n ?_
 obtain rfl:=O (F h)
 exact⟨gL,qy _ Y,wR []⟩
 refine cT<|bw<|aW.n<|qq<|aY<|aX<|mo (s:=.row _) Y<|mv Y<|mv Y<|bE (V h) λeX jK h=>cl (iK jK) ⟨Y,Y,ak⟩<|lE h λjl mw h=>cv _ Y (UK.conv mw)<|mv Y<|mv Y<|lE h λiA oH h=>ad _ Y Y oH<|bE h λjg qP h=>cl (iK qP) ⟨Y,Y,ak⟩<|lE h λgX oY h=>cv _ Y (UK.conv oY)<|lE h λjG nO h=>RT.mul .none _ Y Y T (UK.mul (a:=gX) (b:=65536) nO) ?_
 refine lE h λjH rV h=>ad _ Y Y (UK.add (a:=jl) (b:=jG) rV)<|bl (l:=[jH]) (e:=bh) (.one Y (.nil)) Y Y Y Y Y Y<|bE h λkT uO h=>aR (k:=[jH]) (e:=bh) Y Y Y uO<|an (s:=.row _) Y<|RT.done<|bF.n<|aW.n<|aX<|mv Y<|lE h λei jx h=>ad _ Y Y jx<|ag Y<|RT.done ?_
 obtain rfl:=O h
 exact aW.n ⟨(ei,kT),vC _ Y,cD (λi=>bif Nat.beq i 306 then 28 else i) Y Y Y Y Y ⟨.sv aq,.sv aq,.ptr,.row Y,.sv aq,ak⟩ ⟨⟨_,Y,⟨.sv aq,.sv aq,ak⟩⟩,ak⟩ ⟨⟨_,Y,cg.refl _⟩,ak⟩ (λi hi=>by rw[bV (show i≠306 by omega)];rfl)⟩
 subst vB
 try dsimp only
 refine aW.n<|qq ?_
 refine bJ jo (λj9=>AS.cj 37 [(4,.ptr 4 0)] [(4,⟨41,[ai j9,.sv (slc 1 (List.map bh dj))]⟩)] []) (λjo=>?_) (λXo jo=>?_)
 refine bR (cV (i:=306) (E1:=130) (n:=1) (e:=bh) (l:=dj) Y)<|aX<|mv Y<|mv Y<|bE jo λXp Dj jo=>?_
 cases x0
 obtain rfl:=O (F Dj)
 exact ww<|ww<|ww<|pF Y<|mv Y<|bI (cs:=[_,_]) (cs':=[ay false,slc 1 (List.map bh dj)]) (.one Y (.one Y (.nil))) ⟨aq,aq,ak⟩<|so Y Y Y<|dn<|⟨false,jo,wR []⟩
 refine gm Y<|lE (V Dj) λiP pW Dj=>gn Y pW<|lE Dj λoD xp Dj=>gg _ Y Y xp ?_
 obtain rfl:=O Dj
 exact pT Y<|mv Y<|bI (cs:=[_,_]) (cs':=[ay oD,slc 1 (List.map bh dj)]) (.one Y (.one Y (.nil))) ⟨aq,aq,ak⟩<|so Y Y Y<|dn<|⟨oD,jo,wR []⟩
 try dsimp only
 refine aW.n<|bf ?_
 obtain rfl:=O jo
 exact RZ (.agg Y Y (.k2 Y Y) Y (.nil))
theorem Bs{x0:Zr}{r:Zr}(h:kZ x0=some r):Pure af 113 [.agg (eZ x0)] (.agg (eZ r)):=by
 obtain⟨bk,bn⟩:=x0
 refine bj Tryz.func113 Y (ae Y) (λdw M vs hvs=>?_)
 unfold kZ at h
 refine sr<|bx Y<|al (cs:=[ay false,au]) (by exact⟨aq,aB,ak⟩) Y<|dn<|qq<|aZ mixed<|fa Y Y<|lV Y Y Y<|fa Y Y<|lV Y Y Y<|bE h λx7 h7 h=>cl (dz h7) ⟨Y,ak⟩ ?_
 obtain⟨⟨rZ,r5⟩,h8,h⟩:=bS h
 refine cl (jA h8) ⟨Y,Y,ak⟩<|so Y Y Y ?_
 refine RT.done ⟨by kernel_rfl,?_⟩
 refine aW.n<|bf ?_
 obtain rfl:=O h
 exact RZ (.agg Y Y (.k2 Y Y) Y (.nil))
theorem CG{x0:Zr}{x1:Zr}{r:Bool}(h:oL x0 x1=some r):Pure af 122 [.agg (eZ x0),.agg (eZ x1)] (ay r):=by
 obtain⟨bk,bn⟩:=x0
 obtain⟨cu,cm⟩:=x1
 refine bj Tryz.func122 Y (ae Y) (λdw M vs hvs=>?_)
 unfold oL at h
 refine sr<|bx Y<|bx Y<|ag Y<|dn<|qq<|qq ?_
 refine bJ h (λj3=>AS.cj 38 [(2,.ptr 2 0),(3,.ptr 3 0),(19,ai j3)] [(3,⟨41,[ai cu,.sv (slc 1 (List.map bh cm))]⟩),(2,⟨41,[ai bk,.sv (slc 1 (List.map bh bn))]⟩)] []) (λh=>?_) (λXq h=>?_)
 refine aX<|fa Y Y<|lV Y Y Y<|fa Y Y<|lV Y Y Y<|lE h λdI gC h=>RT.T9 .none _ Y Y T gC<|mv Y<|bE h λXr Dj h=>?_
 cases dI
 refine RT.fieldAddr (.some Y Y) Y T Y<|RT.yy (.some Y Y) Y Y Y T<|lE (F Dj) λei jx Dj=>gn Y jx<|RT.fieldAddr (.some Y Y) Y T Y<|RT.yy (.some Y Y) Y Y Y T<|lE Dj λdX jO Dj=>gn Y jO<|lE Dj λeX jK Dj=>gq _ Y Y (JY (p:=ei) (q:=dX) jK) ?_
 obtain rfl:=O Dj
 exact pF Y<|dn<|⟨eX,h,wR []⟩
 obtain rfl:=O (V Dj)
 exact ww<|ww<|ww<|ww<|ww<|ww<|ww<|pT Y<|dn<|⟨true,h,wR []⟩
 try dsimp only
 refine aW.n ?_
 cases Xq
 refine fs<|qq<|sr<|ag Y<|dn<|bE (F h) λe9 hl9 ho9=>?_
 refine bK (λ(xe9:Unit)=>AS.cj 38 [] [] []) (λxe9=>.inl xe9=e9) ?_ (λxe9 hx9=>?_)
 refine aY ?_
 refine bL hl9 (λs9=>AS.cj 38 [(2,.ptr 2 0),(3,.ptr 3 0),(5,ah s9)] [(3,⟨41,[ai cu,.sv (slc 1 (List.map bh cm))]⟩),(2,⟨41,[ai bk,.sv (slc 1 (List.map bh bn))]⟩)] []) (wR []) (λGH y9 G9 h hG9 hE9=>?_)
 try dsimp only
 refine qq<|sr<|mv Y<|fa Y Y<|lV Y Y Y<|lE h λjg qP h=>ln Y qP<|lE h λgX oY h=>ls _ Y Y oY<|dn ?_
 cases gX
 refine cF<|bN<|aW.x<|aW.x<|bF.x<|aW.n ?_
 obtain rfl:=O (F h)
 exact⟨(),hE9 _ Y,wR []⟩
 refine cT<|bw<|aW.n<|qq<|aY<|qq<|aZ mixed<|fa Y Y<|lV Y Y Y<|mv Y<|bE (V h) λoF vD h=>ix Y Y vD<|lr Y Y<|fa Y Y<|lV Y Y Y<|mv Y<|bE h λku vE h=>ix Y Y vE<|lr Y Y<|lE h λuG DW h=>ne _ Y Y (neN (p:=oF) (q:=ku) DW) ?_
 refine RT.done ⟨by kernel_rfl,?_⟩
 refine aW.n ?_
 cases uG
 refine cF<|bw<|bF.n<|aW.n<|aX<|mv Y<|lE (F h) λjH rV h=>ad _ Y Y rV<|ag Y<|RT.done ?_
 obtain rfl:=O h
 exact aW.n ⟨jH,hG9 _ Y,wR []⟩
 refine cT<|sr<|ag Y<|dn<|bf<|bF.r<|aW.r ?_
 obtain rfl:=O (V h)
 have he9:=hE9 _ Y
 subst he9
 refine aW.r<|bF.r<|aW.r<|aW.r ?_
 obtain rfl:=O ho9
 exact R1 Y
 subst hx9
 try dsimp only
 refine aW.n<|sr<|ag Y<|dn<|bf ?_
 obtain rfl:=O ho9
 exact R1 Y
 refine cT<|sr<|ag Y<|dn<|bf<|aW.r ?_
 obtain rfl:=O (V h)
 exact R1 Y
theorem CH{x0:Int}{r:Zr}(h:oM x0=some r):Pure af 63 [ax x0] (.agg (eZ r)):=by
 refine bj Tryz.func63 Y (ae Y) (λdw M vs hvs=>?_)
 unfold oM at h
 refine sr<|al (cs:=[ay false,au]) (by exact⟨aq,aB,ak⟩) Y<|dn<|sr<|mv Y<|lE h λx5 h5 h=>cv _ Y (UK.conv h5)<|ag Y<|dn<|qq<|sr<|mv Y<|lE h λx7 h7 h=>ls _ Y Y h7<|dn ?_
 refine bJ h (λj2=>AS.cj 21 [(0,ah x0),(2,.ptr 2 0),(3,.sv (.v (.int .u64 ((j2:Nat):Int))))] [(2,⟨41,[ai false,.sv au]⟩)] []) (λh=>?_) (λOH h=>?_)
 cases x7
 exact fs<|⟨x5,(F h),wR []⟩
 exact cT<|aX<|mv Y<|lE (V h) λx9 h9 h=>RT.neg .none _ Y T (UK.neg h9)<|ag Y<|dn<|⟨x9,h,wR []⟩
 try dsimp only
 refine aW.n<|sr<|mv Y<|lE h λfz lp h=>ls _ Y Y lp<|mv Y<|lE h λeD iF h=>RT.rem .none _ Y Y T (by decide) (ace (a:=OH) (b:=4294967296) iF)<|lE h λei jx h=>cv _ Y (UK.nat jx)<|mv Y<|lE h λfB lq h=>RT.quo .none _ Y Y T (by decide) (UK.aiz (a:=OH) (b:=4294967296) lq)<|lE h λdX jO h=>cv _ Y (UK.nat jO)<|bl (l:=[ei,dX]) (e:=bh) (.one Y (.one Y (.nil))) Y Y Y Y Y Y<|bI (cs:=[_,_]) (cs':=[ay fz,slc 1 (List.map bh [ei,dX])]) (.one Y (.one Y (.nil))) ⟨aq,aq,ak⟩ ?_
 obtain⟨⟨Af,Ag⟩,oG,h⟩:=bS h
 refine cl (Bs oG) ⟨Y,ak⟩<|so Y Y Y<|dn<|bf ?_
 obtain rfl:=O h
 exact RZ (.agg Y Y (.k2 Y Y) Y (.nil))
end
end Go.Proofs.YtningmnklfpfjaaGreat
