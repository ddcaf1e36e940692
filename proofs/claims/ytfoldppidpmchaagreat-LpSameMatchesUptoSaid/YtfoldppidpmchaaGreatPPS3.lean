/- A part of the proof: the framework, the plain functions, the followed functions, the plain laws. -/
import Derived.Test.YtfoldppidpmchaaGreatPPS2
set_option linter.unusedVariables false
set_option linter.unusedSimpArgs false
namespace Go.Proofs.YtfoldppidpmchaaGreat
section
open Go.Fw Go.Fw.Z Go.RowKit
abbrev ME:List (Value×Value):=[(.int .u8 43,.agg #[.func (.func 126) #[] #[]]),(.int .u8 45,.agg #[.func (.func 128) #[] #[]]),(.int .u8 42,.agg #[.func (.func 130) #[] #[]]),(.int .u8 47,.agg #[.func (.func 131) #[] #[]])]
theorem kj:Pure af 102 [] (L1 ME):=by
 refine bj Tryz.func102 Y (ae Y) (λdm M vs hvs=>?_)
 refine bz<|aW<|RT.wA .none Y T<|RT.done<|aV.n<|bz<|O0 (ae Y) Y Y Y (λS' h0=>?_)
 exact bf (R1 h0)
theorem tf{x0:Zr}{x1:Zr}{x2:Zr}{x3:Zr}(N:Nat){r:Zr×Zr}(h:gW x0 x1 x2 x3=some r):dU af 126 N [.agg (eZ x0),.agg (eZ x1),.agg (eZ x2),.agg (eZ x3)] (.BW [.agg ((fZ N) r.1),.agg ((fZ N) r.2)]):=by
 obtain⟨bp,bn⟩:=x0
 obtain⟨bU,bR⟩:=x1
 obtain⟨sY,sZ⟩:=x2
 obtain⟨Cq,Cr⟩:=x3
 refine bP Tryz.func126 Y (ae Y) (λdm M vs hN hvs=>?_)
 unfold gW at h
 refine sr<|bx Y<|bx Y<|bx Y<|bx Y<|al (cs:=[ay false,nw N au]) (by exact⟨aq,bw,ak⟩) Y<|al (cs:=[ay false,nw N au]) (by exact⟨aq,bw,ak⟩) Y<|dn<|qq<|aZ mixed<|ld Y Y (.k2 Y Y)<|ld Y Y (.k2 Y Y) ?_
 obtain⟨⟨jq,iZ⟩,fz,h⟩:=bS h
 refine RT.bQ .none (fB N fz) hN Y ⟨Y,Y,ak⟩ T<|ld Y Y (.k2 Y Y)<|ld Y Y (.k2 Y Y) ?_
 obtain⟨⟨kX,kY⟩,iN,h⟩:=bS h
 refine RT.bQ .none (fB N iN) hN Y ⟨Y,Y,ak⟩ T ?_
 obtain⟨⟨jl,jm⟩,jo,h⟩:=bS h
 refine RT.bQ .none ((DU N jo).w (args':=[_,_]) ⟨(SV.dz (show cH [ay jq,nw N (slc 1 (List.map aX iZ))] _ from⟨aq,dw,ak⟩)),(SV.dz (show cH [ay kX,nw N (slc 1 (List.map aX kY))] _ from⟨aq,dw,ak⟩)),ak⟩) hN Y ⟨Y,Y,ak⟩ T<|ld Y Y (.k2 Y Y)<|ld Y Y (.k2 Y Y) ?_
 obtain⟨⟨gx,gy⟩,lX,h⟩:=bS h
 refine RT.bQ .none (fB N lX) hN Y ⟨Y,Y,ak⟩ T<|so Y Y Y<|so Y Y Y ?_
 refine RT.done ⟨by kernel_rfl,?_⟩
 refine aV.n<|bf ?_
 obtain rfl:=O h
 exact RZ (.agg Y Y (.k2 Y Y) Y (.agg Y Y (.k2 Y Y) Y (.nil)))
theorem tg{x0:Zr}{x1:Zr}{x2:Zr}{x3:Zr}(N:Nat){r:Zr×Zr}(h:gX x0 x1 x2 x3=some r):dU af 128 N [.agg (eZ x0),.agg (eZ x1),.agg (eZ x2),.agg (eZ x3)] (.BW [.agg ((fZ N) r.1),.agg ((fZ N) r.2)]):=by
 obtain⟨bp,bn⟩:=x0
 obtain⟨bU,bR⟩:=x1
 obtain⟨sY,sZ⟩:=x2
 obtain⟨Cq,Cr⟩:=x3
 refine bP Tryz.func128 Y (ae Y) (λdm M vs hN hvs=>?_)
 unfold gX at h
 refine sr<|bx Y<|bx Y<|bx Y<|bx Y<|al (cs:=[ay false,nw N au]) (by exact⟨aq,bw,ak⟩) Y<|al (cs:=[ay false,nw N au]) (by exact⟨aq,bw,ak⟩) Y<|dn<|qq<|aZ mixed<|ld Y Y (.k2 Y Y)<|ld Y Y (.k2 Y Y) ?_
 obtain⟨⟨jq,iZ⟩,fz,h⟩:=bS h
 refine RT.bQ .none (fB N fz) hN Y ⟨Y,Y,ak⟩ T<|ld Y Y (.k2 Y Y)<|ld Y Y (.k2 Y Y) ?_
 obtain⟨⟨kX,kY⟩,iN,h⟩:=bS h
 refine RT.bQ .none (fB N iN) hN Y ⟨Y,Y,ak⟩ T ?_
 obtain⟨⟨jl,jm⟩,jo,h⟩:=bS h
 refine RT.bQ .none ((DV N jo).w (args':=[_,_]) ⟨(SV.dz (show cH [ay jq,nw N (slc 1 (List.map aX iZ))] _ from⟨aq,dw,ak⟩)),(SV.dz (show cH [ay kX,nw N (slc 1 (List.map aX kY))] _ from⟨aq,dw,ak⟩)),ak⟩) hN Y ⟨Y,Y,ak⟩ T<|ld Y Y (.k2 Y Y)<|ld Y Y (.k2 Y Y) ?_
 obtain⟨⟨gx,gy⟩,lX,h⟩:=bS h
 refine RT.bQ .none (fB N lX) hN Y ⟨Y,Y,ak⟩ T<|so Y Y Y<|so Y Y Y ?_
 refine RT.done ⟨by kernel_rfl,?_⟩
 refine aV.n<|bf ?_
 obtain rfl:=O h
 exact RZ (.agg Y Y (.k2 Y Y) Y (.agg Y Y (.k2 Y Y) Y (.nil)))
theorem th{x0:Zr}{x1:Zr}{x2:Zr}{x3:Zr}(N:Nat){r:Zr×Zr}(h:gY x0 x1 x2 x3=some r):dU af 130 N [.agg (eZ x0),.agg (eZ x1),.agg (eZ x2),.agg (eZ x3)] (.BW [.agg ((fZ N) r.1),.agg ((fZ N) r.2)]):=by
 obtain⟨bp,bn⟩:=x0
 obtain⟨bU,bR⟩:=x1
 obtain⟨sY,sZ⟩:=x2
 obtain⟨Cq,Cr⟩:=x3
 refine bP Tryz.func130 Y (ae Y) (λdm M vs hN hvs=>?_)
 unfold gY at h
 refine sr<|bx Y<|bx Y<|bx Y<|bx Y<|al (cs:=[ay false,nw N au]) (by exact⟨aq,bw,ak⟩) Y<|al (cs:=[ay false,nw N au]) (by exact⟨aq,bw,ak⟩) Y<|dn<|qq<|aZ mixed<|ld Y Y (.k2 Y Y)<|ld Y Y (.k2 Y Y) ?_
 obtain⟨⟨jq,iZ⟩,fz,h⟩:=bS h
 refine RT.bQ .none (fB N fz) hN Y ⟨Y,Y,ak⟩ T<|ld Y Y (.k2 Y Y)<|ld Y Y (.k2 Y Y) ?_
 obtain⟨⟨kX,kY⟩,iN,h⟩:=bS h
 refine RT.bQ .none (fB N iN) hN Y ⟨Y,Y,ak⟩ T<|so Y Y Y<|so Y Y Y ?_
 refine RT.done ⟨by kernel_rfl,?_⟩
 refine aV.n<|bf ?_
 obtain rfl:=O h
 exact RZ (.agg Y Y (.k2 Y Y) Y (.agg Y Y (.k2 Y Y) Y (.nil)))
theorem eL{x0:Qr}{r:Zr×Zr}(h:dj x0=some r):Pure af 81 [.agg (eQ x0)] (.BW [.agg (eZ r.1),.agg (eZ r.2)]):=by
 obtain⟨⟨bp,bn⟩,⟨bD,bF⟩⟩:=x0
 refine bj Tryz.func81 Y (ae Y) (λdm M vs hvs=>?_)
 unfold dj at h
 refine sr<|bx Y<|al (cs:=[ay false,au]) (by exact⟨aq,aA,ak⟩) Y<|al (cs:=[ay false,au]) (by exact⟨aq,aA,ak⟩) Y<|dn<|qq<|sr<|fa Y Y<|ld Y Y (.k2 Y Y)<|bE h λx6 h6 h=>cl (eK h6) ⟨Y,ak⟩<|dn<|bh<|sr<|lE h λx8 h8 h=>eq _ Y Y (zF (p:=x6) (q:=0) h8) ?_
 refine ag Y<|dn ?_
 cases x8
 refine cF<|sr<|lE (F h) λja lW h=>eq _ Y Y (zF (p:=x6) (q:=(-1)) lW)<|ag Y<|dn ?_
 cases ja
 refine cF<|bu<|bA.n<|aV.n<|qq<|aZ mixed<|fa Y Y<|ld Y Y (.k2 Y Y)<|fa Y Y<|ld Y Y (.k2 Y Y)<|so Y Y Y<|so Y Y Y ?_
 refine RT.done ⟨by kernel_rfl,?_⟩
 refine aV.n<|bf ?_
 obtain rfl:=O (F h)
 exact RZ (.agg Y Y (.k2 Y Y) Y (.agg Y Y (.k2 Y Y) Y (.nil)))
 refine cT<|qq<|aZ mixed<|fa Y Y<|ld Y Y (.k2 Y Y) ?_
 obtain⟨⟨jl,jm⟩,jo,h⟩:=bS (V h)
 refine cl (wZ jo) ⟨Y,ak⟩<|fa Y Y<|ld Y Y (.k2 Y Y) ?_
 obtain⟨⟨gx,gy⟩,lX,h⟩:=bS h
 refine cl (wZ lX) ⟨Y,ak⟩<|so Y Y Y<|so Y Y Y ?_
 refine RT.done ⟨by kernel_rfl,?_⟩
 refine aV.n<|bf<|bA.r<|aV.r ?_
 obtain rfl:=O h
 exact RZ (.agg Y Y (.k2 Y Y) Y (.agg Y Y (.k2 Y Y) Y (.nil)))
 refine cT<|qq<|aZ mixed<|fa Y Y<|ld Y Y (.k2 Y Y) ?_
 obtain⟨⟨FX,FY⟩,kO,h⟩:=bS (V h)
 refine cl (vH kO) ⟨Y,ak⟩<|so Y Y Y<|so Y Y Y ?_
 refine RT.done ⟨by kernel_rfl,?_⟩
 refine aV.n<|bf<|bA.r<|aV.r ?_
 obtain rfl:=O h
 exact RZ (.agg Y Y (.k2 Y Y) Y (.agg Y Y (.k2 Y Y) Y (.nil)))
theorem lq{x0:Zr}{x1:Zr}(N:Nat){r:Qr}(h:fF x0 x1=some r):dU af 101 N [.agg (eZ x0),.agg (eZ x1)] (.agg ((fQ N) r)):=by
 obtain⟨bp,bn⟩:=x0
 obtain⟨bU,bR⟩:=x1
 refine bP Tryz.func101 Y (ae Y) (λdm M vs hN hvs=>?_)
 unfold fF at h
 refine sr<|bx Y<|bx Y<|al (cs:=[ay false,nw N au,ay false,nw N au]) (by exact⟨aq,bw,aq,bw,ak⟩) Y<|dn<|qq<|sr<|ld Y Y (.k2 Y Y)<|bE h λx9 h9 h=>cl (eK h9) ⟨Y,ak⟩<|lE h λdP gA h=>ls _ Y Y gA<|dn ?_
 refine bC h (λj2=>AS.cq 46 [(2,.ptr 2 0),(3,.ptr 3 0),(4,.ptr 4 0)] [(4,⟨36,[ai false,.sv (nw N au),ai false,.sv (nw N au)]⟩),(3,⟨34,[ai j2.1,.sv (slc 1 (List.map aX j2.2.1))]⟩),(2,⟨34,[ai j2.2.2.1,.sv (slc 1 (List.map aX j2.2.2.2))]⟩)] []) (λh=>?_) (λj2 h=>?_)
 cases dP
 exact fs<|⟨(bU,bR,bp,bn),(F h),wR []⟩
 refine cT<|aZ mixed<|ld Y Y (.k2 Y Y) ?_
 obtain⟨⟨jq,iZ⟩,fz,h⟩:=bS (V h)
 refine RT.bQ .none (n5 N fz) hN Y ⟨Y,ak⟩ T<|ld Y Y (.k2 Y Y) ?_
 obtain⟨⟨A5,A6⟩,jc,h⟩:=bS h
 refine RT.bQ .none (n5 N jc) hN Y ⟨Y,ak⟩ T<|so Y Y Y<|so Y Y Y ?_
 refine RT.done ⟨by kernel_rfl,?_⟩
 exact aV.n<|⟨(A5,A6,jq,iZ),h,c6 id Y Y Y Y Y ⟨.ptr,.ptr,.ptr,ak⟩ ⟨⟨_,Y,⟨.sv aq,.sv aq,.sv aq,.sv aq,ak⟩⟩,⟨_,Y,⟨.sv aq,.sv dw,ak⟩⟩,⟨_,Y,⟨.sv aq,.sv dw,ak⟩⟩,ak⟩ trivial (λ_ _=>Y)⟩
 obtain⟨Ih,Ii,Ij,Ik⟩:=j2
 try dsimp only
 refine aV.n<|sr<|ld Y Y (.k2 Y Y)<|ld Y Y (.k2 Y Y) ?_
 obtain⟨⟨kZ,k7⟩,jb,h⟩:=bS h
 refine RT.bQ .none (DX N jb) hN Y ⟨Y,Y,ak⟩ T<|al (cs:=[ay false,nw N au]) (by exact⟨aq,bw,ak⟩) Y<|so Y Y Y<|dn<|sr<|ld Y Y (.k2 Y Y)<|ld Y Y (.k2 Y Y) ?_
 obtain⟨⟨⟨A3,A4⟩,⟨TF,TG⟩,abh⟩,mZ,h⟩:=bS h
 refine RT.bQ .none ((rP N mZ).w (args':=[_,_]) ⟨aq,(SV.dz (show cH [ay kZ,nw N (slc 1 (List.map aX k7))] _ from⟨aq,dw,ak⟩)),ak⟩) hN Y ⟨Y,Y,ak⟩ T<|mv Y<|ex Y Y<|ex Y Y<|ex Y Y<|so Y Y Y<|dn<|sr<|ld Y Y (.k2 Y Y)<|ld Y Y (.k2 Y Y) ?_
 obtain⟨⟨⟨yq,yt⟩,⟨TH,TI⟩,abi⟩,vD,h⟩:=bS h
 refine RT.bQ .none ((rP N vD).w (args':=[_,_]) ⟨aq,(SV.dz (show cH [ay kZ,nw N (slc 1 (List.map aX k7))] _ from⟨aq,dw,ak⟩)),ak⟩) hN Y ⟨Y,Y,ak⟩ T<|mv Y<|ex Y Y<|ex Y Y<|ex Y Y<|so Y Y Y<|dn<|qq<|sr<|ld Y Y (.k2 Y Y) ?_
 obtain⟨⟨TJ,TK⟩,sW,h⟩:=bS h
 refine cl ((fX sW).w (args':=[_]) ⟨(SV.dz (show cH [ay yq,nw N (slc 1 (List.map aX yt))] _ from⟨aq,dw,ak⟩)),ak⟩) ⟨Y,ak⟩<|mv Y<|ex Y Y<|ex Y Y<|ag Y<|ag Y<|dn<|qq ?_
 refine bC h (λj5=>AS.cq 46 [(2,.ptr 2 0),(3,.ptr 3 0),(4,.ptr 4 0),(41,ai j5)] [(4,⟨36,[ai false,.sv (nw N au),ai false,.sv (nw N au)]⟩),(3,⟨34,[ai yq,.sv (nw N (slc 1 (List.map aX yt)))]⟩),(2,⟨34,[ai A3,.sv (nw N (slc 1 (List.map aX A4)))]⟩)] []) (λh=>?_) (λMs h=>?_)
 refine aW<|mv Y<|mv Y<|bE h λRd Bb h=>?_
 cases TK
 obtain rfl:=O (F Bb)
 exact ww<|ww<|pF Y<|dn<|⟨false,h,wR []⟩
 refine gm Y<|lE (V Bb) λnY u0 Bb=>Tc _ Y Y (zF (p:=TJ) (q:=1) u0) ?_
 obtain rfl:=O Bb
 exact pT Y<|dn<|⟨nY,h,wR []⟩
 try dsimp only
 refine aV.n ?_
 refine bC h (λj7=>AS.cq 46 [(2,.ptr 2 0),(3,.ptr 3 0),(4,.ptr 4 0)] [(4,⟨36,[ai false,.sv (nw N au),ai false,.sv (nw N au)]⟩),(3,⟨34,[ai j7.1,.sv (nw N (slc 1 (List.map aX j7.2)))]⟩),(2,⟨34,[ai A3,.sv (nw N (slc 1 (List.map aX A4)))]⟩)] []) (λh=>?_) (λj7 h=>?_)
 cases Ms
 exact fs<|⟨(yq,yt),(F h),wR []⟩
 exact cT<|aW<|bI (cs:=[_,_]) (cs':=[ay false,nw N au]) (.nil) ⟨aq,bw,ak⟩<|so Y Y Y<|dn<|⟨(false,[]),(V h),wR []⟩
 obtain⟨Il,Im⟩:=j7
 try dsimp only
 refine aV.n<|sr<|ld Y Y (.k2 Y Y)<|ld Y Y (.k2 Y Y)<|bI (cs:=[_,_,_,_]) (cs':=[ay A3,nw N (slc 1 (List.map aX A4)),ay Il,nw N (slc 1 (List.map aX Im))]) (.agg Y (.agg Y (.nil))) ⟨aq,aq,aq,aq,ak⟩<|so Y Y Y<|dn<|bf ?_
 obtain rfl:=O h
 exact RZ (.agg Y Y (.k4 Y Y Y Y) Y (.nil))
theorem gP{x0:Qr}{r:Int×Int×Bool}(h:ei x0=some r):Pure af 65 [.agg (eQ x0)] (.BW [ax r.1,ax r.2.1,ay r.2.2]):=by
 obtain⟨⟨bp,bn⟩,⟨bD,bF⟩⟩:=x0
 refine bj Tryz.func65 Y (ae Y) (λdm M vs hvs=>?_)
 unfold ei at h
 refine sr<|bx Y<|ag Y<|ag Y<|ag Y<|dn<|sr<|fa Y Y<|ld Y Y (.k2 Y Y) ?_
 obtain⟨⟨DY,KE⟩,gA,h⟩:=bS h
 refine cl (fX gA) ⟨Y,ak⟩<|mv Y<|ex Y Y<|ex Y Y<|ag Y<|ag Y<|dn<|sr<|fa Y Y<|ld Y Y (.k2 Y Y) ?_
 obtain⟨⟨Cs,Xf⟩,jo,h⟩:=bS h
 refine cl (fX jo) ⟨Y,ak⟩<|mv Y<|ex Y Y<|ex Y Y<|ag Y<|ag Y<|dn<|qq<|qq ?_
 refine bC h (λj21=>AS.cq 53 [(2,ah DY),(3,ah Cs),(40,ai j21)] [] []) (λh=>?_) (λIo h=>?_)
 refine aW<|mv Y<|lE h λke qw h=>nt Y _ qw<|mv Y<|bE h λMv Pe h=>?_
 cases ke
 refine gm Y<|lE (F Pe) λiQ o6 Pe=>gt_ Y _ o6 ?_
 obtain rfl:=O Pe
 refine pF Y<|mv Y<|bE h λabk Pf h=>?_
 cases iQ
 refine gm Y<|lE (F Pf) λiL o4 Pf=>RT.leq (.some Y Y) _ Y Y T o4 ?_
 obtain rfl:=O Pf
 refine pF Y<|mv Y<|bE h λabl Pg h=>?_
 cases iL
 refine gm Y<|lE (F Pg) λoh yY Pg=>RT.geq (.some Y Y) _ Y Y T yY ?_
 obtain rfl:=O Pg
 refine pF Y<|mv Y<|bE h λabm Ph h=>?_
 cases oh
 refine gm Y<|lE (F Ph) λr6 A0 Ph=>RT.leq (.some Y Y) _ Y Y T A0 ?_
 obtain rfl:=O Ph
 refine pF Y<|mv Y<|bE h λabn Pj h=>?_
 cases r6
 refine gm Y<|lE (F Pj) λpU Cp Pj=>RT.geq (.some Y Y) _ Y Y T Cp ?_
 obtain rfl:=O Pj
 exact pF Y<|dn<|⟨pU,h,wR []⟩
 obtain rfl:=O (V Pj)
 exact ww<|ww<|pT Y<|dn<|⟨true,h,wR []⟩
 obtain rfl:=O (V Ph)
 refine ww<|ww<|pT Y<|mv Y<|bE h λabo abp h=>?_
 obtain rfl:=O (V abp)
 exact ww<|ww<|pT Y<|dn<|⟨true,h,wR []⟩
 obtain rfl:=O (V Pg)
 refine ww<|ww<|pT Y<|mv Y<|bE h λabq abr h=>?_
 obtain rfl:=O (V abr)
 refine ww<|ww<|pT Y<|mv Y<|bE h λabt abu h=>?_
 obtain rfl:=O (V abu)
 exact ww<|ww<|pT Y<|dn<|⟨true,h,wR []⟩
 obtain rfl:=O (V Pf)
 refine ww<|ww<|pT Y<|mv Y<|bE h λabv abw h=>?_
 obtain rfl:=O (V abw)
 refine ww<|ww<|pT Y<|mv Y<|bE h λabx aby h=>?_
 obtain rfl:=O (V aby)
 refine ww<|ww<|pT Y<|mv Y<|bE h λabz yx h=>?_
 obtain rfl:=O (V yx)
 exact ww<|ww<|pT Y<|dn<|⟨true,h,wR []⟩
 obtain rfl:=O (V Pe)
 refine ww<|ww<|pT Y<|mv Y<|bE h λabA vI h=>?_
 obtain rfl:=O (V vI)
 refine ww<|ww<|pT Y<|mv Y<|bE h λabB zM h=>?_
 obtain rfl:=O (V zM)
 refine ww<|ww<|pT Y<|mv Y<|bE h λabC KG h=>?_
 obtain rfl:=O (V KG)
 refine ww<|ww<|pT Y<|mv Y<|bE h λabD KH h=>?_
 obtain rfl:=O (V KH)
 exact ww<|ww<|pT Y<|dn<|⟨true,h,wR []⟩
 try dsimp only
 refine aV.n ?_
 cases Io
 refine fs<|qq<|bh<|sr<|mv Y<|lE (F h) λHA Oq h=>eq _ Y Y (zF (p:=Cs) (q:=0) Oq)<|ag Y<|dn ?_
 refine bC h (λVE=>AS.cq 53 [(2,ah VE.1),(3,ah VE.2)] [] []) (λh=>?_) (λVE h=>?_)
 cases HA
 refine cF<|sr<|mv Y<|lE (F h) λrN h46 h=>ls _ Y Y h46<|ag Y<|dn ?_
 refine bC h (λVF=>AS.cq 53 [(2,ah VF.1),(3,ah VF.2)] [] []) (λh=>?_) (λVF h=>?_)
 cases rN
 exact fs<|⟨(DY,Cs),(F h),wR []⟩
 exact cT<|aW<|mv Y<|lE (V h) λyf h48 h=>RT.neg .none _ Y T h48<|mv Y<|lE h λuW Ib h=>RT.neg .none _ Y T Ib<|ag Y<|ag Y<|dn<|⟨(yf,uW),h,wR []⟩
 obtain⟨Mt,Mu⟩:=VF
 try dsimp only
 exact aV.n<|⟨(Mt,Mu),h,wR []⟩
 exact cT<|aW<|ag Y<|dn<|⟨(DY,1),(V h),wR []⟩
 obtain⟨Re,Rf⟩:=VE
 try dsimp only
 refine bA.n<|aV.n<|sr<|mv Y<|mv Y<|ag Y<|ag Y<|ag Y<|dn<|bf ?_
 obtain rfl:=O h
 exact RZ (.tmp Y (.tmp Y (.tmp Y (.nil))))
 refine cT<|sr<|ag Y<|ag Y<|ag Y<|dn<|bf<|aV.r ?_
 obtain rfl:=O (V h)
 exact RZ (.tmp Y (.tmp Y (.tmp Y (.nil))))
theorem mJ{x0:Int}{x1:Int}(N:Nat){r:Qr}(h:gG x0 x1=some r):dU af 66 N [ax x0,ax x1] (.agg ((fQ N) r)):=by
 refine bP Tryz.func66 Y (ae Y) (λdm M vs hN hvs=>?_)
 unfold gG at h
 refine sr<|al (cs:=[ay false,nw N au,ay false,nw N au]) (by exact⟨aq,bw,aq,bw,ak⟩) Y<|dn<|sr<|mv Y<|mv Y<|ag Y<|ag Y<|dn<|qq<|bE h λe6 AX jX=>?_
 refine bL (λ(uI:Int)=>AS.cq 36 [(0,ah x0),(1,ah x1),(4,.ptr 4 0),(5,ah uI)] [(4,⟨36,[ai false,.sv (nw N au),ai false,.sv (nw N au)]⟩)] []) (λuI=>uI=e6) ?_ (λuI AY=>?_)
 refine bh ?_
 refine bM AX (λs6=>AS.cq 36 [(0,ah x0),(1,ah x1),(4,.ptr 4 0),(5,ah s6.1),(6,ah s6.2)] [(4,⟨36,[ai false,.sv (nw N au),ai false,.sv (nw N au)]⟩)] []) (wR []) (λs6 y6 G6 h AZ wU=>?_)
 obtain⟨nG,rZ⟩:=s6
 try dsimp only
 refine qq<|sr<|mv Y<|lE h λdP gA h=>ne _ Y Y (HQ (p:=rZ) (q:=0) gA)<|dn ?_
 cases dP
 refine cF<|bO<|aV.x<|aV.x<|bA.x<|aV.n ?_
 obtain rfl:=O (F h)
 exact⟨nG,wU _ Y,wR []⟩
 refine cT<|bu<|aV.n<|bh<|aZ mixed<|mv Y<|mv Y<|mv Y<|bE (V h) λdW jc h=>RT.rem .none _ Y Y T (SY jc) (SZ jc)<|ag Y<|ag Y ?_
 refine RT.done ⟨by kernel_rfl,?_⟩
 refine bA.n ?_
 obtain rfl:=O h
 exact aV.n ⟨(rZ,dW),AZ _ Y,wR []⟩
 subst AY
 try dsimp only
 refine aV.n<|qq<|sr<|mv Y<|lE jX λfy jo jX=>ls _ Y Y jo<|dn ?_
 refine bC jX (λj8=>AS.cq 36 [(0,ah x0),(1,ah x1),(4,.ptr 4 0),(5,ah j8)] [(4,⟨36,[ai false,.sv (nw N au),ai false,.sv (nw N au)]⟩)] []) (λjX=>?_) (λKF jX=>?_)
 cases fy
 exact fs<|⟨uI,(F jX),wR []⟩
 exact cT<|aW<|mv Y<|lE (V jX) λeI jP jX=>RT.neg .none _ Y T jP<|ag Y<|dn<|⟨eI,jX,wR []⟩
 try dsimp only
 refine aV.n<|qq<|sr<|mv Y<|mv Y<|lE jX λgO mZ jX=>eq _ Y Y (zF (p:=KF) (q:=x1) mZ)<|dn ?_
 cases gO
 refine fs<|qq<|aZ mixed<|mv Y<|mv Y<|bE (F jX) λir mI jX=>RT.quo .none _ Y Y T (Wj mI) (LW mI) ?_
 obtain⟨⟨wQ,wS⟩,Co,jX⟩:=bS jX
 refine RT.bQ .none (dM N Co) hN Y ⟨Y,ak⟩ T<|mv Y<|mv Y<|bE jX λmS va jX=>RT.quo .none _ Y Y T (Wj va) (LW va) ?_
 obtain⟨⟨Mw,My⟩,sW,jX⟩:=bS jX
 refine RT.bQ .none (dM N sW) hN Y ⟨Y,ak⟩ T<|bI (cs:=[_,_,_,_]) (cs':=[ay wQ,nw N (slc 1 (List.map aX wS)),ay Mw,nw N (slc 1 (List.map aX My))]) (.agg Y (.agg Y (.nil))) ⟨aq,aq,aq,aq,ak⟩<|so Y Y Y ?_
 refine RT.done ⟨by kernel_rfl,?_⟩
 refine aV.n<|bf ?_
 obtain rfl:=O jX
 exact RZ (.agg Y Y (.k4 Y Y Y Y) Y (.nil))
 refine cT<|sr<|mv Y<|mv Y<|bE (V jX) λgV o5 jX=>RT.quo .none _ Y Y T (Wj o5) (LW o5) ?_
 obtain⟨⟨sJ,rO⟩,oE,jX⟩:=bS jX
 refine RT.bQ .none (dM N oE) hN Y ⟨Y,ak⟩ T<|bI (cs:=[_,_,_,_]) (cs':=[ay sJ,nw N (slc 1 (List.map aX rO)),ay false,nw N au]) (.agg Y (.nil)) ⟨aq,aq,aq,bw,ak⟩<|so Y Y Y<|dn<|bf<|aV.r ?_
 obtain rfl:=O jX
 exact RZ (.agg Y Y (.k4 Y Y Y Y) Y (.nil))
theorem D0{x0:Int}{r:Int}(h:pG x0=some r):Pure af 82 [ax x0] (ax r):=by
 refine bj Tryz.func82 Y (ae Y) (λdm M vs hvs=>?_)
 unfold pG at h
 refine sr<|ag Y<|dn<|qq<|bh<|sr<|mv Y<|lE h λx5 h5 h=>ls _ Y Y h5<|ag Y<|dn ?_
 cases x5
 refine cF<|sr<|mv Y<|lE (F h) λx8 h8 h=>gt _ Y Y h8<|ag Y<|dn ?_
 cases x8
 refine cF<|bu<|bA.n<|aV.n<|sr<|ag Y<|dn<|bf ?_
 obtain rfl:=O (F h)
 exact R1 Y
 refine cT<|sr<|ag Y<|dn<|bf<|bA.r<|aV.r ?_
 obtain rfl:=O (V h)
 exact R1 Y
 refine cT<|sr<|ag Y<|dn<|bf<|bA.r<|aV.r ?_
 obtain rfl:=O (V h)
 exact R1 Y
theorem zN{x1:Qr}{x2:Qr}(N:Nat){r:Qr}(h:jr x1 x2=some r):dU af 67 N [.v (.int .u8 ((43:Nat):Int)),.agg (eQ x1),.agg (eQ x2)] (.agg ((fQ N) r)):=by
 obtain⟨⟨bU,bR⟩,⟨dx,dy⟩⟩:=x1
 obtain⟨⟨sY,sZ⟩,⟨FZ,F0⟩⟩:=x2
 refine bP Tryz.func67 Y (ae Y) (λdm M vs hN hvs=>?_)
 unfold jr at h
 refine sr<|bx Y<|bx Y<|al (cs:=[ay false,nw N au,ay false,nw N au]) (by exact⟨aq,bw,aq,bw,ak⟩) Y<|dn<|sr<|ld Y Y (.k4 Y Y Y Y) ?_
 obtain⟨⟨⟨mm,mu⟩,⟨nI,nJ⟩⟩,lW,h⟩:=bS h
 refine cl (eL lW) ⟨Y,ak⟩<|mv Y<|ex Y Y<|ex Y Y<|al (cs:=[ay false,nw N au]) (by exact⟨aq,bw,ak⟩) Y<|al (cs:=[ay false,nw N au]) (by exact⟨aq,bw,ak⟩) Y<|so Y Y Y<|so Y Y Y<|dn<|sr<|ld Y Y (.k4 Y Y Y Y) ?_
 obtain⟨⟨⟨iG,iH⟩,⟨k8,lf⟩⟩,jP,h⟩:=bS h
 refine cl (eL jP) ⟨Y,ak⟩<|mv Y<|ex Y Y<|ex Y Y<|al (cs:=[ay false,nw N au]) (by exact⟨aq,bw,ak⟩) Y<|al (cs:=[ay false,nw N au]) (by exact⟨aq,bw,ak⟩) Y<|so Y Y Y<|so Y Y Y<|dn<|qq<|aZ mixed<|cl kj trivial<|mv Y ?_
 refine RT.look .none [.func (.func 126) #[] #[]] Y Y Y T<|fl Y Y<|ld Y Y (.k2 Y Y)<|ld Y Y (.k2 Y Y)<|ld Y Y (.k2 Y Y)<|ld Y Y (.k2 Y Y) ?_
 obtain⟨⟨⟨oG,oH⟩,⟨oI,oJ⟩⟩,mI,h⟩:=bS h
 refine RT.bQ .none (tf N mI) hN Y ⟨Y,Y,Y,Y,ak⟩ T<|ex Y Y<|ex Y Y ?_
 obtain⟨⟨⟨uZ,sI⟩,⟨y4,y5⟩⟩,o7,h⟩:=bS h
 refine RT.bQ .none ((lq N o7).w (args':=[_,_]) ⟨(SV.dz (show cH [ay oG,nw N (slc 1 (List.map aX oH))] _ from⟨aq,dw,ak⟩)),(SV.dz (show cH [ay oI,nw N (slc 1 (List.map aX oJ))] _ from⟨aq,dw,ak⟩)),ak⟩) hN Y ⟨Y,Y,ak⟩ T<|so Y Y Y ?_
 refine RT.done ⟨by kernel_rfl,?_⟩
 refine aV.n<|bf ?_
 obtain rfl:=O h
 exact RZ (.agg Y Y (.k4 Y Y Y Y) Y (.nil))
theorem zO{x1:Qr}{x2:Qr}(N:Nat){r:Qr}(h:jt x1 x2=some r):dU af 67 N [.v (.int .u8 ((45:Nat):Int)),.agg (eQ x1),.agg (eQ x2)] (.agg ((fQ N) r)):=by
 obtain⟨⟨bU,bR⟩,⟨dx,dy⟩⟩:=x1
 obtain⟨⟨sY,sZ⟩,⟨FZ,F0⟩⟩:=x2
 refine bP Tryz.func67 Y (ae Y) (λdm M vs hN hvs=>?_)
 unfold jt at h
 refine sr<|bx Y<|bx Y<|al (cs:=[ay false,nw N au,ay false,nw N au]) (by exact⟨aq,bw,aq,bw,ak⟩) Y<|dn<|sr<|ld Y Y (.k4 Y Y Y Y) ?_
 obtain⟨⟨⟨mm,mu⟩,⟨nI,nJ⟩⟩,lW,h⟩:=bS h
 refine cl (eL lW) ⟨Y,ak⟩<|mv Y<|ex Y Y<|ex Y Y<|al (cs:=[ay false,nw N au]) (by exact⟨aq,bw,ak⟩) Y<|al (cs:=[ay false,nw N au]) (by exact⟨aq,bw,ak⟩) Y<|so Y Y Y<|so Y Y Y<|dn<|sr<|ld Y Y (.k4 Y Y Y Y) ?_
 obtain⟨⟨⟨iG,iH⟩,⟨k8,lf⟩⟩,jP,h⟩:=bS h
 refine cl (eL jP) ⟨Y,ak⟩<|mv Y<|ex Y Y<|ex Y Y<|al (cs:=[ay false,nw N au]) (by exact⟨aq,bw,ak⟩) Y<|al (cs:=[ay false,nw N au]) (by exact⟨aq,bw,ak⟩) Y<|so Y Y Y<|so Y Y Y<|dn<|qq<|aZ mixed<|cl kj trivial<|mv Y ?_
 refine RT.look .none [.func (.func 128) #[] #[]] Y Y Y T<|fl Y Y<|ld Y Y (.k2 Y Y)<|ld Y Y (.k2 Y Y)<|ld Y Y (.k2 Y Y)<|ld Y Y (.k2 Y Y) ?_
 obtain⟨⟨⟨oG,oH⟩,⟨oI,oJ⟩⟩,mI,h⟩:=bS h
 refine RT.bQ .none (tg N mI) hN Y ⟨Y,Y,Y,Y,ak⟩ T<|ex Y Y<|ex Y Y ?_
 obtain⟨⟨⟨uZ,sI⟩,⟨y4,y5⟩⟩,o7,h⟩:=bS h
 refine RT.bQ .none ((lq N o7).w (args':=[_,_]) ⟨(SV.dz (show cH [ay oG,nw N (slc 1 (List.map aX oH))] _ from⟨aq,dw,ak⟩)),(SV.dz (show cH [ay oI,nw N (slc 1 (List.map aX oJ))] _ from⟨aq,dw,ak⟩)),ak⟩) hN Y ⟨Y,Y,ak⟩ T<|so Y Y Y ?_
 refine RT.done ⟨by kernel_rfl,?_⟩
 refine aV.n<|bf ?_
 obtain rfl:=O h
 exact RZ (.agg Y Y (.k4 Y Y Y Y) Y (.nil))
theorem zP{x1:Qr}{x2:Qr}(N:Nat){r:Qr}(h:ju x1 x2=some r):dU af 67 N [.v (.int .u8 ((42:Nat):Int)),.agg (eQ x1),.agg (eQ x2)] (.agg ((fQ N) r)):=by
 obtain⟨⟨bU,bR⟩,⟨dx,dy⟩⟩:=x1
 obtain⟨⟨sY,sZ⟩,⟨FZ,F0⟩⟩:=x2
 refine bP Tryz.func67 Y (ae Y) (λdm M vs hN hvs=>?_)
 unfold ju at h
 refine sr<|bx Y<|bx Y<|al (cs:=[ay false,nw N au,ay false,nw N au]) (by exact⟨aq,bw,aq,bw,ak⟩) Y<|dn<|sr<|ld Y Y (.k4 Y Y Y Y) ?_
 obtain⟨⟨⟨mm,mu⟩,⟨nI,nJ⟩⟩,lW,h⟩:=bS h
 refine cl (eL lW) ⟨Y,ak⟩<|mv Y<|ex Y Y<|ex Y Y<|al (cs:=[ay false,nw N au]) (by exact⟨aq,bw,ak⟩) Y<|al (cs:=[ay false,nw N au]) (by exact⟨aq,bw,ak⟩) Y<|so Y Y Y<|so Y Y Y<|dn<|sr<|ld Y Y (.k4 Y Y Y Y) ?_
 obtain⟨⟨⟨iG,iH⟩,⟨k8,lf⟩⟩,jP,h⟩:=bS h
 refine cl (eL jP) ⟨Y,ak⟩<|mv Y<|ex Y Y<|ex Y Y<|al (cs:=[ay false,nw N au]) (by exact⟨aq,bw,ak⟩) Y<|al (cs:=[ay false,nw N au]) (by exact⟨aq,bw,ak⟩) Y<|so Y Y Y<|so Y Y Y<|dn<|qq<|aZ mixed<|cl kj trivial<|mv Y ?_
 refine RT.look .none [.func (.func 130) #[] #[]] Y Y Y T<|fl Y Y<|ld Y Y (.k2 Y Y)<|ld Y Y (.k2 Y Y)<|ld Y Y (.k2 Y Y)<|ld Y Y (.k2 Y Y) ?_
 obtain⟨⟨⟨oG,oH⟩,⟨oI,oJ⟩⟩,mI,h⟩:=bS h
 refine RT.bQ .none (th N mI) hN Y ⟨Y,Y,Y,Y,ak⟩ T<|ex Y Y<|ex Y Y ?_
 obtain⟨⟨⟨uZ,sI⟩,⟨y4,y5⟩⟩,o7,h⟩:=bS h
 refine RT.bQ .none ((lq N o7).w (args':=[_,_]) ⟨(SV.dz (show cH [ay oG,nw N (slc 1 (List.map aX oH))] _ from⟨aq,dw,ak⟩)),(SV.dz (show cH [ay oI,nw N (slc 1 (List.map aX oJ))] _ from⟨aq,dw,ak⟩)),ak⟩) hN Y ⟨Y,Y,ak⟩ T<|so Y Y Y ?_
 refine RT.done ⟨by kernel_rfl,?_⟩
 refine aV.n<|bf ?_
 obtain rfl:=O h
 exact RZ (.agg Y Y (.k4 Y Y Y Y) Y (.nil))
end
section
open Go.Fw Go.Fw.Z Go.RowKit
theorem pH{x0:Int}(N:Nat){r:Qr}(h:cZ x0=some r):dU af 54 N [ax x0] (.agg ((fQ N) r)):=by
 refine bP Tryz.func54 Y (ae Y) (λdm M vs hN hvs=>?_)
 unfold cZ at h
 refine sr<|al (cs:=[ay false,nw N au,ay false,nw N au]) (by exact⟨aq,bw,aq,bw,ak⟩) Y<|dn<|sr<|mv Y ?_
 obtain⟨⟨lj,lp⟩,h4,h⟩:=bS h
 refine RT.bQ .none (dM N h4) hN Y ⟨Y,ak⟩ T<|bI (cs:=[_,_,_,_]) (cs':=[ay lj,nw N (slc 1 (List.map aX lp)),ay false,nw N au]) (.agg Y (.nil)) ⟨aq,aq,aq,bw,ak⟩<|so Y Y Y<|dn<|bf ?_
 obtain rfl:=O h
 exact RZ (.agg Y Y (.k4 Y Y Y Y) Y (.nil))
theorem lu{x0:Int}{r:Qr}(h:cZ x0=some r):Pure af 54 [ax x0] (.agg (eQ r)):=fW (λN=>pH N h) (λN=>(SV.dz (qI _ _)))
theorem pI{x0:Qr}(N:Nat){r:Qr}(h:eE x0=some r):dU af 94 N [.agg (eQ x0)] (.agg ((fQ N) r)):=by
 obtain⟨⟨bp,bn⟩,⟨bD,bF⟩⟩:=x0
 refine bP Tryz.func94 Y (ae Y) (λdm M vs hN hvs=>?_)
 unfold eE at h
 refine sr<|bx Y<|al (cs:=[ay false,nw N au,ay false,nw N au]) (by exact⟨aq,bw,aq,bw,ak⟩) Y<|dn<|qq<|sr<|ld Y Y (.k4 Y Y Y Y) ?_
 obtain⟨⟨x8a,x8b,x8c⟩,h8,h⟩:=bS h
 refine cl (gP h8) ⟨Y,ak⟩<|mv Y<|ex Y Y<|ex Y Y<|ex Y Y<|ag Y<|ag Y<|ag Y<|dn<|sr<|mv Y<|dn ?_
 cases x8c
 refine fs<|sr<|ld Y Y (.k4 Y Y Y Y) ?_
 obtain⟨⟨⟨Mz,MA⟩,⟨MB,MC⟩⟩,jb,h⟩:=bS (F h)
 refine cl (eL jb) ⟨Y,ak⟩<|ex Y Y<|ex Y Y ?_
 obtain⟨⟨⟨rQ,rR⟩,⟨w5,w6⟩⟩,qw,h⟩:=bS h
 refine RT.bQ .none (lq N qw) hN Y ⟨Y,Y,ak⟩ T<|so Y Y Y<|dn<|bf ?_
 obtain rfl:=O h
 exact RZ (.agg Y Y (.k4 Y Y Y Y) Y (.nil))
 refine cT<|sr<|mv Y<|mv Y ?_
 obtain⟨⟨⟨kX,kY⟩,⟨F1,F2⟩⟩,iN,h⟩:=bS (V h)
 refine RT.bQ .none (mJ N iN) hN Y ⟨Y,Y,ak⟩ T<|so Y Y Y<|dn<|bf<|aV.r ?_
 obtain rfl:=O h
 exact RZ (.agg Y Y (.k4 Y Y Y Y) Y (.nil))
theorem w8{x0:Qr}{r:Qr}(h:eE x0=some r):Pure af 94 [.agg (eQ x0)] (.agg (eQ r)):=fW (λN=>pI N h) (λN=>(SV.dz (qI _ _)))
theorem qX{x0:Qr}{r:Int}(h:jv x0=some r):Pure af 22 [.agg (eQ x0)] (ax r):=by
 obtain⟨⟨bp,bn⟩,⟨bD,bF⟩⟩:=x0
 refine bj Tryz.func22 Y (ae Y) (λdm M vs hvs=>?_)
 unfold jv at h
 refine sr<|bx Y<|ag Y<|dn<|qq<|sr<|fa Y Y<|ld Y Y (.k2 Y Y)<|bE h λx5 h5 h=>cl (eK h5) ⟨Y,ak⟩<|lE h λx6 h6 h=>ls _ Y Y h6<|dn ?_
 cases x6
 refine fs<|sr<|fa Y Y<|ld Y Y (.k2 Y Y)<|bE (F h) λja lW h=>cl (eK lW) ⟨Y,ak⟩<|ag Y<|dn<|bf ?_
 obtain rfl:=O h
 exact R1 Y
 refine cT<|sr<|fa Y Y<|ld Y Y (.k2 Y Y)<|bE (V h) λx9 h9 h=>cl (eK h9) ⟨Y,ak⟩<|lE h λdP gA h=>RT.neg .none _ Y T gA<|ag Y<|dn<|bf<|aV.r ?_
 obtain rfl:=O h
 exact R1 Y
theorem Ge{x0:Qr}{x1:Qr}(N:Nat){r:Qr}(h:mw x0 x1=some r):dU af 23 N [.agg (eQ x0),.agg (eQ x1)] (.agg ((fQ N) r)):=by
 obtain⟨⟨bp,bn⟩,⟨bD,bF⟩⟩:=x0
 obtain⟨⟨bU,bR⟩,⟨dx,dy⟩⟩:=x1
 refine bP Tryz.func23 Y (ae Y) (λdm M vs hN hvs=>?_)
 unfold mw at h
 refine sr<|bx Y<|bx Y<|al (cs:=[ay false,nw N au,ay false,nw N au]) (by exact⟨aq,bw,aq,bw,ak⟩) Y<|dn<|sr<|ld Y Y (.k4 Y Y Y Y) ?_
 obtain⟨⟨A7,yu,A8⟩,lW,h⟩:=bS h
 refine cl (gP lW) ⟨Y,ak⟩<|mv Y<|ex Y Y<|ex Y Y<|ex Y Y<|ag Y<|ag Y<|ag Y<|dn<|sr<|ld Y Y (.k4 Y Y Y Y) ?_
 obtain⟨⟨A9,yw,Ba⟩,lX,h⟩:=bS h
 refine cl (gP lX) ⟨Y,ak⟩<|mv Y<|ex Y Y<|ex Y Y<|ex Y Y<|ag Y<|ag Y<|ag Y<|dn<|qq<|qq ?_
 refine bC h (λj3=>AS.cq 41 [(2,.ptr 2 0),(3,.ptr 3 0),(4,.ptr 4 0),(5,ah A7),(6,ah yu),(8,ah A9),(9,ah yw),(26,ai j3)] [(4,⟨36,[ai false,.sv (nw N au),ai false,.sv (nw N au)]⟩),(3,⟨36,[ai bU,.sv (slc 1 (List.map aX bR)),ai dx,.sv (slc 1 (List.map aX dy))]⟩),(2,⟨36,[ai bp,.sv (slc 1 (List.map aX bn)),ai bD,.sv (slc 1 (List.map aX bF))]⟩)] []) (λh=>?_) (λtc h=>?_)
 refine aW<|mv Y<|mv Y<|bE h λy7 qy h=>?_
 cases A8
 obtain rfl:=O (F qy)
 exact ww<|pF Y<|dn<|⟨false,h,wR []⟩
 refine gm Y ?_
 obtain rfl:=O (V qy)
 exact pT Y<|dn<|⟨Ba,h,wR []⟩
 try dsimp only
 refine aV.n ?_
 cases tc
 refine fs<|sr<|ld Y Y (.k4 Y Y Y Y)<|ld Y Y (.k4 Y Y Y Y) ?_
 obtain⟨⟨⟨yW,yX⟩,⟨F7,F8⟩⟩,u0,h⟩:=bS (F h)
 refine RT.bQ .none (zN N u0) hN Y ⟨Y,Y,Y,ak⟩ T<|so Y Y Y<|dn<|bf ?_
 obtain rfl:=O h
 exact RZ (.agg Y Y (.k4 Y Y Y Y) Y (.nil))
 refine cT<|sr<|mv Y<|mv Y<|lE (V h) λir mI h=>RT.mul .none _ Y Y T mI<|mv Y<|mv Y<|lE h λji o7 h=>RT.mul .none _ Y Y T o7<|lE h λmS va h=>ad _ Y Y va<|mv Y<|mv Y<|lE h λsG yo h=>RT.mul .none _ Y Y T yo ?_
 obtain⟨⟨⟨F3,F4⟩,⟨F5,F6⟩⟩,FW,h⟩:=bS h
 refine RT.bQ .none (mJ N FW) hN Y ⟨Y,Y,ak⟩ T<|so Y Y Y<|dn<|bf<|aV.r ?_
 obtain rfl:=O h
 exact RZ (.agg Y Y (.k4 Y Y Y Y) Y (.nil))
theorem Gf{x0:Qr}{x1:Qr}{r:Qr}(h:mw x0 x1=some r):Pure af 23 [.agg (eQ x0),.agg (eQ x1)] (.agg (eQ r)):=fW (λN=>Ge N h) (λN=>(SV.dz (qI _ _)))
theorem Gg{x0:Qr}{x1:Qr}(N:Nat){r:Qr}(h:my x0 x1=some r):dU af 85 N [.agg (eQ x0),.agg (eQ x1)] (.agg ((fQ N) r)):=by
 obtain⟨⟨bp,bn⟩,⟨bD,bF⟩⟩:=x0
 obtain⟨⟨bU,bR⟩,⟨dx,dy⟩⟩:=x1
 refine bP Tryz.func85 Y (ae Y) (λdm M vs hN hvs=>?_)
 unfold my at h
 refine sr<|bx Y<|bx Y<|al (cs:=[ay false,nw N au,ay false,nw N au]) (by exact⟨aq,bw,aq,bw,ak⟩) Y<|dn<|sr<|ld Y Y (.k4 Y Y Y Y) ?_
 obtain⟨⟨A7,yu,A8⟩,lW,h⟩:=bS h
 refine cl (gP lW) ⟨Y,ak⟩<|mv Y<|ex Y Y<|ex Y Y<|ex Y Y<|ag Y<|ag Y<|ag Y<|dn<|sr<|ld Y Y (.k4 Y Y Y Y) ?_
 obtain⟨⟨A9,yw,Ba⟩,lX,h⟩:=bS h
 refine cl (gP lX) ⟨Y,ak⟩<|mv Y<|ex Y Y<|ex Y Y<|ex Y Y<|ag Y<|ag Y<|ag Y<|dn<|qq<|qq ?_
 refine bC h (λj3=>AS.cq 41 [(2,.ptr 2 0),(3,.ptr 3 0),(4,.ptr 4 0),(5,ah A7),(6,ah yu),(8,ah A9),(9,ah yw),(26,ai j3)] [(4,⟨36,[ai false,.sv (nw N au),ai false,.sv (nw N au)]⟩),(3,⟨36,[ai bU,.sv (slc 1 (List.map aX bR)),ai dx,.sv (slc 1 (List.map aX dy))]⟩),(2,⟨36,[ai bp,.sv (slc 1 (List.map aX bn)),ai bD,.sv (slc 1 (List.map aX bF))]⟩)] []) (λh=>?_) (λtc h=>?_)
 refine aW<|mv Y<|mv Y<|bE h λy7 qy h=>?_
 cases A8
 obtain rfl:=O (F qy)
 exact ww<|pF Y<|dn<|⟨false,h,wR []⟩
 refine gm Y ?_
 obtain rfl:=O (V qy)
 exact pT Y<|dn<|⟨Ba,h,wR []⟩
 try dsimp only
 refine aV.n ?_
 cases tc
 refine fs<|sr<|ld Y Y (.k4 Y Y Y Y)<|ld Y Y (.k4 Y Y Y Y) ?_
 obtain⟨⟨⟨yW,yX⟩,⟨F7,F8⟩⟩,u0,h⟩:=bS (F h)
 refine RT.bQ .none (zO N u0) hN Y ⟨Y,Y,Y,ak⟩ T<|so Y Y Y<|dn<|bf ?_
 obtain rfl:=O h
 exact RZ (.agg Y Y (.k4 Y Y Y Y) Y (.nil))
 refine cT<|sr<|mv Y<|mv Y<|lE (V h) λir mI h=>RT.mul .none _ Y Y T mI<|mv Y<|mv Y<|lE h λji o7 h=>RT.mul .none _ Y Y T o7<|lE h λmS va h=>sb _ Y Y va<|mv Y<|mv Y<|lE h λsG yo h=>RT.mul .none _ Y Y T yo ?_
 obtain⟨⟨⟨F3,F4⟩,⟨F5,F6⟩⟩,FW,h⟩:=bS h
 refine RT.bQ .none (mJ N FW) hN Y ⟨Y,Y,ak⟩ T<|so Y Y Y<|dn<|bf<|aV.r ?_
 obtain rfl:=O h
 exact RZ (.agg Y Y (.k4 Y Y Y Y) Y (.nil))
theorem Gh{x0:Qr}{x1:Qr}{r:Qr}(h:my x0 x1=some r):Pure af 85 [.agg (eQ x0),.agg (eQ x1)] (.agg (eQ r)):=fW (λN=>Gg N h) (λN=>(SV.dz (qI _ _)))
theorem za{x0:Qr}{x1:Qr}(N:Nat){r:Qr}(h:kg x0 x1=some r):dU af 79 N [.agg (eQ x0),.agg (eQ x1)] (.agg ((fQ N) r)):=by
 obtain⟨⟨bp,bn⟩,⟨bD,bF⟩⟩:=x0
 obtain⟨⟨bU,bR⟩,⟨dx,dy⟩⟩:=x1
 refine bP Tryz.func79 Y (ae Y) (λdm M vs hN hvs=>?_)
 unfold kg at h
 refine sr<|bx Y<|bx Y<|al (cs:=[ay false,nw N au,ay false,nw N au]) (by exact⟨aq,bw,aq,bw,ak⟩) Y<|dn<|sr<|ld Y Y (.k4 Y Y Y Y) ?_
 obtain⟨⟨A7,yu,A8⟩,lW,h⟩:=bS h
 refine cl (gP lW) ⟨Y,ak⟩<|mv Y<|ex Y Y<|ex Y Y<|ex Y Y<|ag Y<|ag Y<|ag Y<|dn<|sr<|ld Y Y (.k4 Y Y Y Y) ?_
 obtain⟨⟨A9,yw,Ba⟩,lX,h⟩:=bS h
 refine cl (gP lX) ⟨Y,ak⟩<|mv Y<|ex Y Y<|ex Y Y<|ex Y Y<|ag Y<|ag Y<|ag Y<|dn<|qq<|qq ?_
 refine bC h (λj3=>AS.cq 37 [(2,.ptr 2 0),(3,.ptr 3 0),(4,.ptr 4 0),(5,ah A7),(6,ah yu),(8,ah A9),(9,ah yw),(26,ai j3)] [(4,⟨36,[ai false,.sv (nw N au),ai false,.sv (nw N au)]⟩),(3,⟨36,[ai bU,.sv (slc 1 (List.map aX bR)),ai dx,.sv (slc 1 (List.map aX dy))]⟩),(2,⟨36,[ai bp,.sv (slc 1 (List.map aX bn)),ai bD,.sv (slc 1 (List.map aX bF))]⟩)] []) (λh=>?_) (λtc h=>?_)
 refine aW<|mv Y<|mv Y<|bE h λy7 qy h=>?_
 cases A8
 obtain rfl:=O (F qy)
 exact ww<|pF Y<|dn<|⟨false,h,wR []⟩
 refine gm Y ?_
 obtain rfl:=O (V qy)
 exact pT Y<|dn<|⟨Ba,h,wR []⟩
 try dsimp only
 refine aV.n ?_
 cases tc
 refine fs<|sr<|ld Y Y (.k4 Y Y Y Y)<|ld Y Y (.k4 Y Y Y Y) ?_
 obtain⟨⟨⟨sK,sL⟩,⟨Gb,Gc⟩⟩,yo,h⟩:=bS (F h)
 refine RT.bQ .none (zP N yo) hN Y ⟨Y,Y,Y,ak⟩ T<|so Y Y Y<|dn<|bf ?_
 obtain rfl:=O h
 exact RZ (.agg Y Y (.k4 Y Y Y Y) Y (.nil))
 refine cT<|sr<|mv Y<|mv Y<|lE (V h) λir mI h=>RT.mul .none _ Y Y T mI<|mv Y<|mv Y<|lE h λji o7 h=>RT.mul .none _ Y Y T o7 ?_
 obtain⟨⟨⟨F9,Ga⟩,⟨Rg,Rh⟩⟩,va,h⟩:=bS h
 refine RT.bQ .none (mJ N va) hN Y ⟨Y,Y,ak⟩ T<|so Y Y Y<|dn<|bf<|aV.r ?_
 obtain rfl:=O h
 exact RZ (.agg Y Y (.k4 Y Y Y Y) Y (.nil))
theorem Gi{x0:Qr}{x1:Qr}{r:Qr}(h:kg x0 x1=some r):Pure af 79 [.agg (eQ x0),.agg (eQ x1)] (.agg (eQ r)):=fW (λN=>za N h) (λN=>(SV.dz (qI _ _)))
theorem Gj{x0:Qr}(N:Nat){r:Qr}(h:jw x0=some r):dU af 56 N [.agg (eQ x0)] (.agg ((fQ N) r)):=by
 obtain⟨⟨bp,bn⟩,⟨bD,bF⟩⟩:=x0
 refine bP Tryz.func56 Y (ae Y) (λdm M vs hN hvs=>?_)
 unfold jw at h
 refine sr<|bx Y<|al (cs:=[ay false,nw N au,ay false,nw N au]) (by exact⟨aq,bw,aq,bw,ak⟩) Y<|dn<|sr<|ld Y Y (.k4 Y Y Y Y) ?_
 obtain⟨⟨⟨w7,zL⟩,⟨Ct,DZ⟩⟩,h5,h⟩:=bS h
 refine RT.bQ .none (pI N h5) hN Y ⟨Y,ak⟩ T<|al (cs:=[ay false,nw N au,ay false,nw N au]) (by exact⟨aq,bw,aq,bw,ak⟩) Y<|so Y Y Y<|dn<|qq<|aZ mixed<|fa Y Y<|ld Y Y (.k2 Y Y) ?_
 obtain⟨⟨o9,pg⟩,h8,h⟩:=bS h
 refine RT.bQ .none ((n5 N h8).w (args':=[_]) ⟨(SV.dz (show cH [ay w7,nw N (slc 1 (List.map aX zL))] _ from⟨aq,dw,ak⟩)),ak⟩) hN Y ⟨Y,ak⟩ T<|fa Y Y<|ld Y Y (.k2 Y Y)<|bI (cs:=[_,_,_,_]) (cs':=[ay o9,nw N (slc 1 (List.map aX pg)),ay Ct,nw N (slc 1 (List.map aX DZ))]) (.agg Y (.agg Y (.nil))) ⟨aq,aq,aq,aq,ak⟩<|so Y Y Y ?_
 refine RT.done ⟨by kernel_rfl,?_⟩
 refine aV.n<|bf ?_
 obtain rfl:=O h
 exact RZ (.agg Y Y (.k4 Y Y Y Y) Y (.nil))
theorem zb{x0:Qr}{r:Qr}(h:jw x0=some r):Pure af 56 [.agg (eQ x0)] (.agg (eQ r)):=fW (λN=>Gj N h) (λN=>(SV.dz (qI _ _)))
theorem ze{x0:Qr}{x1:Qr}{r:Int}(h:mz x0 x1=some r):Pure af 33 [.agg (eQ x0),.agg (eQ x1)] (ax r):=by
 obtain⟨⟨bp,bn⟩,⟨bD,bF⟩⟩:=x0
 obtain⟨⟨bU,bR⟩,⟨dx,dy⟩⟩:=x1
 refine bj Tryz.func33 Y (ae Y) (λdm M vs hvs=>?_)
 unfold mz at h
 refine sr<|bx Y<|bx Y<|ag Y<|dn<|sr<|ld Y Y (.k4 Y Y Y Y) ?_
 obtain⟨⟨⟨mm,mu⟩,⟨nI,nJ⟩⟩,lW,h⟩:=bS h
 refine cl (eL lW) ⟨Y,ak⟩<|mv Y<|ex Y Y<|ex Y Y<|al (cs:=[ay false,au]) (by exact⟨aq,aA,ak⟩) Y<|al (cs:=[ay false,au]) (by exact⟨aq,aA,ak⟩) Y<|so Y Y Y<|so Y Y Y<|dn<|sr<|ld Y Y (.k4 Y Y Y Y) ?_
 obtain⟨⟨⟨iG,iH⟩,⟨k8,lf⟩⟩,jP,h⟩:=bS h
 refine cl (eL jP) ⟨Y,ak⟩<|mv Y<|ex Y Y<|ex Y Y<|al (cs:=[ay false,au]) (by exact⟨aq,aA,ak⟩) Y<|al (cs:=[ay false,au]) (by exact⟨aq,aA,ak⟩) Y<|so Y Y Y<|so Y Y Y<|dn<|qq<|qq<|aZ mixed<|ld Y Y (.k2 Y Y)<|bE h λgw lY h=>?_
 refine cl (eK lY) ⟨Y,ak⟩<|ld Y Y (.k2 Y Y)<|bE h λgV o5 h=>cl (eK o5) ⟨Y,ak⟩<|ag Y<|ag Y ?_
 refine RT.done ⟨by kernel_rfl,?_⟩
 refine aV.n<|qq ?_
 refine bC h (λj3=>AS.cq 43 [(5,.ptr 5 0),(6,.ptr 6 0),(7,.ptr 7 0),(8,.ptr 8 0),(9,ah gw),(10,ah gV),(31,ai j3)] [(8,⟨34,[ai k8,.sv (slc 1 (List.map aX lf))]⟩),(7,⟨34,[ai iG,.sv (slc 1 (List.map aX iH))]⟩),(6,⟨34,[ai nI,.sv (slc 1 (List.map aX nJ))]⟩),(5,⟨34,[ai mm,.sv (slc 1 (List.map aX mu))]⟩)] []) (λh=>?_) (λMD h=>?_)
 refine aW<|mv Y<|mv Y<|lE h λiL o4 h=>ne _ Y Y (HQ (p:=gw) (q:=gV) o4)<|mv Y<|bE h λRm qy h=>?_
 cases iL
 refine gm Y<|lE (F qy) λye Co qy=>Tc _ Y Y (zF (p:=gw) (q:=0) Co) ?_
 obtain rfl:=O qy
 exact pF Y<|dn<|⟨ye,h,wR []⟩
 obtain rfl:=O (V qy)
 exact ww<|ww<|pT Y<|dn<|⟨true,h,wR []⟩
 try dsimp only
 refine aV.n ?_
 cases MD
 refine fs<|qq<|aZ mixed<|ld Y Y (.k2 Y Y)<|ld Y Y (.k2 Y Y) ?_
 obtain⟨⟨Ri,Rj⟩,FU,h⟩:=bS (F h)
 refine cl (wY FU) ⟨Y,Y,ak⟩<|ld Y Y (.k2 Y Y)<|ld Y Y (.k2 Y Y) ?_
 obtain⟨⟨Rk,Rl⟩,Ia,h⟩:=bS h
 refine cl (wY Ia) ⟨Y,Y,ak⟩<|bE h λr7 DP h=>cl (DW DP) ⟨Y,Y,ak⟩<|ag Y ?_
 refine RT.done ⟨by kernel_rfl,?_⟩
 refine aV.n<|bf ?_
 obtain rfl:=O h
 exact R1 Y
 refine cT<|sr<|mv Y<|mv Y<|lE (V h) λnQ sW h=>sb _ Y Y sW<|bE h λr6 A0 h=>cl (D0 A0) ⟨Y,ak⟩<|ag Y<|dn<|bf<|aV.r ?_
 obtain rfl:=O h
 exact R1 Y
end
section
open Go.Fw
noncomputable def m5(x0:Qr)(x1:Qr)(c0:Qr):Option (Qr):=match x0 with|⟨⟨bp,bn⟩,⟨bD,bF⟩⟩=>match x1 with|⟨⟨bU,bR⟩,⟨dx,dy⟩⟩=>match c0 with|⟨⟨MF,MG⟩,⟨MH,MI⟩⟩=>cm (λ(tj:Bool)=>cm (λ(j5:Bool×(List Nat)×Bool×(List Nat))=>match j5 with|⟨CW,CX,CY,CZ⟩=>some ⟨⟨CW,CX⟩,⟨CY,CZ⟩⟩) λK5=>(bif tj then(kg ⟨⟨bp,bn⟩,⟨bD,bF⟩⟩ ⟨⟨bU,bR⟩,⟨dx,dy⟩⟩).bind λ⟨⟨jl,jm⟩,⟨zf,zg⟩⟩=>(mw ⟨⟨MF,MG⟩,⟨MH,MI⟩⟩ ⟨⟨jl,jm⟩,⟨zf,zg⟩⟩).bind λ⟨⟨kZ,k7⟩,⟨rS,rT⟩⟩=>K5 (kZ,k7,rS,rT)else K5 (MF,MG,MH,MI))) λK3=>(jv ⟨⟨bp,bn⟩,⟨bD,bF⟩⟩).bind λx6=>(some (decide ((x6:Int)≠0))).bind λx7=>(bif x7 then(jv ⟨⟨bU,bR⟩,⟨dx,dy⟩⟩).bind λdP=>(some (decide ((dP:Int)≠0))).bind λfN=>some fN else some false).bind λRn=>K3 Rn
noncomputable def fG(x0:Qr)(x1:List Qr):Option (List Qr):=match x0 with|⟨⟨bp,bn⟩,⟨bD,bF⟩⟩=>(some (x1.length:Int)).bind λx9=>(EX 64 x9 (⟨⟨false,[]⟩,⟨false,[]⟩⟩:Qr)).bind λdP=>(some (x1.length:Int)).bind λcP=>(b9 (λ(s8:Int×(List Qr))=>match s8 with|⟨jx,jy⟩=>(show Option ((Int×(List Qr))⊕((List Qr)))from(some (decide ((jx:Int)<cP))).bind λdW=>(bif dW then(cQ x1 jx).bind λ⟨⟨jl,jm⟩,⟨zf,zg⟩⟩=>(kg ⟨⟨bp,bn⟩,⟨bD,bF⟩⟩ ⟨⟨jl,jm⟩,⟨zf,zg⟩⟩).bind λ⟨⟨oK,oL⟩,⟨qA,nS⟩⟩=>(vm jy jx).bind λiQ=>(stM jy iQ ⟨⟨oK,oL⟩,⟨qA,nS⟩⟩).bind λyg=>(some (IntKind.i64.wrap (jx+1))).bind λgV=>some (.inl (gV,yg))else some (.inr jy)))) (0,dP)).bind λgz=>some gz
noncomputable def iT(x0:List Qr)(x1:List Qr):Option (Qr):=(some (x0.length:Int)).bind λcP=>(some (x1.length:Int)).bind λdW=>(some (min (cP:Int) dW)).bind λdL=>(uG x0 0 dL).bind λeI=>(uG x1 0 dL).bind λgO=>(pQ (λ(k:Nat) (s7:Bool×(List Nat)×Bool×(List Nat))=>match s7 with|⟨Bc,Bd,Be,Bf⟩=>(show Option (Bool×(List Nat)×Bool×(List Nat))from(some (eI.getD k (⟨⟨false,[]⟩,⟨false,[]⟩⟩:Qr))).bind λ⟨⟨Ro,Rp⟩,⟨Rq,Rr⟩⟩=>(some (gO.getD k (⟨⟨false,[]⟩,⟨false,[]⟩⟩:Qr))).bind λ⟨⟨Rt,Ru⟩,⟨Rv,Rw⟩⟩=>(m5 ⟨⟨Ro,Rp⟩,⟨Rq,Rr⟩⟩ ⟨⟨Rt,Ru⟩,⟨Rv,Rw⟩⟩ ⟨⟨Bc,Bd⟩,⟨Be,Bf⟩⟩).bind λ⟨⟨Xg,Xh⟩,⟨Xi,Xj⟩⟩=>some (Xg,Xh,Xi,Xj))) (max eI.length gO.length) (false,[],false,[])).bind λe7=>match e7 with|⟨Bc,Bd,Be,Bf⟩=>some ⟨⟨Bc,Bd⟩,⟨Be,Bf⟩⟩
noncomputable def jS(x0:List Qr)(x1:List Qr):Option (Int):=(nF (λ(k:Nat) (s3:Unit)=>(show Option ((Unit)⊕(Int))from(some (x0.getD k (⟨⟨false,[]⟩,⟨false,[]⟩⟩:Qr))).bind λ⟨⟨Gk,Gl⟩,⟨Gm,Gn⟩⟩=>(some (x1.getD k (⟨⟨false,[]⟩,⟨false,[]⟩⟩:Qr))).bind λ⟨⟨Rx,Ry⟩,⟨Rz,RA⟩⟩=>(mz ⟨⟨Gk,Gl⟩,⟨Gm,Gn⟩⟩ ⟨⟨Rx,Ry⟩,⟨Rz,RA⟩⟩).bind λdL=>(some (decide ((dL:Int)≠0))).bind λdS=>(bif dS then some (.inr dL)else some (.inl ())))) (max x0.length x1.length) ()).bind λe3=>match e3 with|.inr v3=>some v3|.inl _=>some 0
noncomputable def fH(x0:List Qr)(x1:List Qr):Option (Bool):=(jS x0 x1).bind λx7=>(some (decide ((x7:Int)=0))).bind λx8=>some x8
noncomputable def dh(x0:List Int):Option (List Qr):=(some (x0.length:Int)).bind λx7=>(EX 64 x7 (⟨⟨false,[]⟩,⟨false,[]⟩⟩:Qr)).bind λx8=>(some (x0.length:Int)).bind λdP=>(b9 (λ(s8:Int×(List Qr))=>match s8 with|⟨tq,Bg⟩=>(show Option ((Int×(List Qr))⊕((List Qr)))from(some (decide ((tq:Int)<dP))).bind λcP=>(bif cP then(cQ x0 tq).bind λdW=>(cZ dW).bind λ⟨⟨gx,gy⟩,⟨l8,l9⟩⟩=>(vm Bg tq).bind λke=>(stM Bg ke ⟨⟨gx,gy⟩,⟨l8,l9⟩⟩).bind λyg=>(some (IntKind.i64.wrap (tq+1))).bind λgO=>some (.inl (gO,yg))else some (.inr Bg)))) (0,x8)).bind λvJ=>some vJ
end
section
open Go.Fw Go.Fw.Z Go.RowKit
theorem w9(a b:List Qr):Pure af 80 [(slc 4 (List.map eQ a)),(slc 4 (List.map eQ b))] (qQ 112 [ref [(slc 4 (List.map eQ a))],ref [(slc 4 (List.map eQ b))]]):=by
 refine bj Tryz.func80 Y (ae Y) (λdm M vs hvs=>?_)
 refine sr<|RT.Dq .none (s:=.sv _) Y T Y Y<|RT.Dq .none (s:=.sv _) Y T Y Y<|ag Y<|dn<|sr<|RT.makeFunc .none (.box Y (.box Y (.nil))) T<|an (s:=.fT _ _) Y<|dn<|bX (mg (i:=2) Y [(slc 4 (List.map eQ a))] (.cons Y .nil) .any 0 [(4,.fT 112 [.val (ref [(slc 4 (List.map eQ a))]),.box 3])] (λ_ _ _=>trivial) (uF.h (l:=[(slc 4 (List.map eQ a))])) ⟨@FT.fT _ _ _ _ _ 4 112 [.box 2,.box 3] Y,ak⟩) ?_
 exact bX (mg (i:=3) Y [(slc 4 (List.map eQ b))] (.cons Y .nil) .any 0 [(4,.fT 112 [.val (ref [(slc 4 (List.map eQ a))]),.val (ref [(slc 4 (List.map eQ b))])])] (λ_ _ _=>trivial) (uF.h (l:=[(slc 4 (List.map eQ b))])) ⟨@FT.fT _ _ _ _ _ 4 112 [.val (ref [(slc 4 (List.map eQ a))]),.box 3] Y,ak⟩)<|bX (Dw 4 (qQ 112 [ref [(slc 4 (List.map eQ a))],ref [(slc 4 (List.map eQ b))]]) (λ_ _ h=>Dx h))<|bf<|⟨.inr Y,Dt (.tmp Y (.nil)) Y⟩
theorem xb(a b:List Qr):Iter af 112 [ref [(slc 4 (List.map eQ a))],ref [(slc 4 (List.map eQ b))]] (max a.length b.length) (λk=>[.agg (eQ (a.getD k (⟨⟨false,[]⟩,⟨false,[]⟩⟩:Qr))),.agg (eQ (b.getD k (⟨⟨false,[]⟩,⟨false,[]⟩⟩:Qr)))]):=by
 refine qR Tryz.func112 Y Y (ae Y) (λdm M O l J hJ xQ hr=>?_)
 obtain⟨rW,xQ⟩:=xQ
 have hla:a.length≤9223372036854775807:=by cases rW with|nil=>exact xQ.elim|cons _ rW=>exact ud xQ.1
 have hlb:b.length≤9223372036854775807:=by cases rW with|nil=>exact xQ.elim|cons _ rW=>cases rW with|nil=>exact xQ.2.elim|cons _ _=>exact ud xQ.2.1
 refine bz ?_
 refine aW ?_
 refine RT.cM .none Y Y (tl Y) ?_
 refine RT.len .none Y (tl Y) ?_
 refine RT.cM .none Y Y (tl Y) ?_
 refine RT.len .none Y (tl Y) ?_
 refine RT.max .none (((max a.length b.length:Nat):Int)) Y Y (tl Y) (by simp only[List.length_map];split<;>omega) ?_
 refine RT.mv .none Y (tl Y) ?_
 refine RT.done ?_
 refine aV.n ?_
 refine bh ?_
 refine pA (I:=λx:{i:Nat//i≤max a.length b.length}=>AS.cq 37 [(0,.sv (.v (.func (.yield l) #[] #[]))),(1,.sv (ref [(slc 4 (List.map eQ a))])),(2,.sv (ref [(slc 4 (List.map eQ b))])),(11,ah ((max a.length b.length:Nat):Int)),(12,ah ((x.1:Nat):Int))] [] [] (x.1)) (μ:=λx=>max a.length b.length-x.1) ⟨0,by omega⟩ (by(try dsimp only);exact c6 id Y Y Y Y Y ⟨.sv (by first|exact aq|exact SV.aY (by omega)|exact SV.aY (by push_cast;omega)|exact SV.aY (by dsimp only;omega)|exact SV.imp_eq (by simp)),.sv (by first|exact aq|exact SV.aY (by omega)|exact SV.aY (by push_cast;omega)|exact SV.aY (by dsimp only;omega)|exact SV.imp_eq (by simp)),.sv (by first|exact aq|exact SV.aY (by omega)|exact SV.aY (by push_cast;omega)|exact SV.aY (by dsimp only;omega)|exact SV.imp_eq (by simp)),.sv (by first|exact aq|exact SV.aY (by omega)|exact SV.aY (by push_cast;omega)|exact SV.aY (by dsimp only;omega)|exact SV.imp_eq (by simp)),.sv (by first|exact aq|exact SV.aY (by omega)|exact SV.aY (by push_cast;omega)|exact SV.aY (by dsimp only;omega)|exact SV.imp_eq (by simp)),ak⟩ trivial trivial (λ_ _=>Y)) ?_
 rintro⟨i,QU⟩
 try dsimp only
 rcases AK a b i QU with⟨hi,zD,Fj⟩|⟨hi,zD,Fj⟩|⟨hi,zD,Fj⟩|hi
 ·
  refine bz ?_
  refine aW ?_
  refine RT.lss .none (true) Y Y (tl Y) (by simp;omega) ?_
  refine RT.done ?_
  refine aV.n ?_
  refine bz ?_
  refine cA Y ?_
  refine bu ?_
  refine aV.n ?_
  refine bz ?_
  refine bh ?_
  refine bz ?_
  refine aW ?_
  refine RT.mv .none Y (tl Y) ?_
  refine RT.wA .none Y (tl Y) ?_
  refine RT.done ?_
  refine aV.n ?_
  refine bz ?_
  refine aW ?_
  refine RT.qS .none (cs:=eQ ⟨⟨false,[]⟩,⟨false,[]⟩⟩) (by exact⟨aq,aA,aq,aA,ak⟩) Y (tl Y) Y Y ?_
  refine RT.qS .none (cs:=eQ ⟨⟨false,[]⟩,⟨false,[]⟩⟩) (by exact⟨aq,aA,aq,aA,ak⟩) Y (tl Y) Y Y ?_
  refine RT.done ?_
  refine aV.n ?_
  refine bz ?_
  refine bz ?_
  refine aW ?_
  refine RT.mv .none Y (tl Y) ?_
  refine RT.cM .none Y Y (tl Y) ?_
  refine RT.len .none Y (tl Y) ?_
  refine RT.lss .none (true) Y Y (tl Y) (by simp only[List.length_map];simp;omega) ?_
  refine RT.done ?_
  refine aV.n ?_
  refine cA Y ?_
  refine aW ?_
  refine RT.cM .none Y Y (tl Y) ?_
  refine RT.mv .none Y (tl Y) ?_
  refine RT.LG .none [ay ((a.getD i (⟨⟨false,[]⟩,⟨false,[]⟩⟩:Qr)).num.neg),slc 1 ((a.getD i (⟨⟨false,[]⟩,⟨false,[]⟩⟩:Qr)).num.w.map aX),ay ((a.getD i (⟨⟨false,[]⟩,⟨false,[]⟩⟩:Qr)).den.neg),slc 1 ((a.getD i (⟨⟨false,[]⟩,⟨false,[]⟩⟩:Qr)).den.w.map aX)] (Int.natCast_nonneg i) (by rw[Int.toNat_natCast,List.getElem?_map,cD zD];rfl) Y Y (tl Y) ?_
  refine RT.sg .none Y (tl Y) (cs:=[ay ((a.getD i (⟨⟨false,[]⟩,⟨false,[]⟩⟩:Qr)).num.neg),slc 1 ((a.getD i (⟨⟨false,[]⟩,⟨false,[]⟩⟩:Qr)).num.w.map aX),ay ((a.getD i (⟨⟨false,[]⟩,⟨false,[]⟩⟩:Qr)).den.neg),slc 1 ((a.getD i (⟨⟨false,[]⟩,⟨false,[]⟩⟩:Qr)).den.w.map aX)]) Y Y ?_
  refine RT.store .none Y Y Y Y Y ?_
  refine RT.done ?_
  refine aV.n ?_
  refine bz ?_
  refine bz ?_
  refine aW ?_
  refine RT.mv .none Y (tl Y) ?_
  refine RT.cM .none Y Y (tl Y) ?_
  refine RT.len .none Y (tl Y) ?_
  refine RT.lss .none (true) Y Y (tl Y) (by simp only[List.length_map];simp;omega) ?_
  refine RT.done ?_
  refine aV.n ?_
  refine cA Y ?_
  refine aW ?_
  refine RT.cM .none Y Y (tl Y) ?_
  refine RT.mv .none Y (tl Y) ?_
  refine RT.LG .none [ay ((b.getD i (⟨⟨false,[]⟩,⟨false,[]⟩⟩:Qr)).num.neg),slc 1 ((b.getD i (⟨⟨false,[]⟩,⟨false,[]⟩⟩:Qr)).num.w.map aX),ay ((b.getD i (⟨⟨false,[]⟩,⟨false,[]⟩⟩:Qr)).den.neg),slc 1 ((b.getD i (⟨⟨false,[]⟩,⟨false,[]⟩⟩:Qr)).den.w.map aX)] (Int.natCast_nonneg i) (by rw[Int.toNat_natCast,List.getElem?_map,cD Fj];rfl) Y Y (tl Y) ?_
  refine RT.sg .none Y (tl Y) (cs:=[ay ((b.getD i (⟨⟨false,[]⟩,⟨false,[]⟩⟩:Qr)).num.neg),slc 1 ((b.getD i (⟨⟨false,[]⟩,⟨false,[]⟩⟩:Qr)).num.w.map aX),ay ((b.getD i (⟨⟨false,[]⟩,⟨false,[]⟩⟩:Qr)).den.neg),slc 1 ((b.getD i (⟨⟨false,[]⟩,⟨false,[]⟩⟩:Qr)).den.w.map aX)]) Y Y ?_
  refine RT.store .none Y Y Y Y Y ?_
  refine RT.done ?_
  refine aV.n ?_
  refine bz ?_
  refine aW ?_
  refine RT.mv .none Y (tl Y) ?_
  refine RT.load .none Y Y (.k4 Y Y Y Y) Y (tl Y) ?_
  refine RT.load .none Y Y (.k4 Y Y Y Y) Y (tl Y) ?_
  refine RT.yield .none hr Y (λ_ h=>h) Y (i) Y Y hi (by exact⟨Y,Y,ak⟩) (tl Y) (λyb=>?_)
  cases yb
  ·
   refine RT.not .none Y (tl Y) true Y ?_
   refine RT.done ?_
   refine aV.n ?_
   refine cA Y ?_
   refine bf ?_
   refine bA.r ?_
   refine aV.r ?_
   refine aV.r ?_
   refine bA.r ?_
   exact⟨.inr rfl,(λh=>by cases h)⟩
  ·
   refine RT.not .none Y (tl Y) false Y ?_
   refine RT.done ?_
   refine aV.n ?_
   refine da Y ?_
   refine bu ?_
   refine bA.n ?_
   refine aV.n ?_
   refine aW ?_
   refine RT.add .none (((i:Nat):Int)+1) Y Y (tl Y) (jg (by omega)) ?_
   refine RT.mv .none Y (tl Y) ?_
   refine RT.done ?_
   refine aV.n ?_
   refine⟨⟨i+1,by omega⟩,(by dsimp only;omega),?_⟩
   try dsimp only
   exact c6 id Y Y Y Y Y ⟨.sv (by first|exact aq|exact SV.aY (by omega)|exact SV.aY (by push_cast;omega)|exact SV.aY (by dsimp only;omega)|exact SV.imp_eq (by simp)),.sv (by first|exact aq|exact SV.aY (by omega)|exact SV.aY (by push_cast;omega)|exact SV.aY (by dsimp only;omega)|exact SV.imp_eq (by simp)),.sv (by first|exact aq|exact SV.aY (by omega)|exact SV.aY (by push_cast;omega)|exact SV.aY (by dsimp only;omega)|exact SV.imp_eq (by simp)),.sv (by first|exact aq|exact SV.aY (by omega)|exact SV.aY (by push_cast;omega)|exact SV.aY (by dsimp only;omega)|exact SV.imp_eq (by simp)),.sv (by first|exact aq|exact SV.aY (by omega)|exact SV.aY (by push_cast;omega)|exact SV.aY (by dsimp only;omega)|exact SV.imp_eq (by simp)),ak⟩ trivial trivial (λ_ _=>Y)
 ·
  refine bz ?_
  refine aW ?_
  refine RT.lss .none (true) Y Y (tl Y) (by simp;omega) ?_
  refine RT.done ?_
  refine aV.n ?_
  refine bz ?_
  refine cA Y ?_
  refine bu ?_
  refine aV.n ?_
  refine bz ?_
  refine bh ?_
  refine bz ?_
  refine aW ?_
  refine RT.mv .none Y (tl Y) ?_
  refine RT.wA .none Y (tl Y) ?_
  refine RT.done ?_
  refine aV.n ?_
  refine bz ?_
  refine aW ?_
  refine RT.qS .none (cs:=eQ ⟨⟨false,[]⟩,⟨false,[]⟩⟩) (by exact⟨aq,aA,aq,aA,ak⟩) Y (tl Y) Y Y ?_
  refine RT.qS .none (cs:=eQ ⟨⟨false,[]⟩,⟨false,[]⟩⟩) (by exact⟨aq,aA,aq,aA,ak⟩) Y (tl Y) Y Y ?_
  refine RT.done ?_
  refine aV.n ?_
  refine bz ?_
  refine bz ?_
  refine aW ?_
  refine RT.mv .none Y (tl Y) ?_
  refine RT.cM .none Y Y (tl Y) ?_
  refine RT.len .none Y (tl Y) ?_
  refine RT.lss .none (true) Y Y (tl Y) (by simp only[List.length_map];simp;omega) ?_
  refine RT.done ?_
  refine aV.n ?_
  refine cA Y ?_
  refine aW ?_
  refine RT.cM .none Y Y (tl Y) ?_
  refine RT.mv .none Y (tl Y) ?_
  refine RT.LG .none [ay ((a.getD i (⟨⟨false,[]⟩,⟨false,[]⟩⟩:Qr)).num.neg),slc 1 ((a.getD i (⟨⟨false,[]⟩,⟨false,[]⟩⟩:Qr)).num.w.map aX),ay ((a.getD i (⟨⟨false,[]⟩,⟨false,[]⟩⟩:Qr)).den.neg),slc 1 ((a.getD i (⟨⟨false,[]⟩,⟨false,[]⟩⟩:Qr)).den.w.map aX)] (Int.natCast_nonneg i) (by rw[Int.toNat_natCast,List.getElem?_map,cD zD];rfl) Y Y (tl Y) ?_
  refine RT.sg .none Y (tl Y) (cs:=[ay ((a.getD i (⟨⟨false,[]⟩,⟨false,[]⟩⟩:Qr)).num.neg),slc 1 ((a.getD i (⟨⟨false,[]⟩,⟨false,[]⟩⟩:Qr)).num.w.map aX),ay ((a.getD i (⟨⟨false,[]⟩,⟨false,[]⟩⟩:Qr)).den.neg),slc 1 ((a.getD i (⟨⟨false,[]⟩,⟨false,[]⟩⟩:Qr)).den.w.map aX)]) Y Y ?_
  refine RT.store .none Y Y Y Y Y ?_
  refine RT.done ?_
  refine aV.n ?_
  refine bz ?_
  refine bz ?_
  refine aW ?_
  refine RT.mv .none Y (tl Y) ?_
  refine RT.cM .none Y Y (tl Y) ?_
  refine RT.len .none Y (tl Y) ?_
  refine RT.lss .none (false) Y Y (tl Y) (by simp only[List.length_map];simp;omega) ?_
  refine RT.done ?_
  refine aV.n ?_
  refine da Y ?_
  refine bu ?_
  refine aV.n ?_
  refine bz ?_
  refine aW ?_
  refine RT.mv .none Y (tl Y) ?_
  refine RT.load .none Y Y (.k4 Y Y Y Y) Y (tl Y) ?_
  refine RT.load .none Y Y (.k4 Y Y Y Y) Y (tl Y) ?_
  refine RT.yield .none hr Y (λ_ h=>h) Y (i) Y Y hi (by exact⟨Y,(by show AV.sv _=AV.sv _;rw[dA Fj]),ak⟩) (tl Y) (λyb=>?_)
  cases yb
  ·
   refine RT.not .none Y (tl Y) true Y ?_
   refine RT.done ?_
   refine aV.n ?_
   refine cA Y ?_
   refine bf ?_
   refine bA.r ?_
   refine aV.r ?_
   refine aV.r ?_
   refine bA.r ?_
   exact⟨.inr rfl,(λh=>by cases h)⟩
  ·
   refine RT.not .none Y (tl Y) false Y ?_
   refine RT.done ?_
   refine aV.n ?_
   refine da Y ?_
   refine bu ?_
   refine bA.n ?_
   refine aV.n ?_
   refine aW ?_
   refine RT.add .none (((i:Nat):Int)+1) Y Y (tl Y) (jg (by omega)) ?_
   refine RT.mv .none Y (tl Y) ?_
   refine RT.done ?_
   refine aV.n ?_
   refine⟨⟨i+1,by omega⟩,(by dsimp only;omega),?_⟩
   try dsimp only
   exact c6 id Y Y Y Y Y ⟨.sv (by first|exact aq|exact SV.aY (by omega)|exact SV.aY (by push_cast;omega)|exact SV.aY (by dsimp only;omega)|exact SV.imp_eq (by simp)),.sv (by first|exact aq|exact SV.aY (by omega)|exact SV.aY (by push_cast;omega)|exact SV.aY (by dsimp only;omega)|exact SV.imp_eq (by simp)),.sv (by first|exact aq|exact SV.aY (by omega)|exact SV.aY (by push_cast;omega)|exact SV.aY (by dsimp only;omega)|exact SV.imp_eq (by simp)),.sv (by first|exact aq|exact SV.aY (by omega)|exact SV.aY (by push_cast;omega)|exact SV.aY (by dsimp only;omega)|exact SV.imp_eq (by simp)),.sv (by first|exact aq|exact SV.aY (by omega)|exact SV.aY (by push_cast;omega)|exact SV.aY (by dsimp only;omega)|exact SV.imp_eq (by simp)),ak⟩ trivial trivial (λ_ _=>Y)
 ·
  refine bz ?_
  refine aW ?_
  refine RT.lss .none (true) Y Y (tl Y) (by simp;omega) ?_
  refine RT.done ?_
  refine aV.n ?_
  refine bz ?_
  refine cA Y ?_
  refine bu ?_
  refine aV.n ?_
  refine bz ?_
  refine bh ?_
  refine bz ?_
  refine aW ?_
  refine RT.mv .none Y (tl Y) ?_
  refine RT.wA .none Y (tl Y) ?_
  refine RT.done ?_
  refine aV.n ?_
  refine bz ?_
  refine aW ?_
  refine RT.qS .none (cs:=eQ ⟨⟨false,[]⟩,⟨false,[]⟩⟩) (by exact⟨aq,aA,aq,aA,ak⟩) Y (tl Y) Y Y ?_
  refine RT.qS .none (cs:=eQ ⟨⟨false,[]⟩,⟨false,[]⟩⟩) (by exact⟨aq,aA,aq,aA,ak⟩) Y (tl Y) Y Y ?_
  refine RT.done ?_
  refine aV.n ?_
  refine bz ?_
  refine bz ?_
  refine aW ?_
  refine RT.mv .none Y (tl Y) ?_
  refine RT.cM .none Y Y (tl Y) ?_
  refine RT.len .none Y (tl Y) ?_
  refine RT.lss .none (false) Y Y (tl Y) (by simp only[List.length_map];simp;omega) ?_
  refine RT.done ?_
  refine aV.n ?_
  refine da Y ?_
  refine bu ?_
  refine aV.n ?_
  refine bz ?_
  refine bz ?_
  refine aW ?_
  refine RT.mv .none Y (tl Y) ?_
  refine RT.cM .none Y Y (tl Y) ?_
  refine RT.len .none Y (tl Y) ?_
  refine RT.lss .none (true) Y Y (tl Y) (by simp only[List.length_map];simp;omega) ?_
  refine RT.done ?_
  refine aV.n ?_
  refine cA Y ?_
  refine aW ?_
  refine RT.cM .none Y Y (tl Y) ?_
  refine RT.mv .none Y (tl Y) ?_
  refine RT.LG .none [ay ((b.getD i (⟨⟨false,[]⟩,⟨false,[]⟩⟩:Qr)).num.neg),slc 1 ((b.getD i (⟨⟨false,[]⟩,⟨false,[]⟩⟩:Qr)).num.w.map aX),ay ((b.getD i (⟨⟨false,[]⟩,⟨false,[]⟩⟩:Qr)).den.neg),slc 1 ((b.getD i (⟨⟨false,[]⟩,⟨false,[]⟩⟩:Qr)).den.w.map aX)] (Int.natCast_nonneg i) (by rw[Int.toNat_natCast,List.getElem?_map,cD Fj];rfl) Y Y (tl Y) ?_
  refine RT.sg .none Y (tl Y) (cs:=[ay ((b.getD i (⟨⟨false,[]⟩,⟨false,[]⟩⟩:Qr)).num.neg),slc 1 ((b.getD i (⟨⟨false,[]⟩,⟨false,[]⟩⟩:Qr)).num.w.map aX),ay ((b.getD i (⟨⟨false,[]⟩,⟨false,[]⟩⟩:Qr)).den.neg),slc 1 ((b.getD i (⟨⟨false,[]⟩,⟨false,[]⟩⟩:Qr)).den.w.map aX)]) Y Y ?_
  refine RT.store .none Y Y Y Y Y ?_
  refine RT.done ?_
  refine aV.n ?_
  refine bz ?_
  refine aW ?_
  refine RT.mv .none Y (tl Y) ?_
  refine RT.load .none Y Y (.k4 Y Y Y Y) Y (tl Y) ?_
  refine RT.load .none Y Y (.k4 Y Y Y Y) Y (tl Y) ?_
  refine RT.yield .none hr Y (λ_ h=>h) Y (i) Y Y hi (by exact⟨(by show AV.sv _=AV.sv _;rw[dA zD]),Y,ak⟩) (tl Y) (λyb=>?_)
  cases yb
  ·
   refine RT.not .none Y (tl Y) true Y ?_
   refine RT.done ?_
   refine aV.n ?_
   refine cA Y ?_
   refine bf ?_
   refine bA.r ?_
   refine aV.r ?_
   refine aV.r ?_
   refine bA.r ?_
   exact⟨.inr rfl,(λh=>by cases h)⟩
  ·
   refine RT.not .none Y (tl Y) false Y ?_
   refine RT.done ?_
   refine aV.n ?_
   refine da Y ?_
   refine bu ?_
   refine bA.n ?_
   refine aV.n ?_
   refine aW ?_
   refine RT.add .none (((i:Nat):Int)+1) Y Y (tl Y) (jg (by omega)) ?_
   refine RT.mv .none Y (tl Y) ?_
   refine RT.done ?_
   refine aV.n ?_
   refine⟨⟨i+1,by omega⟩,(by dsimp only;omega),?_⟩
   try dsimp only
   exact c6 id Y Y Y Y Y ⟨.sv (by first|exact aq|exact SV.aY (by omega)|exact SV.aY (by push_cast;omega)|exact SV.aY (by dsimp only;omega)|exact SV.imp_eq (by simp)),.sv (by first|exact aq|exact SV.aY (by omega)|exact SV.aY (by push_cast;omega)|exact SV.aY (by dsimp only;omega)|exact SV.imp_eq (by simp)),.sv (by first|exact aq|exact SV.aY (by omega)|exact SV.aY (by push_cast;omega)|exact SV.aY (by dsimp only;omega)|exact SV.imp_eq (by simp)),.sv (by first|exact aq|exact SV.aY (by omega)|exact SV.aY (by push_cast;omega)|exact SV.aY (by dsimp only;omega)|exact SV.imp_eq (by simp)),.sv (by first|exact aq|exact SV.aY (by omega)|exact SV.aY (by push_cast;omega)|exact SV.aY (by dsimp only;omega)|exact SV.imp_eq (by simp)),ak⟩ trivial trivial (λ_ _=>Y)
 ·
  subst hi
  refine bz ?_
  refine aW ?_
  refine RT.lss .none (false) Y Y (tl Y) (by simp) ?_
  refine RT.done ?_
  refine aV.n ?_
  refine bz ?_
  refine da Y ?_
  refine bO ?_
  refine aV.x ?_
  refine aV.x ?_
  refine bA.x ?_
  exact⟨.inl Y,(λ_=>Y)⟩
end
section
open Go.Fw Go.Fw.Z Go.RowKit
theorem D1{x0:Qr}{x1:Qr}{c0:Qr}{r:Qr}(h:m5 x0 x1 c0=some r):LN af 78 [.agg (eQ x0),.agg (eQ x1)] 36 (eQ c0) (.any) (eQ r):=by
 obtain⟨⟨bp,bn⟩,⟨bD,bF⟩⟩:=x0
 obtain⟨⟨bU,bR⟩,⟨dx,dy⟩⟩:=x1
 obtain⟨⟨MF,MG⟩,⟨MH,MI⟩⟩:=c0
 refine AD Tryz.func78 Y (ae Y) (λdm M β=>?_)
 unfold m5 at h
 refine sr<|bx Y<|bx Y<|dn<|qq ?_
 refine bC h (λj3=>AS.cq 18 [(2,.ptr 1000 0),(3,.ptr 3 0),(4,.ptr 4 0),(12,ai j3)] [(4,⟨36,[ai bU,.sv (slc 1 (List.map aX bR)),ai dx,.sv (slc 1 (List.map aX dy))]⟩),(3,⟨36,[ai bp,.sv (slc 1 (List.map aX bn)),ai bD,.sv (slc 1 (List.map aX bF))]⟩),(1000,⟨36,[ai MF,.sv (slc 1 (List.map aX MG)),ai MH,.sv (slc 1 (List.map aX MI))]⟩)] []) (λh=>?_) (λtj h=>?_)
 refine aW<|ld Y Y (.k4 Y Y Y Y)<|bE h λx6 h6 h=>cl (qX h6) ⟨Y,ak⟩<|lE h λx7 h7 h=>ne _ Y Y (HQ (p:=x6) (q:=0) h7)<|mv Y<|bE h λRn yZ h=>?_
 cases x7
 obtain rfl:=O (F yZ)
 exact ww<|ww<|ww<|pF Y<|dn<|⟨false,h,wR []⟩
 refine gl Y Y (.k4 Y Y Y Y)<|bE (V yZ) λdP gA yZ=>gc (qX gA) ⟨Y,ak⟩<|lE yZ λfN kO yZ=>gq _ Y Y (HQ (p:=dP) (q:=0) kO) ?_
 obtain rfl:=O yZ
 exact pT Y<|dn<|⟨fN,h,wR []⟩
 try dsimp only
 refine aV.n ?_
 refine bC h (λj5=>AS.cq 18 [(2,.ptr 1000 0)] [(1000,⟨36,[ai j5.1,.sv (slc 1 (List.map aX j5.2.1)),ai j5.2.2.1,.sv (slc 1 (List.map aX j5.2.2.2))]⟩)] []) (λh=>?_) (λj5 h=>?_)
 cases tj
 exact fs<|⟨(MF,MG,MH,MI),(F h),wR []⟩
 refine cT<|aZ mixed<|ld Y Y (.k4 Y Y Y Y)<|ld Y Y (.k4 Y Y Y Y)<|ld Y Y (.k4 Y Y Y Y) ?_
 obtain⟨⟨⟨jl,jm⟩,⟨zf,zg⟩⟩,jo,h⟩:=bS (V h)
 refine cl (Gi jo) ⟨Y,Y,ak⟩ ?_
 obtain⟨⟨⟨kZ,k7⟩,⟨rS,rT⟩⟩,jb,h⟩:=bS h
 refine cl (Gf jb) ⟨Y,Y,ak⟩<|so Y Y Y ?_
 refine RT.done ⟨by kernel_rfl,?_⟩
 exact aV.n<|⟨(kZ,k7,rS,rT),h,wR []⟩
 obtain⟨CW,CX,CY,CZ⟩:=j5
 try dsimp only
 obtain rfl:=O h
 exact⟨.inl Y,nW .nil (λ_ _ _=>trivial),Y⟩
theorem n6{x0:Qr}{x1:List Qr}(N:Nat){r:List Qr}(h:fG x0 x1=some r):dU af 55 N [.agg (eQ x0),slc 4 (List.map eQ x1)] (nw N (slc 4 (List.map (fQ N) r))):=by
 obtain⟨⟨bp,bn⟩,⟨bD,bF⟩⟩:=x0
 refine bP Tryz.func55 Y (ae Y) (λdm M vs hN hvs=>?_)
 unfold fG at h
 refine sr<|bx Y<|aI Y (bw (N:=N) (n:=4) (e:=(fQ N)))<|dn<|sr<|mv Y<|lE h λx9 h9 h=>ln Y h9<|bE h λdP gA h=>RT.sx (n:=4) (e:=(fQ N)) .none Y Y T Y T (by rfl) (by decide) (by exact⟨aq,bw,aq,bw,ak⟩) gA<|an (s:=.row _) Y<|dn<|qq<|sr<|mv Y<|lE h λcP fz h=>ln Y fz<|mv Y<|dn<|bE h λe8 DQ vE=>?_
 refine bL (λ(gz:(List Qr))=>AS.cq 26 [(5,.row 10)] [] [(10,TR 36 4 (fQ N) gz)]) (λgz=>gz=e8) ?_ (λgz DR=>?_)
 refine bh ?_
 refine bM DQ (λs8=>AS.cq 26 [(2,.ptr 2 0),(5,.row 10),(11,.sv (slc 4 (List.map eQ x1))),(12,ah cP),(13,ah s8.1)] [(2,⟨36,[ai bp,.sv (slc 1 (List.map aX bn)),ai bD,.sv (slc 1 (List.map aX bF))]⟩)] [(10,TR 36 4 (fQ N) s8.2)]) (wR []) (λs8 y8 G8 h DS DT=>?_)
 obtain⟨jx,jy⟩:=s8
 try dsimp only
 refine sr<|lE h λdW jc h=>ls _ Y Y jc<|dn<|qq ?_
 cases dW
 refine cF<|bO<|aV.x<|aV.x<|bA.x<|aV.n ?_
 obtain rfl:=O (F h)
 exact⟨jy,DT _ Y,wR []⟩
 refine cT<|bu<|aV.n<|qq<|bh<|sr<|mv Y ?_
 obtain⟨⟨⟨jl,jm⟩,⟨zf,zg⟩⟩,jo,h⟩:=bS (V h)
 refine ix Y Y jo<|RT.sg (cs:=[_,_,_,_]) .none Y T Y Y<|al (cs:=[ay false,nw N au,ay false,nw N au]) (by exact⟨aq,bw,aq,bw,ak⟩) Y<|ag Y<|so Y Y Y<|dn<|aW<|mo (s:=.row _) Y<|mv Y<|ld Y Y (.k4 Y Y Y Y)<|ld Y Y (.k4 Y Y Y Y) ?_
 obtain⟨⟨⟨oK,oL⟩,⟨qA,nS⟩⟩,lY,h⟩:=bS h
 refine RT.bQ .none (za N lY) hN Y ⟨Y,Y,ak⟩ T<|bE h λiQ o6 h=>iR Y Y Y o6<|bE h λyg qx h=>sA ⟨⟨oK,oL⟩,⟨qA,nS⟩⟩ Y Y Y qx<|RT.done<|bA.n<|aV.n<|aW<|lE h λgV o5 h=>ad _ Y Y o5<|mv Y<|RT.done ?_
 obtain rfl:=O h
 exact aV.n ⟨(gV,yg),DS _ Y,wR []⟩
 subst DR
 try dsimp only
 refine aV.n<|sr<|mo (s:=.row _) Y<|an (s:=.row _) Y<|dn<|pC (i:=10) (E1:=36) (n:=4) (e:=(fQ N)) (l:=gz) hN (λ_ h=>h) Y<|bf ?_
 obtain rfl:=O vE
 exact R1 Y
theorem xd{x0:Qr}{x1:List Qr}{r:List Qr}(h:fG x0 x1=some r):Pure af 55 [.agg (eQ x0),slc 4 (List.map eQ x1)] (slc 4 (List.map eQ r)):=fW (λN=>n6 N h) (λN=>nwQ)
theorem vK{x0:List Qr}{x1:List Qr}{r:Qr}(h:iT x0 x1=some r):Pure af 32 [slc 4 (List.map eQ x0),slc 4 (List.map eQ x1)] (.agg (eQ r)):=by
 refine bj Tryz.func32 Y (ae Y) (λdm M vs hvs=>?_)
 unfold iT at h
 refine sr<|al (cs:=[ay false,au,ay false,au]) (by exact⟨aq,aA,aq,aA,ak⟩) Y<|dn<|sr<|al (cs:=[ay false,au,ay false,au]) (by exact⟨aq,aA,aq,aA,ak⟩) Y<|dn<|sr<|RT.makeFunc .none (.box Y (.nil)) T<|RT.alloc .none T Y Y<|RT.me (cells:=[_]) .none (s:=.fT _ _) Y Y Y T Y ?_
 refine dn<|sr<|mv Y<|lE h λcP fz h=>ln Y fz<|mv Y<|lE h λdW jc h=>ln Y jc<|lE h λdL iN h=>RT.min .none _ Y Y T (SX (p:=cP) (q:=dW) iN)<|ag Y<|dn<|qq<|qq<|aZ mixed<|mv Y<|mv Y<|bE h λeI jP h=>RT.sw .none 0 dL Y Y ⟨_,Y⟩ T jP<|mv Y<|mv Y<|bE h λgO mZ h=>RT.sw .none 0 dL Y Y ⟨_,Y⟩ T mZ<|cl (w9 eI gO) ⟨Y,Y,ak⟩ ?_
 refine RT.done ⟨by kernel_rfl,?_⟩
 refine aV.n<|bh<|bE h λe7 WV Pa=>?_
 obtain⟨Ky,WW,WX,WY⟩:=qt WV
 refine nX (xb eI gO) (λ_ _ _ _ _=>trivial) Y (λk=>AS.cq 30 [(4,.ptr 4 0),(5,.ptr 5 0),(6,.ptr 6 0),(22,.sv (qQ 112 [ref [slc 4 (List.map eQ eI)],ref [slc 4 (List.map eQ gO)]]))] [(6,⟨91,[.fT 78 [.box 5]]⟩),(5,⟨36,[ai ((Ky k).1),.sv (slc 1 (List.map aX (Ky k).2.1)),ai ((Ky k).2.2.1),.sv (slc 1 (List.map aX (Ky k).2.2.2))]⟩),(4,⟨36,[ai false,.sv au,ai false,.sv au]⟩)] []) [6,5,4] Y (λ_=>⟨Y,Y⟩) (vi Y) (λ_=>Y) (vk Y) (by(try dsimp only);rw[WW];(try dsimp only);exact c6 id Y Y Y Y Y ⟨.ptr,.ptr,.ptr,.sv aq,ak⟩ ⟨⟨_,Y,⟨.fT,ak⟩⟩,⟨_,Y,⟨.sv aq,.sv aq,.sv aq,.sv aq,ak⟩⟩,⟨_,Y,⟨.sv aq,.sv aq,.sv aq,.sv aq,ak⟩⟩,ak⟩ trivial (λ_ _=>Y)) (λk hk D hD=>?_) ?_
 have h:=WX k hk
 obtain⟨sk,Tt⟩:∃q,Ky k=q:=⟨_,Y⟩
 rw[Tt]at h⊢
 obtain⟨Bc,Bd,Be,Bf⟩:=sk
 dsimp only[AS.OR,uR]
 try dsimp only at h
 obtain⟨⟨⟨Ro,Rp⟩,⟨Rq,Rr⟩⟩,abE,h⟩:=bS h
 rw[Option.some.inj abE]
 obtain⟨⟨⟨Rt,Ru⟩,⟨Rv,Rw⟩⟩,abF,h⟩:=bS h
 rw[Option.some.inj abF]
 refine sr<|al (cs:=[ay false,au,ay false,au]) (by exact⟨aq,aA,aq,aA,ak⟩) Y<|so Y Y Y<|dn<|aW<|al (cs:=[ay false,au,ay false,au]) (by exact⟨aq,aA,aq,aA,ak⟩) Y<|so Y Y Y<|RT.done ?_
 refine aV.n ⟨Y,?_⟩
 dsimp only[AS.Dv]
 refine bh<|aW<|RT.ku .none (s:=.fT _ _) Y Y Y T<|ld Y Y (.k4 Y Y Y Y)<|ld Y Y (.k4 Y Y Y Y) ?_
 obtain⟨⟨⟨Xg,Xh⟩,⟨Xi,Xj⟩⟩,vD,h⟩:=bS h
 refine cB (D1 vD) 5 Y ⟨Y,Y,ak⟩<|RT.done<|bA.n ?_
 replace h:=Option.some.inj h
 refine⟨ak,Y,Y,?_⟩
 try dsimp only
 rw[←h]
 try dsimp only
 exact wR []
 rw[WY]
 obtain⟨Bc,Bd,Be,Bf⟩:=e7
 try dsimp only
 refine bA.n<|aV.n<|sr<|ld Y Y (.k4 Y Y Y Y)<|so Y Y Y<|dn<|bf ?_
 obtain rfl:=O Pa
 exact RZ (.agg Y Y (.k4 Y Y Y Y) Y (.nil))
theorem Bh{x0:List Qr}{x1:List Qr}{r:Int}(h:jS x0 x1=some r):Pure af 36 [slc 4 (List.map eQ x0),slc 4 (List.map eQ x1)] (ax r):=by
 refine bj Tryz.func36 Y (ae Y) (λdm M vs hvs=>?_)
 unfold jS at h
 refine sr<|al (cs:=[ax 0]) (by exact⟨aq,ak⟩) Y<|dn<|qq<|sr<|mv Y<|mv Y<|cl (w9 x0 x1) ⟨Y,Y,ak⟩<|dn<|bh<|bE h λe3 SW TP=>?_
 obtain⟨m3,st3,YL,ht3,hn3⟩:=ya SW
 refine mH (xb x0 x1) (λ_ _ _ _ _=>trivial) Y (λk=>AS.cq 19 [(4,.ptr 4 0),(10,.sv (qQ 112 [ref [slc 4 (List.map eQ x0)],ref [slc 4 (List.map eQ x1)]]))] [(4,⟨3,[ah 0]⟩)] []) [4] Y (λ_=>⟨Y,Y⟩) (vi Y) (λ_=>Y) (vk Y) (by(try dsimp only);(try dsimp only);exact c6 id Y Y Y Y Y ⟨.ptr,.sv aq,ak⟩ ⟨⟨_,Y,⟨.sv aq,ak⟩⟩,ak⟩ trivial (λ_ _=>Y)) m3 (λk hk hkm D hD=>?_) (λhdn=>?_)
 obtain⟨y3,h,hG3,hE3⟩:=ht3 k hk hkm
 dsimp only[AS.OR,uR]
 try dsimp only at h
 obtain⟨⟨⟨Gk,Gl⟩,⟨Gm,Gn⟩⟩,MJ,h⟩:=bS h
 rw[Option.some.inj MJ]
 obtain⟨⟨⟨Rx,Ry⟩,⟨Rz,RA⟩⟩,abL,h⟩:=bS h
 rw[Option.some.inj abL]
 refine sr<|al (cs:=[ay false,au,ay false,au]) (by exact⟨aq,aA,aq,aA,ak⟩) Y<|so Y Y Y<|dn<|aW<|al (cs:=[ay false,au,ay false,au]) (by exact⟨aq,aA,aq,aA,ak⟩) Y<|so Y Y Y<|RT.done ?_
 refine aV.n ⟨Y,?_⟩
 dsimp only[AS.Dv]
 refine bh<|sr<|ld Y Y (.k4 Y Y Y Y)<|ld Y Y (.k4 Y Y Y Y)<|bE h λdL iN h=>cl (ze iN) ⟨Y,Y,ak⟩<|ag Y<|dn<|sr<|mv Y<|lE h λdS jb h=>ne _ Y Y (HQ (p:=dL) (q:=0) jb)<|dn ?_
 cases dS
 refine cF<|bu<|bA.n ?_
 obtain rfl:=O (F h)
 obtain⟨hm3,hq3⟩:=hG3 _ Y
 exact⟨hm3,Y,Y,wR []⟩
 refine cT<|sr<|mv Y<|RT.me (cells:=[_]) .none (s:=.sv _) Y Y Y T Y<|dn<|bf<|bA.r ?_
 obtain rfl:=O (V h)
 have he3:=hE3 _ Y
 subst he3
 refine⟨Y,Y,?_⟩
 refine bA.r<|aV.r ?_
 obtain rfl:=O TP
 exact RZ (.one Y Y Y (.nil))
 have hd3:=hn3 hdn
 subst hd3
 obtain⟨ee3,TQ⟩:∃q,st3 (max x0.length x1.length)=q:=⟨_,Y⟩
 rw[TQ]at TP
 try dsimp only
 refine bA.n<|aV.n<|sr<|RT.me (cells:=[_]) .none (s:=.sv _) Y Y Y T Y<|dn<|bf ?_
 obtain rfl:=O TP
 exact RZ (.one Y Y Y (.nil))
theorem lz{x0:List Qr}{x1:List Qr}{r:Bool}(h:fH x0 x1=some r):Pure af 37 [slc 4 (List.map eQ x0),slc 4 (List.map eQ x1)] (ay r):=by
 refine bj Tryz.func37 Y (ae Y) (λdm M vs hvs=>?_)
 unfold fH at h
 refine sr<|ag Y<|dn<|sr<|mv Y<|mv Y<|bE h λx7 h7 h=>cl (Bh h7) ⟨Y,Y,ak⟩<|lE h λx8 h8 h=>eq _ Y Y (zF (p:=x7) (q:=0) h8)<|ag Y<|dn<|bf ?_
 obtain rfl:=O h
 exact R1 Y
theorem fm{x0:List Int}{r:List Qr}(h:dh x0=some r):Pure af 42 [slc 1 (List.map bK x0)] (slc 4 (List.map eQ r)):=by
 refine bj Tryz.func42 Y (ae Y) (λdm M vs hvs=>?_)
 unfold dh at h
 refine sr<|aI Y (aA (n:=4) (e:=eQ))<|dn<|sr<|mv Y<|lE h λx7 h7 h=>ln Y h7<|bE h λx8 h8 h=>RT.sx (n:=4) (e:=eQ) .none Y Y T Y T (by rfl) (by decide) (by exact⟨aq,aA,aq,aA,ak⟩) h8<|an (s:=.row _) Y<|dn<|qq<|sr<|mv Y<|lE h λdP gA h=>ln Y gA<|mv Y<|dn<|bE h λe8 DQ vE=>?_
 refine bL (λ(vJ:(List Qr))=>AS.cq 23 [(3,.row 8)] [] [(8,TR 36 4 eQ vJ)]) (λvJ=>vJ=e8) ?_ (λvJ DR=>?_)
 refine bh ?_
 refine bM DQ (λs8=>AS.cq 23 [(3,.row 8),(9,.sv (slc 1 (List.map bK x0))),(10,ah dP),(11,ah s8.1)] [] [(8,TR 36 4 eQ s8.2)]) (wR []) (λs8 y8 G8 h DS DT=>?_)
 obtain⟨tq,Bg⟩:=s8
 try dsimp only
 refine sr<|lE h λcP fz h=>ls _ Y Y fz<|dn<|qq ?_
 cases cP
 refine cF<|bO<|aV.x<|aV.x<|bA.x<|aV.n ?_
 obtain rfl:=O (F h)
 exact⟨Bg,DT _ Y,wR []⟩
 refine cT<|bu<|aV.n<|qq<|bh<|sr<|mv Y<|bE (V h) λdW jc h=>ix Y Y jc<|lr Y Y<|ag Y<|ag Y<|dn<|aW<|mo (s:=.row _) Y<|mv Y<|mv Y ?_
 obtain⟨⟨⟨gx,gy⟩,⟨l8,l9⟩⟩,lX,h⟩:=bS h
 refine cl (lu lX) ⟨Y,ak⟩<|bE h λke qw h=>iR Y Y Y qw<|bE h λyg qx h=>sA ⟨⟨gx,gy⟩,⟨l8,l9⟩⟩ Y Y Y qx<|RT.done<|bA.n<|aV.n<|aW<|lE h λgO mZ h=>ad _ Y Y mZ<|mv Y<|RT.done ?_
 obtain rfl:=O h
 exact aV.n ⟨(gO,yg),DS _ Y,wR []⟩
 subst DR
 try dsimp only
 refine aV.n<|sr<|mo (s:=.row _) Y<|an (s:=.row _) Y<|dn<|bX (dR (i:=8) (E1:=36) (n:=4) (e:=eQ) (l:=vJ) Y)<|bf ?_
 obtain rfl:=O vE
 exact R1 Y
end
section
open Go.Fw
noncomputable def mA(x0:List (List Qr))(x1:Int):Option (List Qr):=cm (λ(tj:Bool)=>(bif tj then some []else(cQ x0 x1).bind λdL=>some dL)) λK3=>(some (decide ((x1:Int)<0))).bind λx6=>(bif x6 then some true else(some (x0.length:Int)).bind λdP=>(some (decide ((dP:Int)≤x1))).bind λfN=>some fN).bind λGp=>K3 Gp
noncomputable def mB(x0:List (List Qr)):Option (Int):=(some (x0.length:Int)).bind λx7=>(b9 (λ(s6:Int×Int)=>match s6 with|⟨m6,Pk⟩=>(show Option ((Int×Int)⊕(Int))from(some (decide ((Pk:Int)<x7))).bind λx9=>(bif x9 then(cQ x0 Pk).bind λdP=>(some (dP.length:Int)).bind λdW=>(some (max (m6:Int) dW)).bind λdL=>(some (IntKind.i64.wrap (Pk+1))).bind λfy=>some (.inl (dL,fy))else some (.inr m6)))) (0,0)).bind λqB=>some qB
noncomputable def qC(x0:List (List Qr))(x1:Int)(x2:Int):Option (Qr):=(mA x0 x1).bind λdP=>cm (λ(MK:Bool)=>(bif MK then some ⟨⟨false,[]⟩,⟨false,[]⟩⟩else(cQ dP x2).bind λ⟨⟨oK,oL⟩,⟨qA,nS⟩⟩=>(eE ⟨⟨oK,oL⟩,⟨qA,nS⟩⟩).bind λ⟨⟨tu,tv⟩,⟨zh,zj⟩⟩=>some ⟨⟨tu,tv⟩,⟨zh,zj⟩⟩)) λK3=>(some (decide ((x2:Int)<0))).bind λcP=>(bif cP then some true else(some (dP.length:Int)).bind λfy=>(some (decide ((fy:Int)≤x2))).bind λdS=>some dS).bind λRB=>K3 RB
noncomputable def lA(x0:List (List Qr))(x1:List Qr):Option (List Qr):=(some (x0.length:Int)).bind λx9=>(EX 64 x9 (⟨⟨false,[]⟩,⟨false,[]⟩⟩:Qr)).bind λdP=>(some (x0.length:Int)).bind λcP=>(b9 (λ(s8:Int×(List Qr))=>match s8 with|⟨jx,jy⟩=>(show Option ((Int×(List Qr))⊕((List Qr)))from(some (decide ((jx:Int)<cP))).bind λdW=>(bif dW then(cQ x0 jx).bind λfy=>(iT fy x1).bind λ⟨⟨oK,oL⟩,⟨qA,nS⟩⟩=>(vm jy jx).bind λiQ=>(stM jy iQ ⟨⟨oK,oL⟩,⟨qA,nS⟩⟩).bind λyg=>(some (IntKind.i64.wrap (jx+1))).bind λgV=>some (.inl (gV,yg))else some (.inr jy)))) (0,dP)).bind λgz=>some gz
noncomputable def iw(x0:Qr)(x1:List (List Qr)):Option (List (List Qr)):=match x0 with|⟨⟨bp,bn⟩,⟨bD,bF⟩⟩=>(some (x1.length:Int)).bind λx9=>(EX 24 x9 ([]:List Qr)).bind λdP=>(some (x1.length:Int)).bind λcP=>(b9 (λ(s8:Int×(List (List Qr)))=>match s8 with|⟨jx,jy⟩=>(show Option ((Int×(List (List Qr)))⊕((List (List Qr))))from(some (decide ((jx:Int)<cP))).bind λdW=>(bif dW then(cQ x1 jx).bind λfy=>(fG ⟨⟨bp,bn⟩,⟨bD,bF⟩⟩ fy).bind λgw=>(vm jy jx).bind λiQ=>(stM jy iQ gw).bind λyg=>(some (IntKind.i64.wrap (jx+1))).bind λgV=>some (.inl (gV,yg))else some (.inr jy)))) (0,dP)).bind λgz=>some gz
noncomputable def n7(x0:Qr)(x1:List (List Qr)):Option (List (List Qr)):=match x0 with|⟨⟨bp,bn⟩,⟨bD,bF⟩⟩=>(some (x1.length:Int)).bind λx9=>(EX 24 x9 ([]:List Qr)).bind λdP=>(some (x1.length:Int)).bind λcP=>(b9 (λ(s8:Int×(List (List Qr)))=>match s8 with|⟨jx,jy⟩=>(show Option ((Int×(List (List Qr)))⊕((List (List Qr))))from(some (decide ((jx:Int)<cP))).bind λdW=>(bif dW then(cQ x1 jx).bind λfy=>(fG ⟨⟨bp,bn⟩,⟨bD,bF⟩⟩ fy).bind λgw=>(vm jy jx).bind λiQ=>(stM jy iQ gw).bind λyg=>(some (IntKind.i64.wrap (jx+1))).bind λgV=>some (.inl (gV,yg))else some (.inr jy)))) (0,dP)).bind λgz=>some gz
noncomputable def jz(x0:List (List Qr))(x1:List (List Qr)):Option (Bool):=(nF (λ(k:Nat) (s3:Unit)=>(show Option ((Unit)⊕(Bool))from(some (x0.getD k [])).bind λS9=>(some (x1.getD k [])).bind λp11=>(fH S9 p11).bind λdW=>(some (!dW)).bind λdL=>(bif dL then some (.inr false)else some (.inl ())))) (max x0.length x1.length) ()).bind λe3=>match e3 with|.inr v3=>some v3|.inl _=>some true
noncomputable def eU(x0:List (List Int)):Option (List (List Qr)):=(some (x0.length:Int)).bind λx7=>(EX 24 x7 ([]:List Qr)).bind λx8=>(some (x0.length:Int)).bind λdP=>(b9 (λ(s8:Int×(List (List Qr)))=>match s8 with|⟨tq,Bg⟩=>(show Option ((Int×(List (List Qr)))⊕((List (List Qr))))from(some (decide ((tq:Int)<dP))).bind λcP=>(bif cP then(cQ x0 tq).bind λdW=>(dh dW).bind λkN=>(vm Bg tq).bind λke=>(stM Bg ke kN).bind λyg=>(some (IntKind.i64.wrap (tq+1))).bind λgO=>some (.inl (gO,yg))else some (.inr Bg)))) (0,x8)).bind λvJ=>some vJ
end
section
open Go.Fw Go.Fw.Z Go.RowKit
theorem vL{x0:List (List Qr)}{x1:Int}{r:List Qr}(h:mA x0 x1=some r):Pure af 96 [slc 1 (List.map (eS 4 eQ) x0),.v (.int .i64 x1)] (slc 4 (List.map eQ r)):=by
 refine bj Tryz.func96 Y (ae Y) (λdm M vs hvs=>?_)
 unfold mA at h
 refine sr<|aI Y (aA (n:=4) (e:=eQ))<|dn<|qq<|qq ?_
 refine bC h (λj3=>AS.cq 17 [(0,.sv (slc 1 (List.map (eS 4 eQ) x0))),(1,.sv (.v (.int .i64 x1))),(12,.sv (.v (.bool j3)))] [] []) (λh=>?_) (λtj h=>?_)
 refine aW<|mv Y<|lE h λx6 h6 h=>ls _ Y Y h6<|mv Y<|bE h λGp qy h=>?_
 cases x6
 refine gm Y<|gm Y<|lE (F qy) λdP gA qy=>gn Y gA<|lE qy λfN kO qy=>RT.geq (.some Y Y) _ Y Y T kO ?_
 obtain rfl:=O qy
 exact pF Y<|dn<|⟨fN,h,wR []⟩
 obtain rfl:=O (V qy)
 exact ww<|ww<|ww<|ww<|pT Y<|dn<|⟨true,h,wR []⟩
 try dsimp only
 refine aV.n ?_
 cases tj
 refine fs<|sr<|mv Y<|mv Y<|bE (F h) λdL iN h=>ix Y Y iN<|lr Y Y<|ag Y<|dn<|bf ?_
 obtain rfl:=O h
 exact R1 Y
 refine cT<|sr<|aI Y (aA (n:=4) (e:=eQ))<|dn<|bf<|aV.r ?_
 obtain rfl:=O (V h)
 exact R1 Y
theorem Bi(a:List (List Qr))(i:Nat):mA a (i:Int)=some (a.getD i []):=by
 unfold mA
 unfold cm
 by_cases h:i<a.length
 simp[cQ,h,show ¬((i:Int)<0) by omega,show ¬((a.length:Int)≤(i:Int)) by omega,List.getD]
 simp[h,show ¬((i:Int)<0) by omega,show((a.length:Int)≤(i:Int)) by omega,dA (Nat.not_lt.1 h)]
theorem zQ(a b:List (List Qr)):Pure af 90 [(slc 1 (List.map (eS 4 eQ) a)),(slc 1 (List.map (eS 4 eQ) b))] (qQ 120 [ref [(slc 1 (List.map (eS 4 eQ) a))],ref [(slc 1 (List.map (eS 4 eQ) b))]]):=by
 refine bj Tryz.func90 Y (ae Y) (λdm M vs hvs=>?_)
 refine sr<|RT.Dq .none (s:=.sv _) Y T Y Y<|RT.Dq .none (s:=.sv _) Y T Y Y<|ag Y<|dn<|sr<|RT.makeFunc .none (.box Y (.box Y (.nil))) T<|an (s:=.fT _ _) Y<|dn<|bX (mg (i:=2) Y [(slc 1 (List.map (eS 4 eQ) a))] (.cons Y .nil) .any 0 [(4,.fT 120 [.val (ref [(slc 1 (List.map (eS 4 eQ) a))]),.box 3])] (λ_ _ _=>trivial) (uF.h (l:=[(slc 1 (List.map (eS 4 eQ) a))])) ⟨@FT.fT _ _ _ _ _ 4 120 [.box 2,.box 3] Y,ak⟩) ?_
 exact bX (mg (i:=3) Y [(slc 1 (List.map (eS 4 eQ) b))] (.cons Y .nil) .any 0 [(4,.fT 120 [.val (ref [(slc 1 (List.map (eS 4 eQ) a))]),.val (ref [(slc 1 (List.map (eS 4 eQ) b))])])] (λ_ _ _=>trivial) (uF.h (l:=[(slc 1 (List.map (eS 4 eQ) b))])) ⟨@FT.fT _ _ _ _ _ 4 120 [.val (ref [(slc 1 (List.map (eS 4 eQ) a))]),.box 3] Y,ak⟩)<|bX (Dw 4 (qQ 120 [ref [(slc 1 (List.map (eS 4 eQ) a))],ref [(slc 1 (List.map (eS 4 eQ) b))]]) (λ_ _ h=>Dx h))<|bf<|⟨.inr Y,Dt (.tmp Y (.nil)) Y⟩
theorem zR(a b:List (List Qr)):Iter af 120 [ref [(slc 1 (List.map (eS 4 eQ) a))],ref [(slc 1 (List.map (eS 4 eQ) b))]] (max a.length b.length) (λk=>[(slc 4 (List.map eQ (a.getD k []))),(slc 4 (List.map eQ (b.getD k [])))]):=by
 refine qR Tryz.func120 Y Y (ae Y) (λdm M O l J hJ xQ hr=>?_)
 obtain⟨rW,xQ⟩:=xQ
 have hla:a.length≤9223372036854775807:=by cases rW with|nil=>exact xQ.elim|cons _ rW=>exact ud xQ.1
 have hlb:b.length≤9223372036854775807:=by cases rW with|nil=>exact xQ.elim|cons _ rW=>cases rW with|nil=>exact xQ.2.elim|cons _ _=>exact ud xQ.2.1
 refine bz ?_
 refine aW ?_
 refine RT.cM .none Y Y (tl Y) ?_
 refine RT.len .none Y (tl Y) ?_
 refine RT.cM .none Y Y (tl Y) ?_
 refine RT.len .none Y (tl Y) ?_
 refine RT.max .none (((max a.length b.length:Nat):Int)) Y Y (tl Y) (by simp only[List.length_map];split<;>omega) ?_
 refine RT.mv .none Y (tl Y) ?_
 refine RT.done ?_
 refine aV.n ?_
 refine bh ?_
 refine pA (I:=λx:{i:Nat//i≤max a.length b.length}=>AS.cq 23 [(0,.sv (.v (.func (.yield l) #[] #[]))),(1,.sv (ref [(slc 1 (List.map (eS 4 eQ) a))])),(2,.sv (ref [(slc 1 (List.map (eS 4 eQ) b))])),(9,.sv (.v (.int .i64 ((max a.length b.length:Nat):Int)))),(10,.sv (.v (.int .i64 ((x.1:Nat):Int))))] [] [] (x.1)) (μ:=λx=>max a.length b.length-x.1) ⟨0,by omega⟩ (by(try dsimp only);exact c6 id Y Y Y Y Y ⟨.sv (by first|exact aq|exact SV.aY (by omega)|exact SV.aY (by push_cast;omega)|exact SV.aY (by dsimp only;omega)|exact SV.imp_eq (by simp)),.sv (by first|exact aq|exact SV.aY (by omega)|exact SV.aY (by push_cast;omega)|exact SV.aY (by dsimp only;omega)|exact SV.imp_eq (by simp)),.sv (by first|exact aq|exact SV.aY (by omega)|exact SV.aY (by push_cast;omega)|exact SV.aY (by dsimp only;omega)|exact SV.imp_eq (by simp)),.sv (by first|exact aq|exact SV.aY (by omega)|exact SV.aY (by push_cast;omega)|exact SV.aY (by dsimp only;omega)|exact SV.imp_eq (by simp)),.sv (by first|exact aq|exact SV.aY (by omega)|exact SV.aY (by push_cast;omega)|exact SV.aY (by dsimp only;omega)|exact SV.imp_eq (by simp)),ak⟩ trivial trivial (λ_ _=>Y)) ?_
 rintro⟨i,QU⟩
 try dsimp only
 rcases Nat.lt_or_eq_of_le QU with hi|hi
 ·
  refine bz ?_
  refine aW ?_
  refine RT.lss .none (true) Y Y (tl Y) (by simp;omega) ?_
  refine RT.done ?_
  refine aV.n ?_
  refine bz ?_
  refine cA Y ?_
  refine bu ?_
  refine aV.n ?_
  refine bz ?_
  refine bh ?_
  refine bz ?_
  refine aW ?_
  refine RT.mv .none Y (tl Y) ?_
  refine RT.wA .none Y (tl Y) ?_
  refine RT.done ?_
  refine aV.n ?_
  refine bz ?_
  refine AM 7 mixed ?_
  refine RT.mv .none Y (tl Y) ?_
  refine RT.cM .none Y Y (tl Y) ?_
  refine RT.mv .none Y (tl Y) ?_
  refine RT.call .none (vL (Bi a i)) Y ⟨Y,Y,ak⟩ (tl Y) ?_
  refine RT.cM .none Y Y (tl Y) ?_
  refine RT.mv .none Y (tl Y) ?_
  refine RT.call .none (vL (Bi b i)) Y ⟨Y,Y,ak⟩ (tl Y) ?_
  refine RT.done ⟨by kernel_rfl,?_⟩
  refine RT.yield .none hr Y (λ_ h=>h) Y (i) Y Y hi (by exact⟨Y,Y,ak⟩) (tl Y) (λyb=>?_)
  cases yb
  ·
   refine RT.not .none Y (tl Y) true Y ?_
   refine RT.done ?_
   refine aV.n ?_
   refine cA Y ?_
   refine bf ?_
   refine bA.r ?_
   refine aV.r ?_
   refine aV.r ?_
   refine bA.r ?_
   exact⟨.inr rfl,(λh=>by cases h)⟩
  ·
   refine RT.not .none Y (tl Y) false Y ?_
   refine RT.done ?_
   refine aV.n ?_
   refine da Y ?_
   refine bu ?_
   refine bA.n ?_
   refine aV.n ?_
   refine aW ?_
   refine RT.add .none (((i:Nat):Int)+1) Y Y (tl Y) (jg (by omega)) ?_
   refine RT.mv .none Y (tl Y) ?_
   refine RT.done ?_
   refine aV.n ?_
   refine⟨⟨i+1,by omega⟩,(by dsimp only;omega),?_⟩
   try dsimp only
   exact c6 id Y Y Y Y Y ⟨.sv (by first|exact aq|exact SV.aY (by omega)|exact SV.aY (by push_cast;omega)|exact SV.aY (by dsimp only;omega)|exact SV.imp_eq (by simp)),.sv (by first|exact aq|exact SV.aY (by omega)|exact SV.aY (by push_cast;omega)|exact SV.aY (by dsimp only;omega)|exact SV.imp_eq (by simp)),.sv (by first|exact aq|exact SV.aY (by omega)|exact SV.aY (by push_cast;omega)|exact SV.aY (by dsimp only;omega)|exact SV.imp_eq (by simp)),.sv (by first|exact aq|exact SV.aY (by omega)|exact SV.aY (by push_cast;omega)|exact SV.aY (by dsimp only;omega)|exact SV.imp_eq (by simp)),.sv (by first|exact aq|exact SV.aY (by omega)|exact SV.aY (by push_cast;omega)|exact SV.aY (by dsimp only;omega)|exact SV.imp_eq (by simp)),ak⟩ trivial trivial (λ_ _=>Y)
 ·
  subst hi
  refine bz ?_
  refine aW ?_
  refine RT.lss .none (false) Y Y (tl Y) (by simp) ?_
  refine RT.done ?_
  refine aV.n ?_
  refine bz ?_
  refine da Y ?_
  refine bO ?_
  refine aV.x ?_
  refine aV.x ?_
  refine bA.x ?_
  exact⟨.inl Y,(λ_=>Y)⟩
theorem zk{x0:List (List Qr)}{r:Int}(h:mB x0=some r):Pure af 58 [slc 1 (List.map (eS 4 eQ) x0)] (.v (.int .i64 r)):=by
 refine bj Tryz.func58 Y (ae Y) (λdm M vs hvs=>?_)
 unfold mB at h
 refine sr<|ag Y<|dn<|sr<|ag Y<|dn<|qq<|sr<|mv Y<|lE h λx7 h7 h=>ln Y h7<|mv Y<|dn<|bE h λe6 AX jX=>?_
 refine bL (λ(qB:Int)=>AS.cq 18 [(3,.sv (.v (.int .i64 qB)))] [] []) (λqB=>qB=e6) ?_ (λqB AY=>?_)
 refine bh ?_
 refine bM AX (λs6=>AS.cq 18 [(3,.sv (.v (.int .i64 s6.1))),(6,.sv (slc 1 (List.map (eS 4 eQ) x0))),(7,.sv (.v (.int .i64 x7))),(8,.sv (.v (.int .i64 s6.2)))] [] []) (wR []) (λs6 y6 G6 h AZ wU=>?_)
 obtain⟨m6,Pk⟩:=s6
 try dsimp only
 refine sr<|lE h λx9 h9 h=>ls _ Y Y h9<|dn<|qq ?_
 cases x9
 refine cF<|bO<|aV.x<|aV.x<|bA.x<|aV.n ?_
 obtain rfl:=O (F h)
 exact⟨m6,wU _ Y,wR []⟩
 refine cT<|bu<|aV.n<|qq<|bh<|sr<|bE (V h) λdP gA h=>ix Y Y gA<|lr Y Y<|ag Y<|dn<|aW<|mv Y<|mv Y<|lE h λdW jc h=>ln Y jc<|lE h λdL iN h=>RT.max .none _ Y Y T (OV (p:=m6) (q:=dW) iN)<|ag Y<|RT.done<|bA.n<|aV.n<|aW<|lE h λfy jo h=>ad _ Y Y jo<|mv Y<|RT.done ?_
 obtain rfl:=O h
 exact aV.n ⟨(dL,fy),AZ _ Y,wR []⟩
 subst AY
 try dsimp only
 refine aV.n<|sr<|mv Y<|ag Y<|dn<|bf ?_
 obtain rfl:=O jX
 exact R1 Y
theorem C0{x0:List (List Qr)}{x1:Int}{x2:Int}{r:Qr}(h:qC x0 x1 x2=some r):Pure af 57 [slc 1 (List.map (eS 4 eQ) x0),.v (.int .i64 x1),.v (.int .i64 x2)] (.agg (eQ r)):=by
 refine bj Tryz.func57 Y (ae Y) (λdm M vs hvs=>?_)
 unfold qC at h
 refine sr<|al (cs:=[.v (.bool false),slc 1 (List.map aX []),.v (.bool false),slc 1 (List.map aX [])]) (by exact⟨aq,aA,aq,aA,ak⟩) Y<|dn<|sr<|mv Y<|mv Y<|bE h λdP gA h=>cl (vL gA) ⟨Y,Y,ak⟩<|ag Y<|dn<|qq<|qq ?_
 refine bC h (λj3=>AS.cq 25 [(2,.sv (.v (.int .i64 x2))),(6,.ptr 6 0),(7,.sv (slc 4 (List.map eQ dP))),(18,.sv (.v (.bool j3)))] [(6,⟨36,[.sv (.v (.bool false)),.sv (slc 1 (List.map aX [])),.sv (.v (.bool false)),.sv (slc 1 (List.map aX []))]⟩)] []) (λh=>?_) (λMK h=>?_)
 refine aW<|mv Y<|lE h λcP fz h=>ls _ Y Y fz<|mv Y<|bE h λRB qy h=>?_
 cases cP
 refine gm Y<|gm Y<|lE (F qy) λfy jo qy=>gn Y jo<|lE qy λdS jb qy=>RT.geq (.some Y Y) _ Y Y T jb ?_
 obtain rfl:=O qy
 exact pF Y<|dn<|⟨dS,h,wR []⟩
 obtain rfl:=O (V qy)
 exact ww<|ww<|ww<|ww<|pT Y<|dn<|⟨true,h,wR []⟩
 try dsimp only
 refine aV.n ?_
 cases MK
 refine fs<|sr<|mv Y<|mv Y ?_
 obtain⟨⟨⟨oK,oL⟩,⟨qA,nS⟩⟩,lY,h⟩:=bS (F h)
 refine ix Y Y lY<|RT.sg (cs:=[_,_,_,_]) .none Y T Y Y ?_
 obtain⟨⟨⟨tu,tv⟩,⟨zh,zj⟩⟩,o5,h⟩:=bS h
 refine cl (w8 o5) ⟨Y,ak⟩<|so Y Y Y<|dn<|bf ?_
 obtain rfl:=O h
 exact RZ (.agg Y Y (.cons Y (.cons Y (.cons Y (.cons Y (.nil))))) Y (.nil))
 refine cT<|sr<|bI (cs:=[_,_,_,_]) (cs':=[.v (.bool false),slc 1 (List.map aX []),.v (.bool false),slc 1 (List.map aX [])]) (.nil) ⟨aq,aA,aq,aA,ak⟩<|so Y Y Y<|dn<|bf<|aV.r ?_
 obtain rfl:=O (V h)
 exact RZ (.agg Y Y (.cons Y (.cons Y (.cons Y (.cons Y (.nil))))) Y (.nil))
theorem Cu{x0:List (List Qr)}{x1:List Qr}{r:List Qr}(h:lA x0 x1=some r):Pure af 63 [slc 1 (List.map (eS 4 eQ) x0),slc 4 (List.map eQ x1)] (slc 4 (List.map eQ r)):=by
 refine bj Tryz.func63 Y (ae Y) (λdm M vs hvs=>?_)
 unfold lA at h
 refine sr<|aI Y (aA (n:=4) (e:=eQ))<|dn<|sr<|mv Y<|lE h λx9 h9 h=>ln Y h9<|bE h λdP gA h=>RT.sx (n:=4) (e:=eQ) .none Y Y T Y T (by rfl) (by decide) (by exact⟨aq,aA,aq,aA,ak⟩) gA<|an (s:=.row _) Y<|dn<|qq<|sr<|mv Y<|lE h λcP fz h=>ln Y fz<|mv Y<|dn<|bE h λe8 DQ vE=>?_
 refine bL (λ(gz:(List Qr))=>AS.cq 26 [(5,.row 10)] [] [(10,TR 36 4 eQ gz)]) (λgz=>gz=e8) ?_ (λgz DR=>?_)
 refine bh ?_
 refine bM DQ (λs8=>AS.cq 26 [(1,.sv (slc 4 (List.map eQ x1))),(5,.row 10),(11,.sv (slc 1 (List.map (eS 4 eQ) x0))),(12,.sv (.v (.int .i64 cP))),(13,.sv (.v (.int .i64 s8.1)))] [] [(10,TR 36 4 eQ s8.2)]) (wR []) (λs8 y8 G8 h DS DT=>?_)
 obtain⟨jx,jy⟩:=s8
 try dsimp only
 refine sr<|lE h λdW jc h=>ls _ Y Y jc<|dn<|qq ?_
 cases dW
 refine cF<|bO<|aV.x<|aV.x<|bA.x<|aV.n ?_
 obtain rfl:=O (F h)
 exact⟨jy,DT _ Y,wR []⟩
 refine cT<|bu<|aV.n<|qq<|bh<|sr<|mv Y<|bE (V h) λfy jo h=>ix Y Y jo<|lr Y Y<|ag Y<|ag Y<|dn<|aW<|mo (s:=.row _) Y<|mv Y<|mv Y<|mv Y ?_
 obtain⟨⟨⟨oK,oL⟩,⟨qA,nS⟩⟩,lY,h⟩:=bS h
 refine cl (vK lY) ⟨Y,Y,ak⟩<|bE h λiQ o6 h=>iR Y Y Y o6<|bE h λyg qx h=>sA ⟨⟨oK,oL⟩,⟨qA,nS⟩⟩ Y Y Y qx<|RT.done<|bA.n<|aV.n<|aW<|lE h λgV o5 h=>ad _ Y Y o5<|mv Y<|RT.done ?_
 obtain rfl:=O h
 exact aV.n ⟨(gV,yg),DS _ Y,wR []⟩
 subst DR
 try dsimp only
 refine aV.n<|sr<|mo (s:=.row _) Y<|an (s:=.row _) Y<|dn<|bX (dR (i:=10) (E1:=36) (n:=4) (e:=eQ) (l:=gz) Y)<|bf ?_
 obtain rfl:=O vE
 exact R1 Y
theorem xe{x0:Qr}{x1:List (List Qr)}(N:Nat){r:List (List Qr)}(h:iw x0 x1=some r):dU af 88 N [.agg (eQ x0),slc 1 (List.map (eS 4 eQ) x1)] (nw N (slc 1 (List.map (fS N 4 (fQ N)) r))):=by
 obtain⟨⟨bp,bn⟩,⟨bD,bF⟩⟩:=x0
 refine bP Tryz.func88 Y (ae Y) (λdm M vs hN hvs=>?_)
 unfold iw at h
 refine sr<|bx Y<|aI Y (bw (N:=N) (n:=1) (e:=(fS N 4 (fQ N))))<|dn<|sr<|mv Y<|lE h λx9 h9 h=>ln Y h9<|bE h λdP gA h=>RT.sx (n:=1) (e:=(fS N 4 (fQ N))) .none Y Y T Y T (by rfl) (by decide) (by exact⟨bw,ak⟩) gA<|an (s:=.row _) Y<|dn<|qq<|sr<|mv Y<|lE h λcP fz h=>ln Y fz<|mv Y<|dn<|bE h λe8 DQ vE=>?_
 refine bL (λ(gz:(List (List Qr)))=>AS.cq 26 [(5,.row 10)] [] [(10,TR 24 1 (fS N 4 (fQ N)) gz)]) (λgz=>gz=e8) ?_ (λgz DR=>?_)
 refine bh ?_
 refine bM DQ (λs8=>AS.cq 26 [(2,.ptr 2 0),(5,.row 10),(11,.sv (slc 1 (List.map (eS 4 eQ) x1))),(12,.sv (.v (.int .i64 cP))),(13,.sv (.v (.int .i64 s8.1)))] [(2,⟨36,[.sv (.v (.bool bp)),.sv (slc 1 (List.map aX bn)),.sv (.v (.bool bD)),.sv (slc 1 (List.map aX bF))]⟩)] [(10,TR 24 1 (fS N 4 (fQ N)) s8.2)]) (wR []) (λs8 y8 G8 h DS DT=>?_)
 obtain⟨jx,jy⟩:=s8
 try dsimp only
 refine sr<|lE h λdW jc h=>ls _ Y Y jc<|dn<|qq ?_
 cases dW
 refine cF<|bO<|aV.x<|aV.x<|bA.x<|aV.n ?_
 obtain rfl:=O (F h)
 exact⟨jy,DT _ Y,wR []⟩
 refine cT<|bu<|aV.n<|qq<|bh<|sr<|mv Y<|bE (V h) λfy jo h=>ix Y Y jo<|lr Y Y<|ag Y<|ag Y<|dn<|aW<|mo (s:=.row _) Y<|mv Y<|ld Y Y (.cons Y (.cons Y (.cons Y (.cons Y (.nil)))))<|mv Y<|bE h λgw lY h=>RT.bQ .none (n6 N lY) hN Y ⟨Y,Y,ak⟩ T<|bE h λiQ o6 h=>iR Y Y Y o6<|bE h λyg qx h=>sR gw Y Y Y Y qx ?_
 refine RT.done<|bA.n<|aV.n<|aW<|lE h λgV o5 h=>ad _ Y Y o5<|mv Y<|RT.done ?_
 obtain rfl:=O h
 exact aV.n ⟨(gV,yg),DS _ Y,wR []⟩
 subst DR
 try dsimp only
 refine aV.n<|sr<|mo (s:=.row _) Y<|an (s:=.row _) Y<|dn<|pC (i:=10) (E1:=24) (n:=1) (e:=(fS N 4 (fQ N))) (l:=gz) hN (λ_ h=>h) Y<|bf ?_
 obtain rfl:=O vE
 exact R1 Y
theorem xg{x0:Qr}{x1:List (List Qr)}{r:List (List Qr)}(h:iw x0 x1=some r):Pure af 88 [.agg (eQ x0),slc 1 (List.map (eS 4 eQ) x1)] (slc 1 (List.map (eS 4 eQ) r)):=fW (λN=>xe N h) (λN=>Z0)
theorem xh{x0:List (List Qr)}{x1:List (List Qr)}{r:Bool}(h:jz x0 x1=some r):Pure af 51 [slc 1 (List.map (eS 4 eQ) x0),slc 1 (List.map (eS 4 eQ) x1)] (.v (.bool r)):=by
 refine bj Tryz.func51 Y (ae Y) (λdm M vs hvs=>?_)
 unfold jz at h
 refine sr<|al (cs:=[.v (.bool false)]) (by exact⟨aq,ak⟩) Y<|dn<|qq<|sr<|mv Y<|mv Y<|cl (zQ x0 x1) ⟨Y,Y,ak⟩<|dn<|bh<|bE h λe3 SW TP=>?_
 obtain⟨m3,st3,YL,ht3,hn3⟩:=ya SW
 refine mH (zR x0 x1) (λ_ _ _ _ _=>trivial) Y (λk=>AS.cq 16 [(4,.ptr 4 0),(9,.sv (qQ 120 [ref [slc 1 (List.map (eS 4 eQ) x0)],ref [slc 1 (List.map (eS 4 eQ) x1)]]))] [(4,⟨4,[.sv (.v (.bool false))]⟩)] []) [4] Y (λ_=>⟨Y,Y⟩) (vi Y) (λ_=>Y) (vk Y) (by(try dsimp only);(try dsimp only);exact c6 id Y Y Y Y Y ⟨.ptr,.sv aq,ak⟩ ⟨⟨_,Y,⟨.sv aq,ak⟩⟩,ak⟩ trivial (λ_ _=>Y)) m3 (λk hk hkm D hD=>?_) (λhdn=>?_)
 obtain⟨y3,h,hG3,hE3⟩:=ht3 k hk hkm
 dsimp only[AS.OR,uR]
 try dsimp only at h
 refine lE h λS9 TS h=>?_
 rw[TS]
 refine lE h λp11 MJ h=>?_
 rw[MJ]
 refine sr<|ag Y<|dn<|aW<|ag Y<|RT.done ?_
 refine aV.n ⟨Y,?_⟩
 dsimp only[AS.Dv]
 refine bh<|sr<|mv Y<|mv Y<|bE h λdW jc h=>cl (lz jc) ⟨Y,Y,ak⟩<|lE h λdL iN h=>nt Y _ iN<|dn ?_
 cases dL
 refine cF<|bu<|bA.n ?_
 obtain rfl:=O (F h)
 obtain⟨hm3,hq3⟩:=hG3 _ Y
 exact⟨hm3,Y,Y,wR []⟩
 refine cT<|sr<|RT.me (cells:=[_]) .none (s:=.sv _) Y Y Y T Y<|dn<|bf<|bA.r ?_
 obtain rfl:=O (V h)
 have he3:=hE3 _ Y
 subst he3
 refine⟨Y,Y,?_⟩
 refine bA.r<|aV.r ?_
 obtain rfl:=O TP
 exact RZ (.one Y Y Y (.nil))
 have hd3:=hn3 hdn
 subst hd3
 obtain⟨ee3,TQ⟩:∃q,st3 (max x0.length x1.length)=q:=⟨_,Y⟩
 rw[TQ]at TP
 try dsimp only
 refine bA.n<|aV.n<|sr<|RT.me (cells:=[_]) .none (s:=.sv _) Y Y Y T Y<|dn<|bf ?_
 obtain rfl:=O TP
 exact RZ (.one Y Y Y (.nil))
theorem jY{x0:List (List Int)}{r:List (List Qr)}(h:eU x0=some r):Pure af 41 [slc 1 (List.map (eS 1 bK) x0)] (slc 1 (List.map (eS 4 eQ) r)):=by
 refine bj Tryz.func41 Y (ae Y) (λdm M vs hvs=>?_)
 unfold eU at h
 refine sr<|aI Y (aA (n:=1) (e:=(eS 4 eQ)))<|dn<|sr<|mv Y<|lE h λx7 h7 h=>ln Y h7<|bE h λx8 h8 h=>RT.sx (n:=1) (e:=(eS 4 eQ)) .none Y Y T Y T (by rfl) (by decide) (by exact⟨aA,ak⟩) h8<|an (s:=.row _) Y<|dn<|qq<|sr<|mv Y<|lE h λdP gA h=>ln Y gA<|mv Y<|dn<|bE h λe8 DQ vE=>?_
 refine bL (λ(vJ:(List (List Qr)))=>AS.cq 23 [(3,.row 8)] [] [(8,TR 24 1 (eS 4 eQ) vJ)]) (λvJ=>vJ=e8) ?_ (λvJ DR=>?_)
 refine bh ?_
 refine bM DQ (λs8=>AS.cq 23 [(3,.row 8),(9,.sv (slc 1 (List.map (eS 1 bK) x0))),(10,.sv (.v (.int .i64 dP))),(11,.sv (.v (.int .i64 s8.1)))] [] [(8,TR 24 1 (eS 4 eQ) s8.2)]) (wR []) (λs8 y8 G8 h DS DT=>?_)
 obtain⟨tq,Bg⟩:=s8
 try dsimp only
 refine sr<|lE h λcP fz h=>ls _ Y Y fz<|dn<|qq ?_
 cases cP
 refine cF<|bO<|aV.x<|aV.x<|bA.x<|aV.n ?_
 obtain rfl:=O (F h)
 exact⟨Bg,DT _ Y,wR []⟩
 refine cT<|bu<|aV.n<|qq<|bh<|sr<|mv Y<|bE (V h) λdW jc h=>ix Y Y jc<|lr Y Y<|ag Y<|ag Y<|dn<|aW<|mo (s:=.row _) Y<|mv Y<|mv Y<|bE h λkN lX h=>cl (fm lX) ⟨Y,ak⟩<|bE h λke qw h=>iR Y Y Y qw<|bE h λyg qx h=>sR kN Y Y Y Y qx<|RT.done<|bA.n<|aV.n<|aW<|lE h λgO mZ h=>ad _ Y Y mZ ?_
 refine mv Y<|RT.done ?_
 obtain rfl:=O h
 exact aV.n ⟨(gO,yg),DS _ Y,wR []⟩
 subst DR
 try dsimp only
 refine aV.n<|sr<|mo (s:=.row _) Y<|an (s:=.row _) Y<|dn<|bX (dR (i:=8) (E1:=24) (n:=1) (e:=(eS 4 eQ)) (l:=vJ) Y)<|bf ?_
 obtain rfl:=O vE
 exact R1 Y
end
end Go.Proofs.YtfoldppidpmchaaGreat
namespace Go.Fw
section
open Go.RowKit
theorem ML{α:Type}{e:α→List SV}{l:List α}{n:Nat}{s t:SV}{r:List SV}{M:Mem}{v:Value}(h:(ref (s::t::slc n (l.map e)::r)).h M v):l.length≤9223372036854775807:=by
 obtain⟨b,o,_,h⟩:=h
 obtain⟨y,_,_,h⟩:=h 2 _ Y
 exact Ji h
theorem Ip{α β:Type}(a:List α)(b:List β)(i:Nat)(h:i≤a.length):(i<a.length∧i<b.length)∨(i<a.length∧b.length≤i)∨i=a.length:=by omega
class Xk (P:Program) (T:TypeId) (I:outParam TypeId):Prop where
 fs:(match P.underlying T with|some (.struct fs)=>(match fs.toList with|[f1,f2,f3,f4]=>(decide (f1.type=I)&&decide (f1.offset=0)&&decide (f1.name≠ "_"))&&(decide (f2.type=I)&&decide (f2.offset=1)&&decide (f2.name≠ "_"))&&(decide (f3.type=I)&&decide (f3.offset=2)&&decide (f3.name≠ "_"))&&(decide (f4.type=I)&&decide (f4.offset=3)&&decide (f4.name≠ "_"))|_=>false)|_=>false)=true
 hp:P.stoodInHeld T=false
 hI:P.underlying I=some (.int .i64)
 hg:P.eqGuardType P.depth T=false
theorem Xk.ex{P:Program}{T I:TypeId}(h:Xk P T I):∃f1 f2 f3 f4:Field,P.underlying T=some (.struct #[f1,f2,f3,f4])∧(f1.type=I∧f1.offset=0∧f1.name≠ "_")∧(f2.type=I∧f2.offset=1∧f2.name≠ "_")∧(f3.type=I∧f3.offset=2∧f3.name≠ "_")∧(f4.type=I∧f4.offset=3∧f4.name≠ "_"):=by
 have h1:=h.fs
 cases hu:P.underlying T with
 |none=>rw[hu]at h1;cases h1
 |some d=>
  rw[hu]at h1
  cases d with
  |struct fs=>
   obtain⟨l⟩:=fs
   match l,h1 with
   |[f1,f2,f3,f4],h1=>
    simp only[Bool.and_eq_true,decide_eq_true_eq]at h1
    obtain⟨⟨⟨⟨⟨a1,a2⟩,a3⟩,⟨⟨b1,b2⟩,b3⟩⟩,⟨⟨c1,c2⟩,c3⟩⟩,⟨⟨d1,d2⟩,d3⟩⟩:=h1
    exact⟨f1,f2,f3,f4,Y,⟨a1,a2,a3⟩,⟨b1,b2,b3⟩,⟨c1,c2,c3⟩,⟨d1,d2,d3⟩⟩
  |_=>cases h1
theorem TT{P:Program}{T I:TypeId}[tI:qN P I][t4:Xk P T I](w:World)(a1 a2 a3 a4 b1 b2 b3 b4:Int):
  (binOp .neq T (.agg #[.int .i64 a1,.int .i64 a2,.int .i64 a3,.int .i64 a4]) (.agg #[.int .i64 b1,.int .i64 b2,.int .i64 b3,.int .i64 b4])).run P w=.ok (.bool (!(a1==b1&&(a2==b2&&(a3==b3&&a4==b4))))) w:=by
 obtain⟨f1,f2,f3,f4,hT,h1,h2,h3,h4⟩:=t4.ex
 have hf:P.fieldsOf T=#[f1,f2,f3,f4]:=by simp[Program.fieldsOf,hT]
 rw[run_neq_struct,run_equalIn_struct w 9999 T _ _ (by rw[hf];exact hT) t4.hp,hf]
 have YM:∀(xs:Array Value) (o:Nat) (v:Value),xs[o]? =some v→(part I xs o).run P w=.ok v w:=by
  intro xs o v h
  simp[part,qN.isAgg,h]
 have step:∀(f:Field) (l:List Field) (o:Nat) (xs ys:Array Value) (a b:Int),(f.type=I∧f.offset=o∧f.name≠ "_")→xs[o]? =some (.int .i64 a)→ys[o]? =some (.int .i64 b)→
   ∀r,(Op.eqFields 9999 xs ys l).run P w=.ok r w→(Op.eqFields 9999 xs ys (f::l)).run P w=.ok (a==b&&r) w:=by
  intro f l o xs ys a b ⟨q1,q2,q3⟩ hx hy r hr
  simp only[Op.eqFields,q1,q2,q3,ne_eq,not_false_eq_true,if_true,Sem.run_bind]
  rw[YM _ o _ hx,Result.andThen_ok,YM _ o _ hy,Result.andThen_ok,run_equalIn_int w _ I .i64 .i64 _ _ t4.hI,Result.andThen_ok]
  cases e:(a==b)
  ·simp
  ·simpa using hr
 have nil:∀(xs ys:Array Value),(Op.eqFields 9999 xs ys []).run P w=.ok true w:=λ_ _=>by simp[Op.eqFields]
 have:=step f1 [f2,f3,f4] 0 #[.int .i64 a1,.int .i64 a2,.int .i64 a3,.int .i64 a4] #[.int .i64 b1,.int .i64 b2,.int .i64 b3,.int .i64 b4] a1 b1 h1 Y Y _
  (step f2 [f3,f4] 1 _ _ a2 b2 h2 Y Y _ (step f3 [f4] 2 _ _ a3 b3 h3 Y Y _ (step f4 [] 3 _ _ a4 b4 h4 Y Y _ (nil _ _))))
 rw[this,Result.andThen_ok]
 simp
section steps
variable {P:Program}{C:Ctx}{ops:Array Oper}{S:AS}{nd:Bool}{K:List Ac→AS→Prop}{rest:List Oper}{acc:List Ac}
variable {gd:Option (Nat×Bool)}{rg:List Nat}{d:Nat}{ty:TypeId}{pos:String}{aft:Array Edge}{x y z:Operand}{T U E0:TypeId}
theorem Xl{M:Mem}{v:Value}{a b c d:Int}(h:(SV.agg [.v (.int .i64 a),.v (.int .i64 b),.v (.int .i64 c),.v (.int .i64 d)]).h M v):v=.agg #[.int .i64 a,.int .i64 b,.int .i64 c,.int .i64 d]:=by
 obtain⟨vs,rfl,h⟩:=h
 match vs,h with
 |[_,_,_,_],⟨h1,h2,h3,h4,_⟩=>
  have e1:_=_:=h1
  have e2:_=_:=h2
  have e3:_=_:=h3
  have e4:_=_:=h4
  rw[e1,e2,e3,e4]
theorem RT.TT(hg:Gd ops S gd rg){I:TypeId}[tI:qN P I][t4:Xk P T I]{a1 a2 a3 a4 b1 b2 b3 b4:Int}{c:Bool}(hx:S.ev x=.sv (.agg [.v (.int .i64 a1),.v (.int .i64 a2),.v (.int .i64 a3),.v (.int .i64 a4)]))(hy:S.ev y=.sv (.agg [.v (.int .i64 b1),.v (.int .i64 b2),.v (.int .i64 b3),.v (.int .i64 b4)]))(hd:d<S.n)
  (hc:(!(a1==b1&&(a2==b2&&(a3==b3&&a4==b4))))=c)
  (next:RunT P C ops nd K rest (⟨rg++(bg x++bg y),[],[],⟨some (d,.sv (.v (.bool c))),[],[]⟩⟩::acc) (S.set d (.sv (.v (.bool c))))):RunT P C ops nd K (⟨some d,.binOp .neq T x y U,ty,pos,aft,gd⟩::rest) acc S:=
 RT.value hg (bg x++bg y) [] [] (.sv (.v (.bool c))) hd (by intro c h;cases h) (λS' ht _ _ E a w h=>by
  have h1:=h.ev x
  rw[bB (λ_ h=>List.mem_append_left _ h) ht,hx]at h1
  have h2:=h.ev y
  rw[bB (λ_ h=>List.mem_append_right _ h) ht,hy]at h2
  refine⟨.bool c,?_,Y,gp⟩
  have e:=Fw.TT (P:=P) (T:=T) (I:=I) w a1 a2 a3 a4 b1 b2 b3 b4
  rw[hc]at e
  simp only[execOp,Xl h1,Xl h2,Sem.run_bind,run_eqGuard_agg w .neq T x y _ _ t4.hg,Result.andThen_ok,e]
  rfl) next
end steps
end
section
open Go.RowKit
def Xm(olds:List Nat)(news:List (Nat×Row×Value)):List (Nat×mE):=olds.map (λj=>(j,.dead))++news.map (λn=>(n.1,.live n.2.1))
theorem Bj{l:List (Nat×mE)}{j:Nat}{R:mE}(h:eO l j=some R):(j,R)∈l:=by
 induction l with
 |nil=>cases h
 |cons p l ih=>
  obtain⟨i,R'⟩:=p
  rw[eO]at h
  cases e:eO l j with
  |some R2=>rw[e]at h;cases h;exact List.mem_cons_of_mem _ (ih e)
  |none=>
   rw[e]at h
   by_cases q:j=i
   ·subst q;simp at h;subst h;simp
   ·simp[q]at h
theorem Gq{l:List (Nat×mE)}{j:Nat}{R:mE}(h:(j,R)∈l):∃R',eO l j=some R':=by
 induction l with
 |nil=>cases h
 |cons p l ih=>
  obtain⟨i,R'⟩:=p
  rw[eO]
  rcases List.mem_cons.1 h with e|e
  ·cases e
   cases q:eO l j with
   |some R2=>exact⟨R2,Y⟩
   |none=>exact⟨R,by simp⟩
  ·obtain⟨R2,h2⟩:=ih e
   exact⟨R2,by rw[h2]⟩
section swap
variable {C:Ctx}{S:AS}
end swap
end
section
open Go.RowKit
inductive Oc where
 |s (x:SV)
 |r (R:Row)
def tw(M:Mem)(w:World):List Oc→List Value→Prop
 |[],[]=>True
 |.s x::l,v::vs=>x.h M v∧tw M w l vs
 |.r R::l,v::vs=>(∃us:List Value,w.ownsRow 0 R.E R.sz v R.n us∧SV.dX M R.cells us)∧tw M w l vs
 |_,_=>False
def rowsOf:List Oc→List Row
 |[]=>[]
 |.s _::l=>rowsOf l
 |.r R::l=>R::rowsOf l
def ff:List Oc→List Value→List (Row×Value)
 |.s _::l,_::vs=>ff l vs
 |.r R::l,v::vs=>(R,v)::ff l vs
 |_,_=>[]
def Bk(c:List Oc)(us:List Value)(g:Nat):Prop:=∃p∈ff c us,p.2.ownBlock=some g
def nK:List Nat→List Oc→List AV
 |ids,.s x::l=>.sv x::nK ids l
 |i::ids,.r _::l=>.row i::nK ids l
 |[],.r _::l=>.sv .any::nK [] l
 |_,[]=>[]
def Gr(l:List (Row×Value)):Prop:=l.Pairwise λp q=>∀g,p.2.ownBlock=some g→q.2.ownBlock≠some g
structure RC (M:Mem) (w:World) (β:Nat) (T:TypeId) (c:List Oc) (us:List Value):Prop where
 hp:w.heap[β]? =some (.cells ⟨us⟩ T (0,0))
 al:tw M w c us
 nb:∀o,M β o=none
 nr:∀g,Bk c us g→g≠β∧∀o,M g o=none
 ap:Gr (ff c us)
theorem m7{M:Mem}{w:World}:∀{c:List Oc} {us:List Value},tw M w c us→(ff c us).map (·.1)=rowsOf c
 |[],[],_=>rfl
 |.s _::l,_::vs,h=>m7 (c:=l) (us:=vs) h.2
 |.r R::l,v::vs,h=>congrArg (R:: ·) (m7 (c:=l) (us:=vs) h.2)
 |[],_::_,h=>h.elim
 |.s _::_,[],h=>h.elim
 |.r _::_,[],h=>h.elim
theorem qY{M:Mem}{w:World}:∀{c:List Oc} {us:List Value},tw M w c us→∀p∈ff c us,∃vs:List Value,w.ownsRow 0 p.1.E p.1.sz p.2 p.1.n vs∧SV.dX M p.1.cells vs
 |[],[],_,p,hp=>by cases hp
 |.s _::l,_::vs,h,p,hp=>qY (c:=l) (us:=vs) h.2 p hp
 |.r R::l,v::vs,h,p,hp=>by
  rcases List.mem_cons.1 hp with rfl|hp
  ·exact h.1
  ·exact qY (c:=l) (us:=vs) h.2 p hp
 |[],_::_,h,_,_=>h.elim
 |.s _::_,[],h,_,_=>h.elim
 |.r _::_,[],h,_,_=>h.elim
theorem D2{α β:Type}:∀{l:List α} {k:List β} {a:α} {b:β},(a,b)∈l.zip k→a∈l∧b∈k
 |_::_,_::_,_,_,h=>by
  rw[List.zip_cons_cons]at h
  rcases List.mem_cons.1 h with e|e
  ·cases e;simp
  ·have:=D2 e;exact⟨List.mem_cons_of_mem _ this.1,List.mem_cons_of_mem _ this.2⟩
 |[],_,_,_,h=>by simp at h
 |_::_,[],_,_,h=>by simp at h
def Lv(S:AS):List Nat→List Row→Prop
 |[],[]=>True
 |j::js,R::Rs=>S.r j=.live R∧Lv S js Rs
 |_,_=>False
theorem Lv.len{S:AS}:∀{js:List Nat} {Rs:List Row},Lv S js Rs→js.length=Rs.length
 |[],[],_=>rfl
 |_::_,_::_,h=>congrArg (· +1) (Lv.len h.2)
 |[],_::_,h=>h.elim
 |_::_,[],h=>h.elim
theorem Lv.mem{S:AS}:∀{js:List Nat} {Rs:List Row},Lv S js Rs→∀j∈js,∃R,S.r j=.live R
 |j::js,R::Rs,h,k,hk=>by
  rcases List.mem_cons.1 hk with rfl|hk
  ·exact⟨R,h.1⟩
  ·exact Lv.mem h.2 k hk
 |[],_,_,k,hk=>by cases hk
 |_::_,[],h,_,_=>h.elim
theorem Bl{C:Ctx}{S:AS}{E:Env}{a:Act}{w:World}(h:bk C S E a w):∀{js:List Nat} {c:List Oc} {us:List Value},Lv S js (rowsOf c)→c9 E (nK js c) us→tw E.M w c us∧ff c us=(rowsOf c).zip (js.map E.ν)
 |[],[],[],_,_=>⟨ak,Y⟩
 |js,.s x::l,v::vs,hL,hv=>by
  have rU:c9 E (AV.sv x::nK js l) (v::vs):=by cases js<;>exact hv
  obtain⟨h1,h2⟩:=Bl h (js:=js) (c:=l) (us:=vs) hL rU.2
  exact⟨⟨rU.1,h1⟩,h2⟩
 |j::js,.r R::l,v::vs,hL,hv=>by
  have hL:S.r j=.live R∧Lv S js (rowsOf l):=hL
  have rU:c9 E (AV.row j::nK js l) (v::vs):=hv
  obtain⟨h1,h2⟩:=Bl h (js:=js) (c:=l) (us:=vs) hL.2 rU.2
  have e:v=E.ν j:=rU.1
  obtain⟨q1,_⟩:=h.rx j R hL.1
  rw[←e]at q1
  refine⟨⟨q1,h1⟩,?_⟩
  rw[ff,h2,e];rfl
 |[],.r _::_,_,hL,_=>hL.elim
 |_::_,[],_,hL,_=>hL.elim
 |[],[],_::_,_,hv=>by simp[nK]at hv;exact hv.elim
 |js,.s x::l,[],_,hv=>by
  have rU:c9 E (AV.sv x::nK js l) []:=by cases js<;>exact hv
  exact rU.elim
 |_::_,.r _::_,[],_,hv=>hv.elim
theorem zm{α β:Type}:∀{l:List α} {k:List β} {b:β},l.length=k.length→b∈k→∃a,(a,b)∈l.zip k
 |a::l,c::k,b,h,hb=>by
  rcases List.mem_cons.1 hb with rfl|hb
  ·exact⟨a,by rw[List.zip_cons_cons];simp⟩
  ·obtain⟨a',h'⟩:=zm (l:=l) (k:=k) (by simpa using h) hb
   exact⟨a',by rw[List.zip_cons_cons];exact List.mem_cons_of_mem _ h'⟩
 |[],[],_,_,hb=>by cases hb
 |[],_::_,_,h,_=>by simp at h
theorem MM{C:Ctx}{S:AS}{E:Env}{a:Act}{w:World}(h:bk C S E a w){i:Nat}{T:TypeId}{js:List Nat}{c:List Oc}(hB:S.b i=some ⟨T,nK js c⟩)(hL:Lv S js (rowsOf c))(hn:js.Nodup):
  ∃us,RC E.M w (E.β i) T c us∧(∀g,Bk c us g↔∃j∈js,(E.ν j).ownBlock=some g):=by
 obtain⟨_,q1,_,us,q2,q3⟩:=h.bx i _ hB
 obtain⟨p1,p2⟩:=Bl h hL q3
 have hlen:=hL.len
 have Hz:∀g,Bk c us g↔∃j∈js,(E.ν j).ownBlock=some g:=λg=>by
  unfold Bk
  rw[p2]
  constructor
  ·rintro⟨⟨R,v⟩,hm,hg⟩
   obtain⟨j,hj,rfl⟩:=List.mem_map.1 (D2 hm).2
   exact⟨j,hj,hg⟩
  ·rintro⟨j,hj,hg⟩
   obtain⟨R,hR⟩:=zm (l:=rowsOf c) (k:=js.map E.ν) (by simp[hlen]) (List.mem_map.2 ⟨j,hj,Y⟩)
   exact⟨(R,E.ν j),hR,hg⟩
 refine⟨us,⟨q2,p1,q1,λg hg=>?_,?_⟩,Hz⟩
 ·obtain⟨j,hj,HI⟩:=(Hz g).1 hg
  obtain⟨R,hR⟩:=hL.mem j hj
  obtain⟨_,q4⟩:=h.rx j R hR
  obtain⟨_,q5,_,q6⟩:=q4 g HI
  exact⟨λe=>q6 i _ hB e.symm,q5⟩
 ·rw[p2]
  have key:∀(js:List Nat) (Rs:List Row),Lv S js Rs→js.Nodup→Gr (Rs.zip (js.map E.ν)):=by
   intro js
   induction js with
   |nil=>intro Rs hL _;cases Rs with|nil=>exact List.Pairwise.nil|cons _ _=>exact hL.elim
   |cons j js ih=>
    intro Rs hL hn
    cases Rs with
    |nil=>exact hL.elim
    |cons R Rs=>
     rw[List.nodup_cons]at hn
     rw[List.map_cons,List.zip_cons_cons]
     refine List.pairwise_cons.2 ⟨λp hp g e1 e2=>?_,ih Rs hL.2 hn.2⟩
     obtain⟨R',v'⟩:=p
     obtain⟨j',hj',rfl⟩:=List.mem_map.1 (D2 hp).2
     obtain⟨R2,hR2⟩:=hL.2.mem j' hj'
     have:=h.fu j j' R R2 hL.1 hR2 g e1 e2
     subst this;exact hn.1 hj'
  exact key js _ hL hn
end
section
open Go.RowKit
def Un(S:AS):List Nat→Prop
 |[]=>True
 |k::ks=>(S.r k=.un∧k<1000)∧Un S ks
theorem Un.congr{S S':AS}:∀{ks:List Nat},(∀k∈ks,S'.r k=S.r k)→Un S ks→Un S' ks
 |[],_,_=>trivial
 |k::ks,h,hu=>⟨by rw[h k (by simp)];exact hu.1,Un.congr (λj hj=>h j (List.mem_cons_of_mem _ hj)) hu.2⟩
def Cv(js ks:List Nat)(c:List Oc):List (Nat×mE):=js.map (λj=>(j,mE.dead))++(ks.zip (rowsOf c)).map (λp=>(p.1,.live p.2))
theorem Gs:∀(ks:List Nat) (l:List (Row×Value)),(ks.zip l).map (λn=>(n.1,mE.live n.2.1))=(ks.zip (l.map (·.1))).map (λp=>(p.1,.live p.2))
 |[],_=>rfl
 |_::_,[]=>rfl
 |k::ks,p::l=>by rw[List.map_cons,List.zip_cons_cons,List.zip_cons_cons,List.map_cons,List.map_cons,Gs ks l]
theorem Gt{M:Mem}{w:World}{c:List Oc}{us:List Value}(h:tw M w c us)(js ks:List Nat):Xm js (ks.zip (ff c us))=Cv js ks c:=by
 unfold Xm Cv
 rw[Gs,m7 h]
section steps
variable {P:Program}{C:Ctx}{ops:Array Oper}{S:AS}{nd:Bool}{K:List Ac→AS→Prop}{rest:List Oper}{acc:List Ac}
variable {gd:Option (Nat×Bool)}{rg:List Nat}{d:Nat}{ty:TypeId}{pos:String}{aft:Array Edge}{x y z:Operand}{T U E0:TypeId}
def Fc.av:Fc→AV
 |.val s=>.sv s
 |.box i=>.ptr i 0
 |.row i=>.row i
theorem Gu{w:World}{M:Mem}{S':AS}{E:Env}{a:Act}{w':World}{k:Nat}{ks:List Nat}{c:List Oc}(hB:S'.b k=some ⟨T,nK ks c⟩)(hL:Lv S' ks (rowsOf c))(hk:ks.Nodup)(hh:bk (B9 w M) S' E a w'):
  ∃us,M.le E.M∧(∀b o x,E.M b o=some x→M b o=some x∨w.heap.size≤b)∧E.M.c8 w'∧RC E.M w' (E.β k) T c us∧w.heap.size≤E.β k∧(∀g,Bk c us g→w.heap.size≤g)∧Below w.heap.size w w':=by
 obtain⟨us,ho,HK⟩:=MM hh hB hL hk
 refine⟨us,hh.m0,λb o x e=>?_,hh.c8,ho,(hh.bx k _ hB).1.elim id (λh=>h.elim),λg hg=>?_,hh.os,hh.tape,hh.output,hh.grown,λk hk=>hh.frame k hk (λh=>h)⟩
 ·rcases hh.eu b o x e with h|h|h
  ·exact .inl h
  ·exact .inr h
  ·exact h.elim
 ·obtain⟨j,hj,HI⟩:=(HK g).1 hg
  obtain⟨R,hR⟩:=hL.mem j hj
  exact((hh.rx j R hR).2 g HI).1.elim id (λh=>h.elim)
theorem bk.D3{a:Act}{w:World}:∀(ks:List Nat) (l:List (Row×Value)) {S:AS} {E:Env},bk C S E a w→ks.length=l.length→ks.Nodup→Un S ks→(∀p∈l,∃vs:List Value,w.ownsRow 0 p.1.E p.1.sz p.2 p.1.n vs∧SV.dX E.M p.1.cells vs)→Gr l→(∀p∈l,∀g,p.2.ownBlock=some g→Ly C S E g)→
  ∃E':Env,E'.M=E.M∧E'.β=E.β∧E'.O=E.O∧(∀i p,(i,p)∈ks.zip l→E'.ν i=p.2)∧(∀i,i∉ks→E'.ν i=E.ν i)∧bk C (AS.cf ((ks.zip l).map (λn=>(n.1,.live n.2.1))) S) E' a w
 |[],[],S,E,h,_,_,_,_,_,_=>⟨E,Y,Y,Y,λi p hm=>(by simp at hm),λ_ _=>Y,h⟩
 |k::ks,p::l,S,E,h,hl,hn,hu,ho,ha,hf=>by
  obtain⟨R,v⟩:=p
  rw[List.nodup_cons]at hn
  obtain⟨ha1,ha2⟩:=List.pairwise_cons.1 ha
  obtain⟨vs,ho1,YJ⟩:=ho (R,v) (by simp)
  have h1:=h.z7 hu.1.1 hu.1.2 [] none (.inl ⟨Y,Y⟩) (R':=R) ho1 YJ (λg hg=>.inr (hf (R,v) (by simp) g hg)) (oB w none)
  have hu':Un (AS.cf ([]++[(k,.live R)]) S) ks:=hu.2.congr (λj hj=>by
   show(AS.qj S k _).r j=_
   exact AS.j1 _ _ _ _ (λe=>hn.1 (e▸hj)))
  obtain⟨E',q1,q2,q3,q4,q5,q6⟩:=bk.D3 ks l h1 (by simpa using hl) hn.2 hu' (λp hp=>ho p (List.mem_cons_of_mem _ hp)) ha2 (λp hp g hg=>by
   obtain⟨f1,f2,f3,f4,f5⟩:=hf p (List.mem_cons_of_mem _ hp) g hg
   refine⟨f1,f2,f3,f4,λj R' v7 e=>?_⟩
   have v7:(AS.qj S k (.live R)).r j=.live R':=v7
   by_cases ej:j=k
   ·subst ej
    have e:(if j=j then v else E.ν j).ownBlock=some g:=e
    rw[if_pos rfl]at e
    exact ha1 p hp g e hg
   ·rw[AS.j1 _ _ _ _ ej]at v7
    have e:(if j=k then v else E.ν j).ownBlock=some g:=e
    rw[if_neg ej]at e
    exact f5 j R' v7 e)
  refine⟨E',q1,q2,q3,λi p hm=>?_,λi hi=>?_,q6⟩
  ·rw[List.zip_cons_cons]at hm
   rcases List.mem_cons.1 hm with e|e
   ·cases e
    rw[q5 k hn.1]
    show(if k=k then v else E.ν k)=v
    rw[if_pos rfl]
   ·exact q4 i p e
  ·rw[q5 i (λhm=>hi (List.mem_cons_of_mem _ hm))]
   show(if i=k then v else E.ν i)=E.ν i
   rw[if_neg (λe=>hi (by rw[e];simp))]
 |[],_::_,_,_,_,hl,_,_,_,_,_=>by simp at hl
 |_::_,[],_,_,_,hl,_,_,_,_,_=>by simp at hl
theorem tB{α β:Type}:∀{l:List α} {k:List β} {a:α},l.length=k.length→a∈l→∃b,(a,b)∈l.zip k
 |a::l,c::k,b,h,hb=>by
  rcases List.mem_cons.1 hb with rfl|hb
  ·exact⟨c,by rw[List.zip_cons_cons];simp⟩
  ·obtain⟨a',h'⟩:=tB (l:=l) (k:=k) (by simpa using h) hb
   exact⟨a',by rw[List.zip_cons_cons];exact List.mem_cons_of_mem _ h'⟩
 |[],_,_,_,hb=>by cases hb
 |_::_,[],_,h,_=>by simp at h
end steps
end
section
open Go.RowKit
def uJ:List Nat→List Oc→List Fc
 |ids,.s x::l=>.val x::uJ ids l
 |i::ids,.r _::l=>.row i::uJ ids l
 |[],.r _::l=>.val .any::uJ [] l
 |_,[]=>[]
theorem xj{E:Env}{w:World}:∀{ids:List Nat} {c:List Oc} {us:List Value},ids.length=(rowsOf c).length→tw E.M w c us→(∀i p,(i,p)∈ids.zip (ff c us)→E.ν i=p.2)→xR E (uJ ids c) us
 |ids,[],[],_,_,_=>by cases ids<;>exact trivial
 |ids,.s x::l,v::vs,hl,h,hv=>by
  have ih:=xj (E:=E) (w:=w) (ids:=ids) (c:=l) (us:=vs) hl h.2 hv
  cases ids<;>exact⟨h.1,ih⟩
 |i::ids,.r R::l,v::vs,hl,h,hv=>by
  refine⟨(hv i (R,v) (by rw[ff,List.zip_cons_cons];simp)).symm,xj (w:=w) (ids:=ids) (c:=l) (us:=vs) (by simpa[rowsOf]using hl) h.2 (λj p hm=>hv j p ?_)⟩
  rw[ff,List.zip_cons_cons];exact List.mem_cons_of_mem _ hm
 |[],.r R::l,_::_,hl,_,_=>by simp[rowsOf]at hl
 |_,[],_::_,_,h,_=>h.elim
 |_,.s _::_,[],_,h,_=>h.elim
 |_,.r _::_,[],_,h,_=>h.elim
theorem vM:∀{ids:List Nat} {c:List Oc},(∀j,¬Fc.box j∈uJ ids c)∧∀j,Fc.row j∈uJ ids c→j∈ids
 |ids,[]=>by cases ids<;>simp[uJ]
 |ids,.s y::l=>by
  have ih:=vM (ids:=ids) (c:=l)
  have e:uJ ids (.s y::l)=.val y::uJ ids l:=by cases ids<;>rfl
  rw[e]
  exact⟨λj h=>by rcases List.mem_cons.1 h with h|h;cases h;exact ih.1 j h,λj h=>by rcases List.mem_cons.1 h with h|h;cases h;exact ih.2 j h⟩
 |i::ids,.r R::l=>by
  have ih:=vM (ids:=ids) (c:=l)
  exact⟨λj h=>by rcases List.mem_cons.1 h with h|h;cases h;exact ih.1 j h,λj h=>by
   rcases List.mem_cons.1 h with h|h
   ·cases h;simp
   ·exact List.mem_cons_of_mem _ (ih.2 j h)⟩
 |[],.r R::l=>by
  have ih:=vM (ids:=[]) (c:=l)
  exact⟨λj h=>by rcases List.mem_cons.1 h with h|h;cases h;exact ih.1 j h,λj h=>by rcases List.mem_cons.1 h with h|h;cases h;exact ih.2 j h⟩
theorem ug{M:Mem}{w:World}:∀{c:List Oc} {us:List Value},tw M w c us→us.length=c.length
 |[],[],_=>rfl
 |.s _::l,_::vs,h=>congrArg (· +1) (ug (c:=l) (us:=vs) h.2)
 |.r _::l,_::vs,h=>congrArg (· +1) (ug (c:=l) (us:=vs) h.2)
 |[],_::_,h=>h.elim
 |.s _::_,[],h=>h.elim
 |.r _::_,[],h=>h.elim
section
variable {P:Program}
end
section
variable {P:Program}{C:Ctx}{ops:Array Oper}{S:AS}{nd:Bool}{K:List Ac→AS→Prop}{rest:List Oper}{acc:List Ac}
variable {gd:Option (Nat×Bool)}{rg:List Nat}{d:Nat}{ty:TypeId}{pos:String}{aft:Array Edge}{x y z:Operand}{T U E0:TypeId}
def Iq(S:AS):List Fc→Prop
 |[]=>True
 |.val s::l=>(∀M v,s.h M v→v.oneCell'=true)∧Iq S l
 |.row i::l=>(∃R,S.r i=.live R)∧Iq S l
 |.box _::l=>Iq S l
def pZ:List Fc→List Nat
 |[]=>[]
 |.row i::l=>i::pZ l
 |.val _::l=>pZ l
 |.box _::l=>pZ l
theorem xk{S':AS}{E:Env}{a:Act}{w:World}(h:bk C S' E a w):∀{js:List Fc} {us:List Value},Iq S js→(∀i∈pZ js,S'.r i=S.r i)→xR E js us→c9 E (js.map Fc.av) us∧∀u∈us,u.oneCell'=true
 |[],[],_,_,_=>⟨ak,by simp⟩
 |.val s::l,u::us,ho,hr,ha=>by
  obtain⟨i1,i2⟩:=xk h (js:=l) (us:=us) ho.2 hr ha.2
  exact⟨⟨ha.1,i1⟩,λv hv=>by rcases List.mem_cons.1 hv with rfl|hv;exact ho.1 _ _ ha.1;exact i2 v hv⟩
 |.row i::l,u::us,ho,hr,ha=>by
  obtain⟨i1,i2⟩:=xk h (js:=l) (us:=us) ho.2 (λj hj=>hr j (List.mem_cons_of_mem _ hj)) ha.2
  obtain⟨R,hR⟩:=ho.1
  obtain⟨⟨ws,hw,_⟩,_⟩:=h.rx i R (by rw[hr i (by simp[pZ])];exact hR)
  have hu:u=E.ν i:=ha.1
  refine⟨⟨hu,i1⟩,λv hv=>?_⟩
  rcases List.mem_cons.1 hv with rfl|hv
  ·rw[hu]
   rcases hw.2 with⟨h3,_⟩|⟨g,cap,cur,h3,_⟩<;>rw[h3]<;>rfl
  ·exact i2 v hv
 |.box i::l,u::us,ho,hr,ha=>by
  obtain⟨i1,i2⟩:=xk h (js:=l) (us:=us) ho hr ha.2
  have hu:u=.pointer (some ⟨E.β i,0,none⟩):=ha.1
  exact⟨⟨hu,i1⟩,λv hv=>by rcases List.mem_cons.1 hv with rfl|hv;rw[hu];rfl;exact i2 v hv⟩
 |[],_::_,_,_,ha=>ha.elim
 |_::_,[],_,_,ha=>ha.elim
theorem RT.Ir(hg:Gd ops S gd rg){n:Nat}[tA:xO P T n]{j:Nat}{B:nE}{js:List Fc}(hx:S.ev x=.ptr j 0)(hB:S.b j=some B)(hy:S.ev y=.cmp .agg js)(hok:Iq S js)(tZ:js.length=n)(hn:B.cells.length=n)(rr:List Nat)(Ki:pZ js=rr)(cells:List AV)(hc:js.map Fc.av=cells)
  (next:RunT P C ops nd K rest (⟨rg++(bg x++bg y),[j],rr,⟨none,[(j,⟨B.T,cells⟩)],[]⟩⟩::acc) (S.lT j ⟨B.T,cells⟩)):RunT P C ops nd K (⟨none,.store T x y,ty,pos,aft,gd⟩::rest) acc S:=by
 subst hc
 refine RT.Dr hg rr hx hB (cs:=js.map Fc.av) ?_ (λw=>tA.size w) (by simp[tZ]) (by omega) (cells:=js.map Fc.av) (xV (js.map Fc.av) [] B.cells (by simp;omega)) next
 intro S' E a w h e hr
 have h2:=h.ev y
 rw[e,hy]at h2
 obtain⟨us,hu,hall⟩:=h2
 have hu:a.eval y=.agg ⟨us⟩:=hu
 obtain⟨k1,k2⟩:=xk h hok (by rw[Ki];exact hr) hall
 refine⟨us,by rw[hu];rfl,k1,k2,λz hz=>?_⟩
 obtain⟨l1,l2⟩:=kS h.wf (e.trans hy)
 obtain⟨q,hq,rfl⟩:=List.mem_map.1 hz
 cases q with
 |val s=>exact gp
 |box k=>exact⟨λi e=>l1 i (by have e:i=k:=e;subst e;exact hq),λi e=>e.elim⟩
 |row k=>exact⟨λi e=>e.elim,λi e=>l2 i (by have e:i=k:=e;subst e;exact hq)⟩
inductive vN (S:AS):List (Nat×Operand)→List (Nat×Fc)→Prop
 |nil:vN S [] []
 |one {i:Nat} {x:Operand} {s:SV} {ps:List (Nat×Operand)} {qs:List (Nat×Fc)} [o:One s] (h:S.ev x=.sv s) (t:vN S ps qs):vN S ((i,x)::ps) ((i,.val s)::qs)
 |row {i j:Nat} {x:Operand} {R:Row} {ps:List (Nat×Operand)} {qs:List (Nat×Fc)} (h:S.ev x=.row j) (hR:S.r j=.live R) (t:vN S ps qs):vN S ((i,x)::ps) ((i,.row j)::qs)
def YN(E:Env):Fc→SV
 |.val s=>s
 |.row j=>.v (E.ν j)
 |.box _=>.any
def AV.qD(E:Env):AV→AV
 |.row i=>.sv (.v (E.ν i))
 |x=>x
def AS.qD(S:AS)(E:Env):AS:={S with t:=λs=>(S.t s).qD E}
theorem yy{E:Env}(x:AV):(∀v,x.holds E v→(x.qD E).holds E v)∧(∀j,(x.qD E).mb j→x.mb j)∧∀j,(x.qD E).mr j→x.mr j:=by
 cases x with
 |row i=>exact⟨λv hv=>hv,λj hj=>False.elim hj,λj hj=>False.elim hj⟩
 |_=>exact⟨λv hv=>hv,λj hj=>hj,λj hj=>hj⟩
theorem bk.qD{E:Env}{a:Act}{w:World}(h:bk C S E a w):bk C (S.qD E) E a w:={h with
  wf:=⟨λs j hj=>h.wf.tb s j ((yy (S.t s)).2.1 j hj),λs j hj=>h.wf.tr s j ((yy (S.t s)).2.2 j hj),h.wf.bb,h.wf.br⟩
  tm:=λs=>(yy (S.t s)).1 _ (h.tm s)}
theorem MN{E:Env}{s:SV}(h:S.ev x=.sv s):(S.qD E).ev x=.sv s:=by
 cases x with
 |tmp t=>
  have h:S.t t=.sv s:=h
  show(S.t t).qD E=_
  rw[h];rfl
 |_=>exact h
theorem KI{E:Env}{j:Nat}(h:S.ev x=.row j):(S.qD E).ev x=.sv (.v (E.ν j)):=by
 cases x with
 |tmp t=>
  have h:S.t t=.row j:=h
  show(S.t t).qD E=_
  rw[h];rfl
 |_=>cases h
theorem D4{S':AS}{E:Env}{a:Act}{w:World}(h:bk C S' E a w){ps:List (Nat×Operand)}{qs:List (Nat×Fc)}(hp:vN S ps qs)(ht:∀s∈gU ps,S'.t s=S.t s)(hr:∀q∈qs,∀j,q.2=.row j→S'.r j=S.r j):kV (S'.qD E) ps (qs.map λq=>(q.1,[YN E q.2])):=by
 induction hp with
 |nil=>exact .nil
 | @one i x s ps qs o hx _ ih=>
  have hx':S'.ev x=.sv s:=by rw[bB (rs:=gU ((i,x)::ps)) (λs hs=>by simp only[gU,List.flatMap_cons];exact List.mem_append_left _ hs) ht];exact hx
  exact kV.one (s:=s) (MN hx') (ih (λs hs=>ht s (by simp only[gU,List.flatMap_cons];exact List.mem_append_right _ hs)) (λq hq=>hr q (List.mem_cons_of_mem _ hq)))
 | @row i j x R ps qs hx hR _ ih=>
  have hx':S'.ev x=.row j:=by rw[bB (rs:=gU ((i,x)::ps)) (λs hs=>by simp only[gU,List.flatMap_cons];exact List.mem_append_left _ hs) ht];exact hx
  obtain⟨⟨ws,hw,_⟩,_⟩:=h.rx j R (by rw[hr (i,.row j) (by simp) j rfl];exact hR)
  have o:One (.v (E.ν j)):=⟨λM v hv=>by
   have hv:v=E.ν j:=hv
   rw[hv]
   rcases hw.2 with⟨h3,_⟩|⟨g,cap,cur,h3,_⟩<;>rw[h3]<;>rfl⟩
  exact kV.one (s:=.v (E.ν j)) (KI hx') (ih (λs hs=>ht s (by simp only[gU,List.flatMap_cons];exact List.mem_append_right _ hs)) (λq hq=>hr q (List.mem_cons_of_mem _ hq)))
theorem D5{E:Env}:∀{js:List Fc} {us:List Value},(∀j,Fc.box j∉js)→SV.dX E.M (js.map (YN E)) us→xR E js us
 |[],[],_,_=>trivial
 |.val s::l,u::us,hb,h=>⟨h.1,D5 (λj hj=>hb j (List.mem_cons_of_mem _ hj)) h.2⟩
 |.row i::l,u::us,hb,h=>⟨h.1,D5 (λj hj=>hb j (List.mem_cons_of_mem _ hj)) h.2⟩
 |.box i::l,_,hb,_=>(hb i (by simp)).elim
 |[],_::_,_,h=>h.elim
 |.val _::_,[],_,h=>h.elim
 |.row _::_,[],_,h=>h.elim
def Jr:List Fc→Bool
 |[]=>true
 |.box _::_=>false
 |.val _::l=>Jr l
 |.row _::l=>Jr l
theorem Ae:∀{js:List Fc},Jr js=true→∀j,Fc.box j∉js
 |[],_,j,h=>by cases h
 |.box _::_,h,_,_=>by cases h
 |.val _::l,h,j,hj=>by rcases List.mem_cons.1 hj with e|e;cases e;exact Ae (js:=l) h j e
 |.row _::l,h,j,hj=>by rcases List.mem_cons.1 hj with e|e;cases e;exact Ae (js:=l) h j e
theorem tC:∀{js:List Fc} {j:Nat},Fc.row j∈js→j∈pZ js
 |.box _::l,j,h=>by rcases List.mem_cons.1 h with e|e;cases e;exact tC (js:=l) e
 |.val _::l,j,h=>by rcases List.mem_cons.1 h with e|e;cases e;exact tC (js:=l) e
 |.row i::l,j,h=>by
  rcases List.mem_cons.1 h with e|e
  ·cases e;simp[pZ]
  ·exact List.mem_cons_of_mem _ (tC (js:=l) e)
theorem uh:∀{js:List Fc} {j:Nat},Iq S js→Fc.row j∈js→∃R,S.r j=.live R
 |.box _::l,j,ho,h=>by rcases List.mem_cons.1 h with e|e;cases e;exact uh (js:=l) ho e
 |.val _::l,j,ho,h=>by rcases List.mem_cons.1 h with e|e;cases e;exact uh (js:=l) ho.2 e
 |.row i::l,j,ho,h=>by
  rcases List.mem_cons.1 h with e|e
  ·cases e;exact ho.1
  ·exact uh (js:=l) ho.2 e
theorem RT.TU(hg:Gd ops S gd rg){pl:List (Nat×Nat)}{zc:List Value}[tP:je P T pl zc]{parts:Array (Nat×Operand)}{qs:List (Nat×Fc)}(hp:vN S parts.toList qs)(js:List Fc)(hf:∀E:Env,sn (λi=>pl[i]?) (zc.map SV.v) (qs.map λq=>(q.1,[YN E q.2]))=some (js.map (YN E)))(hnb:Jr js=true)(hok:Iq S js)(rr:List Nat)(Ki:pZ js=rr)(Xn:pZ (qs.map (·.2))=rr)(hd:d<S.n)
  (next:RunT P C ops nd K rest (⟨rg++gU parts.toList,[],rr,⟨some (d,.cmp .agg js),[],[]⟩⟩::acc) (S.set d (.cmp .agg js))):RunT P C ops nd K (⟨some d,.build T parts,ty,pos,aft,gd⟩::rest) acc S:=
 RT.value hg (gU parts.toList) [] rr (.cmp .agg js) hd (by intro c h;cases h) (λS' ht _ hr E a w h=>by
  have hu:=tP.h
  cases hT:P.underlying T with
  |none=>rw[hT]at hu;cases hu
  |some u=>
   rw[hT]at hu
   cases u with
   |struct fs=>
    simp only at hu
    have hz:(zeroValue T).run P w=.ok (.agg ⟨zc⟩) w:=iB.run (t:=⟨tP.hz⟩) w
    have TV:=D4 h hp ht (λq hq j e=>hr j (by rw[←Xn];exact tC (List.mem_map.2 ⟨q,hq,e⟩)))
    obtain⟨us,h1,h2,_⟩:=wv h.qD (λi=>pl[i]?) TV (λs _=>Y) (cells:=zc.map SV.v) (vs:=zc) (by
     have:∀l:List Value,SV.dX E.M (l.map SV.v) l:=by
      intro l;induction l with
      |nil=>trivial
      |cons v l ih=>exact⟨Y,ih⟩
     exact this zc) (List.all_eq_true.1 tP.o) (hf E)
    refine⟨.agg ⟨us⟩,?_,⟨us,Y,D5 (Ae hnb) h2⟩,λj e=>(Ae hnb j e).elim,λj e=>?_⟩
    ·have hm:(fs.mapM (λf=>do pure (f.offset,←sizeOf f.type):Field→Sem (Nat×Nat))).run P w=.ok pl.toArray w:=by
      have:=pB (P:=P) (w:=w) hu
      rw[←Array.toArray_toList (xs:=fs),List.mapM_toArray]
      rw[Sem.run_map,this];rfl
     have h1':Instr.fill (λi=>pl.toArray[i]?) ⟨zc⟩ (parts.toList.map λp=>(p.1,a.eval p.2))=some ⟨us⟩:=by simpa using h1
     simp only[execOp,Instr.build,underlying]
     simp only[Sem.run_bind,hz,Result.andThen_ok,run_program,hT,Sem.run_pure,Value.cells]
     have hm':(Array.mapM (λf=>do
       let __do_lift←sizeOf f.type
       pure (f.offset,__do_lift)) fs:Sem _).run P w=.ok pl.toArray w:=hm
     simp only[hm',Result.andThen_ok]
     have e4:(Array.map (λx=>match x with|(i,x)=>(i,a.eval x)) parts).toList=parts.toList.map λp=>(p.1,a.eval p.2):=by simp
     simp only[e4,h1',Sem.run_pure,Result.andThen_ok]
    ·obtain⟨R,hR⟩:=uh hok e
     rw[hr j (by rw[←Ki];exact tC e),hR];simp
   |_=>cases hu) next
end
end
end Go.Fw
namespace Go.Proofs.YtfoldppidpmchaaGreat
section
open Go.Fw
noncomputable def gH(x0:Lr):Option (Sz):=match x0 with|⟨bp,bn,bD,bF⟩=>(some (bn.length:Int)).bind λx7=>(some (bD.length:Int)).bind λdP=>(some (bF.length:Int)).bind λja=>some ⟨bp,x7,dP,ja⟩
noncomputable def iI(x0:Lr):Option (Bool):=match x0 with|⟨bp,bn,bD,bF⟩=>(gH ⟨bp,bn,bD,bF⟩).bind λ⟨w7,zL,Ct,DZ⟩=>cm (λ(MO:Bool)=>(bif MO then some false else cm (λ(Is:Bool)=>(bif Is then some false else cm (λ(RE:Bool)=>some RE) λWU=>(mB bn).bind λsG=>(some (decide ((sG:Int)≤w7))).bind λpU=>(bif pU then(mB bD).bind λHA=>(some (decide ((HA:Int)≤w7))).bind λrN=>some rN else some false).bind λMP=>WU MP)) λDH=>(some (decide ((128:Int)<Ct))).bind λiS=>(bif iS then some true else(some (decide ((DZ:Int)≠Ct))).bind λji=>some ji).bind λMQ=>DH MQ)) λVG=>(some (decide ((w7:Int)<0))).bind λx8=>(bif x8 then some true else(some (decide ((64:Int)<w7))).bind λcP=>some cP).bind λMR=>(bif MR then some true else(some (decide ((zL:Int)<1))).bind λdS=>some dS).bind λTW=>(bif TW then some true else(some (decide ((4:Int)<zL))).bind λgw=>some gw).bind λTX=>VG TX
noncomputable def iU(x0:Lr)(x1:List Qr):Option (Bool):=match x0 with|⟨bp,bn,bD,bF⟩=>cm (λ(MS:Bool)=>(bif MS then some false else(some (x1.length:Int)).bind λgO=>(b9 (λ(Js:Int)=>(show Option ((Int)⊕((Unit)⊕(Bool)))from(some (decide ((Js:Int)<gO))).bind λiQ=>(bif iQ then(cQ x1 Js).bind λ⟨⟨tu,tv⟩,⟨zh,zj⟩⟩=>(jv ⟨⟨tu,tv⟩,⟨zh,zj⟩⟩).bind λiL=>(some (decide ((iL:Int)<0))).bind λnR=>(bif nR then some (.inr (.inr false))else(some (IntKind.i64.wrap (Js+1))).bind λir=>some (.inl ir))else some (.inr (.inl ()))))) 0).bind λe9=>match e9 with|.inr v9=>some v9|.inl _=>(nF (λ(k:Nat) (zJ:Unit)=>(show Option ((Unit)⊕(Bool))from(some ((Lr.rows ⟨bp,bn,bD,bF⟩).getD k [])).bind λp32=>(some ((Lr.bounds ⟨bp,bn,bD,bF⟩).getD k (⟨⟨false,[]⟩,⟨false,[]⟩⟩:Qr))).bind λ⟨⟨RF,RG⟩,⟨RH,RI⟩⟩=>(iT p32 x1).bind λ⟨⟨sK,sL⟩,⟨Gb,Gc⟩⟩=>(mz ⟨⟨sK,sL⟩,⟨Gb,Gc⟩⟩ ⟨⟨RF,RG⟩,⟨RH,RI⟩⟩).bind λwH=>(some (decide ((wH:Int)=1))).bind λnY=>(bif nY then some (.inr false)else some (.inl ())))) ((Lr.rows ⟨bp,bn,bD,bF⟩).length) ()).bind λLj=>match Lj with|.inr v12=>some v12|.inl _=>some true)) λK3=>(iI ⟨bp,bn,bD,bF⟩).bind λfN=>(some (!fN)).bind λcP=>(bif cP then some true else(some (x1.length:Int)).bind λdL=>(some (decide ((bp:Int)<dL))).bind λeI=>some eI).bind λMT=>K3 MT
noncomputable def jT(x0:Lr)(x1:List Qr):Option (List Qr):=match x0 with|⟨bp,bn,bD,bF⟩=>(lA bn x1).bind λx8=>some x8
noncomputable def oM(x0:Lr)(x1:List Qr):Option (List Qr):=match x0 with|⟨bp,bn,bD,bF⟩=>(pQ (λ(k:Nat) (yz:(List Qr))=>(show Option ((List Qr))from(some ((Lr.rows ⟨bp,bn,bD,bF⟩).getD k [])).bind λS9=>(some ((Lr.bounds ⟨bp,bn,bD,bF⟩).getD k (⟨⟨false,[]⟩,⟨false,[]⟩⟩:Qr))).bind λ⟨⟨Gk,Gl⟩,⟨Gm,Gn⟩⟩=>(iT S9 x1).bind λ⟨⟨jl,jm⟩,⟨zf,zg⟩⟩=>(my ⟨⟨Gk,Gl⟩,⟨Gm,Gn⟩⟩ ⟨⟨jl,jm⟩,⟨zf,zg⟩⟩).bind λ⟨⟨kZ,k7⟩,⟨rS,rT⟩⟩=>(rM 64 yz [⟨⟨kZ,k7⟩,⟨rS,rT⟩⟩]).bind λkN=>some kN)) ((Lr.rows ⟨bp,bn,bD,bF⟩).length) []).bind λyz=>some yz
noncomputable def qE(x0:Lr):Option (Lr×Int):=match x0 with|⟨bp,bn,bD,bF⟩=>cm (λ(MU:Bool)=>(bif MU then some (⟨0,[],[],[]⟩,1)else(some (bD.length:Int)).bind λiL=>(cZ (-1)).bind λ⟨⟨RJ,RK⟩,⟨RL,RM⟩⟩=>(fG ⟨⟨RJ,RK⟩,⟨RL,RM⟩⟩ bF).bind λmS=>(b9 (λ(TY:Int×(List (List Qr))×(List Qr))=>match TY with|⟨qZ,uj,um⟩=>(show Option ((Int×(List (List Qr))×(List Qr))⊕((List (List Qr))×(List Qr)))from(some (decide ((qZ:Int)<bp))).bind λpU=>(bif pU then(EX 64 iL (⟨⟨false,[]⟩,⟨false,[]⟩⟩:Qr)).bind λr7=>(some (r7.length:Int)).bind λCk=>(b9 (λ(VH:Int×(List Qr))=>match VH with|⟨Bm,Bn⟩=>(show Option ((Int×(List Qr))⊕((List Qr)))from(some (decide ((Bm:Int)<Ck))).bind λrN=>(bif rN then(qC bD Bm qZ).bind λ⟨⟨RN,RO⟩,⟨RQ,RR⟩⟩=>(jw ⟨⟨RN,RO⟩,⟨RQ,RR⟩⟩).bind λ⟨⟨MV,MW⟩,⟨MX,MY⟩⟩=>(vm Bn Bm).bind λQW=>(stM Bn QW ⟨⟨MV,MW⟩,⟨MX,MY⟩⟩).bind λl36=>(some (IntKind.i64.wrap (Bm+1))).bind λO8=>some (.inl (O8,l36))else some (.inr Bn)))) (0,r7)).bind λq9=>(rM 24 uj [q9]).bind λRU=>(qC bn 0 qZ).bind λ⟨⟨RV,RW⟩,⟨RX,RY⟩⟩=>(jw ⟨⟨RV,RW⟩,⟨RX,RY⟩⟩).bind λ⟨⟨Jt,Ju⟩,⟨Jv,Jw⟩⟩=>(rM 64 um [⟨⟨Jt,Ju⟩,⟨Jv,Jw⟩⟩]).bind λMh=>(some (IntKind.i64.wrap (qZ+1))).bind λFG=>some (.inl (FG,RU,Mh))else some (.inr (uj,um))))) (0,[],[])).bind λe26=>match e26 with|⟨D6,D7⟩=>some (⟨iL,[mS],D6,D7⟩,0))) λK6=>(iI ⟨bp,bn,bD,bF⟩).bind λfN=>(some (!fN)).bind λcP=>(bif cP then some true else(some (bD.length:Int)).bind λfy=>(some (decide ((64:Int)<fy))).bind λdS=>some dS).bind λMZ=>(bif MZ then some true else(some (decide ((128:Int)<bp))).bind λgw=>some gw).bind λTZ=>K6 TZ
noncomputable def tD(x0:Lr):Option (Lr):=match x0 with|⟨bp,bn,bD,bF⟩=>(cZ 1).bind λ⟨⟨lj,lp⟩,⟨zS,zT⟩⟩=>(iw ⟨⟨lj,lp⟩,⟨zS,zT⟩⟩ bn).bind λdP=>(iw ⟨⟨lj,lp⟩,⟨zS,zT⟩⟩ bD).bind λdW=>(fG ⟨⟨lj,lp⟩,⟨zS,zT⟩⟩ bF).bind λeI=>some ⟨bp,dP,dW,eI⟩
noncomputable def eV(x0:Lr)(x1:Int):Option (Lr×Int):=match x0 with|⟨bp,bn,bD,bF⟩=>cm (λ(Bo:Bool)=>(bif Bo then some (⟨0,[],[],[]⟩,1)else(some (IntKind.i64.wrap (x1+1))).bind λkf=>(uG bn x1 kf).bind λiS=>(tD ⟨bp,iS,bD,bF⟩).bind λ⟨C1,C2,Gv,C3⟩=>some (⟨C1,C2,Gv,C3⟩,0))) λK6=>(iI ⟨bp,bn,bD,bF⟩).bind λx7=>(some (!x7)).bind λx8=>(bif x8 then some true else(some (decide ((x1:Int)<0))).bind λfN=>some fN).bind λGw=>(bif Gw then some true else(some (bn.length:Int)).bind λdS=>(some (decide ((dS:Int)≤x1))).bind λeI=>some eI).bind λIt=>K6 It
noncomputable def fY(x0:Lr)(x1:Lr):Option (Bool):=match x0 with|⟨bp,bn,bD,bF⟩=>match x1 with|⟨bU,bR,dx,dy⟩=>(gH ⟨bp,bn,bD,bF⟩).bind λ⟨zU,zV,Xo,Xp⟩=>(gH ⟨bU,bR,dx,dy⟩).bind λ⟨o9,pg,Gx,Gy⟩=>(some (!(((zU:Int)==o9)&&(((zV:Int)==pg)&&(((Xo:Int)==Gx)&&((Xp:Int)==Gy)))))).bind λx9=>(bif x9 then some false else cm (λ(Xq:Bool)=>some Xq) λK6=>(jz bn bR).bind λdW=>(bif dW then(jz bD dx).bind λke=>some ke else some false).bind λR3=>(bif R3 then(fH bF dy).bind λiL=>some iL else some false).bind λT0=>K6 T0)
end
section
open Go.Fw Go.Fw.Z Go.RowKit
instance:Xk af 71 3:=⟨by kernel_rfl,by kernel_rfl,by kernel_rfl,by kernel_rfl⟩
theorem pJ(p:Lr):Pure af 62 [.agg (vu p)] (qQ 98 [ref [ax p.vars,(slc 1 (List.map (eS 4 eQ) p.vr)),(slc 1 (List.map (eS 4 eQ) p.rows)),(slc 4 (List.map eQ p.bounds))]]):=by
 refine bj Tryz.func62 Y (ae Y) (λdm M vs hvs=>?_)
 refine sr<|bx Y<|ag Y<|dn<|sr<|RT.makeFunc .none (.box Y (.nil)) T<|an (s:=.fT _ _) Y<|dn ?_
 refine bX (mg (i:=1) Y [ax p.vars,(slc 1 (List.map (eS 4 eQ) p.vr)),(slc 1 (List.map (eS 4 eQ) p.rows)),(slc 4 (List.map eQ p.bounds))] (.cons Y (.cons Y (.cons Y (.cons Y .nil)))) .any 0 [(2,.fT 98 [.val (ref [ax p.vars,(slc 1 (List.map (eS 4 eQ) p.vr)),(slc 1 (List.map (eS 4 eQ) p.rows)),(slc 4 (List.map eQ p.bounds))])])] (λ_ _ _=>trivial) (uF.h (l:=[ax p.vars,(slc 1 (List.map (eS 4 eQ) p.vr)),(slc 1 (List.map (eS 4 eQ) p.rows)),(slc 4 (List.map eQ p.bounds))])) ⟨@FT.fT _ _ _ _ _ 2 98 [.box 1] Y,ak⟩)<|bX (Dw 2 (qQ 98 [ref [ax p.vars,(slc 1 (List.map (eS 4 eQ) p.vr)),(slc 1 (List.map (eS 4 eQ) p.rows)),(slc 4 (List.map eQ p.bounds))]]) (λ_ _ h=>Dx h)) ?_
 exact bf<|⟨.inr Y,Dt (.tmp Y (.nil)) Y⟩
theorem pK(p:Lr):Iter af 98 [ref [ax p.vars,(slc 1 (List.map (eS 4 eQ) p.vr)),(slc 1 (List.map (eS 4 eQ) p.rows)),(slc 4 (List.map eQ p.bounds))]] p.rows.length (λk=>[(slc 4 (List.map eQ (p.rows.getD k []))),.agg (eQ (p.bounds.getD k (⟨⟨false,[]⟩,⟨false,[]⟩⟩:Qr)))]):=by
 refine qR Tryz.func98 Y Y (ae Y) (λdm M O l J hJ xQ hr=>?_)
 obtain⟨rW,xQ⟩:=xQ
 have hla:p.rows.length≤9223372036854775807:=by cases rW with|nil=>exact xQ.elim|cons _ rW=>exact ML xQ.1
 refine bz ?_
 refine aW ?_
 refine RT.fV .none Y (tl Y) Y ?_
 refine RT.cM .none Y Y (tl Y) ?_
 refine RT.len .none Y (tl Y) ?_
 refine RT.mv .none Y (tl Y) ?_
 refine RT.done ?_
 refine aV.n ?_
 refine bh ?_
 refine pA (I:=λx:{i:Nat//i≤p.rows.length}=>AS.cq 30 [(0,.sv (.v (.func (.yield l) #[] #[]))),(1,.sv (ref [ax p.vars,(slc 1 (List.map (eS 4 eQ) p.vr)),(slc 1 (List.map (eS 4 eQ) p.rows)),(slc 4 (List.map eQ p.bounds))])),(7,.sv ((slc 1 (List.map (eS 4 eQ) p.rows)))),(8,ah ((p.rows.length:Nat):Int)),(9,ah ((x.1:Nat):Int))] [] [] (x.1)) (μ:=λx=>p.rows.length-x.1) ⟨0,by omega⟩ (by(try dsimp only);exact c6 id Y Y Y Y Y ⟨.sv (by first|exact aq|exact SV.aY (by omega)|exact SV.aY (by push_cast;omega)|exact SV.aY (by dsimp only;omega)|exact SV.imp_eq (by simp)),.sv (by first|exact aq|exact SV.aY (by omega)|exact SV.aY (by push_cast;omega)|exact SV.aY (by dsimp only;omega)|exact SV.imp_eq (by simp)),.sv (by first|exact aq|exact SV.aY (by omega)|exact SV.aY (by push_cast;omega)|exact SV.aY (by dsimp only;omega)|exact SV.imp_eq (by simp)),.sv (SV.aY (by simp)),.sv (by first|exact aq|exact SV.aY (by omega)|exact SV.aY (by push_cast;omega)|exact SV.aY (by dsimp only;omega)|exact SV.imp_eq (by simp)),ak⟩ trivial trivial (λ_ _=>Y)) ?_
 rintro⟨i,QU⟩
 try dsimp only
 rcases Ip p.rows p.bounds i QU with⟨hi,hb⟩|⟨hi,hb⟩|hi
 ·
  refine bz ?_
  refine aW ?_
  refine RT.lss .none (true) Y Y (tl Y) (by simp;omega) ?_
  refine RT.done ?_
  refine aV.n ?_
  refine bz ?_
  refine cA Y ?_
  refine bu ?_
  refine aV.n ?_
  refine bz ?_
  refine bh ?_
  refine bz ?_
  refine aW ?_
  refine RT.mv .none Y (tl Y) ?_
  refine RT.LG .none [(slc 4 (List.map eQ (p.rows.getD i [])))] (Int.natCast_nonneg i) (by rw[Int.toNat_natCast,List.getElem?_map,cD hi];rfl) Y Y (tl Y) ?_
  refine RT.cM .none Y Y (tl Y) ?_
  refine RT.wA .none Y (tl Y) ?_
  refine RT.wA .none Y (tl Y) ?_
  refine RT.done ?_
  refine aV.n ?_
  refine bz ?_
  refine aW ?_
  refine RT.qS .none (cs:=eQ ⟨⟨false,[]⟩,⟨false,[]⟩⟩) (by exact⟨aq,aA,aq,aA,ak⟩) Y (tl Y) Y Y ?_
  refine RT.done ?_
  refine aV.n ?_
  refine bz ?_
  refine bz ?_
  refine aW ?_
  refine RT.mv .none Y (tl Y) ?_
  refine RT.fV .none Y (tl Y) Y ?_
  refine RT.cM .none Y Y (tl Y) ?_
  refine RT.len .none Y (tl Y) ?_
  refine RT.lss .none (true) Y Y (tl Y) (by simp only[List.length_map];simp;omega) ?_
  refine RT.done ?_
  refine aV.n ?_
  refine cA Y ?_
  refine aW ?_
  refine RT.fV .none Y (tl Y) Y ?_
  refine RT.cM .none Y Y (tl Y) ?_
  refine RT.mv .none Y (tl Y) ?_
  refine RT.LG .none [ay ((p.bounds.getD i (⟨⟨false,[]⟩,⟨false,[]⟩⟩:Qr)).num.neg),slc 1 ((p.bounds.getD i (⟨⟨false,[]⟩,⟨false,[]⟩⟩:Qr)).num.w.map aX),ay ((p.bounds.getD i (⟨⟨false,[]⟩,⟨false,[]⟩⟩:Qr)).den.neg),slc 1 ((p.bounds.getD i (⟨⟨false,[]⟩,⟨false,[]⟩⟩:Qr)).den.w.map aX)] (Int.natCast_nonneg i) (by rw[Int.toNat_natCast,List.getElem?_map,cD hb];rfl) Y Y (tl Y) ?_
  refine RT.sg .none Y (tl Y) (cs:=[ay ((p.bounds.getD i (⟨⟨false,[]⟩,⟨false,[]⟩⟩:Qr)).num.neg),slc 1 ((p.bounds.getD i (⟨⟨false,[]⟩,⟨false,[]⟩⟩:Qr)).num.w.map aX),ay ((p.bounds.getD i (⟨⟨false,[]⟩,⟨false,[]⟩⟩:Qr)).den.neg),slc 1 ((p.bounds.getD i (⟨⟨false,[]⟩,⟨false,[]⟩⟩:Qr)).den.w.map aX)]) Y Y ?_
  refine RT.store .none Y Y Y Y Y ?_
  refine RT.done ?_
  refine aV.n ?_
  refine bz ?_
  refine aW ?_
  refine RT.mv .none Y (tl Y) ?_
  refine RT.mv .none Y (tl Y) ?_
  refine RT.load .none Y Y (.k4 Y Y Y Y) Y (tl Y) ?_
  refine RT.yield .none hr Y (λ_ h=>h) Y (i) Y Y hi (by exact⟨Y,Y,ak⟩) (tl Y) (λyb=>?_)
  cases yb
  ·
   refine RT.not .none Y (tl Y) true Y ?_
   refine RT.done ?_
   refine aV.n ?_
   refine cA Y ?_
   refine bf ?_
   refine bA.r ?_
   refine aV.r ?_
   refine aV.r ?_
   refine bA.r ?_
   exact⟨.inr rfl,(λh=>by cases h)⟩
  ·
   refine RT.not .none Y (tl Y) false Y ?_
   refine RT.done ?_
   refine aV.n ?_
   refine da Y ?_
   refine bu ?_
   refine bA.n ?_
   refine aV.n ?_
   refine aW ?_
   refine RT.add .none (((i:Nat):Int)+1) Y Y (tl Y) (jg (by omega)) ?_
   refine RT.mv .none Y (tl Y) ?_
   refine RT.done ?_
   refine aV.n ?_
   refine⟨⟨i+1,by omega⟩,(by dsimp only;omega),?_⟩
   try dsimp only
   exact c6 id Y Y Y Y Y ⟨.sv (by first|exact aq|exact SV.aY (by omega)|exact SV.aY (by push_cast;omega)|exact SV.aY (by dsimp only;omega)|exact SV.imp_eq (by simp)),.sv (by first|exact aq|exact SV.aY (by omega)|exact SV.aY (by push_cast;omega)|exact SV.aY (by dsimp only;omega)|exact SV.imp_eq (by simp)),.sv (by first|exact aq|exact SV.aY (by omega)|exact SV.aY (by push_cast;omega)|exact SV.aY (by dsimp only;omega)|exact SV.imp_eq (by simp)),.sv (by first|exact aq|exact SV.aY (by omega)|exact SV.aY (by push_cast;omega)|exact SV.aY (by dsimp only;omega)|exact SV.imp_eq (by simp)),.sv (by first|exact aq|exact SV.aY (by omega)|exact SV.aY (by push_cast;omega)|exact SV.aY (by dsimp only;omega)|exact SV.imp_eq (by simp)),ak⟩ trivial trivial (λ_ _=>Y)
 ·
  refine bz ?_
  refine aW ?_
  refine RT.lss .none (true) Y Y (tl Y) (by simp;omega) ?_
  refine RT.done ?_
  refine aV.n ?_
  refine bz ?_
  refine cA Y ?_
  refine bu ?_
  refine aV.n ?_
  refine bz ?_
  refine bh ?_
  refine bz ?_
  refine aW ?_
  refine RT.mv .none Y (tl Y) ?_
  refine RT.LG .none [(slc 4 (List.map eQ (p.rows.getD i [])))] (Int.natCast_nonneg i) (by rw[Int.toNat_natCast,List.getElem?_map,cD hi];rfl) Y Y (tl Y) ?_
  refine RT.cM .none Y Y (tl Y) ?_
  refine RT.wA .none Y (tl Y) ?_
  refine RT.wA .none Y (tl Y) ?_
  refine RT.done ?_
  refine aV.n ?_
  refine bz ?_
  refine aW ?_
  refine RT.qS .none (cs:=eQ ⟨⟨false,[]⟩,⟨false,[]⟩⟩) (by exact⟨aq,aA,aq,aA,ak⟩) Y (tl Y) Y Y ?_
  refine RT.done ?_
  refine aV.n ?_
  refine bz ?_
  refine bz ?_
  refine aW ?_
  refine RT.mv .none Y (tl Y) ?_
  refine RT.fV .none Y (tl Y) Y ?_
  refine RT.cM .none Y Y (tl Y) ?_
  refine RT.len .none Y (tl Y) ?_
  refine RT.lss .none (false) Y Y (tl Y) (by simp only[List.length_map];simp;omega) ?_
  refine RT.done ?_
  refine aV.n ?_
  refine da Y ?_
  refine bu ?_
  refine aV.n ?_
  refine bz ?_
  refine aW ?_
  refine RT.mv .none Y (tl Y) ?_
  refine RT.mv .none Y (tl Y) ?_
  refine RT.load .none Y Y (.k4 Y Y Y Y) Y (tl Y) ?_
  refine RT.yield .none hr Y (λ_ h=>h) Y (i) Y Y hi (by exact⟨Y,(by show AV.sv _=AV.sv _;rw[dA hb]),ak⟩) (tl Y) (λyb=>?_)
  cases yb
  ·
   refine RT.not .none Y (tl Y) true Y ?_
   refine RT.done ?_
   refine aV.n ?_
   refine cA Y ?_
   refine bf ?_
   refine bA.r ?_
   refine aV.r ?_
   refine aV.r ?_
   refine bA.r ?_
   exact⟨.inr rfl,(λh=>by cases h)⟩
  ·
   refine RT.not .none Y (tl Y) false Y ?_
   refine RT.done ?_
   refine aV.n ?_
   refine da Y ?_
   refine bu ?_
   refine bA.n ?_
   refine aV.n ?_
   refine aW ?_
   refine RT.add .none (((i:Nat):Int)+1) Y Y (tl Y) (jg (by omega)) ?_
   refine RT.mv .none Y (tl Y) ?_
   refine RT.done ?_
   refine aV.n ?_
   refine⟨⟨i+1,by omega⟩,(by dsimp only;omega),?_⟩
   try dsimp only
   exact c6 id Y Y Y Y Y ⟨.sv (by first|exact aq|exact SV.aY (by omega)|exact SV.aY (by push_cast;omega)|exact SV.aY (by dsimp only;omega)|exact SV.imp_eq (by simp)),.sv (by first|exact aq|exact SV.aY (by omega)|exact SV.aY (by push_cast;omega)|exact SV.aY (by dsimp only;omega)|exact SV.imp_eq (by simp)),.sv (by first|exact aq|exact SV.aY (by omega)|exact SV.aY (by push_cast;omega)|exact SV.aY (by dsimp only;omega)|exact SV.imp_eq (by simp)),.sv (by first|exact aq|exact SV.aY (by omega)|exact SV.aY (by push_cast;omega)|exact SV.aY (by dsimp only;omega)|exact SV.imp_eq (by simp)),.sv (by first|exact aq|exact SV.aY (by omega)|exact SV.aY (by push_cast;omega)|exact SV.aY (by dsimp only;omega)|exact SV.imp_eq (by simp)),ak⟩ trivial trivial (λ_ _=>Y)
 ·
  subst hi
  refine bz ?_
  refine aW ?_
  refine RT.lss .none (false) Y Y (tl Y) (by simp) ?_
  refine RT.done ?_
  refine aV.n ?_
  refine bz ?_
  refine da Y ?_
  refine bO ?_
  refine aV.x ?_
  refine aV.x ?_
  refine bA.x ?_
  exact⟨.inl Y,(λ_=>Y)⟩
theorem qa{x0:Lr}{r:Sz}(h:gH x0=some r):Pure af 50 [.agg (vu x0)] (.agg (eSz r)):=by
 obtain⟨bp,bn,bD,bF⟩:=x0
 refine bj Tryz.func50 Y (ae Y) (λdm M vs hvs=>?_)
 unfold gH at h
 refine sr<|bx Y<|al (cs:=[ax 0,ax 0,ax 0,ax 0]) (by exact⟨aq,aq,aq,aq,ak⟩) Y<|dn<|sr<|fa Y Y<|lV Y Y Y<|fa Y Y<|lV Y Y Y<|lE h λx7 h7 h=>ln Y h7<|fa Y Y<|lV Y Y Y<|lE h λdP gA h=>ln Y gA<|fa Y Y ?_
 refine lV Y Y Y<|lE h λja lW h=>ln Y lW<|bI (cs:=[_,_,_,_]) (cs':=[ax bp,ax x7,ax dP,ax ja]) (.one Y (.one Y (.one Y (.one Y (.nil))))) ⟨aq,aq,aq,aq,ak⟩<|so Y Y Y<|dn<|bf ?_
 obtain rfl:=O h
 exact RZ (.agg Y Y (.k4 Y Y Y Y) Y (.nil))
theorem m8{x0:Lr}{r:Bool}(h:iI x0=some r):Pure af 17 [.agg (vu x0)] (ay r):=by
 obtain⟨bp,bn,bD,bF⟩:=x0
 refine bj Tryz.func17 Y (ae Y) (λdm M vs hvs=>?_)
 unfold iI at h
 refine sr<|bx Y<|ag Y<|dn<|sr<|ld Y Y (.k4 Y Y Y Y) ?_
 obtain⟨⟨w7,zL,Ct,DZ⟩,h5,h⟩:=bS h
 refine cl (qa h5) ⟨Y,ak⟩<|al (cs:=[ax 0,ax 0,ax 0,ax 0]) (by exact⟨aq,aq,aq,aq,ak⟩) Y<|so Y Y Y<|dn<|qq<|qq ?_
 refine bC h (λOt=>AS.cq 48 [(1,.ptr 1 0),(3,.ptr 3 0),(23,ai Ot)] [(3,⟨71,[ah w7,ah zL,ah Ct,ah DZ]⟩),(1,⟨26,[ah bp,.sv (slc 1 (List.map (eS 4 eQ) bn)),.sv (slc 1 (List.map (eS 4 eQ) bD)),.sv (slc 4 (List.map eQ bF))]⟩)] []) (λh=>?_) (λMO h=>?_)
 refine aW<|fa Y Y<|lV Y Y Y<|lE h λx8 h8 h=>ls _ Y Y h8<|mv Y<|bE h λMR KJ h=>?_
 cases x8
 refine RT.fieldAddr (.some Y Y) Y T Y<|RT.oz (.some Y Y) Y Y Y T<|lE (F KJ) λcP fz KJ=>gg _ Y Y fz ?_
 obtain rfl:=O KJ
 refine pF Y<|mv Y<|bE h λabS Pm h=>?_
 cases cP
 refine RT.fieldAddr (.some Y Y) Y T Y<|RT.oz (.some Y Y) Y Y Y T<|lE (F Pm) λdS jb Pm=>RT.lss (.some Y Y) _ Y Y T jb ?_
 obtain rfl:=O Pm
 refine pF Y<|mv Y<|bE h λabT yA h=>?_
 cases dS
 refine RT.fieldAddr (.some Y Y) Y T Y<|RT.oz (.some Y Y) Y Y Y T<|lE (F yA) λgw lY yA=>gg _ Y Y lY ?_
 obtain rfl:=O yA
 exact pF Y<|dn<|⟨gw,h,wR []⟩
 obtain rfl:=O (V yA)
 exact ww<|ww<|ww<|pT Y<|dn<|⟨true,h,wR []⟩
 obtain rfl:=O (V Pm)
 refine ww<|ww<|ww<|pT Y<|mv Y<|bE h λabU Cw h=>?_
 obtain rfl:=O (V Cw)
 exact ww<|ww<|ww<|pT Y<|dn<|⟨true,h,wR []⟩
 obtain rfl:=O (V KJ)
 refine ww<|ww<|ww<|pT Y<|mv Y<|bE h λIu jA h=>?_
 obtain rfl:=O (V jA)
 refine ww<|ww<|ww<|pT Y<|mv Y<|bE h λabV n8 h=>?_
 obtain rfl:=O (V n8)
 exact ww<|ww<|ww<|pT Y<|dn<|⟨true,h,wR []⟩
 try dsimp only
 refine aV.n ?_
 cases MO
 refine fs<|qq<|qq ?_
 refine bC (F h) (λDO=>AS.cq 48 [(1,.ptr 1 0),(3,.ptr 3 0),(33,ai DO)] [(3,⟨71,[ah w7,ah zL,ah Ct,ah DZ]⟩),(1,⟨26,[ah bp,.sv (slc 1 (List.map (eS 4 eQ) bn)),.sv (slc 1 (List.map (eS 4 eQ) bD)),.sv (slc 4 (List.map eQ bF))]⟩)] []) (λh=>?_) (λIs h=>?_)
 refine aW<|fa Y Y<|lV Y Y Y<|lE h λiS pW h=>gt _ Y Y pW<|mv Y<|bE h λMQ rY h=>?_
 cases iS
 refine RT.fieldAddr (.some Y Y) Y T Y<|RT.oz (.some Y Y) Y Y Y T<|RT.fieldAddr (.some Y Y) Y T Y<|RT.oz (.some Y Y) Y Y Y T<|lE (F rY) λji o7 rY=>gq _ Y Y (HQ (p:=DZ) (q:=Ct) o7) ?_
 obtain rfl:=O rY
 exact pF Y<|dn<|⟨ji,h,wR []⟩
 obtain rfl:=O (V rY)
 exact ww<|ww<|ww<|ww<|ww<|pT Y<|dn<|⟨true,h,wR []⟩
 try dsimp only
 refine aV.n ?_
 cases Is
 refine fs<|qq ?_
 refine bC (F h) (λXe=>AS.cq 48 [(2,ai Xe)] [] []) (λh=>?_) (λRE h=>?_)
 refine aZ mixed<|fa Y Y<|lV Y Y Y<|bE h λsG yo h=>cl (zk yo) ⟨Y,ak⟩<|fa Y Y<|lV Y Y Y<|lE h λpU Cp h=>RT.leq .none _ Y Y T Cp<|mv Y<|bE h λMP pY h=>?_
 cases pU
 obtain rfl:=O (F pY)
 refine ww<|ww<|ww<|ww<|ww<|ww<|pF Y<|ag Y ?_
 refine RT.done ⟨by kernel_rfl,?_⟩
 exact aV.n<|⟨false,h,wR []⟩
 refine RT.fieldAddr (.some Y Y) Y T Y<|RT.oz (.some Y Y) Y Y Y T<|bE (V pY) λHA Oq pY=>gc (zk Oq) ⟨Y,ak⟩<|RT.fieldAddr (.some Y Y) Y T Y<|RT.oz (.some Y Y) Y Y Y T<|lE pY λrN h46 pY=>RT.leq (.some Y Y) _ Y Y T h46 ?_
 obtain rfl:=O pY
 refine pT Y<|ag Y ?_
 refine RT.done ⟨by kernel_rfl,?_⟩
 exact aV.n<|⟨rN,h,wR []⟩
 try dsimp only
 refine aV.n<|bf ?_
 obtain rfl:=O h
 exact R1 Y
 refine cT<|sr<|ag Y<|dn<|bf<|aV.r ?_
 obtain rfl:=O (V h)
 exact R1 Y
 refine cT<|sr<|ag Y<|dn<|bf<|aV.r ?_
 obtain rfl:=O (V h)
 exact R1 Y
theorem tF{x0:Lr}{x1:List Qr}{r:Bool}(h:iU x0 x1=some r):Pure af 20 [.agg (vu x0),slc 4 (List.map eQ x1)] (ay r):=by
 obtain⟨bp,bn,bD,bF⟩:=x0
 refine bj Tryz.func20 Y (ae Y) (λdm M vs hvs=>?_)
 unfold iU at h
 refine sr<|bx Y<|RT.Dq .none (s:=.sv _) Y T Y Y<|ag Y<|dn<|L4<|qq<|qq ?_
 refine bC h (λj3=>AS.cq 42 [(2,.ptr 2 0),(3,.ptr 3 0),(19,ai j3)] [(3,⟨24,[.sv (slc 4 (List.map eQ x1))]⟩),(2,⟨26,[ah bp,.sv (slc 1 (List.map (eS 4 eQ) bn)),.sv (slc 1 (List.map (eS 4 eQ) bD)),.sv (slc 4 (List.map eQ bF))]⟩)] []) (λh=>?_) (λMS h=>?_)
 refine aW<|ld Y Y (.k4 Y Y Y Y)<|bE h λfN kO h=>cl (m8 kO) ⟨Y,ak⟩<|lE h λcP fz h=>nt Y _ fz<|mv Y<|bE h λMT KK h=>?_
 cases cP
 refine RT.oz (.some Y Y) Y Y Y T<|lE (F KK) λdL iN KK=>gn Y iN<|RT.fieldAddr (.some Y Y) Y T Y<|RT.oz (.some Y Y) Y Y Y T<|lE KK λeI jP KK=>gg _ Y Y jP ?_
 obtain rfl:=O KK
 exact pF Y<|dn<|⟨eI,h,wR []⟩
 obtain rfl:=O (V KK)
 exact ww<|ww<|ww<|ww<|ww<|pT Y<|dn<|⟨true,h,wR []⟩
 try dsimp only
 refine aV.n ?_
 cases MS
 refine fs<|qq<|sr<|lV Y Y Y<|lE (F h) λgO mZ h=>ln Y mZ<|mv Y<|dn<|bE h λe9 hl9 ho9=>?_
 refine bL (λ(xe9:Unit)=>AS.cq 42 [(2,.ptr 2 0),(3,.ptr 3 0)] [(3,⟨24,[.sv (slc 4 (List.map eQ x1))]⟩),(2,⟨26,[ah bp,.sv (slc 1 (List.map (eS 4 eQ) bn)),.sv (slc 1 (List.map (eS 4 eQ) bD)),.sv (slc 4 (List.map eQ bF))]⟩)] []) (λxe9=>.inl xe9=e9) ?_ (λxe9 hx9=>?_)
 refine bh ?_
 refine bM hl9 (λs9=>AS.cq 42 [(2,.ptr 2 0),(3,.ptr 3 0),(20,.sv (slc 4 (List.map eQ x1))),(21,ah gO),(22,ah s9)] [(3,⟨24,[.sv (slc 4 (List.map eQ x1))]⟩),(2,⟨26,[ah bp,.sv (slc 1 (List.map (eS 4 eQ) bn)),.sv (slc 1 (List.map (eS 4 eQ) bD)),.sv (slc 4 (List.map eQ bF))]⟩)] []) (wR []) (λJs y9 G9 h hG9 hE9=>?_)
 try dsimp only
 refine sr<|lE h λiQ o6 h=>ls _ Y Y o6<|dn<|qq ?_
 cases iQ
 refine cF<|bO<|aV.x<|aV.x<|bA.x<|aV.n ?_
 obtain rfl:=O (F h)
 exact⟨(),hE9 _ Y,wR []⟩
 refine cT<|bu<|aV.n<|qq<|bh<|sr ?_
 obtain⟨⟨⟨tu,tv⟩,⟨zh,zj⟩⟩,o5,h⟩:=bS (V h)
 refine ix Y Y o5<|RT.sg (cs:=[_,_,_,_]) .none Y T Y Y<|al (cs:=[ay false,au,ay false,au]) (by exact⟨aq,aA,aq,aA,ak⟩) Y<|so Y Y Y<|dn<|sr<|ld Y Y (.k4 Y Y Y Y)<|bE h λiL o4 h=>cl (qX o4) ⟨Y,ak⟩<|lE h λnR vD h=>ls _ Y Y vD<|dn ?_
 cases nR
 refine cF<|bu<|bA.n<|aV.n<|aW<|lE (F h) λir mI h=>ad _ Y Y mI<|mv Y<|RT.done ?_
 obtain rfl:=O h
 exact aV.n ⟨ir,hG9 _ Y,wR []⟩
 refine cT<|sr<|ag Y<|dn<|bf<|bA.r<|aV.r ?_
 obtain rfl:=O (V h)
 have he9:=hE9 _ Y
 subst he9
 refine aV.r<|bA.r<|aV.r<|aV.r<|Ta.r ?_
 obtain rfl:=O ho9
 exact R1 Y
 subst hx9
 try dsimp only
 refine aV.n<|sr<|al (cs:=[ay false]) (by exact⟨aq,ak⟩) Y<|RT.me (cells:=[_]) .none (s:=.sv _) Y Y Y T Y<|dn<|qq<|L5<|aV.n<|qq<|sr<|ld Y Y (.k4 Y Y Y Y)<|cl (pJ ⟨bp,bn,bD,bF⟩) ⟨Y,ak⟩<|dn<|bh<|bE ho9 λLj Ic kP=>?_
 obtain⟨m12,abX,ahq,abY,abZ⟩:=ya Ic
 refine mH (pK ⟨bp,bn,bD,bF⟩) (λ_ _ _ _ _=>trivial) Y (λk=>AS.cq 42 [(3,.ptr 3 0),(7,.ptr 7 0),(31,.sv (qQ 98 [ref [ax bp,slc 1 (List.map (eS 4 eQ) bn),slc 1 (List.map (eS 4 eQ) bD),slc 4 (List.map eQ bF)]]))] [(7,⟨4,[ai true]⟩),(3,⟨24,[.sv (slc 4 (List.map eQ x1))]⟩)] []) [7,3] Y (λ_=>⟨Y,Y⟩) (vi Y) (λ_=>Y) (vk Y) (by(try dsimp only);(try dsimp only);exact c6 id Y Y Y Y Y ⟨.ptr,.ptr,.sv aq,ak⟩ ⟨⟨_,Y,⟨.sv aq,ak⟩⟩,⟨_,Y,⟨.sv aq,ak⟩⟩,ak⟩ trivial (λ_ _=>Y)) m12 (λk hk hkm D hD=>?_) (λhdn=>?_)
 obtain⟨y12,h,Ie,Ig⟩:=abY k hk hkm
 dsimp only[AS.OR,uR]
 try dsimp only at h
 refine lE h λp32 ab0 h=>?_
 rw[ab0]
 obtain⟨⟨⟨RF,RG⟩,⟨RH,RI⟩⟩,ab1,h⟩:=bS h
 rw[Option.some.inj ab1]
 refine sr<|ag Y<|dn<|aW<|al (cs:=[ay false,au,ay false,au]) (by exact⟨aq,aA,aq,aA,ak⟩) Y<|so Y Y Y<|RT.done ?_
 refine aV.n ⟨Y,?_⟩
 dsimp only[AS.Dv]
 refine bh<|qq<|aZ mixed<|mv Y<|lV Y Y Y ?_
 obtain⟨⟨⟨sK,sL⟩,⟨Gb,Gc⟩⟩,yo,h⟩:=bS h
 refine cl (vK yo) ⟨Y,Y,ak⟩<|ld Y Y (.k4 Y Y Y Y)<|bE h λwH FU h=>cl (ze FU) ⟨Y,Y,ak⟩ ?_
 refine RT.done ⟨by kernel_rfl,?_⟩
 refine aV.n<|bh<|sr<|lE h λnY u0 h=>eq _ Y Y (zF (p:=wH) (q:=1) u0)<|ag Y<|dn ?_
 cases nY
 refine cF<|bu<|bA.n<|bA.n ?_
 obtain rfl:=O (F h)
 obtain⟨ab2,ahr⟩:=Ie _ Y
 exact⟨ab2,Y,Y,wR []⟩
 refine cT<|sr<|RT.me (cells:=[_]) .none (s:=.sv _) Y Y Y T Y<|dn<|bO<|bA.y (by decide)<|bA.y (by decide) ?_
 obtain rfl:=O (V h)
 have ab3:=Ig _ Y
 subst ab3
 refine⟨Y,Y,?_⟩
 refine bA.x<|aV.n<|sr<|lV Y Y Y<|ag Y<|dn<|bf<|Ta.r ?_
 obtain rfl:=O kP
 exact R1 Y
 have ab4:=abZ hdn
 subst ab4
 obtain⟨ahs,Xr⟩:∃q,abX ((Lr.rows ⟨bp,bn,bD,bF⟩).length)=q:=⟨_,Y⟩
 rw[Xr]at kP
 try dsimp only
 refine bA.n<|aV.n<|sr<|lV Y Y Y<|ag Y<|dn<|bf<|Ta.r ?_
 obtain rfl:=O kP
 exact R1 Y
 refine cT<|sr<|ag Y<|dn<|bf<|aV.r<|Ta.r ?_
 obtain rfl:=O (V h)
 exact R1 Y
theorem tG{x0:Lr}{x1:List Qr}{r:List Qr}(h:jT x0 x1=some r):Pure af 21 [.agg (vu x0),slc 4 (List.map eQ x1)] (slc 4 (List.map eQ r)):=by
 obtain⟨bp,bn,bD,bF⟩:=x0
 refine bj Tryz.func21 Y (ae Y) (λdm M vs hvs=>?_)
 unfold jT at h
 refine sr<|bx Y<|aI Y (aA (n:=4) (e:=eQ))<|dn<|sr<|fa Y Y<|lV Y Y Y<|mv Y<|bE h λx8 h8 h=>cl (Cu h8) ⟨Y,Y,ak⟩<|ag Y<|dn<|bf ?_
 obtain rfl:=O h
 exact R1 Y
theorem Gz{x0:Lr}{x1:List Qr}{r:List Qr}(h:oM x0 x1=some r):Pure af 39 [.agg (vu x0),slc 4 (List.map eQ x1)] (slc 4 (List.map eQ r)):=by
 obtain⟨bp,bn,bD,bF⟩:=x0
 refine bj Tryz.func39 Y (ae Y) (λdm M vs hvs=>?_)
 unfold oM at h
 refine sr<|bx Y<|RT.Dq .none (s:=.sv _) Y T Y Y<|aI Y (aA (n:=4) (e:=eQ))<|dn<|sr<|RT.alloc .none T Y Y<|dn<|bX (kC 5 0 302 36 4 Y Y Y T)<|qq<|sr<|ld Y Y (.k4 Y Y Y Y)<|cl (pJ ⟨bp,bn,bD,bF⟩) ⟨Y,ak⟩<|dn<|bh<|bE h λyz hl5 ho5=>?_
 obtain⟨st5,hs5,ht5,hn5⟩:=qt hl5
 refine nX (pK ⟨bp,bn,bD,bF⟩) (λ_ _ _ _ _=>trivial) Y (λk=>AS.cq 21 [(3,.ptr 3 0),(5,.ptr 5 0),(9,.sv (qQ 98 [ref [ax bp,slc 1 (List.map (eS 4 eQ) bn),slc 1 (List.map (eS 4 eQ) bD),slc 4 (List.map eQ bF)]]))] [(5,⟨24,[.row 304]⟩),(3,⟨24,[.sv (slc 4 (List.map eQ x1))]⟩)] [(304,TR 36 4 eQ (st5 k))]) [5,3] Y (λ_=>⟨Y,Y⟩) (vi Y) (λ_=>Y) (vk Y) (by(try dsimp only);rw[hs5];(try dsimp only);exact c6 (λi=>bif Nat.beq i 304 then 302 else i) Y Y Y Y Y ⟨.ptr,.ptr,.sv aq,ak⟩ ⟨⟨_,Y,⟨.row Y,ak⟩⟩,⟨_,Y,⟨.sv aq,ak⟩⟩,ak⟩ ⟨⟨_,Y,cH.refl _⟩,ak⟩ (λi hi=>by rw[cz (show i≠304 by omega)];rfl)) (λk hk D hD=>?_) ?_
 have h:=ht5 k hk
 obtain⟨yz,Tt⟩:∃q,st5 k=q:=⟨_,Y⟩
 rw[Tt]at h⊢
 dsimp only[AS.OR,uR]
 try dsimp only at h
 refine lE h λS9 TS h=>?_
 rw[TS]
 obtain⟨⟨⟨Gk,Gl⟩,⟨Gm,Gn⟩⟩,MJ,h⟩:=bS h
 rw[Option.some.inj MJ]
 refine sr<|ag Y<|dn<|aW<|al (cs:=[ay false,au,ay false,au]) (by exact⟨aq,aA,aq,aA,ak⟩) Y<|so Y Y Y<|RT.done ?_
 refine aV.n ⟨Y,?_⟩
 dsimp only[AS.Dv]
 refine bh<|aZ mixed<|RT.ku .none (s:=.row _) Y Y Y T<|ld Y Y (.k4 Y Y Y Y)<|mv Y<|lV Y Y Y ?_
 obtain⟨⟨⟨jl,jm⟩,⟨zf,zg⟩⟩,jo,h⟩:=bS h
 refine cl (vK jo) ⟨Y,Y,ak⟩ ?_
 obtain⟨⟨⟨kZ,k7⟩,⟨rS,rT⟩⟩,jb,h⟩:=bS h
 refine cl (Gh jb) ⟨Y,Y,ak⟩<|bl (l:=[⟨⟨kZ,k7⟩,⟨rS,rT⟩⟩]) (e:=eQ) (.agg Y (.nil)) Y Y Y Y Y Y<|bE h λkN lX h=>aR (k:=[⟨⟨kZ,k7⟩,⟨rS,rT⟩⟩]) (e:=eQ) Y Y Y lX<|RT.qP (cells:=[_]) .none Y Y Y Y T Y ?_
 refine RT.done ⟨by kernel_rfl,?_⟩
 refine bA.n ?_
 replace h:=Option.some.inj h
 refine⟨ak,Y,Y,?_⟩
 try dsimp only
 rw[←h]
 try dsimp only
 exact c6 (λi=>bif Nat.beq i 304 then 19 else i) Y Y Y Y Y ⟨.ptr,.ptr,.sv aq,ak⟩ ⟨⟨_,Y,⟨.row Y,ak⟩⟩,⟨_,Y,⟨.sv aq,ak⟩⟩,ak⟩ ⟨⟨_,Y,cH.refl _⟩,ak⟩ (λi hi=>by rw[cz (show i≠304 by omega)];rfl)
 rw[hn5]
 try dsimp only
 refine bA.n<|aV.n<|sr<|RT.ku .none (s:=.row _) Y Y Y T<|an (s:=.row _) Y<|dn<|bX (dR (i:=304) (E1:=36) (n:=4) (e:=eQ) (l:=yz) Y)<|bf ?_
 obtain rfl:=O ho5
 exact R1 Y
set_option maxHeartbeats 4000000 in
theorem Iv{x0:Lr}{r:Lr×Int}(h:qE x0=some r):Pure af 16 [.agg (vu x0)] (.BW [.agg (vu r.1),ax r.2]):=by
 obtain⟨bp,bn,bD,bF⟩:=x0
 refine bj Tryz.func16 Y (ae Y) (λdm M vs hvs=>?_)
 unfold qE at h
 refine sr<|bx Y<|al (cs:=[ax 0,slc 1 (List.map (eS 4 eQ) []),slc 1 (List.map (eS 4 eQ) []),slc 4 (List.map eQ [])]) (by exact⟨aq,aA,aA,aA,ak⟩) Y<|ag Y<|dn<|qq<|qq ?_
 refine bC h (λj6=>AS.cq 76 [(1,.ptr 1 0),(2,.ptr 2 0),(23,ai j6)] [(2,⟨26,[ah 0,.sv (slc 1 (List.map (eS 4 eQ) [])),.sv (slc 1 (List.map (eS 4 eQ) [])),.sv (slc 4 (List.map eQ []))]⟩),(1,⟨26,[ah bp,.sv (slc 1 (List.map (eS 4 eQ) bn)),.sv (slc 1 (List.map (eS 4 eQ) bD)),.sv (slc 4 (List.map eQ bF))]⟩)] []) (λh=>?_) (λMU h=>?_)
 refine aW<|ld Y Y (.k4 Y Y Y Y)<|bE h λfN kO h=>cl (m8 kO) ⟨Y,ak⟩<|lE h λcP fz h=>nt Y _ fz<|mv Y<|bE h λMZ yx h=>?_
 cases cP
 refine RT.fieldAddr (.some Y Y) Y T Y<|RT.oz (.some Y Y) Y Y Y T<|lE (F yx) λfy jo yx=>gn Y jo<|lE yx λdS jb yx=>gg _ Y Y jb ?_
 obtain rfl:=O yx
 refine pF Y<|mv Y<|bE h λab5 vI h=>?_
 cases dS
 refine RT.fieldAddr (.some Y Y) Y T Y<|RT.oz (.some Y Y) Y Y Y T<|lE (F vI) λgw lY vI=>gg _ Y Y lY ?_
 obtain rfl:=O vI
 exact pF Y<|dn<|⟨gw,h,wR []⟩
 obtain rfl:=O (V vI)
 exact ww<|ww<|ww<|pT Y<|dn<|⟨true,h,wR []⟩
 obtain rfl:=O (V yx)
 refine ww<|ww<|ww<|ww<|pT Y<|mv Y<|bE h λab6 zM h=>?_
 obtain rfl:=O (V zM)
 exact ww<|ww<|ww<|pT Y<|dn<|⟨true,h,wR []⟩
 try dsimp only
 refine aV.n ?_
 cases MU
 refine fs<|sr<|fa Y Y<|lV Y Y Y<|lE (F h) λiL o4 h=>ln Y o4<|ag Y<|dn<|sr ?_
 obtain⟨⟨⟨RJ,RK⟩,⟨RL,RM⟩⟩,vD,h⟩:=bS h
 refine cl (lu vD) ⟨Y,ak⟩<|al (cs:=[ay false,au,ay false,au]) (by exact⟨aq,aA,aq,aA,ak⟩) Y<|so Y Y Y<|dn<|sr<|mv Y<|ld Y Y (.k4 Y Y Y Y)<|fa Y Y<|lV Y Y Y<|bE h λmS va h=>cl (xd va) ⟨Y,Y,ak⟩<|bl (l:=[mS]) (e:=(eS 4 eQ)) (.one Y (.nil)) Y Y Y Y Y Y ?_
 refine bI (cs:=[_,_,_,_]) (cs':=[ax iL,slc 1 (List.map (eS 4 eQ) [mS]),.v (.slice none 0 0),.v (.slice none 0 0)]) (.one Y (.one Y (.nil))) ⟨aq,aq,aq,aq,ak⟩<|al (cs:=[ax 0,slc 1 (List.map (eS 4 eQ) []),.v (.slice none 0 0),.v (.slice none 0 0)]) (by exact⟨aq,aA,aq,aq,ak⟩) Y<|so Y Y Y<|dn<|bX (kC 6 2 303 24 1 Y Y Y T)<|bX (kC 6 3 304 36 4 Y Y Y T) ?_
 refine qq<|sr<|fa Y Y<|lV Y Y Y<|mv Y<|dn<|bE h λe26 ab7 ab8=>?_
 refine bL (λ(KL:(List (List Qr))×(List Qr))=>AS.cq 76 [(2,.ptr 2 0),(6,.ptr 6 0)] [(6,⟨26,[ah iL,.sv (slc 1 (List.map (eS 4 eQ) [mS])),.row 307,.row 308]⟩),(2,⟨26,[ah 0,.sv (slc 1 (List.map (eS 4 eQ) [])),.sv (slc 1 (List.map (eS 4 eQ) [])),.sv (slc 4 (List.map eQ []))]⟩)] [(307,TR 24 1 (eS 4 eQ) KL.1),(308,TR 36 4 eQ KL.2)]) (λKL=>KL=e26) ?_ (λKL ab9=>?_)
 refine bh ?_
 refine bM ab7 (λTY=>AS.cq 76 [(1,.ptr 1 0),(2,.ptr 2 0),(4,ah iL),(6,.ptr 6 0),(37,ah bp),(38,ah TY.1)] [(6,⟨26,[ah iL,.sv (slc 1 (List.map (eS 4 eQ) [mS])),.row 307,.row 308]⟩),(2,⟨26,[ah 0,.sv (slc 1 (List.map (eS 4 eQ) [])),.sv (slc 1 (List.map (eS 4 eQ) [])),.sv (slc 4 (List.map eQ []))]⟩),(1,⟨26,[ah bp,.sv (slc 1 (List.map (eS 4 eQ) bn)),.sv (slc 1 (List.map (eS 4 eQ) bD)),.sv (slc 4 (List.map eQ bF))]⟩)] [(307,TR 24 1 (eS 4 eQ) TY.2.1),(308,TR 36 4 eQ TY.2.2)]) (c6 (λi=>bif Nat.beq i 307 then 303 else bif Nat.beq i 308 then 304 else i) Y Y Y Y Y ⟨.ptr,.ptr,.sv aq,.ptr,.sv aq,.sv aq,ak⟩ ⟨⟨_,Y,⟨.sv aq,.sv aq,.row Y,.row Y,ak⟩⟩,⟨_,Y,⟨.sv aq,.sv aq,.sv aq,.sv aq,ak⟩⟩,⟨_,Y,⟨.sv aq,.sv aq,.sv aq,.sv aq,ak⟩⟩,ak⟩ ⟨⟨_,Y,cH.refl _⟩,⟨_,Y,cH.refl _⟩,ak⟩ (λi hi=>by rw[cz (show i≠307 by omega)];rw[cz (show i≠308 by omega)];rfl)) (λTY y26 G26 h acd ace=>?_)
 obtain⟨qZ,uj,um⟩:=TY
 try dsimp only
 refine sr<|lE h λpU Cp h=>ls _ Y Y Cp<|dn<|qq ?_
 cases pU
 refine cF<|bO<|aV.x<|aV.x<|bA.x<|aV.n ?_
 obtain rfl:=O (F h)
 exact⟨(uj,um),ace _ Y,wR []⟩
 refine cT<|bu<|aV.n<|qq<|bh<|sr<|mv Y<|ag Y<|dn<|sr<|mv Y<|bE (V h) λr7 DP h=>RT.sx (n:=4) (e:=eQ) .none Y Y T Y T (by rfl) (by decide) (by exact⟨aq,aA,aq,aA,ak⟩) DP<|an (s:=.row _) Y<|dn<|qq<|sr<|mo (s:=.row _) Y<|lE h λCk KB h=>lL Y Y KB<|mv Y<|dn<|bE h λe34 acf Bp=>?_
 refine bL (λ(q9:(List Qr))=>AS.cq 76 [(1,.ptr 1 0),(2,.ptr 2 0),(4,ah iL),(6,.ptr 6 0),(7,ah qZ),(8,.row 42),(37,ah bp),(38,ah qZ)] [(6,⟨26,[ah iL,.sv (slc 1 (List.map (eS 4 eQ) [mS])),.row 307,.row 308]⟩),(2,⟨26,[ah 0,.sv (slc 1 (List.map (eS 4 eQ) [])),.sv (slc 1 (List.map (eS 4 eQ) [])),.sv (slc 4 (List.map eQ []))]⟩),(1,⟨26,[ah bp,.sv (slc 1 (List.map (eS 4 eQ) bn)),.sv (slc 1 (List.map (eS 4 eQ) bD)),.sv (slc 4 (List.map eQ bF))]⟩)] [(42,TR 36 4 eQ q9),(307,TR 24 1 (eS 4 eQ) uj),(308,TR 36 4 eQ um)]) (λq9=>q9=e34) ?_ (λq9 acg=>?_)
 refine bh ?_
 refine bM acf (λVH=>AS.cq 76 [(1,.ptr 1 0),(2,.ptr 2 0),(4,ah iL),(6,.ptr 6 0),(7,ah qZ),(8,.row 42),(37,ah bp),(38,ah qZ),(44,ah Ck),(45,ah VH.1)] [(6,⟨26,[ah iL,.sv (slc 1 (List.map (eS 4 eQ) [mS])),.row 307,.row 308]⟩),(2,⟨26,[ah 0,.sv (slc 1 (List.map (eS 4 eQ) [])),.sv (slc 1 (List.map (eS 4 eQ) [])),.sv (slc 4 (List.map eQ []))]⟩),(1,⟨26,[ah bp,.sv (slc 1 (List.map (eS 4 eQ) bn)),.sv (slc 1 (List.map (eS 4 eQ) bD)),.sv (slc 4 (List.map eQ bF))]⟩)] [(42,TR 36 4 eQ VH.2),(307,TR 24 1 (eS 4 eQ) uj),(308,TR 36 4 eQ um)]) (wR []) (λVH y34 G34 h ach aci=>?_)
 obtain⟨Bm,Bn⟩:=VH
 try dsimp only
 refine sr<|lE h λrN h46 h=>ls _ Y Y h46<|dn<|qq ?_
 cases rN
 refine cF<|bO<|aV.x<|aV.x<|bA.x<|aV.n ?_
 obtain rfl:=O (F h)
 exact⟨Bn,aci _ Y,wR []⟩
 refine cT<|bu<|aV.n<|qq<|bh<|sr<|mv Y<|ag Y<|dn<|aW<|mo (s:=.row _) Y<|mv Y<|fa Y Y<|lV Y Y Y<|mv Y<|mv Y ?_
 obtain⟨⟨⟨RN,RO⟩,⟨RQ,RR⟩⟩,HB,h⟩:=bS (V h)
 refine cl (C0 HB) ⟨Y,Y,Y,ak⟩ ?_
 obtain⟨⟨⟨MV,MW⟩,⟨MX,MY⟩⟩,Pb,h⟩:=bS h
 refine cl (zb Pb) ⟨Y,ak⟩<|bE h λQW Tw h=>iR Y Y Y Tw<|bE h λl36 Xs h=>sA ⟨⟨MV,MW⟩,⟨MX,MY⟩⟩ Y Y Y Xs<|RT.done<|bA.n<|aV.n<|aW<|lE h λO8 W0 h=>ad _ Y Y W0<|mv Y<|RT.done ?_
 obtain rfl:=O h
 exact aV.n ⟨(O8,l36),ach _ Y,wR []⟩
 subst acg
 try dsimp only
 refine aV.n<|qq<|bX (dR (i:=42) (E1:=36) (n:=4) (e:=eQ) (l:=q9) Y)<|aW<|fa Y Y<|RT.ku .none (s:=.row _) Y Y Y T<|mv Y<|bl (l:=[q9]) (e:=(eS 4 eQ)) (.one Y (.nil)) Y Y Y Y Y Y<|bE Bp λRU W8 Bp=>aR (k:=[q9]) (e:=(eS 4 eQ)) Y Y Y W8<|fa Y Y<|RT.qP (cells:=[_,_,_,_]) .none Y Y Y Y T Y<|dn<|aZ mixed<|fa Y Y<|RT.ku .none (s:=.row _) Y Y Y T ?_
 refine fa Y Y<|lV Y Y Y<|mv Y ?_
 obtain⟨⟨⟨RV,RW⟩,⟨RX,RY⟩⟩,Pc,Bp⟩:=bS Bp
 refine cl (C0 Pc) ⟨Y,Y,Y,ak⟩ ?_
 obtain⟨⟨⟨Jt,Ju⟩,⟨Jv,Jw⟩⟩,Tz,Bp⟩:=bS Bp
 refine cl (zb Tz) ⟨Y,ak⟩<|bl (l:=[⟨⟨Jt,Ju⟩,⟨Jv,Jw⟩⟩]) (e:=eQ) (.agg Y (.nil)) Y Y Y Y Y Y<|bE Bp λMh W9 Bp=>aR (k:=[⟨⟨Jt,Ju⟩,⟨Jv,Jw⟩⟩]) (e:=eQ) Y Y Y W9<|fa Y Y<|RT.qP (cells:=[_,_,_,_]) .none Y Y Y Y T Y ?_
 refine RT.done ⟨by kernel_rfl,?_⟩
 refine bA.n<|aV.n<|aW<|lE Bp λFG Pd Bp=>ad _ Y Y Pd<|mv Y<|RT.done ?_
 obtain rfl:=O Bp
 exact aV.n ⟨(FG,RU,Mh),acd _ Y,c6 (λi=>bif Nat.beq i 307 then 62 else bif Nat.beq i 308 then 72 else i) Y Y Y Y Y ⟨.ptr,.ptr,.sv aq,.ptr,.sv aq,.sv aq,ak⟩ ⟨⟨_,Y,⟨.sv aq,.sv aq,.row Y,.row Y,ak⟩⟩,⟨_,Y,⟨.sv aq,.sv aq,.sv aq,.sv aq,ak⟩⟩,⟨_,Y,⟨.sv aq,.sv aq,.sv aq,.sv aq,ak⟩⟩,ak⟩ ⟨⟨_,Y,cH.refl _⟩,⟨_,Y,cH.refl _⟩,ak⟩ (λi hi=>by rw[cz (show i≠307 by omega)];rw[cz (show i≠308 by omega)];rfl)⟩
 subst ab9
 obtain⟨D6,D7⟩:=KL
 try dsimp only
 refine aV.n<|qq<|bX (dR (i:=307) (E1:=24) (n:=1) (e:=(eS 4 eQ)) (l:=D6) Y)<|bX (dR (i:=308) (E1:=36) (n:=4) (e:=eQ) (l:=D7) Y)<|aW<|ld Y Y (.k4 Y Y Y Y)<|so Y Y Y<|ag Y<|dn<|bf ?_
 obtain rfl:=O ab8
 exact RZ (.agg Y Y (.k4 Y Y Y Y) Y (.tmp Y (.nil)))
 refine cT<|sr<|bI (cs:=[_,_,_,_]) (cs':=[ax 0,slc 1 (List.map (eS 4 eQ) []),slc 1 (List.map (eS 4 eQ) []),slc 4 (List.map eQ [])]) (.nil) ⟨aq,aA,aA,aA,ak⟩<|so Y Y Y<|ag Y<|dn<|bf<|aV.r ?_
 obtain rfl:=O (V h)
 exact RZ (.agg Y Y (.k4 Y Y Y Y) Y (.tmp Y (.nil)))
theorem D8{x0:Lr}{r:Lr}(h:tD x0=some r):Pure af 48 [.agg (vu x0)] (.agg (vu r)):=by
 obtain⟨bp,bn,bD,bF⟩:=x0
 refine bj Tryz.func48 Y (ae Y) (λdm M vs hvs=>?_)
 unfold tD at h
 refine sr<|bx Y<|al (cs:=[ax 0,slc 1 (List.map (eS 4 eQ) []),slc 1 (List.map (eS 4 eQ) []),slc 4 (List.map eQ [])]) (by exact⟨aq,aA,aA,aA,ak⟩) Y<|dn<|sr ?_
 obtain⟨⟨⟨lj,lp⟩,⟨zS,zT⟩⟩,h4,h⟩:=bS h
 refine cl (lu h4) ⟨Y,ak⟩<|al (cs:=[ay false,au,ay false,au]) (by exact⟨aq,aA,aq,aA,ak⟩) Y<|so Y Y Y<|dn<|qq<|aZ mixed<|fa Y Y<|lV Y Y Y<|ld Y Y (.k4 Y Y Y Y)<|fa Y Y<|lV Y Y Y<|bE h λdP gA h=>cl (xg gA) ⟨Y,Y,ak⟩ ?_
 refine ld Y Y (.k4 Y Y Y Y)<|fa Y Y<|lV Y Y Y<|bE h λdW jc h=>cl (xg jc) ⟨Y,Y,ak⟩<|ld Y Y (.k4 Y Y Y Y)<|fa Y Y<|lV Y Y Y<|bE h λeI jP h=>cl (xd jP) ⟨Y,Y,ak⟩<|bI (cs:=[_,_,_,_]) (cs':=[ax bp,slc 1 (List.map (eS 4 eQ) dP),slc 1 (List.map (eS 4 eQ) dW),slc 4 (List.map eQ eI)]) (.one Y (.one Y (.one Y (.one Y (.nil))))) ⟨aq,aq,aq,aq,ak⟩ ?_
 refine so Y Y Y ?_
 refine RT.done ⟨by kernel_rfl,?_⟩
 refine aV.n<|bf ?_
 obtain rfl:=O h
 exact RZ (.agg Y Y (.k4 Y Y Y Y) Y (.nil))
theorem r5{x0:Lr}{x1:Int}{r:Lr×Int}(h:eV x0 x1=some r):Pure af 12 [.agg (vu x0),ax x1] (.BW [.agg (vu r.1),ax r.2]):=by
 obtain⟨bp,bn,bD,bF⟩:=x0
 refine bj Tryz.func12 Y (ae Y) (λdm M vs hvs=>?_)
 unfold eV at h
 refine sr<|bx Y<|al (cs:=[ax 0,slc 1 (List.map (eS 4 eQ) []),slc 1 (List.map (eS 4 eQ) []),slc 4 (List.map eQ [])]) (by exact⟨aq,aA,aA,aA,ak⟩) Y<|ag Y<|dn<|qq<|qq ?_
 refine bC h (λj6=>AS.cq 30 [(1,ah x1),(2,.ptr 2 0),(4,.ptr 4 0),(19,ai j6)] [(4,⟨26,[ah 0,.sv (slc 1 (List.map (eS 4 eQ) [])),.sv (slc 1 (List.map (eS 4 eQ) [])),.sv (slc 4 (List.map eQ []))]⟩),(2,⟨26,[ah bp,.sv (slc 1 (List.map (eS 4 eQ) bn)),.sv (slc 1 (List.map (eS 4 eQ) bD)),.sv (slc 4 (List.map eQ bF))]⟩)] []) (λh=>?_) (λBo h=>?_)
 refine aW<|ld Y Y (.k4 Y Y Y Y)<|bE h λx7 h7 h=>cl (m8 h7) ⟨Y,ak⟩<|lE h λx8 h8 h=>nt Y _ h8<|mv Y<|bE h λGw Jx h=>?_
 cases x8
 refine gm Y<|lE (F Jx) λfN kO Jx=>RT.lss (.some Y Y) _ Y Y T kO ?_
 obtain rfl:=O Jx
 refine pF Y<|mv Y<|bE h λXt Bb h=>?_
 cases fN
 refine gm Y<|RT.fieldAddr (.some Y Y) Y T Y<|RT.oz (.some Y Y) Y Y Y T<|lE (F Bb) λdS jb Bb=>gn Y jb<|lE Bb λeI jP Bb=>RT.geq (.some Y Y) _ Y Y T jP ?_
 obtain rfl:=O Bb
 exact pF Y<|dn<|⟨eI,h,wR []⟩
 obtain rfl:=O (V Bb)
 exact ww<|ww<|ww<|ww<|ww<|pT Y<|dn<|⟨true,h,wR []⟩
 obtain rfl:=O (V Jx)
 refine ww<|ww<|pT Y<|mv Y<|bE h λXu Xv h=>?_
 obtain rfl:=O (V Xv)
 exact ww<|ww<|ww<|ww<|ww<|pT Y<|dn<|⟨true,h,wR []⟩
 try dsimp only
 refine aV.n ?_
 cases Bo
 refine fs<|sr<|fa Y Y<|lV Y Y Y<|mv Y<|mv Y<|lE (F h) λkf oE h=>ad _ Y Y oE<|bE h λiS pW h=>RT.sw .none x1 kf Y ⟨_,Y⟩ ⟨_,Y⟩ T pW<|fa Y Y<|RT.me (cells:=[_,_,_,_]) .none (s:=.sv _) Y Y Y T Y<|dn<|sr<|ld Y Y (.k4 Y Y Y Y) ?_
 obtain⟨⟨C1,C2,Gv,C3⟩,mI,h⟩:=bS h
 refine cl (D8 mI) ⟨Y,ak⟩<|so Y Y Y<|ag Y<|dn<|bf ?_
 obtain rfl:=O h
 exact RZ (.agg Y Y (.k4 Y Y Y Y) Y (.tmp Y (.nil)))
 refine cT<|sr<|bI (cs:=[_,_,_,_]) (cs':=[ax 0,slc 1 (List.map (eS 4 eQ) []),slc 1 (List.map (eS 4 eQ) []),slc 4 (List.map eQ [])]) (.nil) ⟨aq,aA,aA,aA,ak⟩<|so Y Y Y<|ag Y<|dn<|bf<|aV.r ?_
 obtain rfl:=O (V h)
 exact RZ (.agg Y Y (.k4 Y Y Y Y) Y (.tmp Y (.nil)))
theorem m9{x0:Lr}{x1:Lr}{r:Bool}(h:fY x0 x1=some r):Pure af 14 [.agg (vu x0),.agg (vu x1)] (ay r):=by
 obtain⟨bp,bn,bD,bF⟩:=x0
 obtain⟨bU,bR,dx,dy⟩:=x1
 refine bj Tryz.func14 Y (ae Y) (λdm M vs hvs=>?_)
 unfold fY at h
 refine sr<|bx Y<|bx Y<|ag Y<|dn<|qq<|qq<|aZ mixed<|ld Y Y (.k4 Y Y Y Y) ?_
 obtain⟨⟨zU,zV,Xo,Xp⟩,h6,h⟩:=bS h
 refine cl (qa h6) ⟨Y,ak⟩<|ld Y Y (.k4 Y Y Y Y) ?_
 obtain⟨⟨o9,pg,Gx,Gy⟩,h8,h⟩:=bS h
 refine cl (qa h8) ⟨Y,ak⟩<|lE h λx9 h9 h=>RT.TT .none Y Y T h9 ?_
 refine RT.done ⟨by kernel_rfl,?_⟩
 refine aV.n ?_
 cases x9
 refine fs<|qq ?_
 refine bC (F h) (λj6=>AS.cq 29 [(4,ai j6)] [] []) (λh=>?_) (λXq h=>?_)
 refine aW<|fa Y Y<|lV Y Y Y<|fa Y Y<|lV Y Y Y<|bE h λdW jc h=>cl (xh jc) ⟨Y,Y,ak⟩<|mv Y<|bE h λR3 Jx h=>?_
 cases dW
 obtain rfl:=O (F Jx)
 refine ww<|ww<|ww<|ww<|ww<|pF Y<|mv Y<|bE h λafT Xv h=>?_
 obtain rfl:=O (F Xv)
 exact ww<|ww<|ww<|ww<|ww<|pF Y<|ag Y<|dn<|⟨false,h,wR []⟩
 refine RT.fieldAddr (.some Y Y) Y T Y<|RT.oz (.some Y Y) Y Y Y T<|RT.fieldAddr (.some Y Y) Y T Y<|RT.oz (.some Y Y) Y Y Y T<|bE (V Jx) λke qw Jx=>gc (xh qw) ⟨Y,Y,ak⟩ ?_
 obtain rfl:=O Jx
 refine pT Y<|mv Y<|bE h λafU Bb h=>?_
 cases ke
 obtain rfl:=O (F Bb)
 exact ww<|ww<|ww<|ww<|ww<|pF Y<|ag Y<|dn<|⟨false,h,wR []⟩
 refine RT.fieldAddr (.some Y Y) Y T Y<|RT.oz (.some Y Y) Y Y Y T<|RT.fieldAddr (.some Y Y) Y T Y<|RT.oz (.some Y Y) Y Y Y T<|bE (V Bb) λiL o4 Bb=>gc (lz o4) ⟨Y,Y,ak⟩ ?_
 obtain rfl:=O Bb
 exact pT Y<|ag Y<|dn<|⟨iL,h,wR []⟩
 try dsimp only
 refine aV.n<|bf ?_
 obtain rfl:=O h
 exact R1 Y
 refine cT<|sr<|ag Y<|dn<|bf<|aV.r ?_
 obtain rfl:=O (V h)
 exact R1 Y
end
end Go.Proofs.YtfoldppidpmchaaGreat
namespace Go.Fw
section
open Go.RowKit
def Mem.to(M:Mem)(N:Nat):Mem:=λb o=>if b<N then M b o else none
theorem Mem.Xw(M:Mem)(N:Nat):(M.to N).le M:=λb o v h=>by
 unfold Mem.to at h
 split at h
 ·exact h
 ·cases h
theorem Mem.Pn{M M':Mem}(h:M.le M')(N:Nat):(M.to N).le (M'.to N):=λb o v e=>by
 unfold Mem.to at*
 split at e
 ·rename_i hn;rw[if_pos hn];exact h b o v e
 ·cases e
def od(N:Nat)(s:SV):SV:=⟨λM v=>s.h (M.to N) v,λhM h=>s.mono (Mem.Pn hM N) h⟩
def AV.od(N:Nat):AV→AV
 |.sv s=>.sv (Fw.od N s)
 |x=>x
theorem AV.R4{N:Nat}{x:AV}{j:Nat}:(x.od N).mb j↔x.mb j:=by cases x<;>exact Iff.rfl
theorem AV.R5{N:Nat}{x:AV}{j:Nat}:(x.od N).mr j↔x.mr j:=by cases x<;>exact Iff.rfl
def AS.od(N:Nat)(S:AS):AS:={S with t:=λs=>(S.t s).od N,b:=λj=>(S.b j).map λB=>⟨B.T,B.cells.map (AV.od N)⟩}
theorem AV.GA{E:Env}{N:Nat}(h:E.M.le (E.M.to N)){x:AV}{v:Value}(hx:x.holds E v):(x.od N).holds E v:=by
 cases x with
 |sv s=>exact s.mono h hx
 |_=>exact hx
theorem c9.od{E:Env}{N:Nat}(h:E.M.le (E.M.to N)):∀{l:List AV} {vs:List Value},c9 E l vs→c9 E (l.map (AV.od N)) vs
 |[],[],_=>trivial
 |_::_,_::_,hv=>⟨AV.GA h hv.1,c9.od h hv.2⟩
 |[],_::_,hv=>hv.elim
 |_::_,[],hv=>hv.elim
section
variable {P:Program}{C:Ctx}{S:AS}{Q:Exit→AS→Prop}
theorem bk.odd{E:Env}{a:Act}{w:World}(h:bk C S E a w){N:Nat}(hN:w.heap.size≤N):bk C (S.od N) E a w:=by
 have hle:E.M.le (E.M.to N):=λb o v e=>by
  have:=kQ h.c8 e
  unfold Mem.to;rw[if_pos (by omega)];exact e
 have CM:∀i B,(S.od N).b i=some B→∃B0,S.b i=some B0∧B=⟨B0.T,B0.cells.map (AV.od N)⟩:=λi B hB=>by
  have hB:(S.b i).map (λB=>(⟨B.T,B.cells.map (AV.od N)⟩:nE))=some B:=hB
  cases e:S.b i with
  |none=>rw[e]at hB;cases hB
  |some B0=>rw[e]at hB;cases hB;exact⟨B0,rfl,rfl⟩
 have bTo:∀i B0,S.b i=some B0→∃B,(S.od N).b i=some B:=λi B0 e=>⟨_,by show(S.b i).map _=_;rw[e];rfl⟩
 exact{h with
  wf:=by
   refine⟨λs j hj=>?_,λs j hj=>h.wf.tr s j (AV.R5.1 hj),λi B hB x hx j hj=>?_,λi B hB x hx j hj=>?_⟩
   ·obtain⟨B,hB⟩:=h.wf.tb s j (AV.R4.1 hj);exact bTo j B hB
   ·obtain⟨B0,h0,rfl⟩:=CM i B hB
    obtain⟨y,hy,rfl⟩:=List.mem_map.1 hx
    obtain⟨B1,h1⟩:=h.wf.bb i B0 h0 y hy j (AV.R4.1 hj)
    exact bTo j B1 h1
   ·obtain⟨B0,h0,rfl⟩:=CM i B hB
    obtain⟨y,hy,rfl⟩:=List.mem_map.1 hx
    exact h.wf.br i B0 h0 y hy j (AV.R5.1 hj)
  tm:=λs=>AV.GA hle (h.tm s)
  bx:=λi B hB=>by
   obtain⟨B0,h0,rfl⟩:=CM i B hB
   obtain⟨h1,h2,h3,vs,h4,h5⟩:=h.bx i B0 h0
   exact⟨h1,h2,h3,vs,h4,h5.od hle⟩
  inj:=λi j B B' hi hj e=>by
   obtain⟨B0,h0,_⟩:=CM i B hi
   obtain⟨B1,h1,_⟩:=CM j B' hj
   exact h.inj i j B0 B1 h0 h1 e
  rx:=λi R hR=>by
   obtain⟨p1,p2⟩:=h.rx i R hR
   refine⟨p1,λg hg=>?_⟩
   obtain⟨q1,q2,q3,q4⟩:=p2 g hg
   refine⟨q1,q2,q3,λj B hB=>?_⟩
   obtain⟨B0,h0,_⟩:=CM j B hB
   exact q4 j B0 h0}
theorem GB{f:FuncId}{fn:Func}{code:Code}{args:List SV}{r:SV}(hf:P.funcs[f]? =some fn)(hb:fn.body=some code)(hn:args.length≤fn.ntmps)
  (h:∀(w:World) (M:Mem) (vs:List Value),M.c8 w→SV.dX M args vs→Ok P (B9 w M) code (AS.init fn.ntmps args) (λe S=>(e=.normal∨e=.ret)∧Ol P S fn.results.toList r)):Pure P f args r:=by
 intro M w vs hM hvs
 refine(callsIn_wide (n:=0)).1 (callsIn_of_wp_marks (F:=Fence.wide) hf hb trivial ?_)
 refine wpIn_mono (h w M vs hM hvs _ w ⟨_,iD hM hvs hn⟩) ?_
 rintro e a' w' ⟨S',⟨he,ss,Om,himp⟩,E,hh⟩
 have key:LeavesInM Fence.wide 0 P fn a'.tmps (λe w'=>∃v M',e=.returned v∧M.le M'∧(∀b o x,M' b o=some x→M b o=some x∨w.heap.size≤b)∧M'.c8 w'∧r.h M' v∧Below w.heap.size w w') a'.defers .returning w':=by
  obtain⟨ds,h1,h2,h3⟩:=hh.marks
  rw[h1]
  refine kU ds w' h2 (λr hr=>(h3 r hr).2.2) (λw2 g1 g2 g3 g4 g5=>?_)
  have vg:=hh.we h3 g1 g2 g3 g4 g5
  obtain⟨v,hv,hs⟩:=z4 vg Om
  refine⟨v,hv,v,E.M,Y,vg.m0,λb o x e=>?_,vg.c8,himp _ _ hs,vg.os,vg.tape,vg.output,vg.grown,λk hk=>vg.frame k hk (λh=>h)⟩
  rcases vg.eu b o x e with h|h|h
  ·exact .inl h
  ·exact .inr h
  ·exact h.elim
 rcases he with rfl|rfl
 ·exact key
 ·exact key
end
section
variable {P:Program}{C:Ctx}{ops:Array Oper}{S:AS}{K:List Ac→AS→Prop}{rest:List Oper}{acc:List Ac}
variable {gd:Option (Nat×Bool)}{rg:List Nat}{d:Nat}{ty:TypeId}{pos:String}{aft:Array Edge}{x y z:Operand}{T U E0:TypeId}
end
end
section
open Go.RowKit
section
variable {P:Program}
def C4(P:Program)(f:FuncId)(N:Nat)(args:List SV)(R:Row):Prop:=
 ∀(M:Mem) (w:World) (vs:List Value),N≤w.heap.size→M.c8 w→SV.dX M args vs→
  Calls P f ⟨vs⟩ w λe w'=>∃v M' us,e=.returned v∧M.le M'∧(∀b o x,M' b o=some x→M b o=some x∨w.heap.size≤b)∧M'.c8 w'∧
   w'.ownsRow 0 R.E R.sz v R.n us∧SV.dX M' R.cells us∧(∀g,v.ownBlock=some g→w.heap.size≤g∧∀o,M' g o=none)∧Below w.heap.size w w'
theorem GC{f:FuncId}{N:Nat}{fn:Func}{code:Code}{args:List SV}{R:Row}(hf:P.funcs[f]? =some fn)(hb:fn.body=some code)(hn:args.length≤fn.ntmps)
  (h:∀(w:World) (M:Mem) (vs:List Value),N≤w.heap.size→SV.dX M args vs→Ok P (B9 w M) code (AS.init fn.ntmps args) (λe S=>(e=.normal∨e=.ret)∧∃k,Cc P S fn.results.toList (.row k)∧S.r k=.live R)):C4 P f N args R:=by
 intro M w vs hN hM hvs
 refine iv Y hf hb (iD hM hvs hn) (h w M vs hN hvs) ?_
 rintro S' E a w' ⟨k,hr,hR⟩ hh
 obtain⟨v,hv,hx⟩:=hr.run hh
 obtain⟨⟨us,q1,q2⟩,q3⟩:=hh.rx k R hR
 rw[←show v=E.ν k from hx]at q1 q3
 refine⟨v,hv,v,E.M,us,Y,hh.m0,λb o x e=>?_,hh.c8,q1,q2,λg hg=>?_,hh.os,hh.tape,hh.output,hh.grown,λk hk=>hh.frame k hk (λh=>h)⟩
 ·rcases hh.eu b o x e with h|h|h
  ·exact .inl h
  ·exact .inr h
  ·exact h.elim
 ·obtain⟨q4,q5,_⟩:=q3 g hg
  exact⟨q4.elim id (λh=>h.elim),q5⟩
theorem C4.w{f:FuncId}{N:Nat}{args args':List SV}{R:Row}(h:C4 P f N args R)(hi:cH args' args):C4 P f N args' R:=λM w vs hN hM hv=>h M w vs hN hM (hi.holds hv)
def M1(P:Program)(f:FuncId)(N:Nat)(args:List SV)(c:List Oc):Prop:=
 ∀(M:Mem) (w:World) (vs:List Value),N≤w.heap.size→M.c8 w→SV.dX M args vs→
  Calls P f ⟨vs⟩ w λe w'=>∃us M',e=.returned (.agg ⟨us⟩)∧M.le M'∧(∀b o x,M' b o=some x→M b o=some x∨w.heap.size≤b)∧M'.c8 w'∧tw M' w' c us∧
   (∀g,Bk c us g→w.heap.size≤g∧∀o,M' g o=none)∧Gr (ff c us)∧Below w.heap.size w w'
theorem GD{f:FuncId}{N:Nat}{fn:Func}{code:Code}{args:List SV}{c:List Oc}{t n:Nat}{T:TypeId}[tA:xO P T n](hf:P.funcs[f]? =some fn)(hb:fn.body=some code)(hn:args.length≤fn.ntmps)(hres:fn.results=#[.cell t T])(tZ:c.length=n)
  (h:∀(w:World) (M:Mem) (vs:List Value),N≤w.heap.size→SV.dX M args vs→Ok P (B9 w M) code (AS.init fn.ntmps args) (λe S=>(e=.normal∨e=.ret)∧∃(k:Nat) (ks:List Nat),S.t t=.ptr k 0∧S.b k=some ⟨T,nK ks c⟩∧Lv S ks (rowsOf c)∧ks.Nodup)):M1 P f N args c:=by
 intro M w vs hN hM hvs
 refine iv Y hf hb (iD hM hvs hn) (h w M vs hN hvs) ?_
 rintro S' E a w' ⟨k,ks,Po,hB,hL,hk⟩ hh
 have h1:=hh.tm t
 rw[Po]at h1
 have h1:a.tmps.getD t undef=.pointer (some ⟨E.β k,0,none⟩):=h1
 obtain⟨us,q1,q2,q3,q4,q5,q6,q7⟩:=Gu hB hL hk hh
 refine⟨.agg ⟨us⟩,?_,us,E.M,Y,q1,q2,q3,q4.al,λg hg=>⟨q6 g hg,(q4.nr g hg).2⟩,q4.ap,q7⟩
 have hl:=ug q4.al
 have hld:=mP (P:=P) (T:=T) (n:=n) (w:=w') (b:=E.β k) (o:=0) (vs:=us) (by omega) (λj v e=>by simp[World.cell?,q4.hp];simpa using e)
 rw[Array.getD_eq_getD_getElem?]at h1
 simp[results,hres,h1,asAddr,hld]
def Iw(P:Program)(f:FuncId)(N:Nat)(args:List SV)(c:List Oc)(r:Value):Prop:=
 ∀(M:Mem) (w:World) (vs:List Value),N≤w.heap.size→M.c8 w→SV.dX M args vs→
  Calls P f ⟨vs⟩ w λe w'=>∃us M',e=.returned (.tuple #[.agg ⟨us⟩,r])∧M.le M'∧(∀b o x,M' b o=some x→M b o=some x∨w.heap.size≤b)∧M'.c8 w'∧tw M' w' c us∧
   (∀g,Bk c us g→w.heap.size≤g∧∀o,M' g o=none)∧Gr (ff c us)∧Below w.heap.size w w'
end
section
variable {P:Program}{C:Ctx}{ops:Array Oper}{S:AS}{nd:Bool}{K:List Ac→AS→Prop}{rest:List Oper}{acc:List Ac}
variable {gd:Option (Nat×Bool)}{rg:List Nat}{d:Nat}{ty:TypeId}{pos:String}{aft:Array Edge}{x y z:Operand}{T U E0:TypeId}
theorem RT.T1(hg:Gd ops S gd rg){f:FuncId}[cW P f]{g:Operand}{xs:Array Operand}{at_:Array TypeId}{N:Nat}{args:List SV}{R:Row}(hp:C4 P f N args R)(hN:N≤C.w0.heap.size)(hf:S.ev g=.sv (.v (.func (.func f) #[] #[])))(hargs:iu S xs.toList args)(hd:d<S.n)(wj:S.r d=.un)(uP:d<1000)
  (next:RunT P C ops nd K rest (⟨rg++(bg g++xs.toList.flatMap bg),[],[d],⟨some (d,.row d),[],[(d,.live R)]⟩⟩::acc) ((AS.cf [(d,.live R)] S).set d (.row d))):RunT P C ops nd K (⟨some d,.call ⟨.value g,xs,at_⟩,ty,pos,aft,gd⟩::rest) acc S:=by
 refine .inl ⟨_,[],[d],_,?_,next⟩
 rintro S' hn ht _ hr i a w L Q ho ⟨E,h⟩ hL
 refine cI (C:=C) ho (hg.wanted h (λs hs=>ht s (List.mem_append_left _ hs)) Y) ?_
 have B8:a.eval g=.func (.func f) #[] ⟨[]⟩:=by
  have h1:=h.ev g;rw[bB (λ_ h=>List.mem_append_right _ (List.mem_append_left _ h)) ht,hf]at h1;exact h1
 have hall:=iu.vals h hargs (λs hs=>ht s (List.mem_append_right _ (List.mem_append_right _ hs)))
 have HJ:S'.r d=.un:=by rw[hr d (by simp)];exact wj
 refine cJ (C:=C) (by intro c h;cases h) (oA B8) ?_
 rw[List.append_nil]
 refine⟨λh=>by simp at h,jR ((hp E.M w _ (Nat.le_trans hN h.grown) h.c8 hall).mono ?_)⟩
 rintro e w' ⟨v,M',us,rfl,hM,hnew,hin,hv,hc,hfr,hb⟩
 have h1:=(h.grow hM hnew hin hb).z7 HJ uP [] none (.inl ⟨Y,Y⟩) (R':=R) hv hc (λg hg=>.inr (h.wC (hfr g hg).1 (hfr g hg).2)) (oB w' none)
 refine hL _ _ ⟨_,h1.put (x:=.row d) (v:=v) (by simp[AV.holds]) (by show d<S'.n;omega) ⟨λ_ e=>e.elim,λj e=>?_⟩⟩
 cases e
 show(AS.qj S' d _).r d≠_
 rw[AS.gC];simp
theorem RT.Pp(hg:Gd ops S gd rg){f:FuncId}[cW P f]{g:Operand}{xs:Array Operand}{at_:Array TypeId}{N:Nat}{args:List SV}{c:List Oc}(hp:M1 P f N args c)(hN:N≤C.w0.heap.size)(ks:List Nat)(hks:ks.Nodup)(Ax:ks.length=(rowsOf c).length)(hku:Un S ks)(hf:S.ev g=.sv (.v (.func (.func f) #[] #[])))(hargs:iu S xs.toList args)(hd:d<S.n)
  (next:RunT P C ops nd K rest (⟨rg++(bg g++xs.toList.flatMap bg),[],ks,⟨some (d,.cmp .agg (uJ ks c)),[],Cv [] ks c⟩⟩::acc) ((AS.cf (Cv [] ks c) S).set d (.cmp .agg (uJ ks c)))):RunT P C ops nd K (⟨some d,.call ⟨.value g,xs,at_⟩,ty,pos,aft,gd⟩::rest) acc S:=by
 refine .inl ⟨_,[],ks,_,?_,next⟩
 rintro S' hn ht hb hr i a w L Q ho ⟨E,h⟩ hL
 refine cI (C:=C) ho (hg.wanted h (λs hs=>ht s (List.mem_append_left _ hs)) Y) ?_
 have B8:a.eval g=.func (.func f) #[] ⟨[]⟩:=by
  have h1:=h.ev g;rw[bB (λ_ h=>List.mem_append_right _ (List.mem_append_left _ h)) ht,hf]at h1;exact h1
 have hall:=iu.vals h hargs (λs hs=>ht s (List.mem_append_right _ (List.mem_append_right _ hs)))
 refine cJ (C:=C) (by intro c h;cases h) (oA B8) ?_
 rw[List.append_nil]
 refine⟨λh=>by simp at h,jR ((hp E.M w _ (Nat.le_trans hN h.grown) h.c8 hall).mono ?_)⟩
 rintro e w' ⟨us,M',rfl,hM,hnew,hin,Pq,Xx,hap,V7⟩
 have hrv:(ff c us).length=(rowsOf c).length:=by rw[←m7 Pq,List.length_map]
 obtain⟨E1,q1,q2,q3,q4,q5,h1⟩:=bk.D3 ks (ff c us) (h.grow hM hnew hin V7) (by omega) hks (hku.congr hr) (qY Pq) hap (λp hp g Dp=>h.wC (Xx g ⟨p,hp,Dp⟩).1 (Xx g ⟨p,hp,Dp⟩).2)
 have hS1:AS.cf ((ks.zip (ff c us)).map (λn=>(n.1,.live n.2.1))) S'=AS.cf (Cv [] ks c) S':=by rw[←Gt Pq [] ks];rfl
 rw[hS1]at h1
 refine hL _ _ ⟨_,h1.put (x:=.cmp .agg (uJ ks c)) (v:=.agg ⟨us⟩) ⟨us,Y,xj (w:=w') Ax (by rw[q1];exact Pq) q4⟩ ?_ ⟨λj e=>(vM.1 j e).elim,λj e=>?_⟩⟩
 ·rw[(iz _ _).1];show d<S'.n;omega
 ·have hj:=vM.2 j e
  obtain⟨R,hm⟩:=tB (l:=ks) (k:=rowsOf c) Ax hj
  obtain⟨R',v7⟩:=Gq (l:=Cv [] ks c) (j:=j) (R:=.live R) (List.mem_map.2 ⟨(j,R),hm,Y⟩)
  rw[mF,v7]
  obtain⟨x,hx,e⟩:=List.mem_map.1 (show(j,R')∈(ks.zip (rowsOf c)).map (λp=>(p.1,mE.live p.2))from Bj v7)
  rw[←show mE.live x.2=R' from congrArg Prod.snd e]
  simp
theorem C5{E:Env}{x:Fc}{u:Value}:∀{l:List Fc} {vs:List Value},xR E l vs→x.holds E u→xR E (l++[x]) (vs++[u])
 |[],[],_,h=>⟨h,ak⟩
 |_::_,_::_,h,hx=>⟨h.1,C5 h.2 hx⟩
 |[],_::_,h,_=>h.elim
 |_::_,[],h,_=>h.elim
theorem RT.T3(hg:Gd ops S gd rg){f:FuncId}[cW P f]{g:Operand}{xs:Array Operand}{at_:Array TypeId}{args:List SV}{c:Nat→List Oc}{r:Value}(hp:∀N,Iw P f N args (c N) r)(ks:List Nat)(hks:ks.Nodup)(Ax:∀N,ks.length=(rowsOf (c N)).length)(hku:Un S ks)(hf:S.ev g=.sv (.v (.func (.func f) #[] #[])))(hargs:iu S xs.toList args)(hd:d<S.n)
  (next:∀N,C.w0.heap.size≤N→RunT P C ops true K rest [] ((AS.cf (Cv [] ks (c N)) (S.od N)).set d (.cmp .QD (uJ ks (c N)++[.val (.v r)])))):RunT P C ops true K (⟨some d,.call ⟨.value g,xs,at_⟩,ty,pos,aft,gd⟩::rest) acc S:=by
 refine .inr ⟨Y,λS'=>∃N,C.w0.heap.size≤N∧S'=(AS.cf (Cv [] ks (c N)) (S.od N)).set d (.cmp .QD (uJ ks (c N)++[.val (.v r)])),?_,λS' ⟨N,h1,h2⟩=>by subst h2;exact next N h1⟩
 rintro i a w L Q ho ⟨E,h⟩ hL
 refine cI (C:=C) ho (hg.wanted h (λs _=>Y) Y) ?_
 have B8:a.eval g=.func (.func f) #[] ⟨[]⟩:=by
  have h1:=h.ev g;rw[hf]at h1;exact h1
 have hall:=iu.vals h hargs (λs _=>Y)
 refine cJ (C:=C) (by intro c h;cases h) (oA B8) ?_
 rw[List.append_nil]
 refine⟨λh=>by simp at h,jR ((hp w.heap.size E.M w _ (Nat.le_refl _) h.c8 hall).mono ?_)⟩
 rintro e w' ⟨us,M',rfl,hM,hnew,hin,Pq,Xx,hap,V7⟩
 have hrv:(ff (c w.heap.size) us).length=(rowsOf (c w.heap.size)).length:=by rw[←m7 Pq,List.length_map]
 have Ax:=Ax w.heap.size
 have h0:=h.odd (Nat.le_refl w.heap.size)
 have acn:Un (S.od w.heap.size) ks:=by
  have key:∀l,Un S l→Un (S.od w.heap.size) l:=by
   intro l
   induction l with
   |nil=>intro q;exact q
   |cons k l ih=>intro q;exact⟨q.1,ih q.2⟩
  exact key ks hku
 obtain⟨E1,q1,q2,q3,q4,q5,h1⟩:=bk.D3 ks (ff (c w.heap.size) us) (h0.grow hM hnew hin V7) (by omega) hks (show Un (S.od w.heap.size) ks from acn) (qY Pq) hap (λp hp g Dp=>h0.wC (Xx g ⟨p,hp,Dp⟩).1 (Xx g ⟨p,hp,Dp⟩).2)
 have hS1:AS.cf ((ks.zip (ff (c w.heap.size) us)).map (λn=>(n.1,.live n.2.1))) (S.od w.heap.size)=AS.cf (Cv [] ks (c w.heap.size)) (S.od w.heap.size):=by rw[←Gt Pq [] ks];rfl
 rw[hS1]at h1
 refine hL _ _ _ ⟨w.heap.size,h.grown,Y⟩ ⟨_,h1.put (x:=.cmp .QD (uJ ks (c w.heap.size)++[.val (.v r)])) (v:=.tuple #[.agg ⟨us⟩,r]) ⟨us++[r],?_,C5 (x:=.val (.v r)) (xj (w:=w') Ax (by rw[q1];exact Pq) q4) Y⟩ ?_ ⟨λj e=>?_,λj e=>?_⟩⟩
 ·simp[Hd.mk]
 ·rw[(iz _ _).1];exact hd
 ·rcases List.mem_append.1 e with e|e
  ·exact(vM.1 j e).elim
  ·simp at e
 ·have e:Fc.row j∈uJ ks (c w.heap.size):=by
   rcases List.mem_append.1 e with e|e
   ·exact e
   ·simp at e
  have hj:=vM.2 j e
  obtain⟨R,hm⟩:=tB (l:=ks) (k:=rowsOf (c w.heap.size)) Ax hj
  obtain⟨R',v7⟩:=Gq (l:=Cv [] ks (c w.heap.size)) (j:=j) (R:=.live R) (List.mem_map.2 ⟨(j,R),hm,Y⟩)
  rw[mF,v7]
  obtain⟨x,hx,e⟩:=List.mem_map.1 (show(j,R')∈(ks.zip (rowsOf (c w.heap.size))).map (λp=>(p.1,mE.live p.2))from Bj v7)
  rw[←show mE.live x.2=R' from congrArg Prod.snd e]
  simp
theorem vO{E:Env}:∀{l:List Fc} {x:Fc} {vs:List Value},xR E (l++[x]) vs→xR E l vs.dropLast∧x.holds E (vs.getLastD .nilIface)
 |[],x,[v],h=>⟨ak,h.1⟩
 |[],x,[],h=>h.elim
 |[],x,_::_::_,h=>h.2.elim
 |y::l,x,v::vs,h=>by
  obtain⟨h1,h2⟩:=vO (l:=l) (x:=x) (vs:=vs) h.2
  cases vs with
  |nil=>cases l<;>exact h.2.elim
  |cons u vs=>exact⟨⟨h.1,h1⟩,h2⟩
 |_::_,_,[],h=>h.elim
theorem RT.T4(hg:Gd ops S gd rg){js:List Fc}{s:SV}(hx:S.ev x=.cmp .QD (js++[.val s]))(hd:d<S.n)
  (next:RunT P C ops nd K rest (⟨rg++bg x,[],[],⟨some (d,.cmp .agg js),[],[]⟩⟩::acc) (S.set d (.cmp .agg js))):RunT P C ops nd K (⟨some d,.extract x 0,ty,pos,aft,gd⟩::rest) acc S:=
 RT.value hg (bg x) [] [] (.cmp .agg js) hd (by intro c h;cases h) (λS' ht _ _ E a w h=>by
  have hx':S'.ev x=.cmp .QD (js++[.val s]):=by rw[bB (λ_ h=>h) ht,hx]
  have h1:=h.ev x
  rw[hx']at h1
  obtain⟨l1,l2⟩:=kS h.wf hx'
  obtain⟨vs,hv,hall⟩:=h1
  obtain⟨q1,q2⟩:=vO hall
  have hv:a.eval x=.tuple #[.agg ⟨vs.dropLast⟩,vs.getLastD .nilIface]:=hv
  exact⟨.agg ⟨vs.dropLast⟩,by simp[execOp,hv,Instr.extract],⟨vs.dropLast,Y,q1⟩,λj e=>l1 j (List.mem_append_left _ e),λj e=>l2 j (List.mem_append_left _ e)⟩) next
theorem RT.T5(hg:Gd ops S gd rg){js:List Fc}{s:SV}(hx:S.ev x=.cmp .QD (js++[.val s]))(hd:d<S.n)
  (next:RunT P C ops nd K rest (⟨rg++bg x,[],[],⟨some (d,.sv s),[],[]⟩⟩::acc) (S.set d (.sv s))):RunT P C ops nd K (⟨some d,.extract x 1,ty,pos,aft,gd⟩::rest) acc S:=
 RT.value hg (bg x) [] [] (.sv s) hd (by intro c h;cases h) (λS' ht _ _ E a w h=>by
  have hx':S'.ev x=.cmp .QD (js++[.val s]):=by rw[bB (λ_ h=>h) ht,hx]
  have h1:=h.ev x
  rw[hx']at h1
  obtain⟨vs,hv,hall⟩:=h1
  obtain⟨q1,q2⟩:=vO hall
  have hv:a.eval x=.tuple #[.agg ⟨vs.dropLast⟩,vs.getLastD .nilIface]:=hv
  exact⟨vs.getLastD .nilIface,by simp[execOp,hv,Instr.extract],q2,gp⟩) next
end
section
variable {P:Program}
theorem D9{f:FuncId}{N:Nat}{fn:Func}{code:Code}{args:List SV}{c:List Oc}{r:Value}{t1 t2 n:Nat}{T:TypeId}[tA:xO P T n](hf:P.funcs[f]? =some fn)(hb:fn.body=some code)(hn:args.length≤fn.ntmps)(hres:fn.results=#[.cell t1 T,.tmp t2])(tZ:c.length=n)
  (h:∀(w:World) (M:Mem) (vs:List Value),N≤w.heap.size→SV.dX M args vs→Ok P (B9 w M) code (AS.init fn.ntmps args) (λe S=>(e=.normal∨e=.ret)∧∃(k:Nat) (ks:List Nat),S.t t1=.ptr k 0∧S.t t2=.sv (.v r)∧S.b k=some ⟨T,nK ks c⟩∧Lv S ks (rowsOf c)∧ks.Nodup)):Iw P f N args c r:=by
 intro M w vs hN hM hvs
 refine iv Y hf hb (iD hM hvs hn) (h w M vs hN hvs) ?_
 rintro S' E a w' ⟨k,ks,Po,Xy,hB,hL,hk⟩ hh
 have h1:=hh.tm t1
 rw[Po]at h1
 have h1:a.tmps.getD t1 undef=.pointer (some ⟨E.β k,0,none⟩):=h1
 have h2:=hh.tm t2
 rw[Xy]at h2
 have h2:a.tmps.getD t2 undef=r:=h2
 obtain⟨us,q1,q2,q3,q4,q5,q6,q7⟩:=Gu hB hL hk hh
 refine⟨.tuple #[.agg ⟨us⟩,r],?_,us,E.M,Y,q1,q2,q3,q4.al,λg hg=>⟨q6 g hg,(q4.nr g hg).2⟩,q4.ap,q7⟩
 have hl:=ug q4.al
 have hld:=mP (P:=P) (T:=T) (n:=n) (w:=w') (b:=E.β k) (o:=0) (vs:=us) (by omega) (λj v e=>by simp[World.cell?,q4.hp];simpa using e)
 rw[Array.getD_eq_getD_getElem?]at h1 h2
 simp[results,hres,h1,h2,asAddr,hld]
end
end
end Go.Fw
namespace Go.Proofs.YtfoldppidpmchaaGreat
section
open Go.Fw
noncomputable def lB(x0:Lr):Option (Int×(List (List Qr))×(List (List Qr))×(List Qr)):=match x0 with|⟨bp,bn,bD,bF⟩=>(cZ 1).bind λ⟨⟨lj,lp⟩,⟨zS,zT⟩⟩=>(iw ⟨⟨lj,lp⟩,⟨zS,zT⟩⟩ bn).bind λdP=>(n7 ⟨⟨lj,lp⟩,⟨zS,zT⟩⟩ bD).bind λdW=>(fG ⟨⟨lj,lp⟩,⟨zS,zT⟩⟩ bF).bind λeI=>some (bp,dP,dW,eI)
noncomputable def ew(x0:Lr)(x1:Int):Option (Int×(List (List Qr))×(List (List Qr))×(List Qr)):=match x0 with|⟨bp,bn,bD,bF⟩=>cm (λ(Bo:Bool)=>(bif Bo then none else(some (IntKind.i64.wrap (x1+1))).bind λkf=>(uG bn x1 kf).bind λiS=>(lB ⟨bp,iS,bD,bF⟩).bind λ⟨C1,C2,Gv,C3⟩=>some (C1,C2,Gv,C3))) λK6=>(iI ⟨bp,bn,bD,bF⟩).bind λx7=>(some (!x7)).bind λx8=>(bif x8 then some true else(some (decide ((x1:Int)<0))).bind λfN=>some fN).bind λGw=>(bif Gw then some true else(some (bn.length:Int)).bind λdS=>(some (decide ((dS:Int)≤x1))).bind λeI=>some eI).bind λIt=>K6 It
end
section
open Go.Fw Go.Fw.Z Go.RowKit
theorem Cx{x0:Qr}{x1:List (List Qr)}(N:Nat){r:List (List Qr)}(h:n7 x0 x1=some r):C4 af 88 N [.agg (eQ x0),slc 1 (List.map (eS 4 eQ) x1)] (TR 24 1 (fS N 4 (fQ N)) r):=by
 obtain⟨⟨bp,bn⟩,⟨bD,bF⟩⟩:=x0
 refine GC Tryz.func88 Y (ae Y) (λdm M vs hN hvs=>?_)
 unfold n7 at h
 refine sr<|bx Y<|ag Y<|dn<|bX (ic 4 304 24 1 Y Y T)<|sr<|mv Y<|lE h λx9 h9 h=>ln Y h9<|bE h λdP gA h=>RT.sx (n:=1) (e:=(fS N 4 (fQ N))) .none Y Y T Y T (by rfl) (by decide) (by exact⟨bw,ak⟩) gA<|an (s:=.row _) Y<|dn<|qq<|sr<|mv Y<|lE h λcP fz h=>ln Y fz<|mv Y<|dn<|bE h λe8 DQ vE=>?_
 refine bL (λ(gz:(List (List Qr)))=>AS.cq 26 [(5,.row 10)] [] [(10,TR 24 1 (fS N 4 (fQ N)) gz)]) (λgz=>gz=e8) ?_ (λgz DR=>?_)
 refine bh ?_
 refine bM DQ (λs8=>AS.cq 26 [(2,.ptr 2 0),(5,.row 10),(11,.sv (slc 1 (List.map (eS 4 eQ) x1))),(12,ah cP),(13,ah s8.1)] [(2,⟨36,[ai bp,.sv (slc 1 (List.map aX bn)),ai bD,.sv (slc 1 (List.map aX bF))]⟩)] [(10,TR 24 1 (fS N 4 (fQ N)) s8.2)]) (wR []) (λs8 y8 G8 h DS DT=>?_)
 obtain⟨jx,jy⟩:=s8
 try dsimp only
 refine sr<|lE h λdW jc h=>ls _ Y Y jc<|dn<|qq ?_
 cases dW
 refine cF<|bO<|aV.x<|aV.x<|bA.x<|aV.n ?_
 obtain rfl:=O (F h)
 exact⟨jy,DT _ Y,wR []⟩
 refine cT<|bu<|aV.n<|qq<|bh<|sr<|mv Y<|bE (V h) λfy jo h=>ix Y Y jo<|lr Y Y<|ag Y<|ag Y<|dn<|aW<|mo (s:=.row _) Y<|mv Y<|ld Y Y (.k4 Y Y Y Y)<|mv Y<|bE h λgw lY h=>RT.bQ .none (n6 N lY) hN Y ⟨Y,Y,ak⟩ T<|bE h λiQ o6 h=>iR Y Y Y o6<|bE h λyg qx h=>sR gw Y Y Y Y qx ?_
 refine RT.done<|bA.n<|aV.n<|aW<|lE h λgV o5 h=>ad _ Y Y o5<|mv Y<|RT.done ?_
 obtain rfl:=O h
 exact aV.n ⟨(gV,yg),DS _ Y,wR []⟩
 subst DR
 try dsimp only
 refine aV.n<|sr<|mo (s:=.row _) Y<|an (s:=.row _) Y<|dn<|bf ?_
 obtain rfl:=O vE
 exact⟨.inr Y,_,.tmp Y,Y⟩
set_option maxHeartbeats 4000000 in
theorem Cy{x0:Lr}(N:Nat){r:Int×(List (List Qr))×(List (List Qr))×(List Qr)}(h:lB x0=some r):M1 af 48 N [.agg (vu x0)] [.s (ax r.1),.s (nw N (slc 1 (List.map (fS N 4 (fQ N)) r.2.1))),.r (TR 24 1 (fS N 4 (fQ N)) r.2.2.1),.s (nw N (slc 4 (List.map (fQ N) r.2.2.2)))]:=by
 obtain⟨bp,bn,bD,bF⟩:=x0
 refine GD (t:=2) (T:=26) Tryz.func48 Y (ae Y) Y Y (λdm M vs hN hvs=>?_)
 unfold lB at h
 refine sr<|bx Y<|al (cs:=[ax 0,nw N (slc 1 (List.map (fS N 4 (fQ N)) [])),.v (.slice none 0 0),nw N (slc 4 (List.map (fQ N) []))]) (by exact⟨aq,bw,aq,bw,ak⟩) Y<|dn<|bX (kC 2 2 302 24 1 Y Y Y T)<|sr ?_
 obtain⟨⟨⟨lj,lp⟩,⟨zS,zT⟩⟩,h4,h⟩:=bS h
 refine RT.bQ .none (pH N h4) hN Y ⟨Y,ak⟩ T<|al (cs:=[ay false,nw N au,ay false,nw N au]) (by exact⟨aq,bw,aq,bw,ak⟩) Y<|so Y Y Y<|dn<|qq<|aZ mixed<|fa Y Y<|lV Y Y Y<|ld Y Y (.k4 Y Y Y Y)<|fa Y Y<|lV Y Y Y<|bE h λdP gA h=>?_
 refine RT.bQ .none ((xe N gA).w (args':=[_,_]) ⟨(SV.dz (show cH [ay lj,nw N (slc 1 (List.map aX lp)),ay zS,nw N (slc 1 (List.map aX zT))] _ from⟨aq,dw,aq,dw,ak⟩)),aq,ak⟩) hN Y ⟨Y,Y,ak⟩ T<|ld Y Y (.k4 Y Y Y Y)<|fa Y Y<|lV Y Y Y<|bE h λdW jc h=>?_
 refine RT.T1 .none ((Cx N jc).w (args':=[_,_]) ⟨(SV.dz (show cH [ay lj,nw N (slc 1 (List.map aX lp)),ay zS,nw N (slc 1 (List.map aX zT))] _ from⟨aq,dw,aq,dw,ak⟩)),aq,ak⟩) hN Y ⟨Y,Y,ak⟩ T Y T<|ld Y Y (.k4 Y Y Y Y)<|fa Y Y<|lV Y Y Y<|bE h λeI jP h=>?_
 refine RT.bQ .none ((n6 N jP).w (args':=[_,_]) ⟨(SV.dz (show cH [ay lj,nw N (slc 1 (List.map aX lp)),ay zS,nw N (slc 1 (List.map aX zT))] _ from⟨aq,dw,aq,dw,ak⟩)),aq,ak⟩) hN Y ⟨Y,Y,ak⟩ T ?_
 refine RT.TU .none (.one Y (.one Y (.row Y Y (.one Y (.nil))))) [.val (ax bp),.val (nw N (slc 1 (List.map (fS N 4 (fQ N)) dP))),.row 14,.val (nw N (slc 4 (List.map (fQ N) eI)))] (λ_=>Y) Y ⟨(λ_ _ q_=>One.h _ _ q_),(λ_ _ q_=>One.h _ _ q_),⟨_,Y⟩,(λ_ _ q_=>One.h _ _ q_),ak⟩ [14] Y Y T<|RT.Ir .none Y Y Y ⟨(λ_ _ q_=>One.h _ _ q_),(λ_ _ q_=>One.h _ _ q_),⟨_,Y⟩,(λ_ _ q_=>One.h _ _ q_),ak⟩ Y Y [14] Y [ah bp,.sv (nw N (slc 1 (List.map (fS N 4 (fQ N)) dP))),.row 14,.sv (nw N (slc 4 (List.map (fQ N) eI)))] Y ?_
 refine RT.done ⟨by kernel_rfl,?_⟩
 refine aV.n<|bf ?_
 obtain rfl:=O h
 exact⟨.inr Y,2,[14],Y,Y,⟨Y,ak⟩,by decide⟩
set_option maxHeartbeats 4000000 in
theorem rf{x0:Lr}{x1:Int}(N:Nat){r:Int×(List (List Qr))×(List (List Qr))×(List Qr)}(h:ew x0 x1=some r):Iw af 12 N [.agg (vu x0),ax x1] [.s (ax r.1),.s (nw N (slc 1 (List.map (fS N 4 (fQ N)) r.2.1))),.r (TR 24 1 (fS N 4 (fQ N)) r.2.2.1),.s (nw N (slc 4 (List.map (fQ N) r.2.2.2)))] ((.int .i64 0)):=by
 obtain⟨bp,bn,bD,bF⟩:=x0
 refine D9 (t1:=4) (t2:=5) Tryz.func12 Y (ae Y) Y Y (λdm M vs hN hvs=>?_)
 unfold ew at h
 refine sr<|bx Y<|al (cs:=[ax 0,nw N (slc 1 (List.map (fS N 4 (fQ N)) [])),.v (.slice none 0 0),nw N (slc 4 (List.map (fQ N) []))]) (by exact⟨aq,bw,aq,bw,ak⟩) Y<|ag Y<|dn<|bX (kC 4 2 302 24 1 Y Y Y T)<|qq<|qq ?_
 refine bC h (λj6=>AS.cq 30 [(1,ah x1),(2,.ptr 2 0),(4,.ptr 4 0),(19,ai j6)] [(4,⟨26,[ah 0,.sv (nw N (slc 1 (List.map (fS N 4 (fQ N)) []))),.row 302,.sv (nw N (slc 4 (List.map (fQ N) [])))]⟩),(2,⟨26,[ah bp,.sv (slc 1 (List.map (eS 4 eQ) bn)),.sv (slc 1 (List.map (eS 4 eQ) bD)),.sv (slc 4 (List.map eQ bF))]⟩)] [(302,TR 24 1 (fS N 4 (fQ N)) [])]) (λh=>?_) (λBo h=>?_)
 refine aW<|ld Y Y (.k4 Y Y Y Y)<|bE h λx7 h7 h=>cl (m8 h7) ⟨Y,ak⟩<|lE h λx8 h8 h=>nt Y _ h8<|mv Y<|bE h λGw Jx h=>?_
 cases x8
 refine gm Y<|lE (F Jx) λfN kO Jx=>RT.lss (.some Y Y) _ Y Y T kO ?_
 obtain rfl:=O Jx
 refine pF Y<|mv Y<|bE h λXt Bb h=>?_
 cases fN
 refine gm Y<|RT.fieldAddr (.some Y Y) Y T Y<|RT.oz (.some Y Y) Y Y Y T<|lE (F Bb) λdS jb Bb=>gn Y jb<|lE Bb λeI jP Bb=>RT.geq (.some Y Y) _ Y Y T jP ?_
 obtain rfl:=O Bb
 exact pF Y<|dn<|⟨eI,h,wR []⟩
 obtain rfl:=O (V Bb)
 exact ww<|ww<|ww<|ww<|ww<|pT Y<|dn<|⟨true,h,wR []⟩
 obtain rfl:=O (V Jx)
 refine ww<|ww<|pT Y<|mv Y<|bE h λXu Xv h=>?_
 obtain rfl:=O (V Xv)
 exact ww<|ww<|ww<|ww<|ww<|pT Y<|dn<|⟨true,h,wR []⟩
 try dsimp only
 refine aV.n ?_
 cases Bo
 refine fs<|sr<|fa Y Y<|lV Y Y Y<|mv Y<|mv Y<|lE (F h) λkf oE h=>ad _ Y Y oE<|bE h λiS pW h=>RT.sw .none x1 kf Y ⟨_,Y⟩ ⟨_,Y⟩ T pW<|fa Y Y<|RT.me (cells:=[_,_,_,_]) .none (s:=.sv _) Y Y Y T Y<|dn<|sr<|ld Y Y (.k4 Y Y Y Y) ?_
 obtain⟨⟨C1,C2,Gv,C3⟩,mI,h⟩:=bS h
 refine RT.Pp .none (Cy N mI) hN [307] (by decide) Y ⟨⟨Y,T⟩,ak⟩ Y ⟨Y,ak⟩ T<|RT.Ir .none Y Y Y ⟨(λ_ _ q_=>One.h _ _ q_),(λ_ _ q_=>One.h _ _ q_),⟨_,Y⟩,(λ_ _ q_=>One.h _ _ q_),ak⟩ Y Y [307] Y [ah C1,.sv (nw N (slc 1 (List.map (fS N 4 (fQ N)) C2))),.row 307,.sv (nw N (slc 4 (List.map (fQ N) C3)))] Y<|ag Y<|dn<|bf ?_
 obtain rfl:=O h
 exact⟨.inr Y,4,[307],Y,Y,Y,⟨Y,ak⟩,by decide⟩
 refine cT<|sr<|bI (cs:=[_,_,_,_]) (cs':=[ax 0,nw N (slc 1 (List.map (fS N 4 (fQ N)) [])),.v (.slice none 0 0),nw N (slc 4 (List.map (fQ N) []))]) (.nil) ⟨aq,bw,aq,bw,ak⟩<|so Y Y Y<|ag Y<|dn<|bX (kC 4 2 305 24 1 Y Y Y T)<|bf<|aV.r ?_
 replace h:=V h
 cases h
end
section
open Go.Fw
noncomputable def cU(x0:List Int):Option (List Int):=(some (x0.length:Int)).bind λx5=>(b9 (λ(xl:Int)=>(show Option ((Int)⊕(Int))from cm (λ(vP:Bool)=>(bif vP then(some (IntKind.i64.wrap (xl-1))).bind λdS=>some (.inl dS)else some (.inr xl))) λDH=>(some (decide ((0:Int)<xl))).bind λx7=>(bif x7 then(some (IntKind.i64.wrap (xl-1))).bind λfN=>(cQ x0 fN).bind λcP=>(some (decide ((cP:Int)=0))).bind λdW=>some dW else some false).bind λBq=>DH Bq)) x5).bind λIy=>(uG x0 0 Iy).bind λke=>some ke
noncomputable def bW(x0:List Nat):Option (List Int):=(b9 (λ(s6:Int×(List Int))=>match s6 with|⟨nc,lC⟩=>(show Option ((Int×(List Int))⊕((List Int)))from(some (x0.length:Int)).bind λx7=>(some (decide ((nc:Int)<x7))).bind λx8=>(bif x8 then(cQ x0 nc).bind λdW=>(some (dW%65536)).bind λfy=>(some (IntKind.i64.wrap (fy:Int))).bind λdS=>(cQ x0 nc).bind λke=>(some (ke/65536%4294967296)).bind λgw=>(some (IntKind.i64.wrap (gw:Int))).bind λiQ=>(rM 8 lC [dS,iQ]).bind λkf=>(some (IntKind.i64.wrap (nc+1))).bind λdP=>some (.inl (dP,kf))else some (.inr lC)))) (0,[])).bind λek=>(cU ek).bind λiL=>some iL
noncomputable def dN(x0:List Int)(x1:Int):Option (Int):=(some (x0.length:Int)).bind λx7=>(some (decide ((x1:Int)<x7))).bind λx8=>(bif x8 then(cQ x0 x1).bind λfN=>some fN else some 0)
noncomputable def cV(x0:Bool)(x1:List Int):Option (Zr):=(cU x1).bind λx8=>(b9 (λ(s6:Int×(List Nat))=>match s6 with|⟨rZ,lC⟩=>(show Option ((Int×(List Nat))⊕((List Nat)))from(some (x8.length:Int)).bind λfN=>(some (decide ((rZ:Int)<fN))).bind λcP=>(bif cP then(dN x8 rZ).bind λeI=>(some ((eI%4294967296).toNat)).bind λkN=>(some (IntKind.i64.wrap (rZ+1))).bind λgw=>(dN x8 gw).bind λiQ=>(some ((iQ%4294967296).toNat)).bind λgV=>(some ((gV*65536)%4294967296)).bind λkf=>(some ((kN+kf)%4294967296)).bind λiS=>(rM 4 lC [iS]).bind λnR=>(some (IntKind.i64.wrap (rZ+2))).bind λdW=>some (.inl (dW,nR))else some (.inr lC)))) (0,[])).bind λek=>cm (λ(M3:Bool)=>some ⟨M3,ek⟩) λK9=>(bif x0 then(some (ek.length:Int)).bind λji=>(some (decide ((0:Int)<ji))).bind λmS=>some mS else some false).bind λM4=>K9 M4
noncomputable def gQ(x0:Zr):Option (Zr):=match x0 with|⟨bp,bn⟩=>(bW bn).bind λx7=>(cV bp x7).bind λ⟨o9,pg⟩=>some ⟨o9,pg⟩
noncomputable def gI(x0:Int):Option (Zr):=(some ((x0%18446744073709551616).toNat)).bind λx5=>(some (decide ((x0:Int)<0))).bind λx7=>cm (λ(FI:Nat)=>(some (decide ((x0:Int)<0))).bind λfN=>(some (FI%4294967296)).bind λja=>(some (ja%4294967296)).bind λdW=>(some (FI/4294967296%18446744073709551616)).bind λfy=>(some (fy%4294967296)).bind λdS=>(gQ ⟨fN,[dW,dS]⟩).bind λ⟨rQ,rR⟩=>some ⟨rQ,rR⟩) λK2=>(bif x7 then(some (oC 18446744073709551616 0 x5)).bind λx9=>K2 x9 else K2 x5)
noncomputable def iy(x0:List Int)(x1:List Int):Option (Int):=(some (x0.length:Int)).bind λx7=>(some (x1.length:Int)).bind λx9=>(some (max (x7:Int) x9)).bind λdP=>(some (IntKind.i64.wrap (dP-1))).bind λfN=>(b9 (λ(nG:Int)=>(show Option ((Int)⊕((Unit)⊕(Int)))from(some (decide ((0:Int)≤nG))).bind λja=>(bif ja then(dN x0 nG).bind λeI=>(dN x1 nG).bind λgO=>(some (decide ((eI:Int)<gO))).bind λgw=>(bif gw then some (.inr (.inr (-1)))else(dN x0 nG).bind λkf=>(dN x1 nG).bind λnR=>(some (decide ((nR:Int)<kf))).bind λir=>(bif ir then some (.inr (.inr 1))else(some (IntKind.i64.wrap (nG-1))).bind λdL=>some (.inl dL)))else some (.inr (.inl ()))))) fN).bind λe6=>match e6 with|.inr v6=>some v6|.inl _=>some 0
noncomputable def gJ(x0:List Int)(x1:List Int):Option (List Int):=(b9 (λ(EZ:Int×Int×(List Int))=>match EZ with|⟨zW,Iz,Br⟩=>(show Option ((Int×Int×(List Int))⊕((List Int)))from cm (λ(IA:Bool)=>(bif IA then(dN x0 Iz).bind λiL=>(dN x1 Iz).bind λye=>(some (IntKind.i64.wrap (iL+ye))).bind λoh=>(some (IntKind.i64.wrap (oh+zW))).bind λmS=>(some (Int.tmod mS 65536)).bind λsG=>(rM 8 Br [sG]).bind λwH=>(some (IntKind.i64.wrap (Int.tdiv mS 65536))).bind λnY=>(some (IntKind.i64.wrap (Iz+1))).bind λgV=>some (.inl (nY,gV,wH))else some (.inr Br))) λXz=>(some (x0.length:Int)).bind λfN=>(some (decide ((Iz:Int)<fN))).bind λcP=>(bif cP then some true else(some (x1.length:Int)).bind λfy=>(some (decide ((Iz:Int)<fy))).bind λdS=>some dS).bind λIu=>(bif Iu then some true else(some (decide ((0:Int)<zW))).bind λgO=>some gO).bind λT7=>Xz T7)) (0,0,[])).bind λri=>(cU ri).bind λr7=>some r7
noncomputable def fI(x0:List Int)(x1:List Int):Option (List Int):=(b9 (λ(s8:Int×Int×(List Int))=>match s8 with|⟨FF,KM,pR⟩=>(show Option ((Int×Int×(List Int))⊕((List Int)))from(some (x0.length:Int)).bind λfN=>(some (decide ((KM:Int)<fN))).bind λcP=>(bif cP then(dN x0 KM).bind λdS=>(dN x1 KM).bind λke=>(some (IntKind.i64.wrap (dS-ke))).bind λgO=>(some (IntKind.i64.wrap (gO-FF))).bind λiQ=>(some (decide ((iQ:Int)<0))).bind λkf=>cm (λ(Ot:Int×Int)=>match Ot with|⟨T8,Pr⟩=>(rM 8 pR [Pr]).bind λoh=>(some (IntKind.i64.wrap (KM+1))).bind λdW=>some (.inl (T8,dW,oh))) λVG=>(bif kf then(some (IntKind.i64.wrap (iQ+65536))).bind λiL=>VG (1,iL)else VG (0,iQ))else some (.inr pR)))) (0,0,[])).bind λpS=>(cU pS).bind λmS=>some mS
noncomputable def dY(x0:List Int):Option (Int):=(some (x0.length:Int)).bind λx6=>(some (IntKind.i64.wrap (x6-1))).bind λx7=>(b9 (λ(s6:Int×Int)=>match s6 with|⟨m6,nc⟩=>(show Option ((Int×Int)⊕(Int))from(some (decide ((0:Int)≤nc))).bind λx9=>(bif x9 then(some (IntKind.i64.wrap (m6*65536))).bind λja=>(cQ x0 nc).bind λfy=>(some (IntKind.i64.wrap (ja+fy))).bind λeI=>(some (IntKind.i64.wrap (nc-1))).bind λfN=>some (.inl (eI,fN))else some (.inr m6)))) (0,x7)).bind λqB=>some qB
noncomputable def iJ(x0:Int):Option (List Int):=(some (Int.tmod x0 65536)).bind λx4=>(some (IntKind.i64.wrap (Int.tdiv x0 65536))).bind λx6=>(some (Int.tmod x6 65536)).bind λx7=>(some (IntKind.i64.wrap (Int.tdiv x0 65536))).bind λx9=>(some (IntKind.i64.wrap (Int.tdiv x9 65536))).bind λdP=>(cU [x4,x7,dP]).bind λcP=>some cP
noncomputable def dZ(x0:List Int)(x1:Int):Option (List Int):=(b9 (λ(sF:Int×Int×(List Int))=>match sF with|⟨uK,M5,oN⟩=>(show Option ((Int×Int×(List Int))⊕((List Int)))from cm (λ(vQ:Bool)=>(bif vQ then(dN x0 M5).bind λgO=>(some (IntKind.i64.wrap (gO*x1))).bind λiQ=>(some (IntKind.i64.wrap (iQ+uK))).bind λkf=>(some (Int.tmod kf 65536)).bind λnR=>(rM 8 oN [nR]).bind λye=>(some (IntKind.i64.wrap (Int.tdiv kf 65536))).bind λji=>(some (IntKind.i64.wrap (M5+1))).bind λeI=>some (.inl (ji,eI,ye))else some (.inr oN))) λDH=>(some (x0.length:Int)).bind λfN=>(some (decide ((M5:Int)<fN))).bind λcP=>(bif cP then some true else(some (decide ((0:Int)<uK))).bind λdL=>some dL).bind λoO=>DH oO)) (0,0,[])).bind λkn=>(cU kn).bind λnQ=>some nQ
noncomputable def nf(x0:List Int)(x1:List Int):Option (List Int):=(some (x0.length:Int)).bind λx9=>(some (x1.length:Int)).bind λfN=>(some (IntKind.i64.wrap (x9+fN))).bind λcP=>(some (decide ((cP:Int)≤3))).bind λja=>(bif ja then(dY x0).bind λdL=>(dY x1).bind λdS=>(some (IntKind.i64.wrap (dL*dS))).bind λeI=>(iJ eI).bind λkN=>some kN else(some (x0.length:Int)).bind λgO=>(some (IntKind.i64.wrap (gO-1))).bind λgw=>(b9 (λ(EZ:(List Int)×Int)=>match EZ with|⟨M6,zW⟩=>(show Option (((List Int)×Int)⊕((List Int)))from(some (decide ((0:Int)≤zW))).bind λgV=>(bif gV then(rM 8 [0] M6).bind λir=>(b9 (λ(R6:(List Int)×Int)=>match R6 with|⟨Bs,zo⟩=>(show Option (((List Int)×Int)⊕((List Int)))from(cQ x0 zW).bind λmS=>(some (decide ((zo:Int)<mS))).bind λr6=>(bif r6 then(cQ x0 zW).bind λr7=>(some (IntKind.i64.wrap (r7-zo))).bind λzH=>(some (min (1024:Int) zH)).bind λrN=>(dZ x1 rN).bind λsE=>(gJ Bs sE).bind λyf=>(some (IntKind.i64.wrap (zo+1024))).bind λuX=>some (.inl (yf,uX))else some (.inr Bs)))) (ir,0)).bind λxm=>(some (IntKind.i64.wrap (zW-1))).bind λiS=>some (.inl (xm,iS))else some (.inr M6)))) ([],gw)).bind λC6=>(cU C6).bind λuW=>some uW)
noncomputable def kE(x0:List Int)(x1:List Int):Option ((List Int)×(List Int)):=cm (λ(M7:Bool)=>(bif M7 then(dY x0).bind λiQ=>(dY x1).bind λkf=>(rX iQ kf).bind λiS=>(iJ iS).bind λiL=>(dY x0).bind λir=>(dY x1).bind λoh=>(Ce ir oh).bind λji=>(iJ ji).bind λmS=>some (iL,mS)else(some (x0.length:Int)).bind λr6=>(EX 8 r6 (0:Int)).bind λsG=>(some (x1.length:Int)).bind λwH=>(some (decide ((wH:Int)=1))).bind λpU=>(bif pU then(some (x0.length:Int)).bind λxP=>(some (IntKind.i64.wrap (xP-1))).bind λr7=>(b9 (λ(T9:Int×Int×(List Int))=>match T9 with|⟨Jy,GF,Bt⟩=>(show Option ((Int×Int×(List Int))⊕(Int×(List Int)))from(some (decide ((0:Int)≤GF))).bind λCk=>(bif Ck then(some (IntKind.i64.wrap (Jy*65536))).bind λyf=>(cQ x0 GF).bind λQV=>(some (IntKind.i64.wrap (yf+QV))).bind λOu=>(cQ x1 0).bind λVz=>(rX Ou Vz).bind λKt=>(cQ x1 0).bind λQX=>(Ce Ou QX).bind λTh=>(vm Bt GF).bind λJp=>(stM Bt Jp Kt).bind λl20=>(some (IntKind.i64.wrap (GF-1))).bind λrN=>some (.inl (Th,rN,l20))else some (.inr (Jy,Bt))))) (0,r7,sG)).bind λe18=>match e18 with|⟨M8,IB⟩=>(cU IB).bind λVy=>(cU [M8]).bind λXA=>some (Vy,XA)else(some (x0.length:Int)).bind λx73=>(some (IntKind.i64.wrap (x73-1))).bind λFG=>(b9 (λ(Ua:(List Int)×Int×(List Int))=>match Ua with|⟨GG,rj,rm⟩=>(show Option (((List Int)×Int×(List Int))⊕((List Int)×(List Int)))from(some (decide ((0:Int)≤rj))).bind λx76=>(bif x76 then(cQ x0 rj).bind λx81=>(rM 8 [x81] GG).bind λWD=>(cU WD).bind λMi=>(some (Mi.length:Int)).bind λx88=>(some (x1.length:Int)).bind λWE=>(some (decide ((x88:Int)<WE))).bind λTk=>cm (λ(M9:Int)=>(b9 (λ(R7:Int×Int)=>match R7 with|⟨lD,oP⟩=>(show Option ((Int×Int)⊕(Int))from(some (IntKind.i64.wrap (oP-lD))).bind λx94=>(some (decide ((1:Int)<x94))).bind λx95=>(bif x95 then(some (IntKind.i64.wrap (lD+oP))).bind λx98=>(some (IntKind.i64.wrap (Int.tdiv x98 2))).bind λVI=>(dZ x1 VI).bind λHX=>(iy HX Mi).bind λHY=>(some (decide ((HY:Int)≤0))).bind λKw=>cm (λ(VJ:Int×Int)=>match VJ with|⟨IC,ID⟩=>some (.inl (IC,ID))) λK56=>(bif Kw then K56 (VI,oP)else K56 (lD,VI))else some (.inr lD)))) (0,M9)).bind λtH=>(dZ x1 tH).bind λHZ=>(fI Mi HZ).bind λNa=>(vm rm rj).bind λPs=>(stM rm Ps tH).bind λXB=>(some (IntKind.i64.wrap (rj-1))).bind λx78=>some (.inl (Na,x78,XB))) λK46=>(bif Tk then K46 1 else K46 65536)else some (.inr (GG,rm))))) ([],FG,sG)).bind λe44=>match e44 with|⟨R8,IE⟩=>(cU IE).bind λXC=>some (XC,R8)))) λK3=>(some (x0.length:Int)).bind λdL=>(some (decide ((dL:Int)≤3))).bind λfy=>(bif fy then(some (x1.length:Int)).bind λkN=>(some (decide ((kN:Int)≤3))).bind λke=>some ke else some false).bind λNb=>K3 Nb
noncomputable def dK(x0:Zr):Option (Int):=match x0 with|⟨bp,bn⟩=>(bW bn).bind λx5=>(some (x5.length:Int)).bind λx6=>(some (decide ((x6:Int)=0))).bind λx7=>(bif x7 then some 0 else(bif bp then some (-1)else some 1))
noncomputable def ng(x0:Zr)(x1:Zr):Option (Int):=match x0 with|⟨bp,bn⟩=>match x1 with|⟨bU,bR⟩=>(dK ⟨bp,bn⟩).bind λx7=>(dK ⟨bU,bR⟩).bind λx9=>(some (decide ((x7:Int)≠x9))).bind λdP=>(bif dP then(dK ⟨bp,bn⟩).bind λcP=>(dK ⟨bU,bR⟩).bind λdW=>(some (decide ((cP:Int)<dW))).bind λdL=>(bif dL then some (-1)else some 1)else(bW bn).bind λeI=>(bW bR).bind λgO=>(iy eI gO).bind λgw=>(dK ⟨bp,bn⟩).bind λgV=>(some (decide ((gV:Int)<0))).bind λkf=>(bif kf then(some (IntKind.i64.wrap (0-gw))).bind λiL=>some iL else some gw))
noncomputable def kF(x0:Zr):Option (Zr):=match x0 with|⟨bp,bn⟩=>(some (!bp)).bind λx5=>(bW bn).bind λx8=>(cV x5 x8).bind λ⟨Nc,Nd⟩=>some ⟨Nc,Nd⟩
noncomputable def nh(x0:Zr):Option (Zr):=match x0 with|⟨bp,bn⟩=>(bW bn).bind λx5=>(cV false x5).bind λ⟨zU,zV⟩=>some ⟨zU,zV⟩
noncomputable def ni(x0:Zr)(x1:Zr):Option (Zr):=match x0 with|⟨bp,bn⟩=>match x1 with|⟨bU,bR⟩=>(bW bn).bind λx9=>(bW bR).bind λcP=>(some (bp==bU)).bind λdS=>(bif dS then(gJ x9 cP).bind λgw=>(cV bp gw).bind λ⟨GH,GI⟩=>some ⟨GH,GI⟩else(iy x9 cP).bind λiS=>(some (decide ((0:Int)≤iS))).bind λiL=>(bif iL then(fI x9 cP).bind λji=>(cV bp ji).bind λ⟨F9,Ga⟩=>some ⟨F9,Ga⟩else(fI cP x9).bind λwH=>(cV bU wH).bind λ⟨R9,Sa⟩=>some ⟨R9,Sa⟩))
noncomputable def jB(x0:Zr)(x1:Zr):Option (Zr):=match x0 with|⟨bp,bn⟩=>match x1 with|⟨bU,bR⟩=>(some (!(bp==bU))).bind λx9=>(bW bn).bind λcP=>(bW bR).bind λdL=>(nf cP dL).bind λfy=>(cV x9 fy).bind λ⟨kZ,k7⟩=>some ⟨kZ,k7⟩
noncomputable def kG(x0:Zr)(x1:Zr):Option (Zr×Zr×Int):=match x0 with|⟨bp,bn⟩=>match x1 with|⟨bU,bR⟩=>(bW bn).bind λja=>(bW bR).bind λfy=>(some (fy.length:Int)).bind λeI=>(some (decide ((eI:Int)=0))).bind λkN=>(bif kN then some (⟨false,[]⟩,⟨false,[]⟩,7)else(kE ja fy).bind λ⟨AU,DM⟩=>cm (λ(j3:Bool×Bool)=>match j3 with|⟨Nf,vC⟩=>cm (λ(j5:(List Int)×(List Int))=>match j5 with|⟨Ml,FO⟩=>(some (!(vC==bU))).bind λzH=>(cV zH Ml).bind λ⟨FL,FM⟩=>(cV false FO).bind λ⟨FP,FR⟩=>some (⟨FL,FM⟩,⟨FP,FR⟩,0)) λK5=>(bif Nf then(gJ AU [1]).bind λuX=>(fI fy DM).bind λnY=>K5 (uX,nY)else K5 (AU,DM))) λK3=>(bif bp then(some (DM.length:Int)).bind λji=>(some (decide ((0:Int)<ji))).bind λmS=>some mS else some false).bind λSb=>K3 (Sb,bp))
noncomputable def nj(x0:Zr)(x1:Zr):Option (Zr):=match x0 with|⟨bp,bn⟩=>match x1 with|⟨bU,bR⟩=>(bW bn).bind λfN=>(bW bR).bind λdW=>(b9 (λ(s6:(List Int)×(List Int))=>match s6 with|⟨nG,rZ⟩=>(show Option (((List Int)×(List Int))⊕((List Int)))from(some (rZ.length:Int)).bind λfy=>(some (decide ((0:Int)<fy))).bind λdS=>(bif dS then(kE nG rZ).bind λ⟨acw,Ub⟩=>some (.inl (rZ,Ub))else some (.inr nG)))) (fN,dW)).bind λuI=>(cV false uI).bind λ⟨wP,uY⟩=>some ⟨wP,uY⟩
end
section
open Go.Fw Go.Fw.Z Go.RowKit
theorem dH{x0:List Int}{r:List Int}(h:cU x0=some r):Pure af 144 [slc 1 (List.map bK x0)] (slc 1 (List.map bK r)):=by
 refine bj Tryz.func144 Y (ae Y) (λdm M vs hvs=>?_)
 unfold cU at h
 refine sr<|aI Y (aA (n:=1) (e:=bK))<|dn<|sr<|mv Y<|lE h λx5 h5 h=>ln Y h5<|ag Y<|dn<|qq<|bE h λAW sQ mY=>?_
 refine bL (λ(Iy:Int)=>AS.cq 21 [(0,.sv (slc 1 (List.map bK x0))),(3,ah Iy)] [] []) (λIy=>Iy=AW) ?_ (λIy sS=>?_)
 refine bh ?_
 refine bM sQ (λsF=>AS.cq 21 [(0,.sv (slc 1 (List.map bK x0))),(3,ah sF)] [] []) (wR []) (λxl Ra Rb h sV pV=>?_)
 try dsimp only
 refine qq<|qq ?_
 refine bC h (λDO=>AS.cq 21 [(0,.sv (slc 1 (List.map bK x0))),(3,ah xl),(15,ai DO)] [] []) (λh=>?_) (λvP h=>?_)
 refine aW<|mv Y<|lE h λx7 h7 h=>gt _ Y Y h7<|mv Y<|bE h λBq cE h=>?_
 cases x7
 obtain rfl:=O (F cE)
 exact ww<|ww<|ww<|ww<|ww<|ww<|pF Y<|dn<|⟨false,h,wR []⟩
 refine gm Y<|gm Y<|lE (V cE) λfN kO cE=>RT.sub (.some Y Y) _ Y Y T kO<|bE cE λcP fz cE=>RT.QT (.some Y Y) Y Y T fz<|gr Y Y<|lE cE λdW jc cE=>Tc _ Y Y (zF (p:=cP) (q:=0) jc) ?_
 obtain rfl:=O cE
 exact pT Y<|dn<|⟨dW,h,wR []⟩
 try dsimp only
 refine aV.n ?_
 cases vP
 refine cF<|bO<|aV.x<|aV.x<|bA.x<|aV.n ?_
 obtain rfl:=O (F h)
 exact⟨xl,pV _ Y,wR []⟩
 refine cT<|bu<|aV.n<|bh<|aW<|mv Y<|lE (V h) λdS jb h=>sb _ Y Y jb<|ag Y<|RT.done<|bA.n ?_
 obtain rfl:=O h
 exact aV.n ⟨dS,sV _ Y,wR []⟩
 subst sS
 try dsimp only
 refine aV.n<|sr<|mv Y<|mv Y<|bE mY λke qw mY=>RT.sw .none 0 Iy Y Y ⟨_,Y⟩ T qw<|ag Y<|dn<|bf ?_
 obtain rfl:=O mY
 exact R1 Y
theorem cw{x0:List Nat}{r:List Int}(h:bW x0=some r):Pure af 119 [slc 1 (List.map aX x0)] (slc 1 (List.map bK r)):=by
 refine bj Tryz.func119 Y (ae Y) (λdm M vs hvs=>?_)
 unfold bW at h
 refine sr<|aI Y (aA (n:=1) (e:=bK))<|dn<|sr<|ag Y<|dn<|bX (ic 3 304 3 1 Y Y T)<|qq<|sr<|ag Y<|dn<|bE h λe6 AX jX=>?_
 refine bL (λ(ek:(List Int))=>AS.cq 28 [(3,.row 306)] [] [(306,TR 3 1 bK ek)]) (λek=>ek=e6) ?_ (λek AY=>?_)
 refine bh ?_
 refine bM AX (λs6=>AS.cq 28 [(0,.sv (slc 1 (List.map aX x0))),(3,.row 306),(4,ah s6.1)] [] [(306,TR 3 1 bK s6.2)]) (c6 (λi=>bif Nat.beq i 306 then 304 else i) Y Y Y Y Y ⟨.sv aq,.row Y,.sv aq,ak⟩ trivial ⟨⟨_,Y,cH.refl _⟩,ak⟩ (λi hi=>by rw[cz (show i≠306 by omega)];rfl)) (λs6 y6 G6 h AZ wU=>?_)
 obtain⟨nc,lC⟩:=s6
 try dsimp only
 refine qq<|sr<|mv Y<|mv Y<|lE h λx7 h7 h=>ln Y h7<|lE h λx8 h8 h=>ls _ Y Y h8<|dn ?_
 cases x8
 refine cF<|bO<|aV.x<|aV.x<|bA.x<|aV.n ?_
 obtain rfl:=O (F h)
 exact⟨lC,wU _ Y,wR []⟩
 refine cT<|bu<|aV.n<|qq<|bh<|aZ mixed<|mo (s:=.row _) Y<|mv Y<|mv Y<|bE (V h) λdW jc h=>ix Y Y jc<|lr Y Y<|lE h λfy jo h=>RT.rem .none _ Y Y T (by decide) (QS (a:=dW) (b:=65536) jo)<|lE h λdS jb h=>cv _ Y jb<|mv Y<|mv Y<|bE h λke qw h=>ix Y Y qw<|lr Y Y<|lE h λgw lY h=>RT.quo .none _ Y Y T (by decide) (UK.Wi (a:=ke) (b:=65536) lY) ?_
 refine lE h λiQ o6 h=>cv _ Y o6<|bl (l:=[dS,iQ]) (e:=bK) (.one Y (.one Y (.nil))) Y Y Y Y Y Y<|bE h λkf oE h=>aR (k:=[dS,iQ]) (e:=bK) Y Y Y oE<|an (s:=.row _) Y ?_
 refine RT.done ⟨by kernel_rfl,?_⟩
 refine bA.n<|aV.n<|aW<|mv Y<|lE h λdP gA h=>ad _ Y Y gA<|ag Y<|RT.done ?_
 obtain rfl:=O h
 exact aV.n ⟨(dP,kf),AZ _ Y,c6 (λi=>bif Nat.beq i 306 then 25 else i) Y Y Y Y Y ⟨.sv aq,.row Y,.sv aq,ak⟩ trivial ⟨⟨_,Y,cH.refl _⟩,ak⟩ (λi hi=>by rw[cz (show i≠306 by omega)];rfl)⟩
 subst AY
 try dsimp only
 refine aV.n<|qq<|bX (dR (i:=306) (E1:=3) (n:=1) (e:=bK) (l:=ek) Y)<|aW<|mv Y<|bE jX λiL o4 jX=>cl (dH o4) ⟨Y,ak⟩<|ag Y<|dn<|bf ?_
 obtain rfl:=O jX
 exact R1 Y
theorem eW{x0:List Int}{x1:Int}{r:Int}(h:dN x0 x1=some r):Pure af 145 [slc 1 (List.map bK x0),ax x1] (ax r):=by
 refine bj Tryz.func145 Y (ae Y) (λdm M vs hvs=>?_)
 unfold dN at h
 refine sr<|ag Y<|dn<|qq<|sr<|mv Y<|mv Y<|lE h λx7 h7 h=>ln Y h7<|lE h λx8 h8 h=>ls _ Y Y h8<|dn ?_
 cases x8
 refine fs<|sr<|ag Y<|dn<|bf ?_
 obtain rfl:=O (F h)
 exact R1 Y
 refine cT<|sr<|mv Y<|mv Y<|bE (V h) λfN kO h=>ix Y Y kO<|lr Y Y<|ag Y<|dn<|bf<|aV.r ?_
 obtain rfl:=O h
 exact R1 Y
theorem fJ{x0:Bool}{x1:List Int}{r:Zr}(h:cV x0 x1=some r):Pure af 118 [ay x0,slc 1 (List.map bK x1)] (.agg (eZ r)):=by
 refine bj Tryz.func118 Y (ae Y) (λdm M vs hvs=>?_)
 unfold cV at h
 refine sr<|al (cs:=[ay false,au]) (by exact⟨aq,aA,ak⟩) Y<|dn<|sr<|mv Y<|bE h λx8 h8 h=>cl (dH h8) ⟨Y,ak⟩<|ag Y<|dn<|sr<|ag Y<|dn<|bX (ic 5 304 106 1 Y Y T)<|qq<|sr<|ag Y<|dn<|bE h λe6 AX jX=>?_
 refine bL (λ(ek:(List Nat))=>AS.cq 37 [(0,ai x0),(4,.ptr 4 0),(5,.row 306)] [(4,⟨34,[ai false,.sv au]⟩)] [(306,TR 106 1 aX ek)]) (λek=>ek=e6) ?_ (λek AY=>?_)
 refine bh ?_
 refine bM AX (λs6=>AS.cq 37 [(0,ai x0),(1,.sv (slc 1 (List.map bK x8))),(4,.ptr 4 0),(5,.row 306),(6,ah s6.1)] [(4,⟨34,[ai false,.sv au]⟩)] [(306,TR 106 1 aX s6.2)]) (c6 (λi=>bif Nat.beq i 306 then 304 else i) Y Y Y Y Y ⟨.sv aq,.sv aq,.ptr,.row Y,.sv aq,ak⟩ ⟨⟨_,Y,⟨.sv aq,.sv aq,ak⟩⟩,ak⟩ ⟨⟨_,Y,cH.refl _⟩,ak⟩ (λi hi=>by rw[cz (show i≠306 by omega)];rfl)) (λs6 y6 G6 h AZ wU=>?_)
 obtain⟨rZ,lC⟩:=s6
 try dsimp only
 refine qq<|sr<|mv Y<|mv Y<|lE h λfN kO h=>ln Y kO<|lE h λcP fz h=>ls _ Y Y fz<|dn ?_
 cases cP
 refine cF<|bO<|aV.x<|aV.x<|bA.x<|aV.n ?_
 obtain rfl:=O (F h)
 exact⟨lC,wU _ Y,wR []⟩
 refine cT<|bu<|aV.n<|qq<|bh<|aW<|mo (s:=.row _) Y<|mv Y<|mv Y<|bE (V h) λeI jP h=>cl (eW jP) ⟨Y,Y,ak⟩<|lE h λkN lX h=>cv _ Y (UK.conv lX)<|mv Y<|mv Y<|lE h λgw lY h=>ad _ Y Y lY<|bE h λiQ o6 h=>cl (eW o6) ⟨Y,Y,ak⟩<|lE h λgV o5 h=>cv _ Y (UK.conv o5)<|lE h λkf oE h=>RT.mul .none _ Y Y T (UK.mul (a:=gV) (b:=65536) oE) ?_
 refine lE h λiS pW h=>ad _ Y Y (UK.add (a:=kN) (b:=kf) pW)<|bl (l:=[iS]) (e:=aX) (.one Y (.nil)) Y Y Y Y Y Y<|bE h λnR vD h=>aR (k:=[iS]) (e:=aX) Y Y Y vD<|an (s:=.row _) Y<|RT.done<|bA.n<|aV.n<|aW<|mv Y<|lE h λdW jc h=>ad _ Y Y jc<|ag Y<|RT.done ?_
 obtain rfl:=O h
 exact aV.n ⟨(dW,nR),AZ _ Y,c6 (λi=>bif Nat.beq i 306 then 28 else i) Y Y Y Y Y ⟨.sv aq,.sv aq,.ptr,.row Y,.sv aq,ak⟩ ⟨⟨_,Y,⟨.sv aq,.sv aq,ak⟩⟩,ak⟩ ⟨⟨_,Y,cH.refl _⟩,ak⟩ (λi hi=>by rw[cz (show i≠306 by omega)];rfl)⟩
 subst AY
 try dsimp only
 refine aV.n<|qq ?_
 refine bC jX (λj9=>AS.cq 37 [(4,.ptr 4 0)] [(4,⟨34,[ai j9,.sv (slc 1 (List.map aX ek))]⟩)] []) (λjX=>?_) (λM3 jX=>?_)
 refine bX (dR (i:=306) (E1:=106) (n:=1) (e:=aX) (l:=ek) Y)<|aW<|mv Y<|mv Y<|bE jX λM4 uL jX=>?_
 cases x0
 obtain rfl:=O (F uL)
 exact ww<|ww<|ww<|pF Y<|mv Y<|bI (cs:=[_,_]) (cs':=[ay false,slc 1 (List.map aX ek)]) (.one Y (.one Y (.nil))) ⟨aq,aq,ak⟩<|so Y Y Y<|dn<|⟨false,jX,wR []⟩
 refine gm Y<|lE (V uL) λji o7 uL=>gn Y o7<|lE uL λmS va uL=>gg _ Y Y va ?_
 obtain rfl:=O uL
 exact pT Y<|mv Y<|bI (cs:=[_,_]) (cs':=[ay mS,slc 1 (List.map aX ek)]) (.one Y (.one Y (.nil))) ⟨aq,aq,ak⟩<|so Y Y Y<|dn<|⟨mS,jX,wR []⟩
 try dsimp only
 refine aV.n<|bf ?_
 obtain rfl:=O jX
 exact RZ (.agg Y Y (.k2 Y Y) Y (.nil))
theorem tJ{x0:Zr}{r:Zr}(h:gQ x0=some r):Pure af 89 [.agg (eZ x0)] (.agg (eZ r)):=by
 obtain⟨bp,bn⟩:=x0
 refine bj Tryz.func89 Y (ae Y) (λdm M vs hvs=>?_)
 unfold gQ at h
 refine sr<|bx Y<|al (cs:=[ay false,au]) (by exact⟨aq,aA,ak⟩) Y<|dn<|qq<|aZ mixed<|fa Y Y<|lV Y Y Y<|fa Y Y<|lV Y Y Y<|bE h λx7 h7 h=>cl (cw h7) ⟨Y,ak⟩ ?_
 obtain⟨⟨o9,pg⟩,h8,h⟩:=bS h
 refine cl (fJ h8) ⟨Y,Y,ak⟩<|so Y Y Y ?_
 refine RT.done ⟨by kernel_rfl,?_⟩
 refine aV.n<|bf ?_
 obtain rfl:=O h
 exact RZ (.agg Y Y (.k2 Y Y) Y (.nil))
theorem mK{x0:Int}{r:Zr}(h:gI x0=some r):Pure af 49 [ax x0] (.agg (eZ r)):=by
 refine bj Tryz.func49 Y (ae Y) (λdm M vs hvs=>?_)
 unfold gI at h
 refine sr<|al (cs:=[ay false,au]) (by exact⟨aq,aA,ak⟩) Y<|dn<|sr<|mv Y<|lE h λx5 h5 h=>cv _ Y (UK.conv h5)<|ag Y<|dn<|qq<|sr<|mv Y<|lE h λx7 h7 h=>ls _ Y Y h7<|dn ?_
 refine bC h (λj2=>AS.cq 21 [(0,ah x0),(2,.ptr 2 0),(3,.sv (.v (.int .u64 ((j2:Nat):Int))))] [(2,⟨34,[ai false,.sv au]⟩)] []) (λh=>?_) (λFI h=>?_)
 cases x7
 exact fs<|⟨x5,(F h),wR []⟩
 exact cT<|aW<|mv Y<|lE (V h) λx9 h9 h=>RT.neg .none _ Y T (UK.neg h9)<|ag Y<|dn<|⟨x9,h,wR []⟩
 try dsimp only
 refine aV.n<|sr<|mv Y<|lE h λfN kO h=>ls _ Y Y kO<|mv Y<|lE h λja lW h=>RT.rem .none _ Y Y T (by decide) (QS (a:=FI) (b:=4294967296) lW)<|lE h λdW jc h=>cv _ Y (UK.nat jc)<|mv Y<|lE h λfy jo h=>RT.quo .none _ Y Y T (by decide) (UK.Wi (a:=FI) (b:=4294967296) jo)<|lE h λdS jb h=>cv _ Y (UK.nat jb)<|bl (l:=[dW,dS]) (e:=aX) (.one Y (.one Y (.nil))) Y Y Y Y Y Y<|bI (cs:=[_,_]) (cs':=[ay fN,slc 1 (List.map aX [dW,dS])]) (.one Y (.one Y (.nil))) ⟨aq,aq,ak⟩ ?_
 obtain⟨⟨rQ,rR⟩,qw,h⟩:=bS h
 refine cl (tJ qw) ⟨Y,ak⟩<|so Y Y Y<|dn<|bf ?_
 obtain rfl:=O h
 exact RZ (.agg Y Y (.k2 Y Y) Y (.nil))
end
section
open Go.Fw Go.Fw.Z Go.RowKit
theorem ru{x0:List Int}{x1:List Int}{r:Int}(h:iy x0 x1=some r):Pure af 154 [slc 1 (List.map bK x0),slc 1 (List.map bK x1)] (ax r):=by
 refine bj Tryz.func154 Y (ae Y) (λdm M vs hvs=>?_)
 unfold iy at h
 refine sr<|ag Y<|dn<|qq<|sr<|mv Y<|lE h λx7 h7 h=>ln Y h7<|mv Y<|lE h λx9 h9 h=>ln Y h9<|lE h λdP gA h=>RT.max .none _ Y Y T (OV (p:=x7) (q:=x9) gA)<|lE h λfN kO h=>sb _ Y Y kO<|ag Y<|dn<|bE h λe6 AX jX=>?_
 refine bL (λ(H9:Unit)=>AS.cq 30 [] [] []) (λH9=>.inl H9=e6) ?_ (λH9 AY=>?_)
 refine bh ?_
 refine bM AX (λs6=>AS.cq 30 [(0,.sv (slc 1 (List.map bK x0))),(1,.sv (slc 1 (List.map bK x1))),(5,ah s6)] [] []) (wR []) (λnG y6 G6 h AZ wU=>?_)
 try dsimp only
 refine qq<|sr<|mv Y<|lE h λja lW h=>ge _ Y Y lW<|dn ?_
 cases ja
 refine cF<|bO<|aV.x<|aV.x<|bA.x<|aV.n ?_
 obtain rfl:=O (F h)
 exact⟨(),wU _ Y,wR []⟩
 refine cT<|bu<|aV.n<|qq<|bh<|qq<|sr<|mv Y<|mv Y<|bE (V h) λeI jP h=>cl (eW jP) ⟨Y,Y,ak⟩<|mv Y<|mv Y<|bE h λgO mZ h=>cl (eW mZ) ⟨Y,Y,ak⟩<|lE h λgw lY h=>ls _ Y Y lY<|dn ?_
 cases gw
 refine fs<|sr<|mv Y<|mv Y<|bE (F h) λkf oE h=>cl (eW oE) ⟨Y,Y,ak⟩<|mv Y<|mv Y<|bE h λnR vD h=>cl (eW vD) ⟨Y,Y,ak⟩<|lE h λir mI h=>gt _ Y Y mI<|dn ?_
 cases ir
 refine cF<|bu<|bA.n<|aV.n<|aW<|mv Y<|lE (F h) λdL iN h=>sb _ Y Y iN<|ag Y<|RT.done ?_
 obtain rfl:=O h
 exact aV.n ⟨dL,AZ _ Y,wR []⟩
 refine cT<|sr<|ag Y<|dn<|bf<|bA.r<|aV.r ?_
 obtain rfl:=O (V h)
 have Mq:=wU _ Y
 subst Mq
 refine aV.r<|bA.r<|aV.r<|aV.r ?_
 obtain rfl:=O jX
 exact R1 Y
 refine cT<|sr<|ag Y<|dn<|bf<|aV.r<|bA.r<|aV.r ?_
 obtain rfl:=O (V h)
 have Mq:=wU _ Y
 subst Mq
 refine aV.r<|bA.r<|aV.r<|aV.r ?_
 obtain rfl:=O jX
 exact R1 Y
 subst AY
 try dsimp only
 refine aV.n<|sr<|ag Y<|dn<|bf ?_
 obtain rfl:=O jX
 exact R1 Y
theorem rz{x0:List Int}{x1:List Int}{r:List Int}(h:gJ x0 x1=some r):Pure af 152 [slc 1 (List.map bK x0),slc 1 (List.map bK x1)] (slc 1 (List.map bK r)):=by
 refine bj Tryz.func152 Y (ae Y) (λdm M vs hvs=>?_)
 unfold gJ at h
 refine sr<|aI Y (aA (n:=1) (e:=bK))<|dn<|sr<|ag Y<|dn<|bX (ic 5 304 3 1 Y Y T)<|sr<|ag Y<|dn<|qq<|sr<|ag Y<|dn<|bE h λNg Ea yB=>?_
 refine bL (λ(ri:(List Int))=>AS.cq 43 [(5,.row 306)] [] [(306,TR 3 1 bK ri)]) (λri=>ri=Ng) ?_ (λri Bu=>?_)
 refine bh ?_
 refine bM Ea (λEZ=>AS.cq 43 [(0,.sv (slc 1 (List.map bK x0))),(1,.sv (slc 1 (List.map bK x1))),(5,.row 306),(6,ah EZ.1),(7,ah EZ.2.1)] [] [(306,TR 3 1 bK EZ.2.2)]) (c6 (λi=>bif Nat.beq i 306 then 304 else i) Y Y Y Y Y ⟨.sv aq,.sv aq,.row Y,.sv aq,.sv aq,ak⟩ trivial ⟨⟨_,Y,cH.refl _⟩,ak⟩ (λi hi=>by rw[cz (show i≠306 by omega)];rfl)) (λEZ y16 G16 h IF Eb=>?_)
 obtain⟨zW,Iz,Br⟩:=EZ
 try dsimp only
 refine qq<|qq ?_
 refine bC h (λXD=>AS.cq 43 [(0,.sv (slc 1 (List.map bK x0))),(1,.sv (slc 1 (List.map bK x1))),(5,.row 306),(6,ah zW),(7,ah Iz),(22,ai XD)] [] [(306,TR 3 1 bK Br)]) (λh=>?_) (λIA h=>?_)
 refine aW<|mv Y<|mv Y<|lE h λfN kO h=>ln Y kO<|lE h λcP fz h=>ls _ Y Y fz<|mv Y<|bE h λIu jA h=>?_
 cases cP
 refine gm Y<|gm Y<|lE (F jA) λfy jo jA=>gn Y jo<|lE jA λdS jb jA=>RT.lss (.some Y Y) _ Y Y T jb ?_
 obtain rfl:=O jA
 refine pF Y<|mv Y<|bE h λacA n8 h=>?_
 cases dS
 refine gm Y<|lE (F n8) λgO mZ n8=>gg _ Y Y mZ ?_
 obtain rfl:=O n8
 exact pF Y<|dn<|⟨gO,h,wR []⟩
 obtain rfl:=O (V n8)
 exact ww<|ww<|pT Y<|dn<|⟨true,h,wR []⟩
 obtain rfl:=O (V jA)
 refine ww<|ww<|ww<|ww<|pT Y<|mv Y<|bE h λacB IG h=>?_
 obtain rfl:=O (V IG)
 exact ww<|ww<|pT Y<|dn<|⟨true,h,wR []⟩
 try dsimp only
 refine aV.n ?_
 cases IA
 refine cF<|bO<|aV.x<|aV.x<|bA.x<|aV.n ?_
 obtain rfl:=O (F h)
 exact⟨Br,Eb _ Y,wR []⟩
 refine cT<|bu<|aV.n<|qq<|bh<|sr<|mv Y<|mv Y<|bE (V h) λiL o4 h=>cl (eW o4) ⟨Y,Y,ak⟩<|mv Y<|mv Y<|bE h λye Co h=>cl (eW Co) ⟨Y,Y,ak⟩<|lE h λoh yY h=>ad _ Y Y yY<|mv Y<|lE h λmS va h=>ad _ Y Y va<|ag Y<|dn<|sr<|mo (s:=.row _) Y<|mv Y<|lE h λsG yo h=>?_
 refine RT.rem .none _ Y Y T (by decide) yo<|bl (l:=[sG]) (e:=bK) (.one Y (.nil)) Y Y Y Y Y Y<|bE h λwH FU h=>aR (k:=[sG]) (e:=bK) Y Y Y FU<|an (s:=.row _) Y<|dn<|aW<|mv Y<|lE h λnY u0 h=>RT.quo .none _ Y Y T (by decide) u0<|ag Y<|RT.done<|bA.n<|aV.n<|aW<|mv Y<|lE h λgV o5 h=>ad _ Y Y o5<|ag Y<|RT.done ?_
 obtain rfl:=O h
 exact aV.n ⟨(nY,gV,wH),IF _ Y,c6 (λi=>bif Nat.beq i 306 then 38 else i) Y Y Y Y Y ⟨.sv aq,.sv aq,.row Y,.sv aq,.sv aq,ak⟩ trivial ⟨⟨_,Y,cH.refl _⟩,ak⟩ (λi hi=>by rw[cz (show i≠306 by omega)];rfl)⟩
 subst Bu
 try dsimp only
 refine aV.n<|qq<|bX (dR (i:=306) (E1:=3) (n:=1) (e:=bK) (l:=ri) Y)<|aW<|mv Y<|bE yB λr7 DP yB=>cl (dH DP) ⟨Y,ak⟩<|ag Y<|dn<|bf ?_
 obtain rfl:=O yB
 exact R1 Y
theorem n9{x0:List Int}{x1:List Int}{r:List Int}(h:fI x0 x1=some r):Pure af 153 [slc 1 (List.map bK x0),slc 1 (List.map bK x1)] (slc 1 (List.map bK r)):=by
 refine bj Tryz.func153 Y (ae Y) (λdm M vs hvs=>?_)
 unfold fI at h
 refine sr<|aI Y (aA (n:=1) (e:=bK))<|dn<|sr<|ag Y<|dn<|bX (ic 5 304 3 1 Y Y T)<|sr<|ag Y<|dn<|qq<|sr<|ag Y<|dn<|bE h λe8 DQ vE=>?_
 refine bL (λ(pS:(List Int))=>AS.cq 34 [(5,.row 306)] [] [(306,TR 3 1 bK pS)]) (λpS=>pS=e8) ?_ (λpS DR=>?_)
 refine bh ?_
 refine bM DQ (λs8=>AS.cq 34 [(0,.sv (slc 1 (List.map bK x0))),(1,.sv (slc 1 (List.map bK x1))),(5,.row 306),(6,ah s8.1),(7,ah s8.2.1)] [] [(306,TR 3 1 bK s8.2.2)]) (c6 (λi=>bif Nat.beq i 306 then 304 else i) Y Y Y Y Y ⟨.sv aq,.sv aq,.row Y,.sv aq,.sv aq,ak⟩ trivial ⟨⟨_,Y,cH.refl _⟩,ak⟩ (λi hi=>by rw[cz (show i≠306 by omega)];rfl)) (λs8 y8 G8 h DS DT=>?_)
 obtain⟨FF,KM,pR⟩:=s8
 try dsimp only
 refine qq<|sr<|mv Y<|mv Y<|lE h λfN kO h=>ln Y kO<|lE h λcP fz h=>ls _ Y Y fz<|dn ?_
 cases cP
 refine cF<|bO<|aV.x<|aV.x<|bA.x<|aV.n ?_
 obtain rfl:=O (F h)
 exact⟨pR,DT _ Y,wR []⟩
 refine cT<|bu<|aV.n<|qq<|bh<|sr<|mv Y<|mv Y<|bE (V h) λdS jb h=>cl (eW jb) ⟨Y,Y,ak⟩<|mv Y<|mv Y<|bE h λke qw h=>cl (eW qw) ⟨Y,Y,ak⟩<|lE h λgO mZ h=>sb _ Y Y mZ<|mv Y<|lE h λiQ o6 h=>sb _ Y Y o6<|ag Y<|dn<|sr<|ag Y<|dn<|qq<|sr<|mv Y<|lE h λkf oE h=>?_
 refine ls _ Y Y oE<|dn ?_
 refine bC h (λOt=>AS.cq 34 [(0,.sv (slc 1 (List.map bK x0))),(1,.sv (slc 1 (List.map bK x1))),(5,.row 306),(6,ah Ot.1),(7,ah KM),(8,ah Ot.2)] [] [(306,TR 3 1 bK pR)]) (λh=>?_) (λOt h=>?_)
 cases kf
 exact fs<|⟨(0,iQ),(F h),wR []⟩
 exact cT<|sr<|mv Y<|lE (V h) λiL o4 h=>ad _ Y Y o4<|ag Y<|dn<|aW<|ag Y<|dn<|⟨(1,iL),h,wR []⟩
 obtain⟨T8,Pr⟩:=Ot
 try dsimp only
 refine aV.n<|aW<|mo (s:=.row _) Y<|mv Y<|bl (l:=[Pr]) (e:=bK) (.one Y (.nil)) Y Y Y Y Y Y<|bE h λoh yY h=>aR (k:=[Pr]) (e:=bK) Y Y Y yY<|an (s:=.row _) Y<|RT.done<|bA.n<|aV.n<|aW<|mv Y<|lE h λdW jc h=>ad _ Y Y jc<|ag Y<|RT.done ?_
 obtain rfl:=O h
 exact aV.n ⟨(T8,dW,oh),DS _ Y,c6 (λi=>bif Nat.beq i 306 then 31 else i) Y Y Y Y Y ⟨.sv aq,.sv aq,.row Y,.sv aq,.sv aq,ak⟩ trivial ⟨⟨_,Y,cH.refl _⟩,ak⟩ (λi hi=>by rw[cz (show i≠306 by omega)];rfl)⟩
 subst DR
 try dsimp only
 refine aV.n<|qq<|bX (dR (i:=306) (E1:=3) (n:=1) (e:=bK) (l:=pS) Y)<|aW<|mv Y<|bE vE λmS va vE=>cl (dH va) ⟨Y,ak⟩<|ag Y<|dn<|bf ?_
 obtain rfl:=O vE
 exact R1 Y
theorem ik{x0:List Int}{r:Int}(h:dY x0=some r):Pure af 162 [slc 1 (List.map bK x0)] (ax r):=by
 refine bj Tryz.func162 Y (ae Y) (λdm M vs hvs=>?_)
 unfold dY at h
 refine sr<|ag Y<|dn<|sr<|ag Y<|dn<|qq<|sr<|mv Y<|lE h λx6 h6 h=>ln Y h6<|lE h λx7 h7 h=>sb _ Y Y h7<|ag Y<|dn<|bE h λe6 AX jX=>?_
 refine bL (λ(qB:Int)=>AS.cq 20 [(3,ah qB)] [] []) (λqB=>qB=e6) ?_ (λqB AY=>?_)
 refine bh ?_
 refine bM AX (λs6=>AS.cq 20 [(0,.sv (slc 1 (List.map bK x0))),(3,ah s6.1),(4,ah s6.2)] [] []) (wR []) (λs6 y6 G6 h AZ wU=>?_)
 obtain⟨m6,nc⟩:=s6
 try dsimp only
 refine qq<|sr<|mv Y<|lE h λx9 h9 h=>ge _ Y Y h9<|dn ?_
 cases x9
 refine cF<|bO<|aV.x<|aV.x<|bA.x<|aV.n ?_
 obtain rfl:=O (F h)
 exact⟨m6,wU _ Y,wR []⟩
 refine cT<|bu<|aV.n<|qq<|bh<|aW<|mv Y<|lE (V h) λja lW h=>RT.mul .none _ Y Y T lW<|mv Y<|mv Y<|bE h λfy jo h=>ix Y Y jo<|lr Y Y<|lE h λeI jP h=>ad _ Y Y jP<|ag Y<|RT.done<|bA.n<|aV.n<|aW<|mv Y<|lE h λfN kO h=>sb _ Y Y kO<|ag Y<|RT.done ?_
 obtain rfl:=O h
 exact aV.n ⟨(eI,fN),AZ _ Y,wR []⟩
 subst AY
 try dsimp only
 refine aV.n<|sr<|mv Y<|ag Y<|dn<|bf ?_
 obtain rfl:=O jX
 exact R1 Y
theorem qb{x0:Int}{r:List Int}(h:iJ x0=some r):Pure af 161 [ax x0] (slc 1 (List.map bK r)):=by
 refine bj Tryz.func161 Y (ae Y) (λdm M vs hvs=>?_)
 unfold iJ at h
 refine sr<|aI Y (aA (n:=1) (e:=bK))<|dn<|sr<|mv Y<|lE h λx4 h4 h=>RT.rem .none _ Y Y T (by decide) h4<|mv Y<|lE h λx6 h6 h=>RT.quo .none _ Y Y T (by decide) h6<|lE h λx7 h7 h=>RT.rem .none _ Y Y T (by decide) h7<|mv Y<|lE h λx9 h9 h=>RT.quo .none _ Y Y T (by decide) h9<|lE h λdP gA h=>RT.quo .none _ Y Y T (by decide) gA<|bl (l:=[x4,x7,dP]) (e:=bK) (.one Y (.one Y (.one Y (.nil)))) Y Y Y Y Y Y ?_
 refine bE h λcP fz h=>cl (dH fz) ⟨Y,ak⟩<|ag Y<|dn<|bf ?_
 obtain rfl:=O h
 exact R1 Y
theorem oQ{x0:List Int}{x1:Int}{r:List Int}(h:dZ x0 x1=some r):Pure af 163 [slc 1 (List.map bK x0),ax x1] (slc 1 (List.map bK r)):=by
 refine bj Tryz.func163 Y (ae Y) (λdm M vs hvs=>?_)
 unfold dZ at h
 refine sr<|aI Y (aA (n:=1) (e:=bK))<|dn<|sr<|ag Y<|dn<|bX (ic 5 304 3 1 Y Y T)<|sr<|ag Y<|dn<|qq<|sr<|ag Y<|dn<|bE h λAW sQ mY=>?_
 refine bL (λ(kn:(List Int))=>AS.cq 35 [(5,.row 306)] [] [(306,TR 3 1 bK kn)]) (λkn=>kn=AW) ?_ (λkn sS=>?_)
 refine bh ?_
 refine bM sQ (λsF=>AS.cq 35 [(0,.sv (slc 1 (List.map bK x0))),(1,ah x1),(5,.row 306),(6,ah sF.1),(7,ah sF.2.1)] [] [(306,TR 3 1 bK sF.2.2)]) (c6 (λi=>bif Nat.beq i 306 then 304 else i) Y Y Y Y Y ⟨.sv aq,.sv aq,.row Y,.sv aq,.sv aq,ak⟩ trivial ⟨⟨_,Y,cH.refl _⟩,ak⟩ (λi hi=>by rw[cz (show i≠306 by omega)];rfl)) (λsF Ra Rb h sV pV=>?_)
 obtain⟨uK,M5,oN⟩:=sF
 try dsimp only
 refine qq<|qq ?_
 refine bC h (λDO=>AS.cq 35 [(0,.sv (slc 1 (List.map bK x0))),(1,ah x1),(5,.row 306),(6,ah uK),(7,ah M5),(16,ai DO)] [] [(306,TR 3 1 bK oN)]) (λh=>?_) (λvQ h=>?_)
 refine aW<|mv Y<|mv Y<|lE h λfN kO h=>ln Y kO<|lE h λcP fz h=>ls _ Y Y fz<|mv Y<|bE h λoO cE h=>?_
 cases cP
 refine gm Y<|lE (F cE) λdL iN cE=>gg _ Y Y iN ?_
 obtain rfl:=O cE
 exact pF Y<|dn<|⟨dL,h,wR []⟩
 obtain rfl:=O (V cE)
 exact ww<|ww<|pT Y<|dn<|⟨true,h,wR []⟩
 try dsimp only
 refine aV.n ?_
 cases vQ
 refine cF<|bO<|aV.x<|aV.x<|bA.x<|aV.n ?_
 obtain rfl:=O (F h)
 exact⟨oN,pV _ Y,wR []⟩
 refine cT<|bu<|aV.n<|qq<|bh<|sr<|mv Y<|mv Y<|bE (V h) λgO mZ h=>cl (eW mZ) ⟨Y,Y,ak⟩<|mv Y<|lE h λiQ o6 h=>RT.mul .none _ Y Y T o6<|mv Y<|lE h λkf oE h=>ad _ Y Y oE<|ag Y<|dn<|sr<|mo (s:=.row _) Y<|mv Y<|lE h λnR vD h=>RT.rem .none _ Y Y T (by decide) vD<|bl (l:=[nR]) (e:=bK) (.one Y (.nil)) Y Y Y Y Y Y ?_
 refine bE h λye Co h=>aR (k:=[nR]) (e:=bK) Y Y Y Co<|an (s:=.row _) Y<|dn<|aW<|mv Y<|lE h λji o7 h=>RT.quo .none _ Y Y T (by decide) o7<|ag Y<|RT.done<|bA.n<|aV.n<|aW<|mv Y<|lE h λeI jP h=>ad _ Y Y jP<|ag Y<|RT.done ?_
 obtain rfl:=O h
 exact aV.n ⟨(ji,eI,ye),sV _ Y,c6 (λi=>bif Nat.beq i 306 then 30 else i) Y Y Y Y Y ⟨.sv aq,.sv aq,.row Y,.sv aq,.sv aq,ak⟩ trivial ⟨⟨_,Y,cH.refl _⟩,ak⟩ (λi hi=>by rw[cz (show i≠306 by omega)];rfl)⟩
 subst sS
 try dsimp only
 refine aV.n<|qq<|bX (dR (i:=306) (E1:=3) (n:=1) (e:=bK) (l:=kn) Y)<|aW<|mv Y<|bE mY λnQ sW mY=>cl (dH sW) ⟨Y,ak⟩<|ag Y<|dn<|bf ?_
 obtain rfl:=O mY
 exact R1 Y
theorem Ec{x0:List Int}{x1:List Int}{r:List Int}(h:nf x0 x1=some r):Pure af 164 [slc 1 (List.map bK x0),slc 1 (List.map bK x1)] (slc 1 (List.map bK r)):=by
 refine bj Tryz.func164 Y (ae Y) (λdm M vs hvs=>?_)
 unfold nf at h
 refine sr<|aI Y (aA (n:=1) (e:=bK))<|dn<|qq<|sr<|mv Y<|lE h λx9 h9 h=>ln Y h9<|mv Y<|lE h λfN kO h=>ln Y kO<|lE h λcP fz h=>ad _ Y Y fz<|lE h λja lW h=>RT.leq .none _ Y Y T lW<|dn ?_
 cases ja
 refine fs<|sr<|aI Y (aA (n:=1) (e:=bK))<|dn<|qq<|sr<|mv Y<|lE (F h) λgO mZ h=>ln Y mZ<|lE h λgw lY h=>sb _ Y Y lY<|ag Y<|dn<|bE h λNg Ea yB=>?_
 refine bL (λ(C6:(List Int))=>AS.cq 51 [(5,.sv (slc 1 (List.map bK C6)))] [] []) (λC6=>C6=Ng) ?_ (λC6 Bu=>?_)
 refine bh ?_
 refine bM Ea (λEZ=>AS.cq 51 [(0,.sv (slc 1 (List.map bK x0))),(1,.sv (slc 1 (List.map bK x1))),(5,.sv (slc 1 (List.map bK EZ.1))),(6,ah EZ.2)] [] []) (wR []) (λEZ y16 G16 h IF Eb=>?_)
 obtain⟨M6,zW⟩:=EZ
 try dsimp only
 refine qq<|sr<|mv Y<|lE h λgV o5 h=>ge _ Y Y o5<|dn ?_
 cases gV
 refine cF<|bO<|aV.x<|aV.x<|bA.x<|aV.n ?_
 obtain rfl:=O (F h)
 exact⟨M6,Eb _ Y,wR []⟩
 refine cT<|bu<|aV.n<|qq<|bh<|sr<|RT.DB (l:=[0]) (e:=bK) .none (.one Y (.nil)) T Y T Y Y Y Y Y Y<|mv Y<|bE (V h) λir mI h=>RT.S3 (k:=M6) (e:=bK) .none Y Y Y T Y T mI<|ag Y<|dn<|sr<|ag Y<|dn<|bE h λe22 acC Uc=>?_
 refine bL (λ(xm:(List Int))=>AS.cq 51 [(0,.sv (slc 1 (List.map bK x0))),(1,.sv (slc 1 (List.map bK x1))),(5,.sv (slc 1 (List.map bK xm))),(6,ah zW)] [] []) (λxm=>xm=e22) ?_ (λxm acD=>?_)
 refine bh ?_
 refine bM acC (λR6=>AS.cq 51 [(0,.sv (slc 1 (List.map bK x0))),(1,.sv (slc 1 (List.map bK x1))),(5,.sv (slc 1 (List.map bK R6.1))),(6,ah zW),(7,ah R6.2)] [] []) (wR []) (λR6 y22 G22 h acE acF=>?_)
 obtain⟨Bs,zo⟩:=R6
 try dsimp only
 refine qq<|sr<|mv Y<|mv Y<|mv Y<|bE h λmS va h=>ix Y Y va<|lr Y Y<|lE h λr6 A0 h=>ls _ Y Y A0<|dn ?_
 cases r6
 refine cF<|bO<|aV.x<|aV.x<|bA.x<|aV.n ?_
 obtain rfl:=O (F h)
 exact⟨Bs,acF _ Y,wR []⟩
 refine cT<|bu<|aV.n<|qq<|bh<|aW<|mv Y<|mv Y<|mv Y<|mv Y<|bE (V h) λr7 DP h=>ix Y Y DP<|lr Y Y<|mv Y<|lE h λzH KA h=>sb _ Y Y KA<|lE h λrN h46 h=>RT.min .none _ Y Y T (SX (p:=1024) (q:=zH) h46)<|bE h λsE zK h=>cl (oQ zK) ⟨Y,Y,ak⟩<|bE h λyf h48 h=>cl (rz h48) ⟨Y,Y,ak⟩<|ag Y ?_
 refine RT.done<|bA.n<|aV.n<|aW<|mv Y<|lE h λuX FW h=>ad _ Y Y FW<|ag Y<|RT.done ?_
 obtain rfl:=O h
 exact aV.n ⟨(yf,uX),acE _ Y,wR []⟩
 subst acD
 try dsimp only
 refine bA.n<|aV.n<|aW<|mv Y<|lE Uc λiS pW Uc=>sb _ Y Y pW<|ag Y<|RT.done ?_
 obtain rfl:=O Uc
 exact aV.n ⟨(xm,iS),IF _ Y,wR []⟩
 subst Bu
 try dsimp only
 refine aV.n<|sr<|mv Y<|bE yB λuW Ib yB=>cl (dH Ib) ⟨Y,ak⟩<|ag Y<|dn<|bf ?_
 obtain rfl:=O yB
 exact R1 Y
 refine cT<|sr<|mv Y<|bE (V h) λdL iN h=>cl (ik iN) ⟨Y,ak⟩<|mv Y<|bE h λdS jb h=>cl (ik jb) ⟨Y,ak⟩<|lE h λeI jP h=>RT.mul .none _ Y Y T jP<|bE h λkN lX h=>cl (qb lX) ⟨Y,ak⟩<|ag Y<|dn<|bf<|aV.r ?_
 obtain rfl:=O h
 exact R1 Y
set_option maxHeartbeats 4000000 in
theorem xn{x0:List Int}{x1:List Int}{r:(List Int)×(List Int)}(h:kE x0 x1=some r):Pure af 151 [slc 1 (List.map bK x0),slc 1 (List.map bK x1)] (.BW [slc 1 (List.map bK r.1),slc 1 (List.map bK r.2)]):=by
 refine bj Tryz.func151 Y (ae Y) (λdm M vs hvs=>?_)
 unfold kE at h
 refine sr<|aI Y (aA (n:=1) (e:=bK))<|aI Y (aA (n:=1) (e:=bK))<|dn<|qq<|qq ?_
 refine bC h (λj3=>AS.cq 120 [(0,.sv (slc 1 (List.map bK x0))),(1,.sv (slc 1 (List.map bK x1))),(21,ai j3)] [] []) (λh=>?_) (λM7 h=>?_)
 refine aW<|mv Y<|lE h λdL iN h=>ln Y iN<|lE h λfy jo h=>RT.leq .none _ Y Y T jo<|mv Y<|bE h λNb GJ h=>?_
 cases fy
 obtain rfl:=O (F GJ)
 exact ww<|ww<|ww<|pF Y<|dn<|⟨false,h,wR []⟩
 refine gm Y<|lE (V GJ) λkN lX GJ=>gn Y lX<|lE GJ λke qw GJ=>RT.leq (.some Y Y) _ Y Y T qw ?_
 obtain rfl:=O GJ
 exact pT Y<|dn<|⟨ke,h,wR []⟩
 try dsimp only
 refine aV.n ?_
 cases M7
 refine fs<|sr<|mv Y<|lE (F h) λr6 A0 h=>ln Y A0<|bE h λsG yo h=>RT.sx (n:=1) (e:=bK) .none Y Y T Y T (by rfl) (by decide) (by exact⟨aq,ak⟩) yo<|an (s:=.row _) Y<|dn<|qq<|sr<|mv Y<|lE h λwH FU h=>ln Y FU<|lE h λpU Cp h=>eq _ Y Y (zF (p:=wH) (q:=1) Cp)<|dn ?_
 cases pU
 refine fs<|sr<|aI Y (aA (n:=1) (e:=bK))<|dn<|qq<|sr<|mv Y<|lE (F h) λx73 h73 h=>ln Y h73<|lE h λFG Pd h=>sb _ Y Y Pd<|ag Y<|dn<|bE h λe44 acG Ud=>?_
 refine bL (λ(KN:(List Int)×(List Int))=>AS.cq 120 [(6,.row 36),(9,.sv (slc 1 (List.map bK KN.1)))] [] [(36,TR 3 1 bK KN.2)]) (λKN=>KN=e44) ?_ (λKN acH=>?_)
 refine bh ?_
 refine bM acG (λUa=>AS.cq 120 [(0,.sv (slc 1 (List.map bK x0))),(1,.sv (slc 1 (List.map bK x1))),(6,.row 36),(9,.sv (slc 1 (List.map bK Ua.1))),(10,ah Ua.2.1)] [] [(36,TR 3 1 bK Ua.2.2)]) (wR []) (λUa y44 G44 h acI acJ=>?_)
 obtain⟨GG,rj,rm⟩:=Ua
 try dsimp only
 refine qq<|sr<|mv Y<|lE h λx76 h76 h=>ge _ Y Y h76<|dn ?_
 cases x76
 refine cF<|bO<|aV.x<|aV.x<|bA.x<|aV.n ?_
 obtain rfl:=O (F h)
 exact⟨(GG,rm),acJ _ Y,wR []⟩
 refine cT<|bu<|aV.n<|qq<|bh<|sr<|mv Y<|mv Y<|bE (V h) λx81 h81 h=>ix Y Y h81<|lr Y Y<|RT.DB (l:=[x81]) (e:=bK) .none (.one Y (.nil)) T Y T Y Y Y Y Y Y<|mv Y<|bE h λWD h85 h=>RT.S3 (k:=GG) (e:=bK) .none Y Y Y T Y T h85<|bE h λMi h86 h=>cl (dH h86) ⟨Y,ak⟩<|ag Y<|dn<|sr<|ag Y<|ag Y ?_
 refine dn<|qq<|sr<|mv Y<|lE h λx88 h88 h=>ln Y h88<|mv Y<|lE h λWE h90 h=>ln Y h90<|lE h λTk h91 h=>ls _ Y Y h91<|dn ?_
 refine bC h (λj46=>AS.cq 120 [(0,.sv (slc 1 (List.map bK x0))),(1,.sv (slc 1 (List.map bK x1))),(6,.row 36),(9,.sv (slc 1 (List.map bK Mi))),(10,ah rj),(11,ah 0),(12,ah j46)] [] [(36,TR 3 1 bK rm)]) (λh=>?_) (λM9 h=>?_)
 cases Tk
 exact fs<|⟨65536,(F h),wR []⟩
 exact cT<|aW<|ag Y<|dn<|⟨1,(V h),wR []⟩
 try dsimp only
 refine aV.n<|qq<|bE h λe54 acK Bv=>?_
 refine bL (λ(tH:Int)=>AS.cq 120 [(0,.sv (slc 1 (List.map bK x0))),(1,.sv (slc 1 (List.map bK x1))),(6,.row 36),(9,.sv (slc 1 (List.map bK Mi))),(10,ah rj),(11,ah tH)] [] [(36,TR 3 1 bK rm)]) (λtH=>tH=e54) ?_ (λtH acL=>?_)
 refine bh ?_
 refine bM acK (λR7=>AS.cq 120 [(0,.sv (slc 1 (List.map bK x0))),(1,.sv (slc 1 (List.map bK x1))),(6,.row 36),(9,.sv (slc 1 (List.map bK Mi))),(10,ah rj),(11,ah R7.1),(12,ah R7.2)] [] [(36,TR 3 1 bK rm)]) (wR []) (λR7 y54 G54 h acM acN=>?_)
 obtain⟨lD,oP⟩:=R7
 try dsimp only
 refine qq<|sr<|mv Y<|mv Y<|lE h λx94 h94 h=>sb _ Y Y h94<|lE h λx95 h95 h=>gt _ Y Y h95<|dn ?_
 cases x95
 refine cF<|bO<|aV.x<|aV.x<|bA.x<|aV.n ?_
 obtain rfl:=O (F h)
 exact⟨lD,acN _ Y,wR []⟩
 refine cT<|bu<|aV.n<|bh<|sr<|mv Y<|mv Y<|lE (V h) λx98 h98 h=>ad _ Y Y h98<|lE h λVI h99 h=>RT.quo .none _ Y Y T (by decide) h99<|ag Y<|dn<|sr<|mv Y<|mv Y<|bE h λHX TA h=>cl (oQ TA) ⟨Y,Y,ak⟩<|mv Y<|bE h λHY TB h=>cl (ru TB) ⟨Y,Y,ak⟩<|lE h λKw TC h=>RT.leq .none _ Y Y T TC<|dn ?_
 refine bC h (λVJ=>AS.cq 120 [(0,.sv (slc 1 (List.map bK x0))),(1,.sv (slc 1 (List.map bK x1))),(6,.row 36),(9,.sv (slc 1 (List.map bK Mi))),(10,ah rj),(11,ah VJ.1),(12,ah VJ.2)] [] [(36,TR 3 1 bK rm)]) (λh=>?_) (λVJ h=>?_)
 cases Kw
 exact cF<|aW<|mv Y<|ag Y<|dn<|⟨(lD,VI),(F h),wR []⟩
 exact cT<|aW<|mv Y<|ag Y<|dn<|⟨(VI,oP),(V h),wR []⟩
 obtain⟨IC,ID⟩:=VJ
 try dsimp only
 refine bA.n ?_
 obtain rfl:=O h
 exact aV.n ⟨(IC,ID),acM _ Y,wR []⟩
 subst acL
 try dsimp only
 refine aV.n<|aW<|mo (s:=.row _) Y<|mv Y<|mv Y<|mv Y<|mv Y<|mv Y<|bE Bv λHZ TD Bv=>cl (oQ TD) ⟨Y,Y,ak⟩<|bE Bv λNa acO Bv=>cl (n9 acO) ⟨Y,Y,ak⟩<|bE Bv λPs acP Bv=>iR Y Y Y acP<|bE Bv λXB XE Bv=>sR tH Y Y Y Y XE<|ag Y<|RT.done<|bA.n<|aV.n<|aW<|mv Y<|lE Bv λx78 h78 Bv=>?_
 refine sb _ Y Y h78<|ag Y<|RT.done ?_
 obtain rfl:=O Bv
 exact aV.n ⟨(Na,x78,XB),acI _ Y,wR []⟩
 subst acH
 obtain⟨R8,IE⟩:=KN
 try dsimp only
 refine aV.n<|qq<|bX (dR (i:=36) (E1:=3) (n:=1) (e:=bK) (l:=IE) Y)<|aW<|mv Y<|bE Ud λXC acQ Ud=>cl (dH acQ) ⟨Y,ak⟩<|mv Y<|ag Y<|ag Y<|dn<|bf ?_
 obtain rfl:=O Ud
 exact R2 Y Y
 refine cT<|sr<|ag Y<|dn<|qq<|sr<|mv Y<|lE (V h) λxP Ia h=>ln Y Ia<|lE h λr7 DP h=>sb _ Y Y DP<|ag Y<|dn<|bE h λe18 acR Nh=>?_
 refine bL (λ(KO:Int×(List Int))=>AS.cq 120 [(6,.row 36),(7,ah KO.1)] [] [(36,TR 3 1 bK KO.2)]) (λKO=>KO=e18) ?_ (λKO acS=>?_)
 refine bh ?_
 refine bM acR (λT9=>AS.cq 120 [(0,.sv (slc 1 (List.map bK x0))),(1,.sv (slc 1 (List.map bK x1))),(6,.row 36),(7,ah T9.1),(8,ah T9.2.1)] [] [(36,TR 3 1 bK T9.2.2)]) (wR []) (λT9 y18 G18 h acT acU=>?_)
 obtain⟨Jy,GF,Bt⟩:=T9
 try dsimp only
 refine qq<|sr<|mv Y<|lE h λCk KB h=>ge _ Y Y KB<|dn ?_
 cases Ck
 refine cF<|bO<|aV.x<|aV.x<|bA.x<|aV.n ?_
 obtain rfl:=O (F h)
 exact⟨(Jy,Bt),acU _ Y,wR []⟩
 refine cT<|bu<|aV.n<|qq<|bh<|sr<|mv Y<|lE (V h) λyf h48 h=>RT.mul .none _ Y Y T h48<|mv Y<|mv Y<|bE h λQV Tv h=>ix Y Y Tv<|lr Y Y<|lE h λOu W7 h=>ad _ Y Y W7<|ag Y<|dn<|aZ mixed<|mo (s:=.row _) Y<|mv Y<|mv Y<|mv Y<|bE h λVz h58 h=>ix Y Y h58<|lr Y Y<|bE h λKt Rc h=>?_
 refine RT.quo .none _ Y Y T (Wj Rc) (LW Rc)<|mv Y<|mv Y<|bE h λQX h63 h=>ix Y Y h63<|lr Y Y<|bE h λTh YK h=>RT.rem .none _ Y Y T (SY YK) (SZ YK)<|bE h λJp Tx h=>iR Y Y Y Tx<|bE h λl20 XF h=>sR Kt Y Y Y Y XF<|ag Y ?_
 refine RT.done ⟨by kernel_rfl,?_⟩
 refine bA.n<|aV.n<|aW<|mv Y<|lE h λrN h46 h=>sb _ Y Y h46<|ag Y<|RT.done ?_
 obtain rfl:=O h
 exact aV.n ⟨(Th,rN,l20),acT _ Y,wR []⟩
 subst acS
 obtain⟨M8,IB⟩:=KO
 try dsimp only
 refine aV.n<|qq<|bX (dR (i:=36) (E1:=3) (n:=1) (e:=bK) (l:=IB) Y)<|aW<|mv Y<|bE Nh λVy h68 Nh=>cl (dH h68) ⟨Y,ak⟩<|mv Y<|bl (l:=[M8]) (e:=bK) (.one Y (.nil)) Y Y Y Y Y Y<|bE Nh λXA h71 Nh=>cl (dH h71) ⟨Y,ak⟩<|ag Y<|ag Y<|dn<|bf<|aV.r ?_
 obtain rfl:=O Nh
 exact R2 Y Y
 refine cT<|sr<|mv Y<|bE (V h) λiQ o6 h=>cl (ik o6) ⟨Y,ak⟩<|mv Y<|bE h λkf oE h=>cl (ik oE) ⟨Y,ak⟩<|bE h λiS pW h=>RT.quo .none _ Y Y T (Wj pW) (LW pW)<|bE h λiL o4 h=>cl (qb o4) ⟨Y,ak⟩<|mv Y<|bE h λir mI h=>cl (ik mI) ⟨Y,ak⟩<|mv Y<|bE h λoh yY h=>cl (ik yY) ⟨Y,ak⟩ ?_
 refine bE h λji o7 h=>RT.rem .none _ Y Y T (SY o7) (SZ o7)<|bE h λmS va h=>cl (qb va) ⟨Y,ak⟩<|ag Y<|ag Y<|dn<|bf<|aV.r ?_
 obtain rfl:=O h
 exact R2 Y Y
end
section
open Go.Fw Go.Fw.Z Go.RowKit
theorem fK{x0:Zr}{r:Int}(h:dK x0=some r):Pure af 138 [.agg (eZ x0)] (ax r):=by
 obtain⟨bp,bn⟩:=x0
 refine bj Tryz.func138 Y (ae Y) (λdm M vs hvs=>?_)
 unfold dK at h
 refine sr<|bx Y<|ag Y<|dn<|qq<|sr<|fa Y Y<|lV Y Y Y<|bE h λx5 h5 h=>cl (cw h5) ⟨Y,ak⟩<|lE h λx6 h6 h=>ln Y h6<|lE h λx7 h7 h=>eq _ Y Y (zF (p:=x6) (q:=0) h7)<|dn ?_
 cases x7
 refine fs<|qq<|sr<|fa Y Y<|lV Y Y Y<|dn ?_
 replace h:=F h
 cases bp
 refine fs<|sr<|ag Y<|dn<|bf ?_
 obtain rfl:=O (F h)
 exact R1 Y
 refine cT<|sr<|ag Y<|dn<|bf<|aV.r ?_
 obtain rfl:=O (V h)
 exact R1 Y
 refine cT<|sr<|ag Y<|dn<|bf<|aV.r ?_
 obtain rfl:=O (V h)
 exact R1 Y
theorem Ed{x0:Zr}{x1:Zr}{r:Int}(h:ng x0 x1=some r):Pure af 136 [.agg (eZ x0),.agg (eZ x1)] (ax r):=by
 obtain⟨bp,bn⟩:=x0
 obtain⟨bU,bR⟩:=x1
 refine bj Tryz.func136 Y (ae Y) (λdm M vs hvs=>?_)
 unfold ng at h
 refine sr<|bx Y<|bx Y<|ag Y<|dn<|qq<|qq<|aZ mixed<|ld Y Y (.k2 Y Y)<|bE h λx7 h7 h=>cl (fK h7) ⟨Y,ak⟩<|ld Y Y (.k2 Y Y)<|bE h λx9 h9 h=>cl (fK h9) ⟨Y,ak⟩<|lE h λdP gA h=>ne _ Y Y (HQ (p:=x7) (q:=x9) gA) ?_
 refine RT.done ⟨by kernel_rfl,?_⟩
 refine aV.n ?_
 cases dP
 refine fs<|qq<|aZ mixed<|fa Y Y<|lV Y Y Y<|bE (F h) λeI jP h=>cl (cw jP) ⟨Y,ak⟩<|fa Y Y<|lV Y Y Y<|bE h λgO mZ h=>cl (cw mZ) ⟨Y,ak⟩<|bE h λgw lY h=>cl (ru lY) ⟨Y,Y,ak⟩<|ag Y ?_
 refine RT.done ⟨by kernel_rfl,?_⟩
 refine aV.n<|qq<|sr<|ld Y Y (.k2 Y Y)<|bE h λgV o5 h=>cl (fK o5) ⟨Y,ak⟩<|lE h λkf oE h=>ls _ Y Y oE<|dn ?_
 cases kf
 refine fs<|sr<|mv Y<|ag Y<|dn<|bf ?_
 obtain rfl:=O (F h)
 exact R1 Y
 refine cT<|sr<|mv Y<|lE (V h) λiL o4 h=>RT.neg .none _ Y T o4<|ag Y<|dn<|bf<|aV.r ?_
 obtain rfl:=O h
 exact R1 Y
 refine cT<|qq<|qq<|aZ mixed<|ld Y Y (.k2 Y Y)<|bE (V h) λcP fz h=>cl (fK fz) ⟨Y,ak⟩<|ld Y Y (.k2 Y Y)<|bE h λdW jc h=>cl (fK jc) ⟨Y,ak⟩<|lE h λdL iN h=>ls _ Y Y iN ?_
 refine RT.done ⟨by kernel_rfl,?_⟩
 refine aV.n ?_
 cases dL
 refine fs<|sr<|ag Y<|dn<|bf<|aV.r ?_
 obtain rfl:=O (F h)
 exact R1 Y
 refine cT<|sr<|ag Y<|dn<|bf<|aV.r<|aV.r ?_
 obtain rfl:=O (V h)
 exact R1 Y
theorem xo{x0:Zr}{r:Zr}(h:kF x0=some r):Pure af 107 [.agg (eZ x0)] (.agg (eZ r)):=by
 obtain⟨bp,bn⟩:=x0
 refine bj Tryz.func107 Y (ae Y) (λdm M vs hvs=>?_)
 unfold kF at h
 refine sr<|bx Y<|al (cs:=[ay false,au]) (by exact⟨aq,aA,ak⟩) Y<|dn<|qq<|aZ mixed<|fa Y Y<|lV Y Y Y<|lE h λx5 h5 h=>nt Y _ h5<|fa Y Y<|lV Y Y Y<|bE h λx8 h8 h=>cl (cw h8) ⟨Y,ak⟩ ?_
 obtain⟨⟨Nc,Nd⟩,h9,h⟩:=bS h
 refine cl (fJ h9) ⟨Y,Y,ak⟩<|so Y Y Y ?_
 refine RT.done ⟨by kernel_rfl,?_⟩
 refine aV.n<|bf ?_
 obtain rfl:=O h
 exact RZ (.agg Y Y (.k2 Y Y) Y (.nil))
theorem Ee{x0:Zr}{r:Zr}(h:nh x0=some r):Pure af 139 [.agg (eZ x0)] (.agg (eZ r)):=by
 obtain⟨bp,bn⟩:=x0
 refine bj Tryz.func139 Y (ae Y) (λdm M vs hvs=>?_)
 unfold nh at h
 refine sr<|bx Y<|al (cs:=[ay false,au]) (by exact⟨aq,aA,ak⟩) Y<|dn<|sr<|fa Y Y<|lV Y Y Y<|bE h λx5 h5 h=>cl (cw h5) ⟨Y,ak⟩ ?_
 obtain⟨⟨zU,zV⟩,h6,h⟩:=bS h
 refine cl (fJ h6) ⟨Y,Y,ak⟩<|so Y Y Y<|dn<|bf ?_
 obtain rfl:=O h
 exact RZ (.agg Y Y (.k2 Y Y) Y (.nil))
theorem Ef{x0:Zr}{x1:Zr}{r:Zr}(h:ni x0 x1=some r):Pure af 156 [.agg (eZ x0),.agg (eZ x1)] (.agg (eZ r)):=by
 obtain⟨bp,bn⟩:=x0
 obtain⟨bU,bR⟩:=x1
 refine bj Tryz.func156 Y (ae Y) (λdm M vs hvs=>?_)
 unfold ni at h
 refine sr<|bx Y<|bx Y<|al (cs:=[ay false,au]) (by exact⟨aq,aA,ak⟩) Y<|dn<|qq<|aZ mixed<|fa Y Y<|lV Y Y Y<|bE h λx9 h9 h=>cl (cw h9) ⟨Y,ak⟩<|fa Y Y<|lV Y Y Y<|bE h λcP fz h=>cl (cw fz) ⟨Y,ak⟩<|ag Y<|ag Y ?_
 refine RT.done ⟨by kernel_rfl,?_⟩
 refine aV.n<|qq<|sr<|fa Y Y<|lV Y Y Y<|fa Y Y<|lV Y Y Y<|lE h λdS jb h=>RT.OD .none _ Y Y T jb<|dn ?_
 cases dS
 refine fs<|qq<|sr<|mv Y<|mv Y<|bE (F h) λiS pW h=>cl (ru pW) ⟨Y,Y,ak⟩<|lE h λiL o4 h=>ge _ Y Y o4<|dn ?_
 cases iL
 refine fs<|qq<|aZ mixed<|fa Y Y<|lV Y Y Y<|mv Y<|mv Y<|bE (F h) λwH FU h=>cl (n9 FU) ⟨Y,Y,ak⟩ ?_
 obtain⟨⟨R9,Sa⟩,Cp,h⟩:=bS h
 refine cl (fJ Cp) ⟨Y,Y,ak⟩<|so Y Y Y ?_
 refine RT.done ⟨by kernel_rfl,?_⟩
 refine aV.n<|bf ?_
 obtain rfl:=O h
 exact RZ (.agg Y Y (.k2 Y Y) Y (.nil))
 refine cT<|qq<|aZ mixed<|fa Y Y<|lV Y Y Y<|mv Y<|mv Y<|bE (V h) λji o7 h=>cl (n9 o7) ⟨Y,Y,ak⟩ ?_
 obtain⟨⟨F9,Ga⟩,va,h⟩:=bS h
 refine cl (fJ va) ⟨Y,Y,ak⟩<|so Y Y Y ?_
 refine RT.done ⟨by kernel_rfl,?_⟩
 refine aV.n<|bf<|aV.r ?_
 obtain rfl:=O h
 exact RZ (.agg Y Y (.k2 Y Y) Y (.nil))
 refine cT<|qq<|aZ mixed<|fa Y Y<|lV Y Y Y<|mv Y<|mv Y<|bE (V h) λgw lY h=>cl (rz lY) ⟨Y,Y,ak⟩ ?_
 obtain⟨⟨GH,GI⟩,o6,h⟩:=bS h
 refine cl (fJ o6) ⟨Y,Y,ak⟩<|so Y Y Y ?_
 refine RT.done ⟨by kernel_rfl,?_⟩
 refine aV.n<|bf<|aV.r ?_
 obtain rfl:=O h
 exact RZ (.agg Y Y (.k2 Y Y) Y (.nil))
theorem rA{x0:Zr}{x1:Zr}{r:Zr}(h:jB x0 x1=some r):Pure af 155 [.agg (eZ x0),.agg (eZ x1)] (.agg (eZ r)):=by
 obtain⟨bp,bn⟩:=x0
 obtain⟨bU,bR⟩:=x1
 refine bj Tryz.func155 Y (ae Y) (λdm M vs hvs=>?_)
 unfold jB at h
 refine sr<|bx Y<|bx Y<|al (cs:=[ay false,au]) (by exact⟨aq,aA,ak⟩) Y<|dn<|qq<|aZ mixed<|fa Y Y<|lV Y Y Y<|fa Y Y<|lV Y Y Y<|lE h λx9 h9 h=>RT.Lq .none _ Y Y T h9<|fa Y Y<|lV Y Y Y<|bE h λcP fz h=>cl (cw fz) ⟨Y,ak⟩<|fa Y Y ?_
 refine lV Y Y Y<|bE h λdL iN h=>cl (cw iN) ⟨Y,ak⟩<|bE h λfy jo h=>cl (Ec jo) ⟨Y,Y,ak⟩ ?_
 obtain⟨⟨kZ,k7⟩,jb,h⟩:=bS h
 refine cl (fJ jb) ⟨Y,Y,ak⟩<|so Y Y Y ?_
 refine RT.done ⟨by kernel_rfl,?_⟩
 refine aV.n<|bf ?_
 obtain rfl:=O h
 exact RZ (.agg Y Y (.k2 Y Y) Y (.nil))
theorem xp{x0:Zr}{x1:Zr}{r:Zr×Zr×Int}(h:kG x0 x1=some r):Pure af 135 [.agg (eZ x0),.agg (eZ x1)] (.BW [.agg (eZ r.1),.agg (eZ r.2.1),ax r.2.2]):=by
 obtain⟨bp,bn⟩:=x0
 obtain⟨bU,bR⟩:=x1
 refine bj Tryz.func135 Y (ae Y) (λdm M vs hvs=>?_)
 unfold kG at h
 refine sr<|bx Y<|bx Y<|al (cs:=[ay false,au]) (by exact⟨aq,aA,ak⟩) Y<|al (cs:=[ay false,au]) (by exact⟨aq,aA,ak⟩) Y<|ag Y<|dn<|qq<|aZ mixed<|fa Y Y<|lV Y Y Y<|bE h λja lW h=>cl (cw lW) ⟨Y,ak⟩<|fa Y Y ?_
 refine lV Y Y Y<|bE h λfy jo h=>cl (cw jo) ⟨Y,ak⟩<|ag Y<|ag Y ?_
 refine RT.done ⟨by kernel_rfl,?_⟩
 refine aV.n<|qq<|sr<|mv Y<|lE h λeI jP h=>ln Y jP<|lE h λkN lX h=>eq _ Y Y (zF (p:=eI) (q:=0) lX)<|dn ?_
 cases kN
 refine fs<|sr<|mv Y<|mv Y ?_
 obtain⟨⟨AU,DM⟩,oE,h⟩:=bS (F h)
 refine cl (xn oE) ⟨Y,Y,ak⟩<|mv Y<|ex Y Y<|ex Y Y<|ag Y<|ag Y<|dn<|qq<|qq ?_
 refine bC h (λj3=>AS.cq 50 [(2,.ptr 2 0),(3,.ptr 3 0),(4,.ptr 4 0),(5,.ptr 5 0),(8,.sv (slc 1 (List.map bK fy))),(9,.sv (slc 1 (List.map bK AU))),(10,.sv (slc 1 (List.map bK DM))),(34,ai j3.1)] [(5,⟨34,[ai false,.sv au]⟩),(4,⟨34,[ai false,.sv au]⟩),(3,⟨34,[ai bU,.sv (slc 1 (List.map aX bR))]⟩),(2,⟨34,[ai j3.2,.sv (slc 1 (List.map aX bn))]⟩)] []) (λh=>?_) (λj3 h=>?_)
 refine aW<|fa Y Y<|lV Y Y Y<|mv Y<|bE h λSb yZ h=>?_
 cases bp
 obtain rfl:=O (F yZ)
 exact ww<|ww<|ww<|pF Y<|dn<|⟨(false,false),h,wR []⟩
 refine gm Y<|lE (V yZ) λji o7 yZ=>gn Y o7<|lE yZ λmS va yZ=>gg _ Y Y va ?_
 obtain rfl:=O yZ
 exact pT Y<|dn<|⟨(mS,true),h,wR []⟩
 obtain⟨Nf,vC⟩:=j3
 try dsimp only
 refine aV.n ?_
 refine bC h (λj5=>AS.cq 50 [(2,.ptr 2 0),(3,.ptr 3 0),(4,.ptr 4 0),(5,.ptr 5 0),(9,.sv (slc 1 (List.map bK j5.1))),(10,.sv (slc 1 (List.map bK j5.2)))] [(5,⟨34,[ai false,.sv au]⟩),(4,⟨34,[ai false,.sv au]⟩),(3,⟨34,[ai bU,.sv (slc 1 (List.map aX bR))]⟩),(2,⟨34,[ai vC,.sv (slc 1 (List.map aX bn))]⟩)] []) (λh=>?_) (λj5 h=>?_)
 cases Nf
 exact fs<|⟨(AU,DM),(F h),wR []⟩
 exact cT<|sr<|mv Y<|bl (l:=[1]) (e:=bK) (.one Y (.nil)) Y Y Y Y Y Y<|bE (V h) λuX FW h=>cl (rz FW) ⟨Y,Y,ak⟩<|ag Y<|dn<|aW<|mv Y<|mv Y<|bE h λnY u0 h=>cl (n9 u0) ⟨Y,Y,ak⟩<|ag Y<|dn<|⟨(uX,nY),h,wR []⟩
 obtain⟨Ml,FO⟩:=j5
 try dsimp only
 refine aV.n<|sr<|fa Y Y<|lV Y Y Y<|fa Y Y<|lV Y Y Y<|lE h λzH KA h=>RT.Lq .none _ Y Y T KA<|mv Y ?_
 obtain⟨⟨FL,FM⟩,zK,h⟩:=bS h
 refine cl (fJ zK) ⟨Y,Y,ak⟩<|mv Y ?_
 obtain⟨⟨FP,FR⟩,Tu,h⟩:=bS h
 refine cl (fJ Tu) ⟨Y,Y,ak⟩<|so Y Y Y<|so Y Y Y<|ag Y<|dn<|bf ?_
 obtain rfl:=O h
 exact RZ (.agg Y Y (.k2 Y Y) Y (.agg Y Y (.k2 Y Y) Y (.tmp Y (.nil))))
 refine cT<|sr<|bI (cs:=[_,_]) (cs':=[ay false,au]) (.nil) ⟨aq,aA,ak⟩<|bI (cs:=[_,_]) (cs':=[ay false,au]) (.nil) ⟨aq,aA,ak⟩<|so Y Y Y<|so Y Y Y<|ag Y<|dn<|bf<|aV.r ?_
 obtain rfl:=O (V h)
 exact RZ (.agg Y Y (.k2 Y Y) Y (.agg Y Y (.k2 Y Y) Y (.tmp Y (.nil))))
theorem Eg{x0:Zr}{x1:Zr}{r:Zr}(h:nj x0 x1=some r):Pure af 134 [.agg (eZ x0),.agg (eZ x1)] (.agg (eZ r)):=by
 obtain⟨bp,bn⟩:=x0
 obtain⟨bU,bR⟩:=x1
 refine bj Tryz.func134 Y (ae Y) (λdm M vs hvs=>?_)
 unfold nj at h
 refine sr<|bx Y<|bx Y<|al (cs:=[ay false,au]) (by exact⟨aq,aA,ak⟩) Y<|dn<|qq<|aZ mixed<|fa Y Y<|lV Y Y Y<|bE h λfN kO h=>cl (cw kO) ⟨Y,ak⟩<|fa Y Y<|lV Y Y Y<|bE h λdW jc h=>cl (cw jc) ⟨Y,ak⟩<|ag Y<|ag Y ?_
 refine RT.done ⟨by kernel_rfl,?_⟩
 refine aV.n<|qq<|bE h λe6 AX jX=>?_
 refine bL (λ(uI:(List Int))=>AS.cq 28 [(4,.ptr 4 0),(5,.sv (slc 1 (List.map bK uI)))] [(4,⟨34,[ai false,.sv au]⟩)] []) (λuI=>uI=e6) ?_ (λuI AY=>?_)
 refine bh ?_
 refine bM AX (λs6=>AS.cq 28 [(4,.ptr 4 0),(5,.sv (slc 1 (List.map bK s6.1))),(6,.sv (slc 1 (List.map bK s6.2)))] [(4,⟨34,[ai false,.sv au]⟩)] []) (wR []) (λs6 y6 G6 h AZ wU=>?_)
 obtain⟨nG,rZ⟩:=s6
 try dsimp only
 refine qq<|sr<|mv Y<|lE h λfy jo h=>ln Y jo<|lE h λdS jb h=>gt _ Y Y jb<|dn ?_
 cases dS
 refine cF<|bO<|aV.x<|aV.x<|bA.x<|aV.n ?_
 obtain rfl:=O (F h)
 exact⟨nG,wU _ Y,wR []⟩
 refine cT<|bu<|aV.n<|bh<|sr<|mv Y<|mv Y ?_
 obtain⟨⟨acw,Ub⟩,mZ,h⟩:=bS (V h)
 refine cl (xn mZ) ⟨Y,Y,ak⟩<|mv Y<|ex Y Y<|ex Y Y<|ag Y<|ag Y<|dn<|aW<|mv Y<|mv Y<|ag Y<|ag Y<|RT.done<|bA.n ?_
 obtain rfl:=O h
 exact aV.n ⟨(rZ,Ub),AZ _ Y,wR []⟩
 subst AY
 try dsimp only
 refine aV.n<|sr<|mv Y ?_
 obtain⟨⟨wP,uY⟩,o4,jX⟩:=bS jX
 refine cl (fJ o4) ⟨Y,Y,ak⟩<|so Y Y Y<|dn<|bf ?_
 obtain rfl:=O jX
 exact RZ (.agg Y Y (.k2 Y Y) Y (.nil))
end
section
open Go.Fw
noncomputable def kH:Option (Zr):=(gI 1).bind λ⟨bU,bR⟩=>some ⟨bU,bR⟩
noncomputable def fL(x0:Qr):Option (Zr):=match x0 with|⟨⟨bp,bn⟩,⟨bD,bF⟩⟩=>(dK ⟨bD,bF⟩).bind λx5=>(some (decide ((x5:Int)=0))).bind λx6=>(bif x6 then(kH).bind λ⟨qc,qe⟩=>some ⟨qc,qe⟩else(nh ⟨bD,bF⟩).bind λ⟨sM,sN⟩=>some ⟨sM,sN⟩)
noncomputable def gK(x0:Qr):Option (Zr):=match x0 with|⟨⟨bp,bn⟩,⟨bD,bF⟩⟩=>(dK ⟨bD,bF⟩).bind λx5=>(some (decide ((x5:Int)<0))).bind λx6=>(bif x6 then(kF ⟨bp,bn⟩).bind λ⟨Nc,Nd⟩=>some ⟨Nc,Nd⟩else(gQ ⟨bp,bn⟩).bind λ⟨jq,iZ⟩=>some ⟨jq,iZ⟩)
noncomputable def iK(x0:Zr)(x1:Zr):Option (Qr):=match x0 with|⟨bp,bn⟩=>match x1 with|⟨bU,bR⟩=>(nj ⟨bp,bn⟩ ⟨bU,bR⟩).bind λ⟨A5,A6⟩=>(kG ⟨bp,bn⟩ ⟨A5,A6⟩).bind λ⟨⟨iG,iH⟩,⟨k8,lf⟩,acW⟩=>(kG ⟨bU,bR⟩ ⟨A5,A6⟩).bind λ⟨⟨Eh,Ei⟩,⟨Ue,Uf⟩,acX⟩=>(kH).bind λ⟨wQ,wS⟩=>(ng ⟨Eh,Ei⟩ ⟨wQ,wS⟩).bind λoh=>(some (decide ((oh:Int)=0))).bind λji=>(bif ji then some ⟨⟨iG,iH⟩,⟨false,[]⟩⟩else some ⟨⟨iG,iH⟩,⟨Eh,Ei⟩⟩)
noncomputable def gR(x0:Qr):Option (Qr):=match x0 with|⟨⟨bp,bn⟩,⟨bD,bF⟩⟩=>(gK ⟨⟨bp,bn⟩,⟨bD,bF⟩⟩).bind λ⟨lj,lp⟩=>(fL ⟨⟨bp,bn⟩,⟨bD,bF⟩⟩).bind λ⟨zU,zV⟩=>(iK ⟨lj,lp⟩ ⟨zU,zV⟩).bind λ⟨⟨qc,qe⟩,⟨vR,vS⟩⟩=>some ⟨⟨qc,qe⟩,⟨vR,vS⟩⟩
noncomputable def kI(x0:Int):Option (Qr):=(gI x0).bind λ⟨lj,lp⟩=>some ⟨⟨lj,lp⟩,⟨false,[]⟩⟩
noncomputable def oR(x0:Int)(x1:Int):Option (Qr):=(gI x0).bind λ⟨zU,zV⟩=>(gI x1).bind λ⟨o9,pg⟩=>(gR ⟨⟨zU,zV⟩,⟨o9,pg⟩⟩).bind λ⟨⟨sM,sN⟩,⟨Sc,Sd⟩⟩=>some ⟨⟨sM,sN⟩,⟨Sc,Sd⟩⟩
noncomputable def nk(x0:Qr)(x1:Qr):Option (Qr):=match x0 with|⟨⟨bp,bn⟩,⟨bD,bF⟩⟩=>match x1 with|⟨⟨bU,bR⟩,⟨dx,dy⟩⟩=>(gK ⟨⟨bp,bn⟩,⟨bD,bF⟩⟩).bind λ⟨o9,pg⟩=>(fL ⟨⟨bU,bR⟩,⟨dx,dy⟩⟩).bind λ⟨sM,sN⟩=>(jB ⟨o9,pg⟩ ⟨sM,sN⟩).bind λ⟨FX,FY⟩=>(gK ⟨⟨bU,bR⟩,⟨dx,dy⟩⟩).bind λ⟨FJ,FK⟩=>(fL ⟨⟨bp,bn⟩,⟨bD,bF⟩⟩).bind λ⟨kX,kY⟩=>(jB ⟨FJ,FK⟩ ⟨kX,kY⟩).bind λ⟨jl,jm⟩=>(ni ⟨FX,FY⟩ ⟨jl,jm⟩).bind λ⟨gx,gy⟩=>(fL ⟨⟨bp,bn⟩,⟨bD,bF⟩⟩).bind λ⟨GK,GL⟩=>(fL ⟨⟨bU,bR⟩,⟨dx,dy⟩⟩).bind λ⟨GH,GI⟩=>(jB ⟨GK,GL⟩ ⟨GH,GI⟩).bind λ⟨tu,tv⟩=>(iK ⟨gx,gy⟩ ⟨tu,tv⟩).bind λ⟨⟨sJ,rO⟩,⟨Jz,JA⟩⟩=>some ⟨⟨sJ,rO⟩,⟨Jz,JA⟩⟩
noncomputable def nm(x0:Qr):Option (Qr):=match x0 with|⟨⟨bp,bn⟩,⟨bD,bF⟩⟩=>(gK ⟨⟨bp,bn⟩,⟨bD,bF⟩⟩).bind λ⟨lj,lp⟩=>(kF ⟨lj,lp⟩).bind λ⟨w7,zL⟩=>(fL ⟨⟨bp,bn⟩,⟨bD,bF⟩⟩).bind λ⟨qc,qe⟩=>(iK ⟨w7,zL⟩ ⟨qc,qe⟩).bind λ⟨⟨o9,pg⟩,⟨Gx,Gy⟩⟩=>some ⟨⟨o9,pg⟩,⟨Gx,Gy⟩⟩
noncomputable def nq(x0:Qr)(x1:Qr):Option (Qr):=match x0 with|⟨⟨bp,bn⟩,⟨bD,bF⟩⟩=>match x1 with|⟨⟨bU,bR⟩,⟨dx,dy⟩⟩=>(nm ⟨⟨bU,bR⟩,⟨dx,dy⟩⟩).bind λ⟨⟨qc,qe⟩,⟨vR,vS⟩⟩=>(nk ⟨⟨bp,bn⟩,⟨bD,bF⟩⟩ ⟨⟨qc,qe⟩,⟨vR,vS⟩⟩).bind λ⟨⟨o9,pg⟩,⟨Gx,Gy⟩⟩=>some ⟨⟨o9,pg⟩,⟨Gx,Gy⟩⟩
noncomputable def lF(x0:Qr):Option (Int):=match x0 with|⟨⟨bp,bn⟩,⟨bD,bF⟩⟩=>(gK ⟨⟨bp,bn⟩,⟨bD,bF⟩⟩).bind λ⟨lj,lp⟩=>(dK ⟨lj,lp⟩).bind λx5=>some x5
noncomputable def nu(x0:Qr)(x1:Qr):Option (Int):=match x0 with|⟨⟨bp,bn⟩,⟨bD,bF⟩⟩=>match x1 with|⟨⟨bU,bR⟩,⟨dx,dy⟩⟩=>(nq ⟨⟨bp,bn⟩,⟨bD,bF⟩⟩ ⟨⟨bU,bR⟩,⟨dx,dy⟩⟩).bind λ⟨⟨qc,qe⟩,⟨vR,vS⟩⟩=>(lF ⟨⟨qc,qe⟩,⟨vR,vS⟩⟩).bind λx8=>some x8
end
section
open Go.Fw Go.Fw.Z Go.RowKit
theorem xq{r:Zr}(h:kH=some r):Pure af 137 [] (.agg (eZ r)):=by
 refine bj Tryz.func137 Y (ae Y) (λdm M vs hvs=>?_)
 unfold kH at h
 refine sr<|al (cs:=[ay false,au]) (by exact⟨aq,aA,ak⟩) Y<|dn<|sr ?_
 obtain⟨⟨bU,bR⟩,h1,h⟩:=bS h
 refine cl (mK h1) ⟨Y,ak⟩<|so Y Y Y<|dn<|bf ?_
 obtain rfl:=O h
 exact RZ (.agg Y Y (.k2 Y Y) Y (.nil))
theorem jI{x0:Qr}{r:Zr}(h:fL x0=some r):Pure af 109 [.agg (eQ x0)] (.agg (eZ r)):=by
 obtain⟨⟨bp,bn⟩,⟨bD,bF⟩⟩:=x0
 refine bj Tryz.func109 Y (ae Y) (λdm M vs hvs=>?_)
 unfold fL at h
 refine sr<|bx Y<|al (cs:=[ay false,au]) (by exact⟨aq,aA,ak⟩) Y<|dn<|qq<|sr<|fa Y Y<|ld Y Y (.k2 Y Y)<|bE h λx5 h5 h=>cl (fK h5) ⟨Y,ak⟩<|lE h λx6 h6 h=>eq _ Y Y (zF (p:=x5) (q:=0) h6)<|dn ?_
 cases x6
 refine fs<|sr<|fa Y Y<|ld Y Y (.k2 Y Y) ?_
 obtain⟨⟨sM,sN⟩,gA,h⟩:=bS (F h)
 refine cl (Ee gA) ⟨Y,ak⟩<|so Y Y Y<|dn<|bf ?_
 obtain rfl:=O h
 exact RZ (.agg Y Y (.k2 Y Y) Y (.nil))
 refine cT<|sr ?_
 obtain⟨⟨qc,qe⟩,h7,h⟩:=bS (V h)
 refine cl (xq h7) trivial<|so Y Y Y<|dn<|bf<|aV.r ?_
 obtain rfl:=O h
 exact RZ (.agg Y Y (.k2 Y Y) Y (.nil))
theorem lG{x0:Qr}{r:Zr}(h:gK x0=some r):Pure af 108 [.agg (eQ x0)] (.agg (eZ r)):=by
 obtain⟨⟨bp,bn⟩,⟨bD,bF⟩⟩:=x0
 refine bj Tryz.func108 Y (ae Y) (λdm M vs hvs=>?_)
 unfold gK at h
 refine sr<|bx Y<|al (cs:=[ay false,au]) (by exact⟨aq,aA,ak⟩) Y<|dn<|qq<|sr<|fa Y Y<|ld Y Y (.k2 Y Y)<|bE h λx5 h5 h=>cl (fK h5) ⟨Y,ak⟩<|lE h λx6 h6 h=>ls _ Y Y h6<|dn ?_
 cases x6
 refine fs<|sr<|fa Y Y<|ld Y Y (.k2 Y Y) ?_
 obtain⟨⟨jq,iZ⟩,fz,h⟩:=bS (F h)
 refine cl (tJ fz) ⟨Y,ak⟩<|so Y Y Y<|dn<|bf ?_
 obtain rfl:=O h
 exact RZ (.agg Y Y (.k2 Y Y) Y (.nil))
 refine cT<|sr<|fa Y Y<|ld Y Y (.k2 Y Y) ?_
 obtain⟨⟨Nc,Nd⟩,h9,h⟩:=bS (V h)
 refine cl (xo h9) ⟨Y,ak⟩<|so Y Y Y<|dn<|bf<|aV.r ?_
 obtain rfl:=O h
 exact RZ (.agg Y Y (.k2 Y Y) Y (.nil))
theorem qf{x0:Zr}{x1:Zr}{r:Qr}(h:iK x0 x1=some r):Pure af 106 [.agg (eZ x0),.agg (eZ x1)] (.agg (eQ r)):=by
 obtain⟨bp,bn⟩:=x0
 obtain⟨bU,bR⟩:=x1
 refine bj Tryz.func106 Y (ae Y) (λdm M vs hvs=>?_)
 unfold iK at h
 refine sr<|bx Y<|bx Y<|al (cs:=[ay false,au,ay false,au]) (by exact⟨aq,aA,aq,aA,ak⟩) Y<|dn<|sr<|ld Y Y (.k2 Y Y)<|ld Y Y (.k2 Y Y) ?_
 obtain⟨⟨A5,A6⟩,jc,h⟩:=bS h
 refine cl (Eg jc) ⟨Y,Y,ak⟩<|al (cs:=[ay false,au]) (by exact⟨aq,aA,ak⟩) Y<|so Y Y Y<|dn<|sr<|ld Y Y (.k2 Y Y)<|ld Y Y (.k2 Y Y) ?_
 obtain⟨⟨⟨iG,iH⟩,⟨k8,lf⟩,acW⟩,jP,h⟩:=bS h
 refine cl (xp jP) ⟨Y,Y,ak⟩<|mv Y<|ex Y Y<|ex Y Y<|ex Y Y<|al (cs:=[ay false,au]) (by exact⟨aq,aA,ak⟩) Y<|al (cs:=[ay false,au]) (by exact⟨aq,aA,ak⟩) Y<|so Y Y Y<|so Y Y Y<|ag Y<|dn<|sr<|ld Y Y (.k2 Y Y) ?_
 refine ld Y Y (.k2 Y Y) ?_
 obtain⟨⟨⟨Eh,Ei⟩,⟨Ue,Uf⟩,acX⟩,oE,h⟩:=bS h
 refine cl (xp oE) ⟨Y,Y,ak⟩<|mv Y<|ex Y Y<|ex Y Y<|ex Y Y<|al (cs:=[ay false,au]) (by exact⟨aq,aA,ak⟩) Y<|al (cs:=[ay false,au]) (by exact⟨aq,aA,ak⟩) Y<|so Y Y Y<|so Y Y Y<|ag Y<|dn<|qq<|qq<|aZ mixed<|ld Y Y (.k2 Y Y) ?_
 obtain⟨⟨wQ,wS⟩,Co,h⟩:=bS h
 refine cl (xq Co) trivial<|bE h λoh yY h=>cl (Ed yY) ⟨Y,Y,ak⟩<|lE h λji o7 h=>eq _ Y Y (zF (p:=oh) (q:=0) o7) ?_
 refine RT.done ⟨by kernel_rfl,?_⟩
 refine aV.n ?_
 cases ji
 refine fs<|sr<|ld Y Y (.k2 Y Y)<|ld Y Y (.k2 Y Y)<|bI (cs:=[_,_,_,_]) (cs':=[ay iG,slc 1 (List.map aX iH),ay Eh,slc 1 (List.map aX Ei)]) (.agg Y (.agg Y (.nil))) ⟨aq,aq,aq,aq,ak⟩<|so Y Y Y<|dn<|bf ?_
 obtain rfl:=O (F h)
 exact RZ (.agg Y Y (.k4 Y Y Y Y) Y (.nil))
 refine cT<|sr<|ld Y Y (.k2 Y Y)<|bI (cs:=[_,_,_,_]) (cs':=[ay iG,slc 1 (List.map aX iH),ay false,au]) (.agg Y (.nil)) ⟨aq,aq,aq,aA,ak⟩<|so Y Y Y<|dn<|bf<|aV.r ?_
 obtain rfl:=O (V h)
 exact RZ (.agg Y Y (.k4 Y Y Y Y) Y (.nil))
theorem tK{x0:Qr}{r:Qr}(h:gR x0=some r):Pure af 76 [.agg (eQ x0)] (.agg (eQ r)):=by
 obtain⟨⟨bp,bn⟩,⟨bD,bF⟩⟩:=x0
 refine bj Tryz.func76 Y (ae Y) (λdm M vs hvs=>?_)
 unfold gR at h
 refine sr<|bx Y<|al (cs:=[ay false,au,ay false,au]) (by exact⟨aq,aA,aq,aA,ak⟩) Y<|dn<|qq<|aZ mixed<|ld Y Y (.k4 Y Y Y Y) ?_
 obtain⟨⟨lj,lp⟩,h4,h⟩:=bS h
 refine cl (lG h4) ⟨Y,ak⟩<|ld Y Y (.k4 Y Y Y Y) ?_
 obtain⟨⟨zU,zV⟩,h6,h⟩:=bS h
 refine cl (jI h6) ⟨Y,ak⟩ ?_
 obtain⟨⟨⟨qc,qe⟩,⟨vR,vS⟩⟩,h7,h⟩:=bS h
 refine cl (qf h7) ⟨Y,Y,ak⟩<|so Y Y Y ?_
 refine RT.done ⟨by kernel_rfl,?_⟩
 refine aV.n<|bf ?_
 obtain rfl:=O h
 exact RZ (.agg Y Y (.k4 Y Y Y Y) Y (.nil))
theorem rB{x0:Int}{r:Qr}(h:kI x0=some r):Pure af 13 [ax x0] (.agg (eQ r)):=by
 refine bj Tryz.func13 Y (ae Y) (λdm M vs hvs=>?_)
 unfold kI at h
 refine sr<|al (cs:=[ay false,au,ay false,au]) (by exact⟨aq,aA,aq,aA,ak⟩) Y<|dn<|sr<|mv Y ?_
 obtain⟨⟨lj,lp⟩,h4,h⟩:=bS h
 refine cl (mK h4) ⟨Y,ak⟩<|bI (cs:=[_,_,_,_]) (cs':=[ay lj,slc 1 (List.map aX lp),ay false,au]) (.agg Y (.nil)) ⟨aq,aq,aq,aA,ak⟩<|so Y Y Y<|dn<|bf ?_
 obtain rfl:=O h
 exact RZ (.agg Y Y (.k4 Y Y Y Y) Y (.nil))
theorem GM{x0:Int}{x1:Int}{r:Qr}(h:oR x0 x1=some r):Pure af 43 [ax x0,ax x1] (.agg (eQ r)):=by
 refine bj Tryz.func43 Y (ae Y) (λdm M vs hvs=>?_)
 unfold oR at h
 refine sr<|al (cs:=[ay false,au,ay false,au]) (by exact⟨aq,aA,aq,aA,ak⟩) Y<|dn<|sr<|mv Y ?_
 obtain⟨⟨zU,zV⟩,h6,h⟩:=bS h
 refine cl (mK h6) ⟨Y,ak⟩<|mv Y ?_
 obtain⟨⟨o9,pg⟩,h8,h⟩:=bS h
 refine cl (mK h8) ⟨Y,ak⟩<|bI (cs:=[_,_,_,_]) (cs':=[ay zU,slc 1 (List.map aX zV),ay o9,slc 1 (List.map aX pg)]) (.agg Y (.agg Y (.nil))) ⟨aq,aq,aq,aq,ak⟩ ?_
 obtain⟨⟨⟨sM,sN⟩,⟨Sc,Sd⟩⟩,gA,h⟩:=bS h
 refine cl (tK gA) ⟨Y,ak⟩<|so Y Y Y<|dn<|bf ?_
 obtain rfl:=O h
 exact RZ (.agg Y Y (.k4 Y Y Y Y) Y (.nil))
theorem Ej{x0:Qr}{x1:Qr}{r:Qr}(h:nk x0 x1=some r):Pure af 141 [.agg (eQ x0),.agg (eQ x1)] (.agg (eQ r)):=by
 obtain⟨⟨bp,bn⟩,⟨bD,bF⟩⟩:=x0
 obtain⟨⟨bU,bR⟩,⟨dx,dy⟩⟩:=x1
 refine bj Tryz.func141 Y (ae Y) (λdm M vs hvs=>?_)
 unfold nk at h
 refine sr<|bx Y<|bx Y<|al (cs:=[ay false,au,ay false,au]) (by exact⟨aq,aA,aq,aA,ak⟩) Y<|dn<|qq<|aZ mixed<|ld Y Y (.k4 Y Y Y Y) ?_
 obtain⟨⟨o9,pg⟩,h8,h⟩:=bS h
 refine cl (lG h8) ⟨Y,ak⟩<|ld Y Y (.k4 Y Y Y Y) ?_
 obtain⟨⟨sM,sN⟩,gA,h⟩:=bS h
 refine cl (jI gA) ⟨Y,ak⟩ ?_
 obtain⟨⟨FX,FY⟩,kO,h⟩:=bS h
 refine cl (rA kO) ⟨Y,Y,ak⟩<|ld Y Y (.k4 Y Y Y Y) ?_
 obtain⟨⟨FJ,FK⟩,lW,h⟩:=bS h
 refine cl (lG lW) ⟨Y,ak⟩<|ld Y Y (.k4 Y Y Y Y) ?_
 obtain⟨⟨kX,kY⟩,iN,h⟩:=bS h
 refine cl (jI iN) ⟨Y,ak⟩ ?_
 obtain⟨⟨jl,jm⟩,jo,h⟩:=bS h
 refine cl (rA jo) ⟨Y,Y,ak⟩<|al (cs:=[ay false,au]) (by exact⟨aq,aA,ak⟩) Y<|al (cs:=[ay false,au]) (by exact⟨aq,aA,ak⟩) Y<|so Y Y Y<|so Y Y Y ?_
 refine RT.done ⟨by kernel_rfl,?_⟩
 refine aV.n<|qq<|aZ mixed<|ld Y Y (.k2 Y Y)<|ld Y Y (.k2 Y Y) ?_
 obtain⟨⟨gx,gy⟩,lX,h⟩:=bS h
 refine cl (Ef lX) ⟨Y,Y,ak⟩<|ld Y Y (.k4 Y Y Y Y) ?_
 obtain⟨⟨GK,GL⟩,mZ,h⟩:=bS h
 refine cl (jI mZ) ⟨Y,ak⟩<|ld Y Y (.k4 Y Y Y Y) ?_
 obtain⟨⟨GH,GI⟩,o6,h⟩:=bS h
 refine cl (jI o6) ⟨Y,ak⟩ ?_
 obtain⟨⟨tu,tv⟩,o5,h⟩:=bS h
 refine cl (rA o5) ⟨Y,Y,ak⟩ ?_
 obtain⟨⟨⟨sJ,rO⟩,⟨Jz,JA⟩⟩,oE,h⟩:=bS h
 refine cl (qf oE) ⟨Y,Y,ak⟩<|so Y Y Y ?_
 refine RT.done ⟨by kernel_rfl,?_⟩
 refine aV.n<|bf ?_
 obtain rfl:=O h
 exact RZ (.agg Y Y (.k4 Y Y Y Y) Y (.nil))
theorem Ek{x0:Qr}{r:Qr}(h:nm x0=some r):Pure af 71 [.agg (eQ x0)] (.agg (eQ r)):=by
 obtain⟨⟨bp,bn⟩,⟨bD,bF⟩⟩:=x0
 refine bj Tryz.func71 Y (ae Y) (λdm M vs hvs=>?_)
 unfold nm at h
 refine sr<|bx Y<|al (cs:=[ay false,au,ay false,au]) (by exact⟨aq,aA,aq,aA,ak⟩) Y<|dn<|qq<|aZ mixed<|ld Y Y (.k4 Y Y Y Y) ?_
 obtain⟨⟨lj,lp⟩,h4,h⟩:=bS h
 refine cl (lG h4) ⟨Y,ak⟩ ?_
 obtain⟨⟨w7,zL⟩,h5,h⟩:=bS h
 refine cl (xo h5) ⟨Y,ak⟩<|ld Y Y (.k4 Y Y Y Y) ?_
 obtain⟨⟨qc,qe⟩,h7,h⟩:=bS h
 refine cl (jI h7) ⟨Y,ak⟩ ?_
 obtain⟨⟨⟨o9,pg⟩,⟨Gx,Gy⟩⟩,h8,h⟩:=bS h
 refine cl (qf h8) ⟨Y,Y,ak⟩<|so Y Y Y ?_
 refine RT.done ⟨by kernel_rfl,?_⟩
 refine aV.n<|bf ?_
 obtain rfl:=O h
 exact RZ (.agg Y Y (.k4 Y Y Y Y) Y (.nil))
theorem El{x0:Qr}{x1:Qr}{r:Qr}(h:nq x0 x1=some r):Pure af 122 [.agg (eQ x0),.agg (eQ x1)] (.agg (eQ r)):=by
 obtain⟨⟨bp,bn⟩,⟨bD,bF⟩⟩:=x0
 obtain⟨⟨bU,bR⟩,⟨dx,dy⟩⟩:=x1
 refine bj Tryz.func122 Y (ae Y) (λdm M vs hvs=>?_)
 unfold nq at h
 refine sr<|bx Y<|bx Y<|al (cs:=[ay false,au,ay false,au]) (by exact⟨aq,aA,aq,aA,ak⟩) Y<|dn<|qq<|aZ mixed<|ld Y Y (.k4 Y Y Y Y)<|ld Y Y (.k4 Y Y Y Y) ?_
 obtain⟨⟨⟨qc,qe⟩,⟨vR,vS⟩⟩,h7,h⟩:=bS h
 refine cl (Ek h7) ⟨Y,ak⟩ ?_
 obtain⟨⟨⟨o9,pg⟩,⟨Gx,Gy⟩⟩,h8,h⟩:=bS h
 refine cl (Ej h8) ⟨Y,Y,ak⟩<|so Y Y Y ?_
 refine RT.done ⟨by kernel_rfl,?_⟩
 refine aV.n<|bf ?_
 obtain rfl:=O h
 exact RZ (.agg Y Y (.k4 Y Y Y Y) Y (.nil))
theorem Cz{x0:Qr}{r:Int}(h:lF x0=some r):Pure af 121 [.agg (eQ x0)] (ax r):=by
 obtain⟨⟨bp,bn⟩,⟨bD,bF⟩⟩:=x0
 refine bj Tryz.func121 Y (ae Y) (λdm M vs hvs=>?_)
 unfold lF at h
 refine sr<|bx Y<|ag Y<|dn<|sr<|ld Y Y (.k4 Y Y Y Y) ?_
 obtain⟨⟨lj,lp⟩,h4,h⟩:=bS h
 refine cl (lG h4) ⟨Y,ak⟩<|bE h λx5 h5 h=>cl (fK h5) ⟨Y,ak⟩<|ag Y<|dn<|bf ?_
 obtain rfl:=O h
 exact R1 Y
theorem Em{x0:Qr}{x1:Qr}{r:Int}(h:nu x0 x1=some r):Pure af 92 [.agg (eQ x0),.agg (eQ x1)] (ax r):=by
 obtain⟨⟨bp,bn⟩,⟨bD,bF⟩⟩:=x0
 obtain⟨⟨bU,bR⟩,⟨dx,dy⟩⟩:=x1
 refine bj Tryz.func92 Y (ae Y) (λdm M vs hvs=>?_)
 unfold nu at h
 refine sr<|bx Y<|bx Y<|ag Y<|dn<|sr<|ld Y Y (.k4 Y Y Y Y)<|ld Y Y (.k4 Y Y Y Y) ?_
 obtain⟨⟨⟨qc,qe⟩,⟨vR,vS⟩⟩,h7,h⟩:=bS h
 refine cl (El h7) ⟨Y,Y,ak⟩<|bE h λx8 h8 h=>cl (Cz h8) ⟨Y,ak⟩<|ag Y<|dn<|bf ?_
 obtain rfl:=O h
 exact R1 Y
end
section
open Go.Fw
noncomputable def jC(x0:List Qr)(x1:Int):Option (Qr):=cm (λ(tj:Bool)=>(bif tj then(cQ x0 x1).bind λ⟨⟨kX,kY⟩,⟨F1,F2⟩⟩=>some ⟨⟨kX,kY⟩,⟨F1,F2⟩⟩else some ⟨⟨false,[]⟩,⟨false,[]⟩⟩)) λK3=>(some (decide ((0:Int)≤x1))).bind λx6=>(bif x6 then(some (x0.length:Int)).bind λdP=>(some (decide ((x1:Int)<dP))).bind λfN=>some fN else some false).bind λGp=>K3 Gp
noncomputable def kJ(x0:List Qr)(x1:List Qr):Option (Int):=(b9 (λ(vT:Int)=>(show Option ((Int)⊕((Unit)⊕(Int)))from cm (λ(vQ:Bool)=>(bif vQ then(jC x0 vT).bind λ⟨⟨GK,GL⟩,⟨Se,Sf⟩⟩=>(jC x1 vT).bind λ⟨⟨tu,tv⟩,⟨zh,zj⟩⟩=>(nu ⟨⟨GK,GL⟩,⟨Se,Sf⟩⟩ ⟨⟨tu,tv⟩,⟨zh,zj⟩⟩).bind λkf=>(some (decide ((kf:Int)≠0))).bind λiL=>(bif iL then some (.inr (.inr kf))else(some (IntKind.i64.wrap (vT+1))).bind λeI=>some (.inl eI))else some (.inr (.inl ())))) λDH=>(some (x0.length:Int)).bind λx9=>(some (decide ((vT:Int)<x9))).bind λdP=>(bif dP then some true else(some (x1.length:Int)).bind λdW=>(some (decide ((vT:Int)<dW))).bind λdL=>some dL).bind λoO=>DH oO)) 0).bind λAW=>match AW with|.inr v10=>some v10|.inl _=>some 0
noncomputable def eX(x0:List Qr)(x1:Int):Option (List Qr):=(b9 (λ(sF:Int×(List Qr))=>match sF with|⟨uK,oN⟩=>(show Option ((Int×(List Qr))⊕((List Qr)))from cm (λ(Bw:Bool)=>(bif Bw then(jC x0 uK).bind λ⟨⟨gx,gy⟩,⟨l8,l9⟩⟩=>(gR ⟨⟨gx,gy⟩,⟨l8,l9⟩⟩).bind λ⟨⟨rQ,rR⟩,⟨w5,w6⟩⟩=>(rM 64 oN [⟨⟨rQ,rR⟩,⟨w5,w6⟩⟩]).bind λgw=>(some (IntKind.i64.wrap (uK+1))).bind λdL=>some (.inl (dL,gw))else some (.inr oN))) λDH=>(some (decide ((uK:Int)<x1))).bind λx9=>(bif x9 then(some (decide ((uK:Int)<65536))).bind λcP=>some cP else some false).bind λEn=>DH En)) (0,[])).bind λkn=>some kn
end
section
open Go.Fw Go.Fw.Z Go.RowKit
theorem tL{x0:List Qr}{x1:Int}{r:Qr}(h:jC x0 x1=some r):Pure af 87 [slc 4 (List.map eQ x0),ax x1] (.agg (eQ r)):=by
 refine bj Tryz.func87 Y (ae Y) (λdm M vs hvs=>?_)
 unfold jC at h
 refine sr<|al (cs:=[ay false,au,ay false,au]) (by exact⟨aq,aA,aq,aA,ak⟩) Y<|dn<|qq<|qq ?_
 refine bC h (λj3=>AS.cq 18 [(0,.sv (slc 4 (List.map eQ x0))),(1,ah x1),(4,.ptr 4 0),(12,ai j3)] [(4,⟨36,[ai false,.sv au,ai false,.sv au]⟩)] []) (λh=>?_) (λtj h=>?_)
 refine aW<|mv Y<|lE h λx6 h6 h=>ge _ Y Y h6<|mv Y<|bE h λGp qy h=>?_
 cases x6
 obtain rfl:=O (F qy)
 exact ww<|ww<|ww<|ww<|pF Y<|dn<|⟨false,h,wR []⟩
 refine gm Y<|gm Y<|lE (V qy) λdP gA qy=>gn Y gA<|lE qy λfN kO qy=>RT.lss (.some Y Y) _ Y Y T kO ?_
 obtain rfl:=O qy
 exact pT Y<|dn<|⟨fN,h,wR []⟩
 try dsimp only
 refine aV.n ?_
 cases tj
 refine fs<|sr<|bI (cs:=[_,_,_,_]) (cs':=[ay false,au,ay false,au]) (.nil) ⟨aq,aA,aq,aA,ak⟩<|so Y Y Y<|dn<|bf ?_
 obtain rfl:=O (F h)
 exact RZ (.agg Y Y (.k4 Y Y Y Y) Y (.nil))
 refine cT<|sr<|mv Y<|mv Y ?_
 obtain⟨⟨⟨kX,kY⟩,⟨F1,F2⟩⟩,iN,h⟩:=bS (V h)
 refine ix Y Y iN<|RT.sg (cs:=[_,_,_,_]) .none Y T Y Y<|so Y Y Y<|dn<|bf<|aV.r ?_
 obtain rfl:=O h
 exact RZ (.agg Y Y (.k4 Y Y Y Y) Y (.nil))
theorem xu{x0:List Qr}{x1:List Qr}{r:Int}(h:kJ x0 x1=some r):Pure af 53 [slc 4 (List.map eQ x0),slc 4 (List.map eQ x1)] (ax r):=by
 refine bj Tryz.func53 Y (ae Y) (λdm M vs hvs=>?_)
 unfold kJ at h
 refine sr<|ag Y<|dn<|qq<|sr<|ag Y<|dn<|bE h λAW sQ mY=>?_
 refine bL (λ(Bx:Unit)=>AS.cq 29 [] [] []) (λBx=>.inl Bx=AW) ?_ (λBx sS=>?_)
 refine bh ?_
 refine bM sQ (λsF=>AS.cq 29 [(0,.sv (slc 4 (List.map eQ x0))),(1,.sv (slc 4 (List.map eQ x1))),(5,ah sF)] [] []) (wR []) (λvT Ra Rb h sV pV=>?_)
 try dsimp only
 refine qq<|qq ?_
 refine bC h (λDO=>AS.cq 29 [(0,.sv (slc 4 (List.map eQ x0))),(1,.sv (slc 4 (List.map eQ x1))),(5,ah vT),(16,ai DO)] [] []) (λh=>?_) (λvQ h=>?_)
 refine aW<|mv Y<|mv Y<|lE h λx9 h9 h=>ln Y h9<|lE h λdP gA h=>ls _ Y Y gA<|mv Y<|bE h λoO cE h=>?_
 cases dP
 refine gm Y<|gm Y<|lE (F cE) λdW jc cE=>gn Y jc<|lE cE λdL iN cE=>RT.lss (.some Y Y) _ Y Y T iN ?_
 obtain rfl:=O cE
 exact pF Y<|dn<|⟨dL,h,wR []⟩
 obtain rfl:=O (V cE)
 exact ww<|ww<|ww<|ww<|pT Y<|dn<|⟨true,h,wR []⟩
 try dsimp only
 refine aV.n ?_
 cases vQ
 refine cF<|bO<|aV.x<|aV.x<|bA.x<|aV.n ?_
 obtain rfl:=O (F h)
 exact⟨(),pV _ Y,wR []⟩
 refine cT<|bu<|aV.n<|qq<|bh<|sr<|mv Y<|mv Y ?_
 obtain⟨⟨⟨GK,GL⟩,⟨Se,Sf⟩⟩,mZ,h⟩:=bS (V h)
 refine cl (tL mZ) ⟨Y,Y,ak⟩<|mv Y<|mv Y ?_
 obtain⟨⟨⟨tu,tv⟩,⟨zh,zj⟩⟩,o5,h⟩:=bS h
 refine cl (tL o5) ⟨Y,Y,ak⟩<|bE h λkf oE h=>cl (Em oE) ⟨Y,Y,ak⟩<|ag Y<|dn<|sr<|mv Y<|lE h λiL o4 h=>ne _ Y Y (HQ (p:=kf) (q:=0) o4)<|dn ?_
 cases iL
 refine cF<|bu<|bA.n<|aV.n<|aW<|mv Y<|lE (F h) λeI jP h=>ad _ Y Y jP<|ag Y<|RT.done ?_
 obtain rfl:=O h
 exact aV.n ⟨eI,sV _ Y,wR []⟩
 refine cT<|sr<|mv Y<|ag Y<|dn<|bf<|bA.r<|aV.r ?_
 obtain rfl:=O (V h)
 have Ni:=pV _ Y
 subst Ni
 refine aV.r<|bA.r<|aV.r<|aV.r ?_
 obtain rfl:=O mY
 exact R1 Y
 subst sS
 try dsimp only
 refine aV.n<|sr<|ag Y<|dn<|bf ?_
 obtain rfl:=O mY
 exact R1 Y
theorem rC{x0:List Qr}{x1:Int}{r:List Qr}(h:eX x0 x1=some r):Pure af 47 [slc 4 (List.map eQ x0),ax x1] (slc 4 (List.map eQ r)):=by
 refine bj Tryz.func47 Y (ae Y) (λdm M vs hvs=>?_)
 unfold eX at h
 refine sr<|aI Y (aA (n:=4) (e:=eQ))<|dn<|sr<|ag Y<|dn<|bX (ic 5 304 36 4 Y Y T)<|qq<|sr<|ag Y<|dn<|bE h λAW sQ mY=>?_
 refine bL (λ(kn:(List Qr))=>AS.cq 24 [(5,.row 306)] [] [(306,TR 36 4 eQ kn)]) (λkn=>kn=AW) ?_ (λkn sS=>?_)
 refine bh ?_
 refine bM sQ (λsF=>AS.cq 24 [(0,.sv (slc 4 (List.map eQ x0))),(1,ah x1),(5,.row 306),(6,ah sF.1)] [] [(306,TR 36 4 eQ sF.2)]) (c6 (λi=>bif Nat.beq i 306 then 304 else i) Y Y Y Y Y ⟨.sv aq,.sv aq,.row Y,.sv aq,ak⟩ trivial ⟨⟨_,Y,cH.refl _⟩,ak⟩ (λi hi=>by rw[cz (show i≠306 by omega)];rfl)) (λsF Ra Rb h sV pV=>?_)
 obtain⟨uK,oN⟩:=sF
 try dsimp only
 refine qq<|qq ?_
 refine bC h (λDO=>AS.cq 24 [(0,.sv (slc 4 (List.map eQ x0))),(1,ah x1),(5,.row 306),(6,ah uK),(13,ai DO)] [] [(306,TR 36 4 eQ oN)]) (λh=>?_) (λBw h=>?_)
 refine aW<|mv Y<|mv Y<|lE h λx9 h9 h=>ls _ Y Y h9<|mv Y<|bE h λEn cE h=>?_
 cases x9
 obtain rfl:=O (F cE)
 exact ww<|ww<|pF Y<|dn<|⟨false,h,wR []⟩
 refine gm Y<|lE (V cE) λcP fz cE=>RT.lss (.some Y Y) _ Y Y T fz ?_
 obtain rfl:=O cE
 exact pT Y<|dn<|⟨cP,h,wR []⟩
 try dsimp only
 refine aV.n ?_
 cases Bw
 refine cF<|bO<|aV.x<|aV.x<|bA.x<|aV.n ?_
 obtain rfl:=O (F h)
 exact⟨oN,pV _ Y,wR []⟩
 refine cT<|bu<|aV.n<|qq<|bh<|aW<|mo (s:=.row _) Y<|mv Y<|mv Y ?_
 obtain⟨⟨⟨gx,gy⟩,⟨l8,l9⟩⟩,lX,h⟩:=bS (V h)
 refine cl (tL lX) ⟨Y,Y,ak⟩ ?_
 obtain⟨⟨⟨rQ,rR⟩,⟨w5,w6⟩⟩,qw,h⟩:=bS h
 refine cl (tK qw) ⟨Y,ak⟩<|bl (l:=[⟨⟨rQ,rR⟩,⟨w5,w6⟩⟩]) (e:=eQ) (.agg Y (.nil)) Y Y Y Y Y Y<|bE h λgw lY h=>aR (k:=[⟨⟨rQ,rR⟩,⟨w5,w6⟩⟩]) (e:=eQ) Y Y Y lY<|an (s:=.row _) Y<|RT.done<|bA.n<|aV.n<|aW<|mv Y<|lE h λdL iN h=>ad _ Y Y iN<|ag Y<|RT.done ?_
 obtain rfl:=O h
 exact aV.n ⟨(dL,gw),sV _ Y,c6 (λi=>bif Nat.beq i 306 then 22 else i) Y Y Y Y Y ⟨.sv aq,.sv aq,.row Y,.sv aq,ak⟩ trivial ⟨⟨_,Y,cH.refl _⟩,ak⟩ (λi hi=>by rw[cz (show i≠306 by omega)];rfl)⟩
 subst sS
 try dsimp only
 refine aV.n<|sr<|mo (s:=.row _) Y<|an (s:=.row _) Y<|dn<|bX (dR (i:=306) (E1:=36) (n:=4) (e:=eQ) (l:=kn) Y)<|bf ?_
 obtain rfl:=O mY
 exact R1 Y
end
section
open Go.Fw
noncomputable def lH(x0:List (List Qr)):Option (Int):=(b9 (λ(s6:Int×Int)=>match s6 with|⟨m6,nc⟩=>(show Option ((Int×Int)⊕(Int))from(some (x0.length:Int)).bind λx7=>(some (decide ((nc:Int)<x7))).bind λx8=>(bif x8 then(cQ x0 nc).bind λdW=>(some (dW.length:Int)).bind λfy=>(some (max (m6:Int) fy)).bind λdS=>(some (IntKind.i64.wrap (nc+1))).bind λdP=>some (.inl (dS,dP))else some (.inr m6)))) (0,0)).bind λqB=>some qB
noncomputable def kK(x0:List (List Qr))(x1:Int):Option (List Qr):=(some (x0.length:Int)).bind λx7=>(some (decide ((x1:Int)<x7))).bind λx8=>(bif x8 then(cQ x0 x1).bind λfN=>some fN else some [])
noncomputable def jJ(x0:List (List Qr))(x1:List (List Qr)):Option (Bool):=(b9 (λ(vT:Int)=>(show Option ((Int)⊕((Unit)⊕(Bool)))from cm (λ(vP:Bool)=>(bif vP then(kK x0 vT).bind λke=>(kK x1 vT).bind λiQ=>(kJ ke iQ).bind λgV=>(some (decide ((gV:Int)≠0))).bind λkf=>(bif kf then some (.inr (.inr false))else(some (IntKind.i64.wrap (vT+1))).bind λdS=>some (.inl dS))else some (.inr (.inl ())))) λDH=>(some (x0.length:Int)).bind λx8=>(some (decide ((vT:Int)<x8))).bind λx9=>(bif x9 then some true else(some (x1.length:Int)).bind λja=>(some (decide ((vT:Int)<ja))).bind λdW=>some dW).bind λBq=>DH Bq)) 0).bind λAW=>match AW with|.inr v10=>some v10|.inl _=>some true
noncomputable def kL(x0:Lr):Option (Lr):=match x0 with|⟨bp,bn,bD,bF⟩=>(b9 (λ(s6:Int×(List (List Qr)))=>match s6 with|⟨nc,lC⟩=>(show Option ((Int×(List (List Qr)))⊕((List (List Qr))))from(some (bn.length:Int)).bind λcP=>(some (decide ((nc:Int)<cP))).bind λja=>(bif ja then(cQ bn nc).bind λgO=>(cQ bn nc).bind λiS=>(some (iS.length:Int)).bind λnR=>(eX gO nR).bind λir=>(rM 24 lC [ir]).bind λoh=>(some (IntKind.i64.wrap (nc+1))).bind λdL=>some (.inl (dL,oh))else some (.inr lC)))) (0,[])).bind λek=>(b9 (λ(zJ:Int×(List (List Qr)))=>match zJ with|⟨CA,Eo⟩=>(show Option ((Int×(List (List Qr)))⊕((List (List Qr))))from(some (bD.length:Int)).bind λsG=>(some (decide ((CA:Int)<sG))).bind λuX=>(bif uX then(cQ bD CA).bind λzH=>(cQ bD CA).bind λuW=>(some (uW.length:Int)).bind λyV=>(eX zH yV).bind λOu=>(rM 24 Eo [Ou]).bind λDJ=>(some (IntKind.i64.wrap (CA+1))).bind λpU=>some (.inl (pU,DJ))else some (.inr Eo)))) (0,[])).bind λrD=>(some (bF.length:Int)).bind λLh=>(eX bF Lh).bind λRU=>some ⟨bp,ek,rD,RU⟩
noncomputable def xw(x0:List Qr)(x1:Int):Option (List Qr):=(b9 (λ(sF:Int×(List Qr))=>match sF with|⟨uK,Nj⟩=>(show Option ((Int×(List Qr))⊕((List Qr)))from cm (λ(Bw:Bool)=>(bif Bw then(jC x0 uK).bind λ⟨⟨gx,gy⟩,⟨l8,l9⟩⟩=>(gR ⟨⟨gx,gy⟩,⟨l8,l9⟩⟩).bind λ⟨⟨rQ,rR⟩,⟨w5,w6⟩⟩=>(rM 64 Nj [⟨⟨rQ,rR⟩,⟨w5,w6⟩⟩]).bind λgw=>(some (IntKind.i64.wrap (uK+1))).bind λdL=>some (.inl (dL,gw))else some (.inr Nj))) λDH=>(some (decide ((uK:Int)<x1))).bind λx9=>(bif x9 then(some (decide ((uK:Int)<65536))).bind λcP=>some cP else some false).bind λEn=>DH En)) (0,[])).bind λUg=>some Ug
noncomputable def xx(x0:Lr):Option (Int×(List (List Qr))×(List (List Qr))×(List Qr)):=match x0 with|⟨bp,bn,bD,bF⟩=>(b9 (λ(s6:Int×(List (List Qr)))=>match s6 with|⟨nc,Nk⟩=>(show Option ((Int×(List (List Qr)))⊕((List (List Qr))))from(some (bn.length:Int)).bind λcP=>(some (decide ((nc:Int)<cP))).bind λja=>(bif ja then(cQ bn nc).bind λgO=>(cQ bn nc).bind λiS=>(some (iS.length:Int)).bind λnR=>(eX gO nR).bind λir=>(rM 24 Nk [ir]).bind λoh=>(some (IntKind.i64.wrap (nc+1))).bind λdL=>some (.inl (dL,oh))else some (.inr Nk)))) (0,[])).bind λUh=>(b9 (λ(zJ:Int×(List (List Qr)))=>match zJ with|⟨CA,Nl⟩=>(show Option ((Int×(List (List Qr)))⊕((List (List Qr))))from(some (bD.length:Int)).bind λsG=>(some (decide ((CA:Int)<sG))).bind λuX=>(bif uX then(cQ bD CA).bind λzH=>(cQ bD CA).bind λuW=>(some (uW.length:Int)).bind λyV=>(eX zH yV).bind λOu=>(rM 24 Nl [Ou]).bind λDJ=>(some (IntKind.i64.wrap (CA+1))).bind λpU=>some (.inl (pU,DJ))else some (.inr Nl)))) (0,[])).bind λPt=>(some (bF.length:Int)).bind λLh=>(xw bF Lh).bind λRU=>some (bp,Uh,Pt,RU)
noncomputable def jK(x0:Lr)(x1:Lr):Option (Bool):=match x0 with|⟨bp,bn,bD,bF⟩=>match x1 with|⟨bU,bR,dx,dy⟩=>cm (λ(Nm:Bool)=>(bif Nm then some false else cm (λ(Sg:Bool)=>some Sg) λWU=>(jJ bn bR).bind λxP=>(bif xP then(jJ bD dx).bind λsE=>some sE else some false).bind λNn=>(bif Nn then(kJ bF dy).bind λCn=>(some (decide ((Cn:Int)=0))).bind λDJ=>some DJ else some false).bind λUi=>WU Ui)) λVG=>(some (decide ((bp:Int)≠bU))).bind λx9=>(bif x9 then some true else(some (bn.length:Int)).bind λja=>(some (bR.length:Int)).bind λfy=>(some (decide ((ja:Int)≠fy))).bind λdS=>some dS).bind λNo=>(bif No then some true else(some (bD.length:Int)).bind λgw=>(some (dx.length:Int)).bind λkf=>(some (decide ((gw:Int)≠kf))).bind λiS=>some iS).bind λUj=>(bif Uj then some true else(some (bF.length:Int)).bind λoh=>(some (dy.length:Int)).bind λnQ=>(some (decide ((oh:Int)≠nQ))).bind λr6=>some r6).bind λUk=>VG Uk
end
section
open Go.Fw Go.Fw.Z Go.RowKit
theorem CB{x0:List (List Qr)}{r:Int}(h:lH x0=some r):Pure af 86 [slc 1 (List.map (eS 4 eQ) x0)] (ax r):=by
 refine bj Tryz.func86 Y (ae Y) (λdm M vs hvs=>?_)
 unfold lH at h
 refine sr<|ag Y<|dn<|sr<|ag Y<|dn<|qq<|sr<|ag Y<|dn<|bE h λe6 AX jX=>?_
 refine bL (λ(qB:Int)=>AS.cq 19 [(3,ah qB)] [] []) (λqB=>qB=e6) ?_ (λqB AY=>?_)
 refine bh ?_
 refine bM AX (λs6=>AS.cq 19 [(0,.sv (slc 1 (List.map (eS 4 eQ) x0))),(3,ah s6.1),(4,ah s6.2)] [] []) (wR []) (λs6 y6 G6 h AZ wU=>?_)
 obtain⟨m6,nc⟩:=s6
 try dsimp only
 refine qq<|sr<|mv Y<|mv Y<|lE h λx7 h7 h=>ln Y h7<|lE h λx8 h8 h=>ls _ Y Y h8<|dn ?_
 cases x8
 refine cF<|bO<|aV.x<|aV.x<|bA.x<|aV.n ?_
 obtain rfl:=O (F h)
 exact⟨m6,wU _ Y,wR []⟩
 refine cT<|bu<|aV.n<|qq<|bh<|aW<|mv Y<|mv Y<|mv Y<|bE (V h) λdW jc h=>ix Y Y jc<|lr Y Y<|lE h λfy jo h=>ln Y jo<|lE h λdS jb h=>RT.max .none _ Y Y T (OV (p:=m6) (q:=fy) jb)<|ag Y<|RT.done<|bA.n<|aV.n<|aW<|mv Y<|lE h λdP gA h=>ad _ Y Y gA<|ag Y<|RT.done ?_
 obtain rfl:=O h
 exact aV.n ⟨(dS,dP),AZ _ Y,wR []⟩
 subst AY
 try dsimp only
 refine aV.n<|sr<|mv Y<|ag Y<|dn<|bf ?_
 obtain rfl:=O jX
 exact R1 Y
theorem xy{x0:List (List Qr)}{x1:Int}{r:List Qr}(h:kK x0 x1=some r):Pure af 91 [slc 1 (List.map (eS 4 eQ) x0),ax x1] (slc 4 (List.map eQ r)):=by
 refine bj Tryz.func91 Y (ae Y) (λdm M vs hvs=>?_)
 unfold kK at h
 refine sr<|aI Y (aA (n:=4) (e:=eQ))<|dn<|qq<|sr<|mv Y<|mv Y<|lE h λx7 h7 h=>ln Y h7<|lE h λx8 h8 h=>ls _ Y Y h8<|dn ?_
 cases x8
 refine fs<|sr<|aI Y (aA (n:=4) (e:=eQ))<|dn<|bf ?_
 obtain rfl:=O (F h)
 exact R1 Y
 refine cT<|sr<|mv Y<|mv Y<|bE (V h) λfN kO h=>ix Y Y kO<|lr Y Y<|ag Y<|dn<|bf<|aV.r ?_
 obtain rfl:=O h
 exact R1 Y
theorem vc{x0:List (List Qr)}{x1:List (List Qr)}{r:Bool}(h:jJ x0 x1=some r):Pure af 52 [slc 1 (List.map (eS 4 eQ) x0),slc 1 (List.map (eS 4 eQ) x1)] (ay r):=by
 refine bj Tryz.func52 Y (ae Y) (λdm M vs hvs=>?_)
 unfold jJ at h
 refine sr<|ag Y<|dn<|qq<|sr<|ag Y<|dn<|bE h λAW sQ mY=>?_
 refine bL (λ(Bx:Unit)=>AS.cq 26 [] [] []) (λBx=>.inl Bx=AW) ?_ (λBx sS=>?_)
 refine bh ?_
 refine bM sQ (λsF=>AS.cq 26 [(0,.sv (slc 1 (List.map (eS 4 eQ) x0))),(1,.sv (slc 1 (List.map (eS 4 eQ) x1))),(5,ah sF)] [] []) (wR []) (λvT Ra Rb h sV pV=>?_)
 try dsimp only
 refine qq<|qq ?_
 refine bC h (λDO=>AS.cq 26 [(0,.sv (slc 1 (List.map (eS 4 eQ) x0))),(1,.sv (slc 1 (List.map (eS 4 eQ) x1))),(5,ah vT),(15,ai DO)] [] []) (λh=>?_) (λvP h=>?_)
 refine aW<|mv Y<|mv Y<|lE h λx8 h8 h=>ln Y h8<|lE h λx9 h9 h=>ls _ Y Y h9<|mv Y<|bE h λBq cE h=>?_
 cases x9
 refine gm Y<|gm Y<|lE (F cE) λja lW cE=>gn Y lW<|lE cE λdW jc cE=>RT.lss (.some Y Y) _ Y Y T jc ?_
 obtain rfl:=O cE
 exact pF Y<|dn<|⟨dW,h,wR []⟩
 obtain rfl:=O (V cE)
 exact ww<|ww<|ww<|ww<|pT Y<|dn<|⟨true,h,wR []⟩
 try dsimp only
 refine aV.n ?_
 cases vP
 refine cF<|bO<|aV.x<|aV.x<|bA.x<|aV.n ?_
 obtain rfl:=O (F h)
 exact⟨(),pV _ Y,wR []⟩
 refine cT<|bu<|aV.n<|qq<|bh<|sr<|mv Y<|mv Y<|bE (V h) λke qw h=>cl (xy qw) ⟨Y,Y,ak⟩<|mv Y<|mv Y<|bE h λiQ o6 h=>cl (xy o6) ⟨Y,Y,ak⟩<|bE h λgV o5 h=>cl (xu o5) ⟨Y,Y,ak⟩<|lE h λkf oE h=>ne _ Y Y (HQ (p:=gV) (q:=0) oE)<|dn ?_
 cases kf
 refine cF<|bu<|bA.n<|aV.n<|aW<|mv Y<|lE (F h) λdS jb h=>ad _ Y Y jb<|ag Y<|RT.done ?_
 obtain rfl:=O h
 exact aV.n ⟨dS,sV _ Y,wR []⟩
 refine cT<|sr<|ag Y<|dn<|bf<|bA.r<|aV.r ?_
 obtain rfl:=O (V h)
 have Ni:=pV _ Y
 subst Ni
 refine aV.r<|bA.r<|aV.r<|aV.r ?_
 obtain rfl:=O mY
 exact R1 Y
 subst sS
 try dsimp only
 refine aV.n<|sr<|ag Y<|dn<|bf ?_
 obtain rfl:=O mY
 exact R1 Y
set_option maxHeartbeats 4000000 in
theorem xz{x0:Lr}{r:Lr}(h:kL x0=some r):Pure af 11 [.agg (vu x0)] (.agg (vu r)):=by
 obtain⟨bp,bn,bD,bF⟩:=x0
 refine bj Tryz.func11 Y (ae Y) (λdm M vs hvs=>?_)
 unfold kL at h
 refine sr<|bx Y<|al (cs:=[ax 0,slc 1 (List.map (eS 4 eQ) []),slc 1 (List.map (eS 4 eQ) []),slc 4 (List.map eQ [])]) (by exact⟨aq,aA,aA,aA,ak⟩) Y<|dn<|sr<|fa Y Y<|lV Y Y Y<|bI (cs:=[_,_,_,_]) (cs':=[ax bp,.v (.slice none 0 0),.v (.slice none 0 0),slc 4 (List.map eQ [])]) (.one Y (.nil)) ⟨aq,aq,aq,aA,ak⟩<|al (cs:=[ax 0,.v (.slice none 0 0),.v (.slice none 0 0),slc 4 (List.map eQ [])]) (by exact⟨aq,aq,aq,aA,ak⟩) Y ?_
 refine so Y Y Y<|dn<|bX (kC 3 1 303 24 1 Y Y Y T)<|bX (kC 3 2 304 24 1 Y Y Y T)<|qq<|sr<|ag Y<|dn<|bE h λe6 AX jX=>?_
 refine bL (λ(ek:(List (List Qr)))=>AS.cq 65 [(1,.ptr 1 0),(2,.ptr 2 0),(3,.ptr 3 0)] [(3,⟨26,[ah bp,.row 306,.row 304,.sv (slc 4 (List.map eQ []))]⟩),(2,⟨26,[ah 0,.sv (slc 1 (List.map (eS 4 eQ) [])),.sv (slc 1 (List.map (eS 4 eQ) [])),.sv (slc 4 (List.map eQ []))]⟩),(1,⟨26,[ah bp,.sv (slc 1 (List.map (eS 4 eQ) bn)),.sv (slc 1 (List.map (eS 4 eQ) bD)),.sv (slc 4 (List.map eQ bF))]⟩)] [(306,TR 24 1 (eS 4 eQ) ek),(304,TR 24 1 (eS 4 eQ) [])]) (λek=>ek=e6) ?_ (λek AY=>?_)
 refine bh ?_
 refine bM AX (λs6=>AS.cq 65 [(1,.ptr 1 0),(2,.ptr 2 0),(3,.ptr 3 0),(4,ah s6.1)] [(3,⟨26,[ah bp,.row 306,.row 304,.sv (slc 4 (List.map eQ []))]⟩),(2,⟨26,[ah 0,.sv (slc 1 (List.map (eS 4 eQ) [])),.sv (slc 1 (List.map (eS 4 eQ) [])),.sv (slc 4 (List.map eQ []))]⟩),(1,⟨26,[ah bp,.sv (slc 1 (List.map (eS 4 eQ) bn)),.sv (slc 1 (List.map (eS 4 eQ) bD)),.sv (slc 4 (List.map eQ bF))]⟩)] [(306,TR 24 1 (eS 4 eQ) s6.2),(304,TR 24 1 (eS 4 eQ) [])]) (c6 (λi=>bif Nat.beq i 306 then 303 else i) Y Y Y Y Y ⟨.ptr,.ptr,.ptr,.sv aq,ak⟩ ⟨⟨_,Y,⟨.sv aq,.row Y,.row Y,.sv aq,ak⟩⟩,⟨_,Y,⟨.sv aq,.sv aq,.sv aq,.sv aq,ak⟩⟩,⟨_,Y,⟨.sv aq,.sv aq,.sv aq,.sv aq,ak⟩⟩,ak⟩ ⟨⟨_,Y,cH.refl _⟩,⟨_,Y,cH.refl _⟩,ak⟩ (λi hi=>by rw[cz (show i≠306 by omega)];rfl)) (λs6 y6 G6 h AZ wU=>?_)
 obtain⟨nc,lC⟩:=s6
 try dsimp only
 refine qq<|sr<|mv Y<|fa Y Y<|lV Y Y Y<|lE h λcP fz h=>ln Y fz<|lE h λja lW h=>ls _ Y Y lW<|dn ?_
 cases ja
 refine cF<|bO<|aV.x<|aV.x<|bA.x<|aV.n ?_
 obtain rfl:=O (F h)
 exact⟨lC,wU _ Y,wR []⟩
 refine cT<|bu<|aV.n<|qq<|bh<|aZ mixed<|fa Y Y<|RT.ku .none (s:=.row _) Y Y Y T<|fa Y Y<|lV Y Y Y<|mv Y<|bE (V h) λgO mZ h=>ix Y Y mZ<|lr Y Y<|fa Y Y<|lV Y Y Y<|mv Y<|bE h λiS pW h=>ix Y Y pW<|lr Y Y<|lE h λnR vD h=>ln Y vD<|bE h λir mI h=>cl (rC mI) ⟨Y,Y,ak⟩ ?_
 refine bl (l:=[ir]) (e:=(eS 4 eQ)) (.one Y (.nil)) Y Y Y Y Y Y<|bE h λoh yY h=>aR (k:=[ir]) (e:=(eS 4 eQ)) Y Y Y yY<|fa Y Y<|RT.qP (cells:=[_,_,_,_]) .none Y Y Y Y T Y ?_
 refine RT.done ⟨by kernel_rfl,?_⟩
 refine bA.n<|aV.n<|aW<|mv Y<|lE h λdL iN h=>ad _ Y Y iN<|ag Y<|RT.done ?_
 obtain rfl:=O h
 exact aV.n ⟨(dL,oh),AZ _ Y,c6 (λi=>bif Nat.beq i 306 then 31 else i) Y Y Y Y Y ⟨.ptr,.ptr,.ptr,.sv aq,ak⟩ ⟨⟨_,Y,⟨.sv aq,.row Y,.row Y,.sv aq,ak⟩⟩,⟨_,Y,⟨.sv aq,.sv aq,.sv aq,.sv aq,ak⟩⟩,⟨_,Y,⟨.sv aq,.sv aq,.sv aq,.sv aq,ak⟩⟩,ak⟩ ⟨⟨_,Y,cH.refl _⟩,⟨_,Y,cH.refl _⟩,ak⟩ (λi hi=>by rw[cz (show i≠306 by omega)];rfl)⟩
 subst AY
 try dsimp only
 refine aV.n<|qq<|sr<|ag Y<|dn<|bE jX λLj Ic kP=>?_
 refine bL (λ(rD:(List (List Qr)))=>AS.cq 65 [(1,.ptr 1 0),(2,.ptr 2 0),(3,.ptr 3 0)] [(3,⟨26,[ah bp,.row 306,.row 309,.sv (slc 4 (List.map eQ []))]⟩),(2,⟨26,[ah 0,.sv (slc 1 (List.map (eS 4 eQ) [])),.sv (slc 1 (List.map (eS 4 eQ) [])),.sv (slc 4 (List.map eQ []))]⟩),(1,⟨26,[ah bp,.sv (slc 1 (List.map (eS 4 eQ) bn)),.sv (slc 1 (List.map (eS 4 eQ) bD)),.sv (slc 4 (List.map eQ bF))]⟩)] [(306,TR 24 1 (eS 4 eQ) ek),(309,TR 24 1 (eS 4 eQ) rD)]) (λrD=>rD=Lj) ?_ (λrD Mr=>?_)
 refine bh ?_
 refine bM Ic (λzJ=>AS.cq 65 [(1,.ptr 1 0),(2,.ptr 2 0),(3,.ptr 3 0),(5,ah zJ.1)] [(3,⟨26,[ah bp,.row 306,.row 309,.sv (slc 4 (List.map eQ []))]⟩),(2,⟨26,[ah 0,.sv (slc 1 (List.map (eS 4 eQ) [])),.sv (slc 1 (List.map (eS 4 eQ) [])),.sv (slc 4 (List.map eQ []))]⟩),(1,⟨26,[ah bp,.sv (slc 1 (List.map (eS 4 eQ) bn)),.sv (slc 1 (List.map (eS 4 eQ) bD)),.sv (slc 4 (List.map eQ bF))]⟩)] [(306,TR 24 1 (eS 4 eQ) ek),(309,TR 24 1 (eS 4 eQ) zJ.2)]) (c6 (λi=>bif Nat.beq i 309 then 304 else i) Y Y Y Y Y ⟨.ptr,.ptr,.ptr,.sv aq,ak⟩ ⟨⟨_,Y,⟨.sv aq,.row Y,.row Y,.sv aq,ak⟩⟩,⟨_,Y,⟨.sv aq,.sv aq,.sv aq,.sv aq,ak⟩⟩,⟨_,Y,⟨.sv aq,.sv aq,.sv aq,.sv aq,ak⟩⟩,ak⟩ ⟨⟨_,Y,cH.refl _⟩,⟨_,Y,cH.refl _⟩,ak⟩ (λi hi=>by rw[cz (show i≠309 by omega)];rfl)) (λzJ y12 G12 h Ie Ig=>?_)
 obtain⟨CA,Eo⟩:=zJ
 try dsimp only
 refine qq<|sr<|mv Y<|fa Y Y<|lV Y Y Y<|lE h λsG yo h=>ln Y yo<|lE h λuX FW h=>ls _ Y Y FW<|dn ?_
 cases uX
 refine cF<|bO<|aV.x<|aV.x<|bA.x<|aV.n ?_
 obtain rfl:=O (F h)
 exact⟨Eo,Ig _ Y,wR []⟩
 refine cT<|bu<|aV.n<|qq<|bh<|aZ mixed<|fa Y Y<|RT.ku .none (s:=.row _) Y Y Y T<|fa Y Y<|lV Y Y Y<|mv Y<|bE (V h) λzH KA h=>ix Y Y KA<|lr Y Y<|fa Y Y<|lV Y Y Y<|mv Y<|bE h λuW Ib h=>ix Y Y Ib<|lr Y Y<|lE h λyV FV h=>ln Y FV<|bE h λOu W7 h=>cl (rC W7) ⟨Y,Y,ak⟩ ?_
 refine bl (l:=[Ou]) (e:=(eS 4 eQ)) (.one Y (.nil)) Y Y Y Y Y Y<|bE h λDJ Pb h=>aR (k:=[Ou]) (e:=(eS 4 eQ)) Y Y Y Pb<|fa Y Y<|RT.qP (cells:=[_,_,_,_]) .none Y Y Y Y T Y ?_
 refine RT.done ⟨by kernel_rfl,?_⟩
 refine bA.n<|aV.n<|aW<|mv Y<|lE h λpU Cp h=>ad _ Y Y Cp<|ag Y<|RT.done ?_
 obtain rfl:=O h
 exact aV.n ⟨(pU,DJ),Ie _ Y,c6 (λi=>bif Nat.beq i 309 then 55 else i) Y Y Y Y Y ⟨.ptr,.ptr,.ptr,.sv aq,ak⟩ ⟨⟨_,Y,⟨.sv aq,.row Y,.row Y,.sv aq,ak⟩⟩,⟨_,Y,⟨.sv aq,.sv aq,.sv aq,.sv aq,ak⟩⟩,⟨_,Y,⟨.sv aq,.sv aq,.sv aq,.sv aq,ak⟩⟩,ak⟩ ⟨⟨_,Y,cH.refl _⟩,⟨_,Y,cH.refl _⟩,ak⟩ (λi hi=>by rw[cz (show i≠309 by omega)];rfl)⟩
 subst Mr
 try dsimp only
 refine aV.n<|sr<|fa Y Y<|lV Y Y Y<|fa Y Y<|lV Y Y Y<|lE kP λLh W5 kP=>ln Y W5<|bE kP λRU W8 kP=>cl (rC W8) ⟨Y,Y,ak⟩<|fa Y Y<|RT.me (cells:=[_,_,_,_]) .none (s:=.sv _) Y Y Y T Y<|dn<|qq<|bX (dR (i:=306) (E1:=24) (n:=1) (e:=(eS 4 eQ)) (l:=ek) Y)<|bX (dR (i:=309) (E1:=24) (n:=1) (e:=(eS 4 eQ)) (l:=rD) Y) ?_
 refine aW<|ld Y Y (.k4 Y Y Y Y)<|so Y Y Y<|dn<|bf ?_
 obtain rfl:=O kP
 exact RZ (.agg Y Y (.k4 Y Y Y Y) Y (.nil))
theorem ve{x0:Lr}{x1:Lr}{r:Bool}(h:jK x0 x1=some r):Pure af 15 [.agg (vu x0),.agg (vu x1)] (ay r):=by
 obtain⟨bp,bn,bD,bF⟩:=x0
 obtain⟨bU,bR,dx,dy⟩:=x1
 refine bj Tryz.func15 Y (ae Y) (λdm M vs hvs=>?_)
 unfold jK at h
 refine sr<|bx Y<|bx Y<|ag Y<|dn<|qq<|qq ?_
 refine bC h (λOt=>AS.cq 57 [(2,.ptr 2 0),(3,.ptr 3 0),(36,ai Ot)] [(3,⟨26,[ah bU,.sv (slc 1 (List.map (eS 4 eQ) bR)),.sv (slc 1 (List.map (eS 4 eQ) dx)),.sv (slc 4 (List.map eQ dy))]⟩),(2,⟨26,[ah bp,.sv (slc 1 (List.map (eS 4 eQ) bn)),.sv (slc 1 (List.map (eS 4 eQ) bD)),.sv (slc 4 (List.map eQ bF))]⟩)] []) (λh=>?_) (λNm h=>?_)
 refine aW<|fa Y Y<|lV Y Y Y<|fa Y Y<|lV Y Y Y<|lE h λx9 h9 h=>ne _ Y Y (HQ (p:=bp) (q:=bU) h9)<|mv Y<|bE h λNo yA h=>?_
 cases x9
 refine RT.fieldAddr (.some Y Y) Y T Y<|RT.oz (.some Y Y) Y Y Y T<|lE (F yA) λja lW yA=>gn Y lW<|RT.fieldAddr (.some Y Y) Y T Y<|RT.oz (.some Y Y) Y Y Y T<|lE yA λfy jo yA=>gn Y jo<|lE yA λdS jb yA=>gq _ Y Y (HQ (p:=ja) (q:=fy) jb) ?_
 obtain rfl:=O yA
 refine pF Y<|mv Y<|bE h λacY Cw h=>?_
 cases dS
 refine RT.fieldAddr (.some Y Y) Y T Y<|RT.oz (.some Y Y) Y Y Y T<|lE (F Cw) λgw lY Cw=>gn Y lY<|RT.fieldAddr (.some Y Y) Y T Y<|RT.oz (.some Y Y) Y Y Y T<|lE Cw λkf oE Cw=>gn Y oE<|lE Cw λiS pW Cw=>gq _ Y Y (HQ (p:=gw) (q:=kf) pW) ?_
 obtain rfl:=O Cw
 refine pF Y<|mv Y<|bE h λacZ jA h=>?_
 cases iS
 refine RT.fieldAddr (.some Y Y) Y T Y<|RT.oz (.some Y Y) Y Y Y T<|lE (F jA) λoh yY jA=>gn Y yY<|RT.fieldAddr (.some Y Y) Y T Y<|RT.oz (.some Y Y) Y Y Y T<|lE jA λnQ sW jA=>gn Y sW<|lE jA λr6 A0 jA=>gq _ Y Y (HQ (p:=oh) (q:=nQ) A0) ?_
 obtain rfl:=O jA
 exact pF Y<|dn<|⟨r6,h,wR []⟩
 obtain rfl:=O (V jA)
 exact ww<|ww<|ww<|ww<|ww<|ww<|ww<|pT Y<|dn<|⟨true,h,wR []⟩
 obtain rfl:=O (V Cw)
 refine ww<|ww<|ww<|ww<|ww<|ww<|ww<|pT Y<|mv Y<|bE h λac0 n8 h=>?_
 obtain rfl:=O (V n8)
 exact ww<|ww<|ww<|ww<|ww<|ww<|ww<|pT Y<|dn<|⟨true,h,wR []⟩
 obtain rfl:=O (V yA)
 refine ww<|ww<|ww<|ww<|ww<|ww<|ww<|pT Y<|mv Y<|bE h λac1 IG h=>?_
 obtain rfl:=O (V IG)
 refine ww<|ww<|ww<|ww<|ww<|ww<|ww<|pT Y<|mv Y<|bE h λac2 ac3 h=>?_
 obtain rfl:=O (V ac3)
 exact ww<|ww<|ww<|ww<|ww<|ww<|ww<|pT Y<|dn<|⟨true,h,wR []⟩
 try dsimp only
 refine aV.n ?_
 cases Nm
 refine fs<|qq ?_
 refine bC (F h) (λXe=>AS.cq 57 [(4,ai Xe)] [] []) (λh=>?_) (λSg h=>?_)
 refine aW<|fa Y Y<|lV Y Y Y<|fa Y Y<|lV Y Y Y<|bE h λxP Ia h=>cl (vc Ia) ⟨Y,Y,ak⟩<|mv Y<|bE h λNn pY h=>?_
 cases xP
 obtain rfl:=O (F pY)
 refine ww<|ww<|ww<|ww<|ww<|pF Y<|mv Y<|bE h λac4 KJ h=>?_
 obtain rfl:=O (F KJ)
 exact ww<|ww<|ww<|ww<|ww<|ww<|pF Y<|ag Y<|dn<|⟨false,h,wR []⟩
 refine RT.fieldAddr (.some Y Y) Y T Y<|RT.oz (.some Y Y) Y Y Y T<|RT.fieldAddr (.some Y Y) Y T Y<|RT.oz (.some Y Y) Y Y Y T<|bE (V pY) λsE zK pY=>gc (vc zK) ⟨Y,Y,ak⟩ ?_
 obtain rfl:=O pY
 refine pT Y<|mv Y<|bE h λac5 rY h=>?_
 cases sE
 obtain rfl:=O (F rY)
 exact ww<|ww<|ww<|ww<|ww<|ww<|pF Y<|ag Y<|dn<|⟨false,h,wR []⟩
 refine RT.fieldAddr (.some Y Y) Y T Y<|RT.oz (.some Y Y) Y Y Y T<|RT.fieldAddr (.some Y Y) Y T Y<|RT.oz (.some Y Y) Y Y Y T<|bE (V rY) λCn HB rY=>gc (xu HB) ⟨Y,Y,ak⟩<|lE rY λDJ Pb rY=>Tc _ Y Y (zF (p:=Cn) (q:=0) Pb) ?_
 obtain rfl:=O rY
 exact pT Y<|ag Y<|dn<|⟨DJ,h,wR []⟩
 try dsimp only
 refine aV.n<|bf ?_
 obtain rfl:=O h
 exact R1 Y
 refine cT<|sr<|ag Y<|dn<|bf<|aV.r ?_
 obtain rfl:=O (V h)
 exact R1 Y
end
section
open Go.Fw
noncomputable def lI(x0:List Zr):Option (Bool):=(b9 (λ(m6:Int)=>(show Option ((Int)⊕((Unit)⊕(Bool)))from(some (x0.length:Int)).bind λx6=>(some (decide ((m6:Int)<x6))).bind λx7=>(bif x7 then(cQ x0 m6).bind λ⟨jq,iZ⟩=>(some (iZ.length:Int)).bind λdL=>(some (decide ((12:Int)<dL))).bind λfy=>(bif fy then some (.inr (.inr true))else(some (IntKind.i64.wrap (m6+1))).bind λx9=>some (.inl x9))else some (.inr (.inl ()))))) 0).bind λe6=>match e6 with|.inr v6=>some v6|.inl _=>some false
end
section
open Go.Fw Go.Fw.Z Go.RowKit
theorem CC{x0:List Zr}{r:Bool}(h:lI x0=some r):Pure af 68 [slc 2 (List.map eZ x0)] (ay r):=by
 refine bj Tryz.func68 Y (ae Y) (λdm M vs hvs=>?_)
 unfold lI at h
 refine sr<|ag Y<|dn<|qq<|sr<|ag Y<|dn<|bE h λe6 AX jX=>?_
 refine bL (λ(H9:Unit)=>AS.cq 17 [] [] []) (λH9=>.inl H9=e6) ?_ (λH9 AY=>?_)
 refine bh ?_
 refine bM AX (λs6=>AS.cq 17 [(0,.sv (slc 2 (List.map eZ x0))),(3,ah s6)] [] []) (wR []) (λm6 y6 G6 h AZ wU=>?_)
 try dsimp only
 refine qq<|sr<|mv Y<|mv Y<|lE h λx6 h6 h=>ln Y h6<|lE h λx7 h7 h=>ls _ Y Y h7<|dn ?_
 cases x7
 refine cF<|bO<|aV.x<|aV.x<|bA.x<|aV.n ?_
 obtain rfl:=O (F h)
 exact⟨(),wU _ Y,wR []⟩
 refine cT<|bu<|aV.n<|qq<|bh<|sr<|mv Y<|mv Y ?_
 obtain⟨⟨jq,iZ⟩,fz,h⟩:=bS (V h)
 refine ix Y Y fz<|RT.fV .none Y T Y<|lr Y Y<|lE h λdL iN h=>ln Y iN<|lE h λfy jo h=>gt _ Y Y jo<|dn ?_
 cases fy
 refine cF<|bu<|bA.n<|aV.n<|aW<|mv Y<|lE (F h) λx9 h9 h=>ad _ Y Y h9<|ag Y<|RT.done ?_
 obtain rfl:=O h
 exact aV.n ⟨x9,AZ _ Y,wR []⟩
 refine cT<|sr<|ag Y<|dn<|bf<|bA.r<|aV.r ?_
 obtain rfl:=O (V h)
 have Mq:=wU _ Y
 subst Mq
 refine aV.r<|bA.r<|aV.r<|aV.r ?_
 obtain rfl:=O jX
 exact R1 Y
 subst AY
 try dsimp only
 refine aV.n<|sr<|ag Y<|dn<|bf ?_
 obtain rfl:=O jX
 exact R1 Y
end
section
open Go.Fw
noncomputable def lJ(x0:List Qr):Option (Bool):=(b9 (λ(uM:Int)=>(show Option ((Int)⊕((Unit)⊕(Bool)))from(some (x0.length:Int)).bind λx6=>(some (decide ((uM:Int)<x6))).bind λx7=>(bif x7 then cm (λ(II:Bool)=>(bif II then some (.inr (.inr true))else(some (IntKind.i64.wrap (uM+1))).bind λx9=>some (.inl x9))) λXz=>(cQ x0 uM).bind λ⟨⟨jq,iZ⟩,⟨XG,XH⟩⟩=>(cQ x0 uM).bind λ⟨⟨kZ,k7⟩,⟨rS,rT⟩⟩=>(lI [⟨jq,iZ⟩,⟨rS,rT⟩]).bind λgO=>(bif gO then some true else(cQ x0 uM).bind λ⟨⟨sJ,rO⟩,⟨Jz,JA⟩⟩=>(some (rO.length:Int)).bind λir=>(some (decide ((6:Int)<ir))).bind λye=>some ye).bind λNp=>(bif Np then some true else(cQ x0 uM).bind λ⟨⟨XI,XJ⟩,⟨XK,Sh⟩⟩=>(some (Sh.length:Int)).bind λpU=>(some (decide ((6:Int)<pU))).bind λnY=>some nY).bind λUl=>Xz Ul else some (.inr (.inl ()))))) 0).bind λNg=>match Ng with|.inr gu=>some gu|.inl _=>some false
end
section
open Go.Fw Go.Fw.Z Go.RowKit
theorem CD{x0:List Qr}{r:Bool}(h:lJ x0=some r):Pure af 24 [slc 4 (List.map eQ x0)] (ay r):=by
 refine bj Tryz.func24 Y (ae Y) (λdm M vs hvs=>?_)
 unfold lJ at h
 refine sr<|ag Y<|dn<|qq<|sr<|ag Y<|dn<|bE h λNg Ea yB=>?_
 refine bL (λ(IJ:Unit)=>AS.cq 42 [] [] []) (λIJ=>.inl IJ=Ng) ?_ (λIJ Bu=>?_)
 refine bh ?_
 refine bM Ea (λEZ=>AS.cq 42 [(0,.sv (slc 4 (List.map eQ x0))),(3,ah EZ)] [] []) (wR []) (λuM y16 G16 h IF Eb=>?_)
 try dsimp only
 refine qq<|sr<|mv Y<|mv Y<|lE h λx6 h6 h=>ln Y h6<|lE h λx7 h7 h=>ls _ Y Y h7<|dn ?_
 cases x7
 refine cF<|bO<|aV.x<|aV.x<|bA.x<|aV.n ?_
 obtain rfl:=O (F h)
 exact⟨(),Eb _ Y,wR []⟩
 refine cT<|bu<|aV.n<|qq<|bh<|qq ?_
 refine bC (V h) (λXD=>AS.cq 42 [(0,.sv (slc 4 (List.map eQ x0))),(3,ah uM),(41,ai XD)] [] []) (λh=>?_) (λII h=>?_)
 refine aZ mixed<|mv Y<|mv Y ?_
 obtain⟨⟨⟨jq,iZ⟩,⟨XG,XH⟩⟩,fz,h⟩:=bS h
 refine ix Y Y fz<|RT.fV .none Y T Y<|RT.sg (cs:=[_,_]) .none Y T Y Y<|mv Y<|mv Y ?_
 obtain⟨⟨⟨kZ,k7⟩,⟨rS,rT⟩⟩,jb,h⟩:=bS h
 refine ix Y Y jb<|RT.fV .none Y T Y<|RT.sg (cs:=[_,_]) .none Y T Y Y<|bl (l:=[⟨jq,iZ⟩,⟨rS,rT⟩]) (e:=eZ) (.agg Y (.agg Y (.nil))) Y Y Y Y Y Y<|bE h λgO mZ h=>cl (CC mZ) ⟨Y,ak⟩<|mv Y<|bE h λNp jA h=>?_
 cases gO
 refine gm Y<|gm Y ?_
 obtain⟨⟨⟨sJ,rO⟩,⟨Jz,JA⟩⟩,oE,jA⟩:=bS (F jA)
 refine RT.QT (.some Y Y) Y Y T oE<|RT.fV (.some Y Y) Y T Y<|RT.fV (.some Y Y) Y T Y<|gr Y Y<|lE jA λir mI jA=>gn Y mI<|lE jA λye Co jA=>gg _ Y Y Co ?_
 obtain rfl:=O jA
 refine pF Y<|mv Y<|bE h λac6 n8 h=>?_
 cases ye
 refine gm Y<|gm Y ?_
 obtain⟨⟨⟨XI,XJ⟩,⟨XK,Sh⟩⟩,A0,n8⟩:=bS (F n8)
 refine RT.QT (.some Y Y) Y Y T A0<|RT.fV (.some Y Y) Y T Y<|RT.fV (.some Y Y) Y T Y<|gr Y Y<|lE n8 λpU Cp n8=>gn Y Cp<|lE n8 λnY u0 n8=>gg _ Y Y u0 ?_
 obtain rfl:=O n8
 refine pF Y ?_
 refine RT.done ⟨by kernel_rfl,?_⟩
 exact aV.n<|⟨nY,h,wR []⟩
 obtain rfl:=O (V n8)
 refine ww<|ww<|ww<|ww<|ww<|ww<|ww<|ww<|pT Y ?_
 refine RT.done ⟨by kernel_rfl,?_⟩
 exact aV.n<|⟨true,h,wR []⟩
 obtain rfl:=O (V jA)
 refine ww<|ww<|ww<|ww<|ww<|ww<|ww<|ww<|pT Y<|mv Y<|bE h λac7 IG h=>?_
 obtain rfl:=O (V IG)
 refine ww<|ww<|ww<|ww<|ww<|ww<|ww<|ww<|pT Y ?_
 refine RT.done ⟨by kernel_rfl,?_⟩
 exact aV.n<|⟨true,h,wR []⟩
 try dsimp only
 refine aV.n ?_
 cases II
 refine cF<|bu<|bA.n<|aV.n<|aW<|mv Y<|lE (F h) λx9 h9 h=>ad _ Y Y h9<|ag Y<|RT.done ?_
 obtain rfl:=O h
 exact aV.n ⟨x9,IF _ Y,wR []⟩
 refine cT<|sr<|ag Y<|dn<|bf<|bA.r<|aV.r ?_
 obtain rfl:=O (V h)
 have Um:=Eb _ Y
 subst Um
 refine aV.r<|bA.r<|aV.r<|aV.r ?_
 obtain rfl:=O yB
 exact R1 Y
 subst Bu
 try dsimp only
 refine aV.n<|sr<|ag Y<|dn<|bf ?_
 obtain rfl:=O yB
 exact R1 Y
end
end Go.Proofs.YtfoldppidpmchaaGreat
