/- A part of the proof: the framework, the plain functions, the followed functions, the plain laws. -/
import Derived.Test.YtningmnklfpfjaaGreatPTK2
set_option linter.unusedVariables false
set_option linter.unusedSimpArgs false
namespace Go.Proofs.YtningmnklfpfjaaGreat
section
open Go.Fw Go.Fw.Z Go.RowKit
theorem yy{x0:Int}(N:Nat){r:Qr}(h:dU x0=some r):dB af 41 N [ax x0] (.agg ((fQ N) r)):=by
 refine bX Tryz.func41 Y (ae Y) (λdA M vs hN hvs=>?_);unfold dU at h;refine sr<|al (cs:=[ay false,nw N au,ay false,nw N au]) (by exact⟨aq,bw,aq,bw,ak⟩) Y<|dn<|sr<|mv Y ?_;obtain⟨⟨C5,C6⟩,h4,h⟩:=bS h;refine RT.cf .none (gA N h4) hN Y ⟨Y,ak⟩ T<|bI (cs:=[_,_,_,_]) (cs':=[ay C5,nw N (aM 1 bk C6),ay false,nw N au]) (.agg Y (.nil)) ⟨aq,aq,aq,bw,ak⟩<|so Y Y Y<|dn<|bj ?_;cases O h;exact RZ (.agg Y Y (.k4 Y Y Y Y) Y (.nil))
theorem nP{x0:Int}{r:Qr}(h:dU x0=some r):Pure af 41 [ax x0] (.agg (eQ r)):=dK (λN=>yy N h) (λN=>(SV.eA (qI _ _)))
theorem jt{x0:Qr}(N:Nat){r:Qr}(h:dV x0=some r):dB af 93 N [.agg (eQ x0)] (.agg ((fQ N) r)):=by
 obtain⟨⟨bt,bu⟩,⟨bD,bG⟩⟩:=x0;refine bX Tryz.func93 Y (ae Y) (λdA M vs hN hvs=>?_);unfold dV at h;refine sr<|bx Y<|al (cs:=[ay false,nw N au,ay false,nw N au]) (by exact⟨aq,bw,aq,bw,ak⟩) Y<|dn<|qq<|sr<|ld Y Y (.k4 Y Y Y Y) ?_;obtain⟨⟨WS,x8b,x8c⟩,h8,h⟩:=bS h;refine cl (iU h8) ⟨Y,ak⟩<|mv Y<|ex Y Y<|ex Y Y<|ex Y Y<|ag Y<|ag Y<|ag Y<|dn<|sr<|mv Y<|dn ?_;cases x8c;refine fs<|sr<|ld Y Y (.k4 Y Y Y Y) ?_;obtain⟨⟨⟨Yh,Yi⟩,⟨Yj,Yk⟩⟩,jE,h⟩:=bS (F h);refine cl (gb jE) ⟨Y,ak⟩<|ex Y Y<|ex Y Y ?_;obtain⟨⟨⟨Dj,Dk⟩,⟨JE,JF⟩⟩,pA,h⟩:=bS h;refine RT.cf .none (ou N pA) hN Y ⟨Y,Y,ak⟩ T<|so Y Y Y<|dn<|bj ?_;cases O h;exact RZ (.agg Y Y (.k4 Y Y Y Y) Y (.nil));refine cT<|sr<|mv Y<|mv Y ?_;obtain⟨⟨⟨kf,kg⟩,⟨yw,yx⟩⟩,gQ,h⟩:=bS (V h);refine RT.cf .none (pL N gQ) hN Y ⟨Y,Y,ak⟩ T<|so Y Y Y<|dn<|bj<|aY.r ?_;cases O h;exact RZ (.agg Y Y (.k4 Y Y Y Y) Y (.nil))
theorem EY{x0:Qr}{r:Qr}(h:dV x0=some r):Pure af 93 [.agg (eQ x0)] (.agg (eQ r)):=dK (λN=>jt N h) (λN=>(SV.eA (qI _ _)))
theorem rQ{x0:Qr}{r:Int}(h:kT x0=some r):Pure af 59 [.agg (eQ x0)] (ax r):=by
 obtain⟨⟨bt,bu⟩,⟨bD,bG⟩⟩:=x0;refine bp Tryz.func59 Y (ae Y) (λdA M vs hvs=>?_);unfold kT at h;refine sr<|bx Y<|ag Y<|dn<|qq<|sr<|fa Y Y<|ld Y Y (.k2 Y Y)<|bE h λx5 h5 h=>cl (iP h5) ⟨Y,ak⟩<|lE h λx6 h6 h=>ls _ Y Y h6<|dn ?_;cases x6;refine fs<|sr<|fa Y Y<|ld Y Y (.k2 Y Y)<|bE (F h) λeP jg h=>cl (iP jg) ⟨Y,ak⟩<|ag Y<|dn<|bj ?_;cases O h;exact R1 Y;refine cT<|sr<|fa Y Y<|ld Y Y (.k2 Y Y)<|bE (V h) λx9 h9 h=>cl (iP h9) ⟨Y,ak⟩<|lE h λdN gL h=>RT.neg .none _ Y T gL<|ag Y<|dn<|bj<|aY.r ?_;cases O h;exact R1 Y
theorem P3{x0:Qr}{x1:Qr}(N:Nat){r:Qr}(h:xm x0 x1=some r):dB af 132 N [.agg (eQ x0),.agg (eQ x1)] (.agg ((fQ N) r)):=by
 obtain⟨⟨bt,bu⟩,⟨bD,bG⟩⟩:=x0;obtain⟨⟨cG,cC⟩,⟨eW,eX⟩⟩:=x1;refine bX Tryz.func132 Y (ae Y) (λdA M vs hN hvs=>?_);unfold xm at h;refine sr<|bx Y<|bx Y<|al (cs:=[ay false,nw N au,ay false,nw N au]) (by exact⟨aq,bw,aq,bw,ak⟩) Y<|dn<|sr<|ld Y Y (.k4 Y Y Y Y) ?_;obtain⟨⟨JG,Gv,JH⟩,jg,h⟩:=bS h;refine cl (iU jg) ⟨Y,ak⟩<|mv Y<|ex Y Y<|ex Y Y<|ex Y Y<|ag Y<|ag Y<|ag Y<|dn<|sr<|ld Y Y (.k4 Y Y Y Y) ?_;obtain⟨⟨JI,Gw,JJ⟩,nq,h⟩:=bS h;refine cl (iU nq) ⟨Y,ak⟩<|mv Y<|ex Y Y<|ex Y Y<|ex Y Y<|ag Y<|ag Y<|ag Y<|dn<|qq<|qq<|bU h (λj3=>AS.cz 41 [(2,.ptr 2 0),(3,.ptr 3 0),(4,.ptr 4 0),(5,ah JG),(6,ah Gv),(8,ah JI),(9,ah Gw),(26,ai j3)] [(4,⟨43,[ai false,.sv (nw N au),ai false,.sv (nw N au)]⟩),(3,⟨43,[ai cG,.sv (aM 1 bk cC),ai eW,.sv (aM 1 bk eX)]⟩),(2,⟨43,[ai bt,.sv (aM 1 bk bu),ai bD,.sv (aM 1 bk bG)]⟩)] []) (λh=>?_) (λBW h=>?_);refine aZ<|mv Y<|mv Y<|bE h λHs sM h=>?_;cases JH;cases O (F sM);exact ww<|pF Y<|dn<|⟨false,h,wR []⟩;refine gm Y ?_;cases O (V sM);exact pT Y<|dn<|⟨JJ,h,wR []⟩;refine aY.n ?_;cases BW;refine fs<|sr<|ld Y Y (.k4 Y Y Y Y)<|ld Y Y (.k4 Y Y Y Y) ?_;obtain⟨⟨⟨wc,we⟩,⟨zJ,zK⟩⟩,vH,h⟩:=bS (F h);refine RT.cf .none (H7 N vH) hN Y ⟨Y,Y,Y,ak⟩ T<|so Y Y Y<|dn<|bj ?_;cases O h;exact RZ (.agg Y Y (.k4 Y Y Y Y) Y (.nil));refine cT<|sr<|mv Y<|mv Y<|lE (V h) λjd nW h=>RT.mul .none _ Y Y T nW<|mv Y<|mv Y<|lE h λkN sL h=>RT.mul .none _ Y Y T sL<|lE h λpz yc h=>ad _ Y Y yc<|mv Y<|mv Y<|lE h λmF vJ h=>RT.mul .none _ Y Y T vJ ?_;obtain⟨⟨⟨PZ,P0⟩,⟨P1,P2⟩⟩,BS,h⟩:=bS h;refine RT.cf .none (pL N BS) hN Y ⟨Y,Y,ak⟩ T<|so Y Y Y<|dn<|bj<|aY.r ?_;cases O h;exact RZ (.agg Y Y (.k4 Y Y Y Y) Y (.nil))
theorem P4{x0:Qr}{x1:Qr}(N:Nat){r:Qr}(h:xn x0 x1=some r):dB af 94 N [.agg (eQ x0),.agg (eQ x1)] (.agg ((fQ N) r)):=by
 obtain⟨⟨bt,bu⟩,⟨bD,bG⟩⟩:=x0;obtain⟨⟨cG,cC⟩,⟨eW,eX⟩⟩:=x1;refine bX Tryz.func94 Y (ae Y) (λdA M vs hN hvs=>?_);unfold xn at h;refine sr<|bx Y<|bx Y<|al (cs:=[ay false,nw N au,ay false,nw N au]) (by exact⟨aq,bw,aq,bw,ak⟩) Y<|dn<|sr<|ld Y Y (.k4 Y Y Y Y) ?_;obtain⟨⟨JG,Gv,JH⟩,jg,h⟩:=bS h;refine cl (iU jg) ⟨Y,ak⟩<|mv Y<|ex Y Y<|ex Y Y<|ex Y Y<|ag Y<|ag Y<|ag Y<|dn<|sr<|ld Y Y (.k4 Y Y Y Y) ?_;obtain⟨⟨JI,Gw,JJ⟩,nq,h⟩:=bS h;refine cl (iU nq) ⟨Y,ak⟩<|mv Y<|ex Y Y<|ex Y Y<|ex Y Y<|ag Y<|ag Y<|ag Y<|dn<|qq<|qq<|bU h (λj3=>AS.cz 41 [(2,.ptr 2 0),(3,.ptr 3 0),(4,.ptr 4 0),(5,ah JG),(6,ah Gv),(8,ah JI),(9,ah Gw),(26,ai j3)] [(4,⟨43,[ai false,.sv (nw N au),ai false,.sv (nw N au)]⟩),(3,⟨43,[ai cG,.sv (aM 1 bk cC),ai eW,.sv (aM 1 bk eX)]⟩),(2,⟨43,[ai bt,.sv (aM 1 bk bu),ai bD,.sv (aM 1 bk bG)]⟩)] []) (λh=>?_) (λBW h=>?_);refine aZ<|mv Y<|mv Y<|bE h λHs sM h=>?_;cases JH;cases O (F sM);exact ww<|pF Y<|dn<|⟨false,h,wR []⟩;refine gm Y ?_;cases O (V sM);exact pT Y<|dn<|⟨JJ,h,wR []⟩;refine aY.n ?_;cases BW;refine fs<|sr<|ld Y Y (.k4 Y Y Y Y)<|ld Y Y (.k4 Y Y Y Y) ?_;obtain⟨⟨⟨wc,we⟩,⟨zJ,zK⟩⟩,vH,h⟩:=bS (F h);refine RT.cf .none (H8 N vH) hN Y ⟨Y,Y,Y,ak⟩ T<|so Y Y Y<|dn<|bj ?_;cases O h;exact RZ (.agg Y Y (.k4 Y Y Y Y) Y (.nil));refine cT<|sr<|mv Y<|mv Y<|lE (V h) λjd nW h=>RT.mul .none _ Y Y T nW<|mv Y<|mv Y<|lE h λkN sL h=>RT.mul .none _ Y Y T sL<|lE h λpz yc h=>sb _ Y Y yc<|mv Y<|mv Y<|lE h λmF vJ h=>RT.mul .none _ Y Y T vJ ?_;obtain⟨⟨⟨PZ,P0⟩,⟨P1,P2⟩⟩,BS,h⟩:=bS h;refine RT.cf .none (pL N BS) hN Y ⟨Y,Y,ak⟩ T<|so Y Y Y<|dn<|bj<|aY.r ?_;cases O h;exact RZ (.agg Y Y (.k4 Y Y Y Y) Y (.nil))
theorem Ht{x0:Qr}{x1:Qr}(N:Nat){r:Qr}(h:tK x0 x1=some r):dB af 89 N [.agg (eQ x0),.agg (eQ x1)] (.agg ((fQ N) r)):=by
 obtain⟨⟨bt,bu⟩,⟨bD,bG⟩⟩:=x0;obtain⟨⟨cG,cC⟩,⟨eW,eX⟩⟩:=x1;refine bX Tryz.func89 Y (ae Y) (λdA M vs hN hvs=>?_);unfold tK at h;refine sr<|bx Y<|bx Y<|al (cs:=[ay false,nw N au,ay false,nw N au]) (by exact⟨aq,bw,aq,bw,ak⟩) Y<|dn<|sr<|ld Y Y (.k4 Y Y Y Y) ?_;obtain⟨⟨JG,Gv,JH⟩,jg,h⟩:=bS h;refine cl (iU jg) ⟨Y,ak⟩<|mv Y<|ex Y Y<|ex Y Y<|ex Y Y<|ag Y<|ag Y<|ag Y<|dn<|sr<|ld Y Y (.k4 Y Y Y Y) ?_;obtain⟨⟨JI,Gw,JJ⟩,nq,h⟩:=bS h;refine cl (iU nq) ⟨Y,ak⟩<|mv Y<|ex Y Y<|ex Y Y<|ex Y Y<|ag Y<|ag Y<|ag Y<|dn<|qq<|qq<|bU h (λj3=>AS.cz 37 [(2,.ptr 2 0),(3,.ptr 3 0),(4,.ptr 4 0),(5,ah JG),(6,ah Gv),(8,ah JI),(9,ah Gw),(26,ai j3)] [(4,⟨43,[ai false,.sv (nw N au),ai false,.sv (nw N au)]⟩),(3,⟨43,[ai cG,.sv (aM 1 bk cC),ai eW,.sv (aM 1 bk eX)]⟩),(2,⟨43,[ai bt,.sv (aM 1 bk bu),ai bD,.sv (aM 1 bk bG)]⟩)] []) (λh=>?_) (λBW h=>?_);refine aZ<|mv Y<|mv Y<|bE h λHs sM h=>?_;cases JH;cases O (F sM);exact ww<|pF Y<|dn<|⟨false,h,wR []⟩;refine gm Y ?_;cases O (V sM);exact pT Y<|dn<|⟨JJ,h,wR []⟩;refine aY.n ?_;cases BW;refine fs<|sr<|ld Y Y (.k4 Y Y Y Y)<|ld Y Y (.k4 Y Y Y Y) ?_;obtain⟨⟨⟨Hq,Hr⟩,⟨aea,aeb⟩⟩,vJ,h⟩:=bS (F h);refine RT.cf .none (H9 N vJ) hN Y ⟨Y,Y,Y,ak⟩ T<|so Y Y Y<|dn<|bj ?_;cases O h;exact RZ (.agg Y Y (.k4 Y Y Y Y) Y (.nil));refine cT<|sr<|mv Y<|mv Y<|lE (V h) λjd nW h=>RT.mul .none _ Y Y T nW<|mv Y<|mv Y<|lE h λkN sL h=>RT.mul .none _ Y Y T sL ?_;obtain⟨⟨⟨Dl,Dm⟩,⟨JK,JM⟩⟩,yc,h⟩:=bS h;refine RT.cf .none (pL N yc) hN Y ⟨Y,Y,ak⟩ T<|so Y Y Y<|dn<|bj<|aY.r ?_;cases O h;exact RZ (.agg Y Y (.k4 Y Y Y Y) Y (.nil))
theorem P5{x0:Qr}{x1:Qr}{r:Qr×Int}(h:xo x0 x1=some r):Pure af 105 [.agg (eQ x0),.agg (eQ x1)] (.Bs [.agg (eQ r.1),ax r.2]):=by
 obtain⟨⟨bt,bu⟩,⟨bD,bG⟩⟩:=x0;obtain⟨⟨cG,cC⟩,⟨eW,eX⟩⟩:=x1;refine bp Tryz.func105 Y (ae Y) (λdA M vs hvs=>?_);unfold xo at h;refine sr<|bx Y<|bx Y<|al (cs:=[ay false,au,ay false,au]) (by exact⟨aq,aD,aq,aD,ak⟩) Y<|ag Y<|dn<|qq<|sr<|ld Y Y (.k4 Y Y Y Y)<|bE h λeP jg h=>cl (rQ jg) ⟨Y,ak⟩<|lE h λeL jZ h=>eq _ Y Y (yT (p:=eP) (q:=0) jZ)<|RT.done<|aY.n ?_;cases eL;refine fs<|sr<|ld Y Y (.k4 Y Y Y Y) ?_;obtain⟨⟨LP,NG,Yl⟩,jB,h⟩:=bS (F h);refine cl (iU jB) ⟨Y,ak⟩<|mv Y<|ex Y Y<|ex Y Y<|ex Y Y<|ag Y<|ag Y<|ag Y<|dn<|sr<|ld Y Y (.k4 Y Y Y Y) ?_;obtain⟨⟨VV,VW,ag7⟩,oO,h⟩:=bS h;refine cl (iU oO) ⟨Y,ak⟩<|mv Y<|ex Y Y<|ex Y Y<|ex Y Y<|ag Y<|ag Y<|ag Y<|dn<|qq<|qq<|bU h (λj3=>AS.cz 48 [(2,.ptr 2 0),(3,.ptr 3 0),(4,.ptr 4 0),(6,ah LP),(7,ah NG),(9,ah VV),(10,ah VW),(31,ai j3)] [(4,⟨43,[ai false,.sv au,ai false,.sv au]⟩),(3,⟨43,[ai cG,.sv (aM 1 bk cC),ai eW,.sv (aM 1 bk eX)]⟩),(2,⟨43,[ai bt,.sv (aM 1 bk bu),ai bD,.sv (aM 1 bk bG)]⟩)] []) (λh=>?_) (λJN h=>?_);refine aZ<|mv Y<|mv Y<|bE h λaee hg7 h=>?_;cases Yl;cases O (F hg7);exact ww<|pF Y<|dn<|⟨false,h,wR []⟩;refine gm Y ?_;cases O (V hg7);exact pT Y<|dn<|⟨ag7,h,wR []⟩;refine aY.n ?_;cases JN;refine fs<|sr<|ld Y Y (.k4 Y Y Y Y)<|ld Y Y (.k4 Y Y Y Y) ?_;obtain⟨⟨⟨Ho,Hp⟩,⟨aec,aed⟩⟩,Bm,h⟩:=bS (F h);refine cl (Ib Bm) ⟨Y,Y,Y,ak⟩<|so Y Y Y<|ag Y<|dn<|bj ?_;cases O h;exact RZ (.agg Y Y (.k4 Y Y Y Y) Y (.tmp Y (.nil)));refine cT<|qq<|sr<|mv Y<|lE (V h) λpz yc h=>ls _ Y Y yc<|dn<|bU h (λj6=>AS.cz 48 [(4,.ptr 4 0),(6,ah j6.1),(7,ah NG),(9,ah j6.2),(10,ah VW)] [(4,⟨43,[ai false,.sv au,ai false,.sv au]⟩)] []) (λh=>?_) (λj6 h=>?_);cases pz;exact fs<|⟨(LP,VV),(F h),wR []⟩;exact cT<|aZ<|mv Y<|lE (V h) λqe zE h=>RT.neg .none _ Y T zE<|mv Y<|lE h λqk BS h=>RT.neg .none _ Y T BS<|ag Y<|ag Y<|dn<|⟨(qe,qk),h,wR []⟩;obtain⟨ak5,ak6⟩:=j6;refine aY.n<|sr<|mv Y<|mv Y<|lE h λmI vH h=>RT.mul .none _ Y Y T vH<|mv Y<|mv Y<|lE h λA6 Lu h=>RT.mul .none _ Y Y T Lu ?_;obtain⟨⟨⟨pH,pI⟩,⟨sV,sW⟩⟩,zH,h⟩:=bS h;refine cl (LQ zH) ⟨Y,Y,ak⟩<|so Y Y Y<|ag Y<|dn<|bj<|aY.r ?_;cases O h;exact RZ (.agg Y Y (.k4 Y Y Y Y) Y (.tmp Y (.nil)));refine cT<|sr<|bI (cs:=[_,_,_,_]) (cs':=[ay false,au,ay false,au]) (.nil) ⟨aq,aD,aq,aD,ak⟩<|so Y Y Y<|ag Y<|dn<|bj<|aY.r ?_;cases O (V h);exact RZ (.agg Y Y (.k4 Y Y Y Y) Y (.tmp Y (.nil)))
theorem P6{x0:Qr}(N:Nat){r:Qr}(h:tL x0=some r):dB af 108 N [.agg (eQ x0)] (.agg ((fQ N) r)):=by
 obtain⟨⟨bt,bu⟩,⟨bD,bG⟩⟩:=x0;refine bX Tryz.func108 Y (ae Y) (λdA M vs hN hvs=>?_);unfold tL at h;refine sr<|bx Y<|al (cs:=[ay false,nw N au,ay false,nw N au]) (by exact⟨aq,bw,aq,bw,ak⟩) Y<|dn<|sr<|ld Y Y (.k4 Y Y Y Y) ?_;obtain⟨⟨⟨BX,DQ⟩,⟨Gx,H6⟩⟩,h5,h⟩:=bS h;refine RT.cf .none (jt N h5) hN Y ⟨Y,ak⟩ T<|al (cs:=[ay false,nw N au,ay false,nw N au]) (by exact⟨aq,bw,aq,bw,ak⟩) Y<|so Y Y Y<|dn<|qq<|bh mixed<|fa Y Y<|ld Y Y (.k2 Y Y) ?_;obtain⟨⟨qw,qx⟩,h8,h⟩:=bS h;refine RT.cf .none ((wD N h8).w (args':=[_]) ⟨(SV.eA (show cc [ay BX,nw N (aM 1 bk DQ)] _ from⟨aq,fG,ak⟩)),ak⟩) hN Y ⟨Y,ak⟩ T<|fa Y Y<|ld Y Y (.k2 Y Y)<|bI (cs:=[_,_,_,_]) (cs':=[ay qw,nw N (aM 1 bk qx),ay Gx,nw N (aM 1 bk H6)]) (.agg Y (.agg Y (.nil))) ⟨aq,aq,aq,aq,ak⟩<|so Y Y Y<|RT.done ⟨by kernel_rfl,?_⟩;refine aY.n<|bj ?_;cases O h;exact RZ (.agg Y Y (.k4 Y Y Y Y) Y (.nil))
theorem P7{x0:Qr}{r:Qr}(h:tL x0=some r):Pure af 108 [.agg (eQ x0)] (.agg (eQ r)):=dK (λN=>P6 N h) (λN=>(SV.eA (qI _ _)))
theorem P8{x0:Qr}{x1:Qr}{r:Int}(h:xp x0 x1=some r):Pure af 86 [.agg (eQ x0),.agg (eQ x1)] (ax r):=by
 obtain⟨⟨bt,bu⟩,⟨bD,bG⟩⟩:=x0;obtain⟨⟨cG,cC⟩,⟨eW,eX⟩⟩:=x1;refine bp Tryz.func86 Y (ae Y) (λdA M vs hvs=>?_);unfold xp at h;refine sr<|bx Y<|bx Y<|ag Y<|dn<|sr<|ld Y Y (.k4 Y Y Y Y) ?_;obtain⟨⟨⟨pB,pC⟩,⟨ql,qm⟩⟩,jg,h⟩:=bS h;refine cl (gb jg) ⟨Y,ak⟩<|mv Y<|ex Y Y<|ex Y Y<|al (cs:=[ay false,au]) (by exact⟨aq,aD,ak⟩) Y<|al (cs:=[ay false,au]) (by exact⟨aq,aD,ak⟩) Y<|so Y Y Y<|so Y Y Y<|dn<|sr<|ld Y Y (.k4 Y Y Y Y) ?_;obtain⟨⟨⟨kJ,kK⟩,⟨oh,om⟩⟩,jB,h⟩:=bS h;refine cl (gb jB) ⟨Y,ak⟩<|mv Y<|ex Y Y<|ex Y Y<|al (cs:=[ay false,au]) (by exact⟨aq,aD,ak⟩) Y<|al (cs:=[ay false,au]) (by exact⟨aq,aD,ak⟩) Y<|so Y Y Y<|so Y Y Y<|dn<|qq<|qq<|bh mixed<|ld Y Y (.k2 Y Y)<|bE h λiE oc h=>?_;refine cl (iP oc) ⟨Y,ak⟩<|ld Y Y (.k2 Y Y)<|bE h λiv oO h=>cl (iP oO) ⟨Y,ak⟩<|ag Y<|ag Y<|RT.done ⟨by kernel_rfl,?_⟩;refine aY.n<|qq<|bU h (λj3=>AS.cz 43 [(5,.ptr 5 0),(6,.ptr 6 0),(7,.ptr 7 0),(8,.ptr 8 0),(9,ah iE),(10,ah iv),(31,ai j3)] [(8,⟨41,[ai oh,.sv (aM 1 bk om)]⟩),(7,⟨41,[ai kJ,.sv (aM 1 bk kK)]⟩),(6,⟨41,[ai ql,.sv (aM 1 bk qm)]⟩),(5,⟨41,[ai pB,.sv (aM 1 bk pC)]⟩)] []) (λh=>?_) (λJN h=>?_)
 refine aZ<|mv Y<|mv Y<|lE h λjm qf h=>ne _ Y Y (Nh (p:=iE) (q:=iv) qf)<|mv Y<|bE h λaef sM h=>?_;cases jm;refine gm Y<|lE (F sM) λvY Ar sM=>ge_ _ Y Y (yT (p:=iE) (q:=0) Ar) ?_;obtain rfl:=O sM;exact pF Y<|dn<|⟨vY,h,wR []⟩;cases O (V sM);exact ww<|ww<|pT Y<|dn<|⟨true,h,wR []⟩;refine aY.n ?_;cases JN;refine fs<|qq<|bh mixed<|ld Y Y (.k2 Y Y)<|ld Y Y (.k2 Y Y) ?_;obtain⟨⟨uT,uU⟩,BQ,h⟩:=bS (F h);refine cl (ES BQ) ⟨Y,Y,ak⟩<|ld Y Y (.k2 Y Y)<|ld Y Y (.k2 Y Y) ?_;obtain⟨⟨MC,MD⟩,Gl,h⟩:=bS h;refine cl (ES Gl) ⟨Y,Y,ak⟩<|bE h λry BR h=>cl (NC BR) ⟨Y,Y,ak⟩<|ag Y<|RT.done ⟨by kernel_rfl,?_⟩;refine aY.n<|bj ?_;cases O h;exact R1 Y;refine cT<|sr<|mv Y<|mv Y<|lE (V h) λzk Aq h=>sb _ Y Y Aq<|bE h λqe zE h=>cl (NH zE) ⟨Y,ak⟩<|ag Y<|dn<|bj<|aY.r ?_;cases O h;exact R1 Y
end
section
open Go.Fw
noncomputable def uw(x0:List Qr)(x1:List Qr):Option (List Qr):=(some (x0.length:Int)).bind λfy=>(some (x1.length:Int)).bind λeP=>(some (max (fy:Int) eP)).bind λeL=>(Xu (α:=Qr) 64 eL).bind λdO=>(tq (λ(k:Nat) (tN:(List Qr))=>(show Option ((List Qr))from(some (x0.getD k (⟨⟨false,[]⟩,⟨false,[]⟩⟩:Qr))).bind λ⟨⟨P9,Qa⟩,⟨Qb,Qc⟩⟩=>(some (x1.getD k (⟨⟨false,[]⟩,⟨false,[]⟩⟩:Qr))).bind λ⟨⟨Qd,Qe⟩,⟨Qf,Qg⟩⟩=>(xn ⟨⟨P9,Qa⟩,⟨Qb,Qc⟩⟩ ⟨⟨Qd,Qe⟩,⟨Qf,Qg⟩⟩).bind λ⟨⟨nO,nm⟩,⟨uV,uX⟩⟩=>(lM 64 tN [⟨⟨nO,nm⟩,⟨uV,uX⟩⟩]).bind λjm=>some jm)) (max x0.length x1.length) dO).bind λtN=>some tN
noncomputable def rR(x0:Qr)(x1:Qr)(Qh:Qr):Option (Qr):=match x0 with|⟨⟨bt,bu⟩,⟨bD,bG⟩⟩=>match x1 with|⟨⟨cG,cC⟩,⟨eW,eX⟩⟩=>match Qh with|⟨⟨Qi,Qj⟩,⟨Qk,Ql⟩⟩=>(tK ⟨⟨Qi,Qj⟩,⟨Qk,Ql⟩⟩ ⟨⟨bt,bu⟩,⟨bD,bG⟩⟩).bind λ⟨⟨qw,qx⟩,⟨Bn,Bo⟩⟩=>(xm ⟨⟨qw,qx⟩,⟨Bn,Bo⟩⟩ ⟨⟨cG,cC⟩,⟨eW,eX⟩⟩).bind λ⟨⟨BM,BN⟩,⟨aeg,aeh⟩⟩=>some ⟨⟨BM,BN⟩,⟨aeg,aeh⟩⟩
noncomputable def oU(x0:List Qr)(x1:List Qr)(Ys:Qr):Option (List Qr):=match Ys with|⟨⟨SW,SX⟩,⟨SY,SZ⟩⟩=>(some (x0.length:Int)).bind λfy=>(some (x1.length:Int)).bind λeP=>(some (max (fy:Int) eP)).bind λeL=>(Xu (α:=Qr) 64 eL).bind λdO=>(tq (λ(k:Nat) (tN:(List Qr))=>(show Option ((List Qr))from(some (x0.getD k (⟨⟨false,[]⟩,⟨false,[]⟩⟩:Qr))).bind λ⟨⟨P9,Qa⟩,⟨Qb,Qc⟩⟩=>(some (x1.getD k (⟨⟨false,[]⟩,⟨false,[]⟩⟩:Qr))).bind λ⟨⟨Qd,Qe⟩,⟨Qf,Qg⟩⟩=>(rR ⟨⟨P9,Qa⟩,⟨Qb,Qc⟩⟩ ⟨⟨Qd,Qe⟩,⟨Qf,Qg⟩⟩ ⟨⟨SW,SX⟩,⟨SY,SZ⟩⟩).bind λ⟨⟨nO,nm⟩,⟨uV,uX⟩⟩=>(lM 64 tN [⟨⟨nO,nm⟩,⟨uV,uX⟩⟩]).bind λjm=>some jm)) (max x0.length x1.length) dO).bind λtN=>some tN
noncomputable def zM(x0:List Qr)(x1:List Qr):Option (List Qr):=(uw x0 x1).bind λx7=>some x7
noncomputable def qQ(x0:Qr)(x1:List Qr):Option (List Qr):=match x0 with|⟨⟨bt,bu⟩,⟨bD,bG⟩⟩=>(some (x1.length:Int)).bind λx9=>(Ln 64 x9 (⟨⟨false,[]⟩,⟨false,[]⟩⟩:Qr)).bind λdN=>(some (x1.length:Int)).bind λdr=>(cm (λ(s8:Int×(List Qr))=>match s8 with|⟨Qm,Qn⟩=>(show Option ((Int×(List Qr))⊕((List Qr)))from(some (decide ((Qm:Int)<dr))).bind λeL=>(bif eL then(cV x1 Qm).bind λ⟨⟨qL,qM⟩,⟨Qo,Qp⟩⟩=>(tK ⟨⟨bt,bu⟩,⟨bD,bG⟩⟩ ⟨⟨qL,qM⟩,⟨Qo,Qp⟩⟩).bind λ⟨⟨xq,xu⟩,⟨xw,xx⟩⟩=>(qK Qn Qm).bind λiN=>(stM Qn iN ⟨⟨xq,xu⟩,⟨xw,xx⟩⟩).bind λEE=>(some (IntKind.i64.wrap (Qm+1))).bind λiv=>some (.inl (iv,EE))else some (.inr Qn)))) (0,dN)).bind λJO=>some JO
noncomputable def jx(x0:Qr)(x1:List Qr)(x2:List Qr):Option (List Qr):=match x0 with|⟨⟨bt,bu⟩,⟨bD,bG⟩⟩=>(oU x1 x2 ⟨⟨bt,bu⟩,⟨bD,bG⟩⟩).bind λdN=>some dN
noncomputable def nC(x0:List Qr)(x1:List Qr):Option (Int):=(w7 (λ(k:Nat) (s3:Unit)=>(show Option ((Unit)⊕(Int))from(some (x0.getD k (⟨⟨false,[]⟩,⟨false,[]⟩⟩:Qr))).bind λ⟨⟨aei,aej⟩,⟨aek,ael⟩⟩=>(some (x1.getD k (⟨⟨false,[]⟩,⟨false,[]⟩⟩:Qr))).bind λ⟨⟨aem,aen⟩,⟨aeo,aep⟩⟩=>(xp ⟨⟨aei,aej⟩,⟨aek,ael⟩⟩ ⟨⟨aem,aen⟩,⟨aeo,aep⟩⟩).bind λdO=>(some (decide ((dO:Int)≠0))).bind λdZ=>(bif dZ then some (.inr dO)else some (.inl ())))) (max x0.length x1.length) ()).bind λe3=>match e3 with|.inr v3=>some v3|.inl _=>some 0
noncomputable def xy(x0:List Qr):Option (Int):=(nC x0 []).bind λx4=>some x4
noncomputable def ig(x0:List Qr)(x1:List Qr):Option (Bool):=(nC x0 x1).bind λx7=>(some (decide ((x7:Int)=0))).bind λx8=>some x8
noncomputable def kU(x0:List Qr)(x1:Int):Option (List Qr):=(some (decide ((x1:Int)<1))).bind λx8=>(bif x8 then some []else(some (min (x1:Int) 65536)).bind λdN=>(Ln 64 dN (⟨⟨false,[]⟩,⟨false,[]⟩⟩:Qr)).bind λfy=>(some (x0.length:Int)).bind λeP=>(some (fy.length:Int)).bind λdO=>(some (min (eP:Int) dO)).bind λfD=>(cm (λ(s8:Int×(List Qr))=>match s8 with|⟨Qq,Qs⟩=>(show Option ((Int×(List Qr))⊕((List Qr)))from(some (decide ((Qq:Int)<fD))).bind λfe=>(bif fe then(cV x0 Qq).bind λ⟨⟨wh,wj⟩,⟨zN,zO⟩⟩=>(dV ⟨⟨wh,wj⟩,⟨zN,zO⟩⟩).bind λ⟨⟨xz,zP⟩,⟨zQ,xA⟩⟩=>(qK Qs Qq).bind λjm=>(stM Qs jm ⟨⟨xz,zP⟩,⟨zQ,xA⟩⟩).bind λEE=>(some (IntKind.i64.wrap (Qq+1))).bind λlO=>some (.inl (lO,EE))else some (.inr Qs)))) (0,fy)).bind λJP=>some JP)
noncomputable def dW(x0:List Int):Option (List Qr):=(some (x0.length:Int)).bind λx7=>(Ln 64 x7 (⟨⟨false,[]⟩,⟨false,[]⟩⟩:Qr)).bind λx8=>(some (x0.length:Int)).bind λdN=>(cm (λ(s8:Int×(List Qr))=>match s8 with|⟨uY,JQ⟩=>(show Option ((Int×(List Qr))⊕((List Qr)))from(some (decide ((uY:Int)<dN))).bind λdr=>(bif dr then(cV x0 uY).bind λeL=>(dU eL).bind λ⟨⟨kF,kG⟩,⟨sX,sY⟩⟩=>(qK JQ uY).bind λiz=>(stM JQ iz ⟨⟨kF,kG⟩,⟨sX,sY⟩⟩).bind λEE=>(some (IntKind.i64.wrap (uY+1))).bind λfR=>some (.inl (fR,EE))else some (.inr JQ)))) (0,x8)).bind λDS=>some DS
end
section
open Go.Fw Go.Fw.Z Go.RowKit
theorem As(a b:List Qr):Pure af 133 [(aM 4 eQ a),(aM 4 eQ b)] (oQ 165 [ref [(aM 4 eQ a)],ref [(aM 4 eQ b)]]):=by
 refine bp Tryz.func133 Y (ae Y) (λdA M vs hvs=>?_);refine sr<|RT.En .none (s:=.sv _) Y T Y Y<|RT.En .none (s:=.sv _) Y T Y Y<|ag Y<|dn<|sr<|RT.makeFunc .none (.box Y (.box Y (.nil))) T<|an (s:=.lD _ _) Y<|dn<|bP (kL (i:=2) Y [(aM 4 eQ a)] (.cons Y .nil) .any 0 [(4,.lD 165 [.val (ref [(aM 4 eQ a)]),.box 3])] (λ_ _ _=>trivial) (yO.h (l:=[(aM 4 eQ a)])) ⟨@FT.lD _ _ _ _ _ 4 165 [.box 2,.box 3] Y,ak⟩) ?_;exact bP (kL (i:=3) Y [(aM 4 eQ b)] (.cons Y .nil) .any 0 [(4,.lD 165 [.val (ref [(aM 4 eQ a)]),.val (ref [(aM 4 eQ b)])])] (λ_ _ _=>trivial) (yO.h (l:=[(aM 4 eQ b)])) ⟨@FT.lD _ _ _ _ _ 4 165 [.val (ref [(aM 4 eQ a)]),.box 3] Y,ak⟩)<|bP (SA 4 (oQ 165 [ref [(aM 4 eQ a)],ref [(aM 4 eQ b)]]) (λ_ _ h=>SB h))<|bj<|⟨.inr Y,Sr (.tmp Y (.nil)) Y⟩
theorem At(a b:List Qr):Iter af 165 [ref [(aM 4 eQ a)],ref [(aM 4 eQ b)]] (max a.length b.length) (λk=>[.agg (eQ (a.getD k (⟨⟨false,[]⟩,⟨false,[]⟩⟩:Qr))),.agg (eQ (b.getD k (⟨⟨false,[]⟩,⟨false,[]⟩⟩:Qr)))]):=by
 refine DB Tryz.func165 Y Y (ae Y) (λdA M O l J hJ Lq hr=>?_);obtain⟨yh,Lq⟩:=Lq;have hla:a.length<=9223372036854775807:=by cases yh with|nil=>exact Lq.elim|cons _ yh=>exact Iw Lq.1
 have hlb:b.length<=9223372036854775807:=by cases yh with|nil=>exact Lq.elim|cons _ yh=>cases yh with|nil=>exact Lq.2.elim|cons _ _=>exact Iw Lq.2.1
 refine b9<|aZ<|RT.eT .none Y Y (tl Y)<|RT.len .none Y (tl Y)<|RT.eT .none Y Y (tl Y)<|RT.len .none Y (tl Y)<|RT.max .none (((max a.length b.length:Nat):Int)) Y Y (tl Y) (by simp only[List.length_map];split<;>omega)<|RT.mv .none Y (tl Y)<|RT.done<|aY.n<|bf ?_
 refine CE (I:=λx:{i:Nat//i<=max a.length b.length}=>AS.cz 37 [(0,.sv (.v (.func (.yield l) #[] #[]))),(1,.sv (ref [(aM 4 eQ a)])),(2,.sv (ref [(aM 4 eQ b)])),(11,ah ((max a.length b.length:Nat):Int)),(12,ah ((x.1:Nat):Int))] [] [] (x.1)) (μ:=λx=>max a.length b.length-x.1) ⟨0,by omega⟩ (by(try dsimp only);exact cj id Y Y Y Y Y ⟨.sv aq,.sv aq,.sv aq,.sv aq,.sv aq,ak⟩ trivial trivial (λ_ _=>Y)) ?_;rintro⟨i,hi0⟩
 try dsimp only
 rcases Jq a b i hi0 with⟨hi,Ag,By⟩|⟨hi,Ag,By⟩|⟨hi,Ag,By⟩|hi
 ·
  refine b9<|aZ<|RT.lss .none (true) Y Y (tl Y) aH<|RT.done<|aY.n<|b9<|dR Y<|bC<|aY.n<|b9<|bf<|b9<|aZ<|RT.mv .none Y (tl Y)<|RT.BA .none Y (tl Y)<|RT.done<|aY.n<|b9<|aZ<|RT.Al .none (cs:=eQ ⟨⟨false,[]⟩,⟨false,[]⟩⟩) (by exact⟨aq,aD,aq,aD,ak⟩) Y (tl Y) Y Y<|RT.Al .none (cs:=eQ ⟨⟨false,[]⟩,⟨false,[]⟩⟩) (by exact⟨aq,aD,aq,aD,ak⟩) Y (tl Y) Y Y<|RT.done<|aY.n<|b9<|b9<|aZ<|RT.mv .none Y (tl Y)<|RT.eT .none Y Y (tl Y)<|RT.len .none Y (tl Y)<|RT.lss .none (true) Y Y (tl Y) (by simp only[List.length_map];simp;omega)<|RT.done<|aY.n<|dR Y<|aZ<|RT.eT .none Y Y (tl Y)<|RT.mv .none Y (tl Y) ?_
  refine RT.ixA .none [ay ((a.getD i (⟨⟨false,[]⟩,⟨false,[]⟩⟩:Qr)).num.neg),slc 1 ((a.getD i (⟨⟨false,[]⟩,⟨false,[]⟩⟩:Qr)).num.w.map bk),ay ((a.getD i (⟨⟨false,[]⟩,⟨false,[]⟩⟩:Qr)).den.neg),slc 1 ((a.getD i (⟨⟨false,[]⟩,⟨false,[]⟩⟩:Qr)).den.w.map bk)] (Int.natCast_nonneg i) (by rw[Int.toNat_natCast,List.getElem?_map,ic Ag];rfl) Y Y (tl Y)<|RT.gV .none Y (tl Y) (cs:=[ay ((a.getD i (⟨⟨false,[]⟩,⟨false,[]⟩⟩:Qr)).num.neg),slc 1 ((a.getD i (⟨⟨false,[]⟩,⟨false,[]⟩⟩:Qr)).num.w.map bk),ay ((a.getD i (⟨⟨false,[]⟩,⟨false,[]⟩⟩:Qr)).den.neg),slc 1 ((a.getD i (⟨⟨false,[]⟩,⟨false,[]⟩⟩:Qr)).den.w.map bk)]) Y Y<|RT.store .none Y Y Y Y Y<|RT.done<|aY.n<|b9<|b9<|aZ<|RT.mv .none Y (tl Y)<|RT.eT .none Y Y (tl Y)<|RT.len .none Y (tl Y)<|RT.lss .none (true) Y Y (tl Y) (by simp only[List.length_map];simp;omega)<|RT.done<|aY.n<|dR Y<|aZ<|RT.eT .none Y Y (tl Y)<|RT.mv .none Y (tl Y) ?_
  refine RT.ixA .none [ay ((b.getD i (⟨⟨false,[]⟩,⟨false,[]⟩⟩:Qr)).num.neg),slc 1 ((b.getD i (⟨⟨false,[]⟩,⟨false,[]⟩⟩:Qr)).num.w.map bk),ay ((b.getD i (⟨⟨false,[]⟩,⟨false,[]⟩⟩:Qr)).den.neg),slc 1 ((b.getD i (⟨⟨false,[]⟩,⟨false,[]⟩⟩:Qr)).den.w.map bk)] (Int.natCast_nonneg i) (by rw[Int.toNat_natCast,List.getElem?_map,ic By];rfl) Y Y (tl Y)<|RT.gV .none Y (tl Y) (cs:=[ay ((b.getD i (⟨⟨false,[]⟩,⟨false,[]⟩⟩:Qr)).num.neg),slc 1 ((b.getD i (⟨⟨false,[]⟩,⟨false,[]⟩⟩:Qr)).num.w.map bk),ay ((b.getD i (⟨⟨false,[]⟩,⟨false,[]⟩⟩:Qr)).den.neg),slc 1 ((b.getD i (⟨⟨false,[]⟩,⟨false,[]⟩⟩:Qr)).den.w.map bk)]) Y Y<|RT.store .none Y Y Y Y Y<|RT.done<|aY.n<|b9<|aZ<|RT.mv .none Y (tl Y)<|RT.load .none Y Y (.k4 Y Y Y Y) Y (tl Y)<|RT.load .none Y Y (.k4 Y Y Y Y) Y (tl Y)<|RT.yield .none hr Y (λ_ h=>h) Y (i) Y Y hi (by exact⟨Y,Y,ak⟩) (tl Y) (λyb=>?_);cases yb
  ·
   refine RT.not .none Y (tl Y) true Y<|RT.done<|aY.n<|dR Y<|bj<|bJ.r<|aY.r<|aY.r<|bJ.r ?_;exact⟨.inr rfl,(λh=>by cases h)⟩
  refine RT.not .none Y (tl Y) false Y<|RT.done<|aY.n<|fN Y<|bC<|bJ.n<|aY.n<|aZ<|RT.add .none (((i:Nat):Int)+1) Y Y (tl Y) (rH ξ)<|RT.mv .none Y (tl Y)<|RT.done<|aY.n<|⟨⟨i+1,by omega⟩,aF,?_⟩;exact cj id Y Y Y Y Y ⟨.sv aq,.sv aq,.sv aq,.sv aq,.sv aq,ak⟩ trivial trivial (λ_ _=>Y)
 ·
  refine b9<|aZ<|RT.lss .none (true) Y Y (tl Y) aH<|RT.done<|aY.n<|b9<|dR Y<|bC<|aY.n<|b9<|bf<|b9<|aZ<|RT.mv .none Y (tl Y)<|RT.BA .none Y (tl Y)<|RT.done<|aY.n<|b9<|aZ<|RT.Al .none (cs:=eQ ⟨⟨false,[]⟩,⟨false,[]⟩⟩) (by exact⟨aq,aD,aq,aD,ak⟩) Y (tl Y) Y Y<|RT.Al .none (cs:=eQ ⟨⟨false,[]⟩,⟨false,[]⟩⟩) (by exact⟨aq,aD,aq,aD,ak⟩) Y (tl Y) Y Y<|RT.done<|aY.n<|b9<|b9<|aZ<|RT.mv .none Y (tl Y)<|RT.eT .none Y Y (tl Y)<|RT.len .none Y (tl Y)<|RT.lss .none (true) Y Y (tl Y) (by simp only[List.length_map];simp;omega)<|RT.done<|aY.n<|dR Y<|aZ<|RT.eT .none Y Y (tl Y)<|RT.mv .none Y (tl Y) ?_
  refine RT.ixA .none [ay ((a.getD i (⟨⟨false,[]⟩,⟨false,[]⟩⟩:Qr)).num.neg),slc 1 ((a.getD i (⟨⟨false,[]⟩,⟨false,[]⟩⟩:Qr)).num.w.map bk),ay ((a.getD i (⟨⟨false,[]⟩,⟨false,[]⟩⟩:Qr)).den.neg),slc 1 ((a.getD i (⟨⟨false,[]⟩,⟨false,[]⟩⟩:Qr)).den.w.map bk)] (Int.natCast_nonneg i) (by rw[Int.toNat_natCast,List.getElem?_map,ic Ag];rfl) Y Y (tl Y)<|RT.gV .none Y (tl Y) (cs:=[ay ((a.getD i (⟨⟨false,[]⟩,⟨false,[]⟩⟩:Qr)).num.neg),slc 1 ((a.getD i (⟨⟨false,[]⟩,⟨false,[]⟩⟩:Qr)).num.w.map bk),ay ((a.getD i (⟨⟨false,[]⟩,⟨false,[]⟩⟩:Qr)).den.neg),slc 1 ((a.getD i (⟨⟨false,[]⟩,⟨false,[]⟩⟩:Qr)).den.w.map bk)]) Y Y<|RT.store .none Y Y Y Y Y<|RT.done<|aY.n<|b9<|b9<|aZ<|RT.mv .none Y (tl Y)<|RT.eT .none Y Y (tl Y)<|RT.len .none Y (tl Y)<|RT.lss .none (false) Y Y (tl Y) (by simp only[List.length_map];simp;omega)<|RT.done<|aY.n<|fN Y<|bC<|aY.n<|b9<|aZ<|RT.mv .none Y (tl Y)<|RT.load .none Y Y (.k4 Y Y Y Y) Y (tl Y)<|RT.load .none Y Y (.k4 Y Y Y Y) Y (tl Y) ?_
  refine RT.yield .none hr Y (λ_ h=>h) Y (i) Y Y hi (by exact⟨Y,(by show AV.sv _=AV.sv _;rw[mH By]),ak⟩) (tl Y) (λyb=>?_);cases yb
  ·
   refine RT.not .none Y (tl Y) true Y<|RT.done<|aY.n<|dR Y<|bj<|bJ.r<|aY.r<|aY.r<|bJ.r ?_;exact⟨.inr rfl,(λh=>by cases h)⟩
  refine RT.not .none Y (tl Y) false Y<|RT.done<|aY.n<|fN Y<|bC<|bJ.n<|aY.n<|aZ<|RT.add .none (((i:Nat):Int)+1) Y Y (tl Y) (rH ξ)<|RT.mv .none Y (tl Y)<|RT.done<|aY.n<|⟨⟨i+1,by omega⟩,aF,?_⟩;exact cj id Y Y Y Y Y ⟨.sv aq,.sv aq,.sv aq,.sv aq,.sv aq,ak⟩ trivial trivial (λ_ _=>Y)
 ·
  refine b9<|aZ<|RT.lss .none (true) Y Y (tl Y) aH<|RT.done<|aY.n<|b9<|dR Y<|bC<|aY.n<|b9<|bf<|b9<|aZ<|RT.mv .none Y (tl Y)<|RT.BA .none Y (tl Y)<|RT.done<|aY.n<|b9<|aZ<|RT.Al .none (cs:=eQ ⟨⟨false,[]⟩,⟨false,[]⟩⟩) (by exact⟨aq,aD,aq,aD,ak⟩) Y (tl Y) Y Y<|RT.Al .none (cs:=eQ ⟨⟨false,[]⟩,⟨false,[]⟩⟩) (by exact⟨aq,aD,aq,aD,ak⟩) Y (tl Y) Y Y<|RT.done<|aY.n<|b9<|b9<|aZ<|RT.mv .none Y (tl Y)<|RT.eT .none Y Y (tl Y)<|RT.len .none Y (tl Y)<|RT.lss .none (false) Y Y (tl Y) (by simp only[List.length_map];simp;omega)<|RT.done<|aY.n<|fN Y<|bC<|aY.n<|b9<|b9<|aZ<|RT.mv .none Y (tl Y)<|RT.eT .none Y Y (tl Y)<|RT.len .none Y (tl Y)<|RT.lss .none (true) Y Y (tl Y) (by simp only[List.length_map];simp;omega)<|RT.done<|aY.n<|dR Y<|aZ<|RT.eT .none Y Y (tl Y) ?_
  refine RT.mv .none Y (tl Y)<|RT.ixA .none [ay ((b.getD i (⟨⟨false,[]⟩,⟨false,[]⟩⟩:Qr)).num.neg),slc 1 ((b.getD i (⟨⟨false,[]⟩,⟨false,[]⟩⟩:Qr)).num.w.map bk),ay ((b.getD i (⟨⟨false,[]⟩,⟨false,[]⟩⟩:Qr)).den.neg),slc 1 ((b.getD i (⟨⟨false,[]⟩,⟨false,[]⟩⟩:Qr)).den.w.map bk)] (Int.natCast_nonneg i) (by rw[Int.toNat_natCast,List.getElem?_map,ic By];rfl) Y Y (tl Y)<|RT.gV .none Y (tl Y) (cs:=[ay ((b.getD i (⟨⟨false,[]⟩,⟨false,[]⟩⟩:Qr)).num.neg),slc 1 ((b.getD i (⟨⟨false,[]⟩,⟨false,[]⟩⟩:Qr)).num.w.map bk),ay ((b.getD i (⟨⟨false,[]⟩,⟨false,[]⟩⟩:Qr)).den.neg),slc 1 ((b.getD i (⟨⟨false,[]⟩,⟨false,[]⟩⟩:Qr)).den.w.map bk)]) Y Y<|RT.store .none Y Y Y Y Y<|RT.done<|aY.n<|b9<|aZ<|RT.mv .none Y (tl Y)<|RT.load .none Y Y (.k4 Y Y Y Y) Y (tl Y)<|RT.load .none Y Y (.k4 Y Y Y Y) Y (tl Y)<|RT.yield .none hr Y (λ_ h=>h) Y (i) Y Y hi (by exact⟨(by show AV.sv _=AV.sv _;rw[mH Ag]),Y,ak⟩) (tl Y) (λyb=>?_);cases yb
  ·
   refine RT.not .none Y (tl Y) true Y<|RT.done<|aY.n<|dR Y<|bj<|bJ.r<|aY.r<|aY.r<|bJ.r ?_;exact⟨.inr rfl,(λh=>by cases h)⟩
  refine RT.not .none Y (tl Y) false Y<|RT.done<|aY.n<|fN Y<|bC<|bJ.n<|aY.n<|aZ<|RT.add .none (((i:Nat):Int)+1) Y Y (tl Y) (rH ξ)<|RT.mv .none Y (tl Y)<|RT.done<|aY.n<|⟨⟨i+1,by omega⟩,aF,?_⟩;exact cj id Y Y Y Y Y ⟨.sv aq,.sv aq,.sv aq,.sv aq,.sv aq,ak⟩ trivial trivial (λ_ _=>Y)
 subst hi;refine b9<|aZ<|RT.lss .none (false) Y Y (tl Y) θ<|RT.done<|aY.n<|b9<|fN Y<|bR<|aY.x<|aY.x<|bJ.x ?_;exact⟨.inl Y,(λ_=>Y)⟩
end
section
open Go.Fw Go.Fw.Z Go.RowKit
theorem JR{x0:List Qr}{x1:List Qr}(N:Nat){r:List Qr}(h:uw x0 x1=some r):dB af 95 N [aM 4 eQ x0,aM 4 eQ x1,.v (.func (.func 94) #[] #[])] (nw N (aM 4 (fQ N) r)):=by
 refine bX Tryz.func95 Y (ae Y) (λdA M vs hN hvs=>?_);unfold uw at h;refine sr<|RT.En .none (s:=.sv _) Y T Y Y<|aI Y (bw (N:=N) (n:=4) (e:=(fQ N)))<|dn<|sr<|mv Y<|lE h λfy kR h=>ln Y kR<|mv Y<|lE h λeP jg h=>ln Y jg<|lE h λeL jZ h=>RT.max .none _ Y Y T (Pw (p:=fy) (q:=eP) jZ)<|bE h λdO gQ h=>RT.Mr (e:=(fQ N)) .none Y Y T Y T gQ<|RT.alloc .none T Y Y<|RT.kH (cells:=[_]) .none Y Y Y Y T Y<|dn<|qq<|sr<|mv Y<|mv Y<|cl (As x0 x1) ⟨Y,Y,ak⟩<|dn<|bf<|bE h λtN hl5 ho5=>?_;obtain⟨Yt,hs5,ht5,hn5⟩:=tw hl5;refine oR (At x0 x1) (λ_ _ _ _ _=>trivial) Y (λk=>AS.cz 29 [(5,.ptr 5 0),(7,.ptr 7 0),(18,.sv (oQ 165 [ref [aM 4 eQ x0],ref [aM 4 eQ x1]]))] [(7,⟨23,[.row 302]⟩),(5,⟨106,[.sv (.v (.func (.func 94) #[] #[]))]⟩)] [(302,TR 43 4 (fQ N) (Yt k))]) [7,5] Y (λ_=>⟨Y,Y⟩) (BC Y) (λ_=>Y) (BD Y) (by(try dsimp only);rw[hs5];(try dsimp only);exact aN 302 15 Y Y Y Y Y Y ⟨.ptr,.ptr,.sv aq,ak⟩ ⟨⟨_,Y,⟨.row Y,ak⟩⟩,⟨_,Y,⟨.sv aq,ak⟩⟩,ak⟩ ⟨⟨_,Y,cc.refl _⟩,ak⟩) (λk hk D hD=>?_) ?_;have h:=ht5 k hk;obtain⟨tN,X1⟩:∃q,Yt k=q:=⟨_,Y⟩;rw[X1]at h⊢;dsimp only[AS.inR,BB]
 try dsimp only at h
 obtain⟨⟨⟨P9,Qa⟩,⟨Qb,Qc⟩⟩,ahj,h⟩:=bS h;rw[Option.some.inj ahj];obtain⟨⟨⟨Qd,Qe⟩,⟨Qf,Qg⟩⟩,X2,h⟩:=bS h;rw[Option.some.inj X2];refine sr<|al (cs:=[ay false,nw N au,ay false,nw N au]) (by exact⟨aq,bw,aq,bw,ak⟩) Y<|so Y Y Y<|dn<|aZ<|al (cs:=[ay false,nw N au,ay false,nw N au]) (by exact⟨aq,bw,aq,bw,ak⟩) Y<|so Y Y Y<|RT.done<|aY.n ⟨Y,?_⟩;dsimp only[AS.LF];refine bf<|bh mixed<|RT.iy .none (s:=.row _) Y Y Y T<|lV Y Y Y<|ld Y Y (.k4 Y Y Y Y)<|ld Y Y (.k4 Y Y Y Y) ?_;obtain⟨⟨⟨nO,nm⟩,⟨uV,uX⟩⟩,oe,h⟩:=bS h;refine RT.cf .none (P4 N oe) (Nat.le_trans hN hD) Y ⟨Y,Y,ak⟩ T<|bl (l:=[⟨⟨nO,nm⟩,⟨uV,uX⟩⟩]) (e:=(fQ N)) (.agg Y (.nil)) Y Y Y Y Y Y<|bE h λjm qf h=>aR (k:=[⟨⟨nO,nm⟩,⟨uV,uX⟩⟩]) (e:=(fQ N)) Y Y Y qf<|RT.kH (cells:=[_]) .none Y Y Y Y T Y<|RT.done ⟨by kernel_rfl,?_⟩;refine bJ.n ?_;replace h:=Option.some.inj h;refine⟨ak,Y,Y,?_⟩;rw[<-h];exact aN 302 27 Y Y Y Y Y Y ⟨.ptr,.ptr,.sv aq,ak⟩ ⟨⟨_,Y,⟨.row Y,ak⟩⟩,⟨_,Y,⟨.sv aq,ak⟩⟩,ak⟩ ⟨⟨_,Y,cc.refl _⟩,ak⟩;rw[hn5];refine bJ.n<|aY.n<|sr<|RT.iy .none (s:=.row _) Y Y Y T<|an (s:=.row _) Y<|dn<|jD (i:=302) (E1:=43) (n:=4) (e:=(fQ N)) (l:=tN) hN (λ_ h=>h) Y<|bj ?_;cases O ho5;exact R1 Y
theorem DT{x0:Qr}{x1:Qr}{Qh:Qr}(N:Nat){r:Qr}(h:rR x0 x1 Qh=some r):dB af 141 N [.agg (eQ x0),.agg (eQ x1),ref (eQ Qh)] (.agg ((fQ N) r)):=by
 obtain⟨⟨bt,bu⟩,⟨bD,bG⟩⟩:=x0;obtain⟨⟨cG,cC⟩,⟨eW,eX⟩⟩:=x1;obtain⟨⟨Qi,Qj⟩,⟨Qk,Ql⟩⟩:=Qh;refine bX Tryz.func141 Y (ae Y) (λdA M vs hN hvs=>?_);unfold rR at h;refine sr<|bx Y<|bx Y<|al (cs:=[ay false,nw N au,ay false,nw N au]) (by exact⟨aq,bw,aq,bw,ak⟩) Y<|dn<|qq<|bh mixed<|RT.gV (cs:=[_,_,_,_]) .none Y T Y Y<|ld Y Y (.k4 Y Y Y Y) ?_;obtain⟨⟨⟨qw,qx⟩,⟨Bn,Bo⟩⟩,h8,h⟩:=bS h;refine RT.cf .none (Ht N h8) hN Y ⟨Y,Y,ak⟩ T<|ld Y Y (.k4 Y Y Y Y) ?_;obtain⟨⟨⟨BM,BN⟩,⟨aeg,aeh⟩⟩,gL,h⟩:=bS h;refine RT.cf .none ((P3 N gL).w (args':=[_,_]) ⟨(SV.eA (show cc [ay qw,nw N (aM 1 bk qx),ay Bn,nw N (aM 1 bk Bo)] _ from⟨aq,fG,aq,fG,ak⟩)),aq,ak⟩) hN Y ⟨Y,Y,ak⟩ T<|so Y Y Y<|RT.done ⟨by kernel_rfl,?_⟩;refine aY.n<|bj ?_;cases O h;exact RZ (.agg Y Y (.k4 Y Y Y Y) Y (.nil))
theorem EZ{x0:List Qr}{x1:List Qr}{Ys:Qr}(N:Nat){r:List Qr}(h:oU x0 x1 Ys=some r):dB af 95 N [aM 4 eQ x0,aM 4 eQ x1,oQ 141 [ref (eQ Ys)]] (nw N (aM 4 (fQ N) r)):=by
 obtain⟨⟨SW,SX⟩,⟨SY,SZ⟩⟩:=Ys;refine bX Tryz.func95 Y (ae Y) (λdA M vs hN hvs=>?_);unfold oU at h;refine sr<|RT.En .none (s:=.sv _) Y T Y Y<|aI Y (bw (N:=N) (n:=4) (e:=(fQ N)))<|dn<|sr<|mv Y<|lE h λfy kR h=>ln Y kR<|mv Y<|lE h λeP jg h=>ln Y jg<|lE h λeL jZ h=>RT.max .none _ Y Y T (Pw (p:=fy) (q:=eP) jZ)<|bE h λdO gQ h=>RT.Mr (e:=(fQ N)) .none Y Y T Y T gQ<|RT.alloc .none T Y Y<|RT.kH (cells:=[_]) .none Y Y Y Y T Y<|dn<|qq<|sr<|mv Y<|mv Y<|cl (As x0 x1) ⟨Y,Y,ak⟩<|dn<|bf<|bE h λtN hl5 ho5=>?_;obtain⟨Yt,hs5,ht5,hn5⟩:=tw hl5;refine oR (At x0 x1) (λ_ _ _ _ _=>trivial) Y (λk=>AS.cz 29 [(5,.ptr 5 0),(7,.ptr 7 0),(18,.sv (oQ 165 [ref [aM 4 eQ x0],ref [aM 4 eQ x1]]))] [(7,⟨23,[.row 302]⟩),(5,⟨106,[.sv (oQ 141 [ref [ay SW,aM 1 bk SX,ay SY,aM 1 bk SZ]])]⟩)] [(302,TR 43 4 (fQ N) (Yt k))]) [7,5] Y (λ_=>⟨Y,Y⟩) (BC Y) (λ_=>Y) (BD Y) (by(try dsimp only);rw[hs5];(try dsimp only);exact aN 302 15 Y Y Y Y Y Y ⟨.ptr,.ptr,.sv aq,ak⟩ ⟨⟨_,Y,⟨.row Y,ak⟩⟩,⟨_,Y,⟨.sv aq,ak⟩⟩,ak⟩ ⟨⟨_,Y,cc.refl _⟩,ak⟩) (λk hk D hD=>?_) ?_;have h:=ht5 k hk;obtain⟨tN,X1⟩:∃q,Yt k=q:=⟨_,Y⟩;rw[X1]at h⊢
 dsimp only[AS.inR,BB]
 try dsimp only at h
 obtain⟨⟨⟨P9,Qa⟩,⟨Qb,Qc⟩⟩,ahj,h⟩:=bS h;rw[Option.some.inj ahj];obtain⟨⟨⟨Qd,Qe⟩,⟨Qf,Qg⟩⟩,X2,h⟩:=bS h;rw[Option.some.inj X2];refine sr<|al (cs:=[ay false,nw N au,ay false,nw N au]) (by exact⟨aq,bw,aq,bw,ak⟩) Y<|so Y Y Y<|dn<|aZ<|al (cs:=[ay false,nw N au,ay false,nw N au]) (by exact⟨aq,bw,aq,bw,ak⟩) Y<|so Y Y Y<|RT.done<|aY.n ⟨Y,?_⟩;dsimp only[AS.LF];refine bf<|bh mixed<|RT.iy .none (s:=.row _) Y Y Y T<|lV Y Y Y<|ld Y Y (.k4 Y Y Y Y)<|ld Y Y (.k4 Y Y Y Y) ?_;obtain⟨⟨⟨nO,nm⟩,⟨uV,uX⟩⟩,oe,h⟩:=bS h;refine RT.ags (args:=[_,_]) (caps:=[_]) .none (DT N oe) (Nat.le_trans hN hD) Y ⟨Y,Y,ak⟩ T<|bl (l:=[⟨⟨nO,nm⟩,⟨uV,uX⟩⟩]) (e:=(fQ N)) (.agg Y (.nil)) Y Y Y Y Y Y<|bE h λjm qf h=>aR (k:=[⟨⟨nO,nm⟩,⟨uV,uX⟩⟩]) (e:=(fQ N)) Y Y Y qf<|RT.kH (cells:=[_]) .none Y Y Y Y T Y<|RT.done ⟨by kernel_rfl,?_⟩;refine bJ.n ?_;replace h:=Option.some.inj h;refine⟨ak,Y,Y,?_⟩;rw[<-h];exact aN 302 27 Y Y Y Y Y Y ⟨.ptr,.ptr,.sv aq,ak⟩ ⟨⟨_,Y,⟨.row Y,ak⟩⟩,⟨_,Y,⟨.sv aq,ak⟩⟩,ak⟩ ⟨⟨_,Y,cc.refl _⟩,ak⟩;rw[hn5];refine bJ.n<|aY.n<|sr<|RT.iy .none (s:=.row _) Y Y Y T<|an (s:=.row _) Y<|dn<|jD (i:=302) (E1:=43) (n:=4) (e:=(fQ N)) (l:=tN) hN (λ_ h=>h) Y<|bj ?_;cases O ho5;exact R1 Y
theorem S0{x0:List Qr}{x1:List Qr}(N:Nat){r:List Qr}(h:zM x0 x1=some r):dB af 50 N [aM 4 eQ x0,aM 4 eQ x1] (nw N (aM 4 (fQ N) r)):=by
 refine bX Tryz.func50 Y (ae Y) (λdA M vs hN hvs=>?_);unfold zM at h;refine sr<|aI Y (bw (N:=N) (n:=4) (e:=(fQ N)))<|dn<|sr<|mv Y<|mv Y<|bE h λx7 h7 h=>RT.cf .none (JR N h7) hN Y ⟨Y,Y,Y,ak⟩ T<|ag Y<|dn<|bj ?_;cases O h;exact R1 Y
theorem NI{x0:Qr}{x1:List Qr}(N:Nat){r:List Qr}(h:qQ x0 x1=some r):dB af 40 N [.agg (eQ x0),aM 4 eQ x1] (nw N (aM 4 (fQ N) r)):=by
 obtain⟨⟨bt,bu⟩,⟨bD,bG⟩⟩:=x0;refine bX Tryz.func40 Y (ae Y) (λdA M vs hN hvs=>?_);unfold qQ at h;refine sr<|bx Y<|aI Y (bw (N:=N) (n:=4) (e:=(fQ N)))<|dn<|sr<|mv Y<|lE h λx9 h9 h=>ln Y h9<|bE h λdN gL h=>RT.vX (n:=4) (e:=(fQ N)) .none Y Y T Y T aK η (by exact⟨aq,bw,aq,bw,ak⟩) gL<|an (s:=.row _) Y<|dn<|qq<|sr<|mv Y<|lE h λdr fO h=>ln Y fO<|mv Y<|dn<|bE h λe8 Nu C3=>?_;refine bM (λ(JO:(List Qr))=>AS.cz 26 [(5,.row 10)] [] [(10,TR 43 4 (fQ N) JO)]) (λJO=>JO=e8) ?_ (λJO Nv=>?_);refine bf<|bN Nu (λs8=>AS.cz 26 [(2,.ptr 2 0),(5,.row 10),(11,.sv (aM 4 eQ x1)),(12,ah dr),(13,ah s8.1)] [(2,⟨43,[ai bt,.sv (aM 1 bk bu),ai bD,.sv (aM 1 bk bG)]⟩)] [(10,TR 43 4 (fQ N) s8.2)]) (wR []) (λs8 y8 G8 h Nw Nx=>?_);obtain⟨Qm,Qn⟩:=s8;refine sr<|lE h λeL jZ h=>ls _ Y Y jZ<|dn<|qq ?_;cases eL;refine aO ?_;cases O (F h);exact⟨Qn,Nx _ Y,wR []⟩;refine aP<|qq<|bf<|sr<|mv Y ?_;obtain⟨⟨⟨qL,qM⟩,⟨Qo,Qp⟩⟩,kS,h⟩:=bS (V h);refine ix Y Y kS<|RT.gV (cs:=[_,_,_,_]) .none Y T Y Y<|al (cs:=[ay false,nw N au,ay false,nw N au]) (by exact⟨aq,bw,aq,bw,ak⟩) Y<|ag Y<|so Y Y Y<|dn<|aZ<|mo (s:=.row _) Y<|mv Y<|ld Y Y (.k4 Y Y Y Y)<|ld Y Y (.k4 Y Y Y Y) ?_;obtain⟨⟨⟨xq,xu⟩,⟨xw,xx⟩⟩,oc,h⟩:=bS h;refine RT.cf .none (Ht N oc) hN Y ⟨Y,Y,ak⟩ T<|bE h λiN pJ h=>iR Y Y Y pJ<|bE h λEE zG h=>sA ⟨⟨xq,xu⟩,⟨xw,xx⟩⟩ Y Y Y zG<|RT.done<|bJ.n<|aY.n<|aZ<|lE h λiv oO h=>ad _ Y Y oO<|mv Y<|RT.done ?_;cases O h;exact aY.n ⟨(iv,EE),Nw _ Y,wR []⟩;subst Nv;refine aY.n<|sr<|mo (s:=.row _) Y<|an (s:=.row _) Y<|dn<|jD (i:=10) (E1:=43) (n:=4) (e:=(fQ N)) (l:=JO) hN (λ_ h=>h) Y<|bj ?_;cases O C3;exact R1 Y
theorem NJ{x0:Qr}{x1:List Qr}{r:List Qr}(h:qQ x0 x1=some r):Pure af 40 [.agg (eQ x0),aM 4 eQ x1] (aM 4 eQ r):=dK (λN=>NI N h) (λN=>PF)
theorem zR{x0:Qr}{x1:List Qr}{x2:List Qr}(N:Nat){r:List Qr}(h:jx x0 x1 x2=some r):dB af 96 N [.agg (eQ x0),aM 4 eQ x1,aM 4 eQ x2] (nw N (aM 4 (fQ N) r)):=by
 obtain⟨⟨bt,bu⟩,⟨bD,bG⟩⟩:=x0;refine bX Tryz.func96 Y (ae Y) (λdA M vs hN hvs=>?_);unfold jx at h;refine sr<|bx Y<|aI Y (bw (N:=N) (n:=4) (e:=(fQ N)))<|dn<|bP (kL (i:=3) Y [ay bt,aM 1 bk bu,ay bD,aM 1 bk bG] (.k4 Y Y Y Y) .any 0 [(3,.sv (ref [ay bt,aM 1 bk bu,ay bD,aM 1 bk bG]))] (λ_ _ _=>trivial) (yO.h (l:=[ay bt,aM 1 bk bu,ay bD,aM 1 bk bG])) ⟨@FT.ptr _ _ _ _ _ 3 0 Y,ak⟩)<|sr<|mv Y<|mv Y<|RT.Gc (caps:=[_]) .none ⟨Y,ak⟩ T<|bE h λdN gL h=>?_;refine RT.cf .none (EZ N gL) hN Y ⟨Y,Y,Y,ak⟩ T<|ag Y<|dn<|bj ?_;cases O h;exact R1 Y
theorem Gz{x0:Qr}{x1:List Qr}{x2:List Qr}{r:List Qr}(h:jx x0 x1 x2=some r):Pure af 96 [.agg (eQ x0),aM 4 eQ x1,aM 4 eQ x2] (aM 4 eQ r):=dK (λN=>zR N h) (λN=>PF)
theorem B5{x0:List Qr}{x1:List Qr}{r:Int}(h:nC x0 x1=some r):Pure af 88 [aM 4 eQ x0,aM 4 eQ x1] (ax r):=by
 refine bp Tryz.func88 Y (ae Y) (λdA M vs hvs=>?_);unfold nC at h;refine sr<|al (cs:=[ax 0]) (by exact⟨aq,ak⟩) Y<|dn<|qq<|sr<|mv Y<|mv Y<|cl (As x0 x1) ⟨Y,Y,ak⟩<|dn<|bf<|bE h λe3 hl3 ho3=>?_;obtain⟨m3,st3,hs3,ht3,hn3⟩:=Mt hl3;refine yS (At x0 x1) (λ_ _ _ _ _=>trivial) Y (λk=>AS.cz 19 [(4,.ptr 4 0),(10,.sv (oQ 165 [ref [aM 4 eQ x0],ref [aM 4 eQ x1]]))] [(4,⟨3,[ah 0]⟩)] []) [4] Y (λ_=>⟨Y,Y⟩) (BC Y) (λ_=>Y) (BD Y) (by(try dsimp only);(try dsimp only);exact cj id Y Y Y Y Y ⟨.ptr,.sv aq,ak⟩ ⟨⟨_,Y,⟨.sv aq,ak⟩⟩,ak⟩ trivial (λ_ _=>Y)) m3 (λk hk hkm D hD=>?_) (λhdn=>?_);obtain⟨y3,h,hG3,hE3⟩:=ht3 k hk hkm;dsimp only[AS.inR,BB]
 try dsimp only at h
 obtain⟨⟨⟨aei,aej⟩,⟨aek,ael⟩⟩,apZ,h⟩:=bS h;rw[Option.some.inj apZ];obtain⟨⟨⟨aem,aen⟩,⟨aeo,aep⟩⟩,ap0,h⟩:=bS h;rw[Option.some.inj ap0];refine sr<|al (cs:=[ay false,au,ay false,au]) (by exact⟨aq,aD,aq,aD,ak⟩) Y<|so Y Y Y<|dn<|aZ<|al (cs:=[ay false,au,ay false,au]) (by exact⟨aq,aD,aq,aD,ak⟩) Y<|so Y Y Y<|RT.done<|aY.n ⟨Y,?_⟩;dsimp only[AS.LF];refine bf<|sr<|ld Y Y (.k4 Y Y Y Y)<|ld Y Y (.k4 Y Y Y Y)<|bE h λdO gQ h=>cl (P8 gQ) ⟨Y,Y,ak⟩<|ag Y<|dn<|sr<|mv Y<|lE h λdZ jE h=>ne _ Y Y (Nh (p:=dO) (q:=0) jE)<|dn ?_;cases dZ;refine cF<|bC<|bJ.n ?_;cases O (F h);obtain⟨hm3,hq3⟩:=hG3 _ Y;exact⟨hm3,Y,Y,wR []⟩;refine cT<|sr<|mv Y<|RT.yP (cells:=[_]) .none (s:=.sv _) Y Y Y T Y<|dn<|bj<|bJ.r ?_;cases O (V h);have he3:=hE3 _ Y;subst he3;refine⟨Y,Y,?_⟩;refine bJ.r<|aY.r ?_;cases O ho3;exact RZ (.one Y Y Y (.nil));have hd3:=hn3 hdn;subst hd3;obtain⟨ee3,ahl⟩:∃q,st3 (max x0.length x1.length)=q:=⟨_,Y⟩;rw[ahl]at ho3;refine bJ.n<|aY.n<|sr<|RT.yP (cells:=[_]) .none (s:=.sv _) Y Y Y T Y<|dn<|bj ?_;cases O ho3;exact RZ (.one Y Y Y (.nil))
theorem Qt{x0:List Qr}{r:Int}(h:xy x0=some r):Pure af 91 [aM 4 eQ x0] (ax r):=by
 refine bp Tryz.func91 Y (ae Y) (λdA M vs hvs=>?_);unfold xy at h;refine sr<|ag Y<|dn<|sr<|mv Y<|bE h λx4 h4 h=>cl ((B5 h4).w (args':=[_,_]) ⟨aq,aD,ak⟩) ⟨Y,Y,ak⟩<|ag Y<|dn<|bj ?_;cases O h;exact R1 Y
theorem mU{x0:List Qr}{x1:List Qr}{r:Bool}(h:ig x0 x1=some r):Pure af 37 [aM 4 eQ x0,aM 4 eQ x1] (ay r):=by
 refine bp Tryz.func37 Y (ae Y) (λdA M vs hvs=>?_);unfold ig at h;refine sr<|ag Y<|dn<|sr<|mv Y<|mv Y<|bE h λx7 h7 h=>cl (B5 h7) ⟨Y,Y,ak⟩<|lE h λx8 h8 h=>eq _ Y Y (yT (p:=x7) (q:=0) h8)<|ag Y<|dn<|bj ?_;cases O h;exact R1 Y
theorem ux{x0:List Qr}{x1:Int}(N:Nat){r:List Qr}(h:kU x0 x1=some r):dB af 47 N [aM 4 eQ x0,ax x1] (nw N (aM 4 (fQ N) r)):=by
 refine bX Tryz.func47 Y (ae Y) (λdA M vs hN hvs=>?_);unfold kU at h;refine sr<|aI Y (bw (N:=N) (n:=4) (e:=(fQ N)))<|dn<|qq<|sr<|mv Y<|lE h λx8 h8 h=>ls _ Y Y h8<|dn ?_;cases x8;refine fs<|sr<|mv Y<|lE (F h) λdN gL h=>RT.min .none _ Y Y T (Xz (p:=x1) (q:=65536) gL)<|bE h λfy kR h=>RT.vX (n:=4) (e:=(fQ N)) .none Y Y T Y T aK η (by exact⟨aq,bw,aq,bw,ak⟩) kR<|an (s:=.row _) Y<|dn<|qq<|sr<|mv Y<|lE h λeP jg h=>ln Y jg<|mo (s:=.row _) Y<|lE h λdO gQ h=>lL Y Y gQ<|lE h λfD kS h=>?_;refine RT.min .none _ Y Y T (Xz (p:=eP) (q:=dO) kS)<|mv Y<|dn<|bE h λe8 Nu C3=>?_;refine bM (λ(JP:(List Qr))=>AS.cz 30 [(5,.row 11)] [] [(11,TR 43 4 (fQ N) JP)]) (λJP=>JP=e8) ?_ (λJP Nv=>?_);refine bf<|bN Nu (λs8=>AS.cz 30 [(0,.sv (aM 4 eQ x0)),(5,.row 11),(16,ah fD),(17,ah s8.1)] [] [(11,TR 43 4 (fQ N) s8.2)]) (wR []) (λs8 y8 G8 h Nw Nx=>?_);obtain⟨Qq,Qs⟩:=s8;refine sr<|lE h λfe jB h=>ls _ Y Y jB<|dn<|qq ?_;cases fe;refine aO ?_;cases O (F h);exact⟨Qs,Nx _ Y,wR []⟩;refine aP<|qq<|bf<|sr<|mv Y<|ag Y<|dn<|aZ<|mo (s:=.row _) Y<|mv Y<|mv Y<|mv Y ?_;obtain⟨⟨⟨wh,wj⟩,⟨zN,zO⟩⟩,oO,h⟩:=bS (V h);refine ix Y Y oO<|RT.gV (cs:=[_,_,_,_]) .none Y T Y Y ?_;obtain⟨⟨⟨xz,zP⟩,⟨zQ,xA⟩⟩,pK,h⟩:=bS h;refine RT.cf .none (jt N pK) hN Y ⟨Y,ak⟩ T<|bE h λjm qf h=>iR Y Y Y qf<|bE h λEE zG h=>sA ⟨⟨xz,zP⟩,⟨zQ,xA⟩⟩ Y Y Y zG<|RT.done<|bJ.n<|aY.n<|aZ<|lE h λlO wB h=>ad _ Y Y wB<|mv Y<|RT.done ?_;cases O h;exact aY.n ⟨(lO,EE),Nw _ Y,wR []⟩;subst Nv;refine aY.n<|sr<|mo (s:=.row _) Y<|an (s:=.row _) Y<|dn<|jD (i:=11) (E1:=43) (n:=4) (e:=(fQ N)) (l:=JP) hN (λ_ h=>h) Y<|bj ?_;cases O C3;exact R1 Y;refine cT<|sr<|aI Y (bw (N:=N) (n:=4) (e:=(fQ N)))<|dn<|bj<|aY.r ?_;cases O (V h);exact R1 Y
theorem LR{x0:List Qr}{x1:Int}{r:List Qr}(h:kU x0 x1=some r):Pure af 47 [aM 4 eQ x0,ax x1] (aM 4 eQ r):=dK (λN=>ux N h) (λN=>PF)
theorem gu{x0:List Int}{r:List Qr}(h:dW x0=some r):Pure af 54 [aM 1 bO x0] (aM 4 eQ r):=by
 refine bp Tryz.func54 Y (ae Y) (λdA M vs hvs=>?_);unfold dW at h;refine sr<|aI Y (aD (n:=4) (e:=eQ))<|dn<|sr<|mv Y<|lE h λx7 h7 h=>ln Y h7<|bE h λx8 h8 h=>RT.vX (n:=4) (e:=eQ) .none Y Y T Y T aK η (by exact⟨aq,aD,aq,aD,ak⟩) h8<|an (s:=.row _) Y<|dn<|qq<|sr<|mv Y<|lE h λdN gL h=>ln Y gL<|mv Y<|dn<|bE h λe8 Nu C3=>?_;refine bM (λ(DS:(List Qr))=>AS.cz 23 [(3,.row 8)] [] [(8,TR 43 4 eQ DS)]) (λDS=>DS=e8) ?_ (λDS Nv=>?_);refine bf<|bN Nu (λs8=>AS.cz 23 [(3,.row 8),(9,.sv (aM 1 bO x0)),(10,ah dN),(11,ah s8.1)] [] [(8,TR 43 4 eQ s8.2)]) (wR []) (λs8 y8 G8 h Nw Nx=>?_);obtain⟨uY,JQ⟩:=s8;refine sr<|lE h λdr fO h=>ls _ Y Y fO<|dn<|qq ?_;cases dr;refine aO ?_;cases O (F h);exact⟨JQ,Nx _ Y,wR []⟩;refine aP<|qq<|bf<|sr<|mv Y<|bE (V h) λeL jZ h=>ix Y Y jZ<|lr Y Y<|ag Y<|ag Y<|dn<|aZ<|mo (s:=.row _) Y<|mv Y<|mv Y ?_;obtain⟨⟨⟨kF,kG⟩,⟨sX,sY⟩⟩,nq,h⟩:=bS h;refine cl (nP nq) ⟨Y,ak⟩<|bE h λiz pA h=>iR Y Y Y pA<|bE h λEE zG h=>sA ⟨⟨kF,kG⟩,⟨sX,sY⟩⟩ Y Y Y zG<|RT.done<|bJ.n<|aY.n<|aZ<|lE h λfR j0 h=>ad _ Y Y j0<|mv Y<|RT.done ?_;cases O h;exact aY.n ⟨(fR,EE),Nw _ Y,wR []⟩;subst Nv;refine aY.n<|sr<|mo (s:=.row _) Y<|an (s:=.row _) Y<|dn<|bP (cH (i:=8) (E1:=43) (n:=4) (e:=eQ) (l:=DS) Y)<|bj ?_;cases O C3;exact R1 Y
end
section
open Go.Fw
noncomputable def zS(x0:List (List Qr))(x1:Int):Option (List Qr):=cX (λ(JS:Bool)=>(bif JS then some []else(cV x0 x1).bind λdO=>some dO)) λK3=>(some (decide ((x1:Int)<0))).bind λx6=>(bif x6 then some true else(some (x0.length:Int)).bind λdN=>(some (decide ((dN:Int)<=x1))).bind λfy=>some fy).bind λQu=>K3 Qu
noncomputable def tQ(x0:List (List Qr)):Option (Int):=(some (x0.length:Int)).bind λx7=>(cm (λ(s6:Int×Int)=>match s6 with|⟨uZ,ab6⟩=>(show Option ((Int×Int)⊕(Int))from(some (decide ((ab6:Int)<x7))).bind λx9=>(bif x9 then(cV x0 ab6).bind λdN=>(some (dN.length:Int)).bind λeL=>(some (max (uZ:Int) eL)).bind λdO=>(some (IntKind.i64.wrap (ab6+1))).bind λfD=>some (.inl (dO,fD))else some (.inr uZ)))) (0,0)).bind λzT=>some zT
noncomputable def zU(x0:List (List Qr))(x1:Int)(x2:Int):Option (Qr):=(zS x0 x1).bind λdN=>cX (λ(Yu:Bool)=>(bif Yu then some ⟨⟨false,[]⟩,⟨false,[]⟩⟩else(cV dN x2).bind λ⟨⟨xq,xu⟩,⟨xw,xx⟩⟩=>(dV ⟨⟨xq,xu⟩,⟨xw,xx⟩⟩).bind λ⟨⟨wh,wj⟩,⟨zN,zO⟩⟩=>some ⟨⟨wh,wj⟩,⟨zN,zO⟩⟩)) λK3=>(some (decide ((x2:Int)<0))).bind λdr=>(bif dr then some true else(some (dN.length:Int)).bind λfD=>(some (decide ((fD:Int)<=x2))).bind λdZ=>some dZ).bind λaeq=>K3 aeq
noncomputable def mw(x0:List (List Int)):Option (List (List Qr)):=(some (x0.length:Int)).bind λx7=>(Ln 24 x7 ([]:List Qr)).bind λx8=>(some (x0.length:Int)).bind λdN=>(cm (λ(s8:Int×(List (List Qr)))=>match s8 with|⟨uY,JQ⟩=>(show Option ((Int×(List (List Qr)))⊕((List (List Qr))))from(some (decide ((uY:Int)<dN))).bind λdr=>(bif dr then(cV x0 uY).bind λeL=>(dW eL).bind λkI=>(qK JQ uY).bind λiz=>(stM JQ iz kI).bind λEE=>(some (IntKind.i64.wrap (uY+1))).bind λfR=>some (.inl (fR,EE))else some (.inr JQ)))) (0,x8)).bind λDS=>some DS
end
section
open Go.Fw Go.Fw.Z Go.RowKit
theorem S3{x0:List (List Qr)}{x1:Int}{r:List Qr}(h:zS x0 x1=some r):Pure af 139 [aM 1 (eS 4 eQ) x0,.v (.int .i64 x1)] (aM 4 eQ r):=by
 refine bp Tryz.func139 Y (ae Y) (λdA M vs hvs=>?_);unfold zS at h;refine sr<|aI Y (aD (n:=4) (e:=eQ))<|dn<|qq<|qq<|bU h (λj3=>AS.cz 17 [(0,.sv (aM 1 (eS 4 eQ) x0)),(1,.sv (.v (.int .i64 x1))),(12,.sv (.v (.bool j3)))] [] []) (λh=>?_) (λJS h=>?_);refine aZ<|mv Y<|lE h λx6 h6 h=>ls _ Y Y h6<|mv Y<|bE h λQu sM h=>?_;cases x6;refine gm Y<|gm Y<|lE (F sM) λdN gL sM=>gn Y gL<|lE sM λfy kR sM=>RT.geq (.some Y Y) _ Y Y T kR ?_;obtain rfl:=O sM;exact pF Y<|dn<|⟨fy,h,wR []⟩;cases O (V sM);exact ww<|ww<|ww<|ww<|pT Y<|dn<|⟨true,h,wR []⟩;refine aY.n ?_;cases JS;refine fs<|sr<|mv Y<|mv Y<|bE (F h) λdO gQ h=>ix Y Y gQ<|lr Y Y<|ag Y<|dn<|bj ?_;cases O h;exact R1 Y;refine cT<|sr<|aI Y (aD (n:=4) (e:=eQ))<|dn<|bj<|aY.r ?_;cases O (V h);exact R1 Y
theorem Hu{x0:List (List Qr)}{r:Int}(h:tQ x0=some r):Pure af 84 [aM 1 (eS 4 eQ) x0] (.v (.int .i64 r)):=by
 refine bp Tryz.func84 Y (ae Y) (λdA M vs hvs=>?_);unfold tQ at h;refine sr<|ag Y<|dn<|sr<|ag Y<|dn<|qq<|sr<|mv Y<|lE h λx7 h7 h=>ln Y h7<|mv Y<|dn<|bE h λe6 rJ iI=>?_;refine bM (λ(zT:Int)=>AS.cz 18 [(3,.sv (.v (.int .i64 zT)))] [] []) (λzT=>zT=e6) ?_ (λzT rK=>?_);refine bf<|bN rJ (λs6=>AS.cz 18 [(3,.sv (.v (.int .i64 s6.1))),(6,.sv (aM 1 (eS 4 eQ) x0)),(7,.sv (.v (.int .i64 x7))),(8,.sv (.v (.int .i64 s6.2)))] [] []) (wR []) (λs6 y6 G6 h rL nV=>?_);obtain⟨uZ,ab6⟩:=s6;refine sr<|lE h λx9 h9 h=>ls _ Y Y h9<|dn<|qq ?_;cases x9;refine aO ?_;cases O (F h);exact⟨uZ,nV _ Y,wR []⟩;refine aP<|qq<|bf<|sr<|bE (V h) λdN gL h=>ix Y Y gL<|lr Y Y<|ag Y<|dn<|aZ<|mv Y<|mv Y<|lE h λeL jZ h=>ln Y jZ<|lE h λdO gQ h=>RT.max .none _ Y Y T (Pw (p:=uZ) (q:=eL) gQ)<|ag Y<|RT.done<|bJ.n<|aY.n<|aZ<|lE h λfD kS h=>ad _ Y Y kS<|mv Y<|RT.done ?_;cases O h;exact aY.n ⟨(dO,fD),rL _ Y,wR []⟩;subst rK;refine aY.n<|sr<|mv Y<|ag Y<|dn<|bj ?_;cases O iI;exact R1 Y
theorem ME{x0:List (List Qr)}{x1:Int}{x2:Int}(N:Nat){r:Qr}(h:zU x0 x1 x2=some r):dB af 103 N [aM 1 (eS 4 eQ) x0,.v (.int .i64 x1),.v (.int .i64 x2)] (.agg ((fQ N) r)):=by
 refine bX Tryz.func103 Y (ae Y) (λdA M vs hN hvs=>?_);unfold zU at h;refine sr<|al (cs:=[.v (.bool false),nw N (aM 1 bk []),.v (.bool false),nw N (aM 1 bk [])]) (by exact⟨aq,bw,aq,bw,ak⟩) Y<|dn<|sr<|mv Y<|mv Y<|bE h λdN gL h=>cl (S3 gL) ⟨Y,Y,ak⟩<|ag Y<|dn<|qq<|qq<|bU h (λj3=>AS.cz 25 [(2,.sv (.v (.int .i64 x2))),(6,.ptr 6 0),(7,.sv (aM 4 eQ dN)),(18,.sv (.v (.bool j3)))] [(6,⟨43,[.sv (.v (.bool false)),.sv (nw N (aM 1 bk [])),.sv (.v (.bool false)),.sv (nw N (aM 1 bk []))]⟩)] []) (λh=>?_) (λYu h=>?_);refine aZ<|mv Y<|lE h λdr fO h=>ls _ Y Y fO<|mv Y<|bE h λaeq sM h=>?_;cases dr;refine gm Y<|gm Y<|lE (F sM) λfD kS sM=>gn Y kS<|lE sM λdZ jE sM=>RT.geq (.some Y Y) _ Y Y T jE ?_;obtain rfl:=O sM;exact pF Y<|dn<|⟨dZ,h,wR []⟩;cases O (V sM);exact ww<|ww<|ww<|ww<|pT Y<|dn<|⟨true,h,wR []⟩;refine aY.n ?_;cases Yu;refine fs<|sr<|mv Y<|mv Y ?_;obtain⟨⟨⟨xq,xu⟩,⟨xw,xx⟩⟩,oc,h⟩:=bS (F h);refine ix Y Y oc<|RT.gV (cs:=[_,_,_,_]) .none Y T Y Y ?_;obtain⟨⟨⟨wh,wj⟩,⟨zN,zO⟩⟩,oO,h⟩:=bS h;refine RT.cf .none (jt N oO) hN Y ⟨Y,ak⟩ T<|so Y Y Y<|dn<|bj ?_;cases O h;exact RZ (.agg Y Y (.cons Y (.cons Y (.cons Y (.cons Y (.nil))))) Y (.nil));refine cT<|sr<|bI (cs:=[_,_,_,_]) (cs':=[.v (.bool false),nw N (aM 1 bk []),.v (.bool false),nw N (aM 1 bk [])]) (.nil) ⟨aq,bw,aq,bw,ak⟩<|so Y Y Y<|dn<|bj<|aY.r ?_;cases O (V h);exact RZ (.agg Y Y (.cons Y (.cons Y (.cons Y (.cons Y (.nil))))) Y (.nil))
theorem VX{x0:List (List Qr)}{x1:Int}{x2:Int}{r:Qr}(h:zU x0 x1 x2=some r):Pure af 103 [aM 1 (eS 4 eQ) x0,.v (.int .i64 x1),.v (.int .i64 x2)] (.agg (eQ r)):=dK (λN=>ME N h) (λN=>(SV.eA (qI _ _)))
theorem A8{x0:List (List Int)}{r:List (List Qr)}(h:mw x0=some r):Pure af 100 [aM 1 (eS 1 bO) x0] (aM 1 (eS 4 eQ) r):=by
 refine bp Tryz.func100 Y (ae Y) (λdA M vs hvs=>?_);unfold mw at h;refine sr<|aI Y (aD (n:=1) (e:=(eS 4 eQ)))<|dn<|sr<|mv Y<|lE h λx7 h7 h=>ln Y h7<|bE h λx8 h8 h=>RT.vX (n:=1) (e:=(eS 4 eQ)) .none Y Y T Y T aK η (by exact⟨aD,ak⟩) h8<|an (s:=.row _) Y<|dn<|qq<|sr<|mv Y<|lE h λdN gL h=>ln Y gL<|mv Y<|dn<|bE h λe8 Nu C3=>?_;refine bM (λ(DS:(List (List Qr)))=>AS.cz 23 [(3,.row 8)] [] [(8,TR 23 1 (eS 4 eQ) DS)]) (λDS=>DS=e8) ?_ (λDS Nv=>?_);refine bf<|bN Nu (λs8=>AS.cz 23 [(3,.row 8),(9,.sv (aM 1 (eS 1 bO) x0)),(10,.sv (.v (.int .i64 dN))),(11,.sv (.v (.int .i64 s8.1)))] [] [(8,TR 23 1 (eS 4 eQ) s8.2)]) (wR []) (λs8 y8 G8 h Nw Nx=>?_);obtain⟨uY,JQ⟩:=s8;refine sr<|lE h λdr fO h=>ls _ Y Y fO<|dn<|qq ?_;cases dr;refine aO ?_;cases O (F h);exact⟨JQ,Nx _ Y,wR []⟩;refine aP<|qq<|bf<|sr<|mv Y<|bE (V h) λeL jZ h=>ix Y Y jZ<|lr Y Y<|ag Y<|ag Y<|dn<|aZ<|mo (s:=.row _) Y<|mv Y<|mv Y<|bE h λkI nq h=>cl (gu nq) ⟨Y,ak⟩<|bE h λiz pA h=>iR Y Y Y pA<|bE h λEE zG h=>sR kI Y Y Y Y zG<|RT.done<|bJ.n<|aY.n<|aZ<|lE h λfR j0 h=>ad _ Y Y j0<|mv Y<|RT.done ?_;cases O h;exact aY.n ⟨(fR,EE),Nw _ Y,wR []⟩;subst Nv;refine aY.n<|sr<|mo (s:=.row _) Y<|an (s:=.row _) Y<|dn<|bP (cH (i:=8) (E1:=23) (n:=1) (e:=(eS 4 eQ)) (l:=DS) Y)<|bj ?_;cases O C3;exact R1 Y
end
end Go.Proofs.YtningmnklfpfjaaGreat
namespace Go.Fw
section
open Go.RowKit
def qy:List (Nat×Row×Value)->(Nat->Value)->Nat->Value
 |[],ν,j=>ν j
 |(k,_,v)::l,ν,j=>if j=k then v else qy l ν j
theorem u0{ν:Nat->Value}:∀{l:List (Nat×Row×Value)} {j:Nat},(∀R v,(j,R,v)∉l)->qy l ν j=ν j
 |[],_,_=>rfl
 |(k,R,v)::l,j,h=>by
  have:j≠k:=λe=>h R v (by rw[e];simp);rw[qy,if_neg this];exact u0 (λR v hm=>h R v (List.mem_cons_of_mem _ hm))
theorem nv{ν:Nat->Value}:∀{l:List (Nat×Row×Value)} {j:Nat} {R:Row} {v:Value},(l.map (·.1)).Nodup->(j,R,v)∈l->qy l ν j=v
 |(k,R',v')::l,j,R,v,hn,h=>by
  rw[List.map_cons,List.nodup_cons]at hn;rcases List.mem_cons.1 h with e|e
  ·cases e;rw[qy,if_pos rfl]
  have:j≠k:=λq=>hn.1 (List.mem_map.2 ⟨(j,R,v),e,q⟩);rw[qy,if_neg this];exact nv hn.2 e
def E4(olds:List Nat)(news:List (Nat×Row×Value)):List (Nat×qa):=olds.map (λj=>(j,.dead))++news.map (λn=>(n.1,.live n.2.1))
theorem Au:∀(l k:List (Nat×qa)) (j:Nat),fL (l++k) j=match fL k j with|some R=>some R|none=>fL l j
 |[],k,j=>by cases h:fL k j<;>simp[h,fL]
 |(i,R)::l,k,j=>by
  rw[List.cons_append,fL,fL,Au l k j];cases h:fL k j<;>simp
theorem DU{l:List (Nat×qa)}{j:Nat}(h:∀R,(j,R)∉l):fL l j=none:=by
 induction l with
 |nil=>rfl
 |cons p l ih=>
  obtain⟨i,R⟩:=p;rw[fL,ih (λR hm=>h R (List.mem_cons_of_mem _ hm))];have:j≠i:=λe=>h R (by rw[e];simp);simp[this]
theorem Av{l:List (Nat×qa)}{j:Nat}{R:qa}(h:fL l j=some R):(j,R)∈l:=by
 induction l with
 |nil=>cases h
 |cons p l ih=>
  obtain⟨i,R'⟩:=p;rw[fL]at h;cases e:fL l j with
  |some R2=>rw[e]at h;cases h;exact List.mem_cons_of_mem _ (ih e)
  |none=>
   rw[e]at h;by_cases q:j=i
   ·subst q;simp at h;subst h;simp
   simp[q]at h
theorem E5{l:List (Nat×qa)}{j:Nat}{R:qa}(h:(j,R)∈l):∃R',fL l j=some R':=by
 induction l with
 |nil=>cases h
 |cons p l ih=>
  obtain⟨i,R'⟩:=p;rw[fL];rcases List.mem_cons.1 h with e|e
  ·cases e;cases q:fL l j with
   |some R2=>exact⟨R2,Y⟩
   |none=>exact⟨R,by simp⟩
  obtain⟨R2,h2⟩:=ih e;exact⟨R2,by rw[h2]⟩
section swap
variable {C:Ctx}{S:AS}
theorem bz.ak9{E:Env}{a:Act}{w w':World}(h:bz C S E a w){i:Nat}{T:TypeId}{cells cells':List AV}{us':List Value}{M':Mem}(hB:S.b i=some ⟨T,cells⟩)(olds:List Nat)(news:List (Nat×Row×Value))
  (hold:∀j∈olds,∃R,S.r j=.live R) (hnew:∀k R v,(k,R,v)∈news->S.r k=.un/\k<1000) (hnd:(news.map (·.1)).Nodup)
  (hM:E.M.le M') (hmn:∀b o x,M' b o=some x->E.M b o=some x\/w.heap.size<=b\/∃j∈olds,(E.ν j).ownBlock=some b) (hin:M'.dH w')
  (ap4:w'.heap[E.β i]? =some (.cells ⟨us'⟩ T (0,0))) (hnb:∀o,M' (E.β i) o=none) (Dy:dQ {E with M:=M',ν:=qy news E.ν} cells' us')
  (hcb:∀x∈cells',(∀j,¬x.mb j)/\∀j,x.mr j->∃R v,(j,R,v)∈news)
  (hrow:∀k R v,(k,R,v)∈news->(∃vs:List Value,w'.ownsRow 0 R.E R.sz v R.n vs/\SV.eJ M' R.cells vs)/\∀g,v.ownBlock=some g->((∃j∈olds,(E.ν j).ownBlock=some g)\/w.heap.size<=g)/\(∀o,M' g o=none)/\g≠E.β i)
  (ala:∀k R v k' R' v' g,(k,R,v)∈news->(k',R',v')∈news->v.ownBlock=some g->v'.ownBlock=some g->k=k')
  (hos:w'.os=w.os) (zV:w'.tape=w.tape) (hout:w'.output=w.output) (hsize:w.heap.size<=w'.heap.size)
  (qj:∀k,k<w.heap.size->k≠E.β i->(∀j∈olds,(E.ν j).ownBlock≠some k)->w'.heap[k]? =w.heap[k]?):
  bz C (AS.cK (E4 olds news) (AS.iM [(i,⟨T,cells'⟩)] S)) {E with M:=M',ν:=qy news E.ν} a w':=by
 obtain⟨VY,ap5,ab7,vs0,VZ,_⟩:=h.bx i _ hB;have aun:E.β i<w.heap.size:=(Array.getElem?_eq_some_iff.1 VZ).1;obtain⟨n1,n2,n3,n4,n5⟩:=fV (E4 olds news) (AS.iM [(i,⟨T,cells'⟩)] S);have tOf:(AS.cK (E4 olds news) (AS.iM [(i,⟨T,cells'⟩)] S)).t=S.t:=n2;have Dc:∀j,(AS.cK (E4 olds news) (AS.iM [(i,⟨T,cells'⟩)] S)).b j=if j=i then some ⟨T,cells'⟩else S.b j:=λj=>by
  rw[n3];by_cases e:j=i
  ·subst e;rw[if_pos rfl];exact AS.dP _ _ _
  rw[if_neg e];exact AS.cP _ _ _ _ e
 have alb:∀k R v,(k,R,v)∈news->fL (news.map (λn=>(n.1,qa.live n.2.1))) k=some (.live R):=λk R v hm=>by
  obtain⟨R',uM⟩:=E5 (l:=news.map (λn=>(n.1,qa.live n.2.1))) (j:=k) (R:=.live R) (List.mem_map.2 ⟨(k,R,v),hm,Y⟩);obtain⟨⟨k2,R2,v2⟩,W5,e⟩:=List.mem_map.1 (Av uM);have e1:k2=k:=congrArg Prod.fst e;have e2:qa.live R2=R':=congrArg Prod.snd e;rw[e1]at W5;have:R2=R:=by
   have key:∀(l:List (Nat×Row×Value)),(l.map (·.1)).Nodup->(k,R2,v2)∈l->(k,R,v)∈l->R2=R:=by
    intro l
    induction l with
    |nil=>intro _ h;cases h
    |cons p l ih=>
     intro hn h1 h2;rw[List.map_cons,List.nodup_cons]at hn;rcases List.mem_cons.1 h1 with e1|e1<;>rcases List.mem_cons.1 h2 with e2|e2
     ·rw[<-e1]at e2;cases e2;rfl
     ·exact absurd (List.mem_map.2 ⟨_,e2,by rw[<-e1]⟩) hn.1
     ·exact absurd (List.mem_map.2 ⟨_,e1,by rw[<-e2]⟩) hn.1
     exact ih hn.2 e1 e2
   exact key news hnd W5 hm
  rw[uM,<-e2,this]
 have alc:∀k R v,(k,R,v)∈news->(AS.cK (E4 olds news) (AS.iM [(i,⟨T,cells'⟩)] S)).r k=.live R:=λk R v hm=>by
  rw[oP,E4,Au,alb k R v hm];rfl
 have ald:∀j,(∀R v,(j,R,v)∉news)->(AS.cK (E4 olds news) (AS.iM [(i,⟨T,cells'⟩)] S)).r j=if j∈olds then .dead else S.r j:=λj hn=>by
  have e1:fL (news.map (λn=>(n.1,qa.live n.2.1))) j=none:=DU (λR hm=>by
   obtain⟨⟨k2,R2,v2⟩,W5,e⟩:=List.mem_map.1 hm;cases e;exact hn R2 v2 W5)
  rw[oP,E4,Au,e1];by_cases ho:j∈olds
  ·rw[if_pos ho];obtain⟨R',uM⟩:=E5 (l:=olds.map (λj=>(j,qa.dead))) (j:=j) (R:=.dead) (List.mem_map.2 ⟨j,ho,Y⟩);obtain⟨j2,_,e⟩:=List.mem_map.1 (Av uM);cases e;rw[uM];rfl
  rw[if_neg ho,DU (λR hm=>by obtain⟨j2,W5,e⟩:=List.mem_map.1 hm;cases e;exact ho W5)];rfl
 have Yv:∀j,S.r j≠ .un->∀R v,(j,R,v)∉news:=λj hj R v hm=>hj (hnew j R v hm).1;have rne:∀j,S.r j≠ .un->(AS.cK (E4 olds news) (AS.iM [(i,⟨T,cells'⟩)] S)).r j≠ .un:=λj hj=>by
  rw[ald j (Yv j hj)];split
  ·simp
  exact hj
 have GA:∀j∈olds,∀g,(E.ν j).ownBlock=some g->(C.w0.heap.size<=g\/C.A4 g)/\(∀o,E.M g o=none)/\¬E.O g/\(∀n B,S.b n=some B->E.β n≠g)/\g<w.heap.size/\∃c e,w.heap[g]? =some (Obj.cells c e (0,0)):=λj hj g hg=>by
  obtain⟨R,hR⟩:=hold j hj;obtain⟨⟨us,q1,_⟩,q2⟩:=h.rx j R hR;obtain⟨q3,q4,q5,q6⟩:=q2 g hg;refine⟨q3,q4,q5,q6,nZ h hR hg,?_⟩;rcases q1.2 with⟨q7,_⟩|⟨g',cap,cur,q7,_,q8,_⟩
  ·rw[q7]at hg;cases hg
  rw[q7]at hg;cases hg;exact⟨_,_,q8⟩
 have keep:∀x:AV,(∀j,x.mr j->S.r j≠ .un)->∀v,x.holds E v->x.holds {E with M:=M',ν:=qy news E.ν} v:=λx hx v hv=>
  AV.dz (E:=E) (E':={E with M:=M',ν:=qy news E.ν}) hM (λ_ _=>Y) (λj hj=>u0 (Yv j (hx j hj))) hv
 have noM:∀b,b<w.heap.size->(∀o,E.M b o=none)->(∀j∈olds,(E.ν j).ownBlock≠some b)->∀o,M' b o=none:=λb h1 h2 h3 o=>by
  cases e:M' b o with
  |none=>rfl
  |some v=>
   rcases hmn b o v e with q|q|⟨j,q1,q2⟩
   ·rw[h2 o]at q;cases q
   ·omega
   exact absurd q2 (h3 j q1)
 have live:∀j R,(AS.cK (E4 olds news) (AS.iM [(i,⟨T,cells'⟩)] S)).r j=.live R->(∃v,(j,R,v)∈news)\/((∀R v,(j,R,v)∉news)/\j∉olds/\S.r j=.live R):=λj R hj=>by
  by_cases hn:∃R v,(j,R,v)∈news
  ·obtain⟨R',v,hm⟩:=hn;rw[alc j R' v hm]at hj;cases hj;exact .inl ⟨v,hm⟩
  have hn:∀R v,(j,R,v)∉news:=λR v hm=>hn ⟨R,v,hm⟩;rw[ald j hn]at hj;by_cases ho:j∈olds
  ·rw[if_pos ho]at hj;cases hj
  rw[if_neg ho]at hj;exact .inr ⟨hn,ho,hj⟩
 have oth:∀j R,S.r j=.live R->j∉olds->∀g,(E.ν j).ownBlock=some g->∀j'∈olds,(E.ν j').ownBlock≠some g:=λj R hR ho g hg j' hj' e=>by
  obtain⟨R',uM⟩:=hold j' hj';have:=h.fP j j' R R' hR uM g hg e;subst this;exact ho hj'
 exact{
  wf:=by
   refine⟨λs j hj=>?_,λs j hj=>?_,λj B iZ x hx m hm=>?_,λj B iZ x hx m hm=>?_⟩
   ·rw[tOf]at hj;obtain⟨B,iZ⟩:=h.wf.tb s j hj;rw[Dc];by_cases e:j=i
    ·exact⟨_,if_pos e⟩
    exact⟨B,by rw[if_neg e];exact iZ⟩
   ·rw[tOf]at hj;exact rne j (h.wf.tr s j hj)
   ·rw[Dc]at iZ⊢;by_cases e:j=i
    ·rw[if_pos e]at iZ;cases iZ;exact absurd hm ((hcb x hx).1 m)
    rw[if_neg e]at iZ;obtain⟨B2,hB2⟩:=h.wf.bb j B iZ x hx m hm;by_cases e2:m=i
    ·exact⟨_,if_pos e2⟩
    exact⟨B2,by rw[if_neg e2];exact hB2⟩
   rw[Dc]at iZ;by_cases e:j=i
   ·rw[if_pos e]at iZ;cases iZ;obtain⟨R,v,W5⟩:=(hcb x hx).2 m hm;rw[alc m R v W5];simp
   rw[if_neg e]at iZ;exact rne m (h.wf.br j B iZ x hx m hm)
  marks:=by
   obtain⟨ds,d1,d2,d3⟩:=h.marks;refine⟨ds,d1,d2,λr hr=>?_⟩;obtain⟨p1,p2,p3⟩:=d3 r hr;refine⟨p1,p2,?_⟩;rw[qj r (Array.getElem?_eq_some_iff.1 p3).1 (λe=>by rw[e,VZ]at p3;cases p3) (λj hj e=>by
    obtain⟨_,_,_,_,_,c,e2,q⟩:=GA j hj r e;rw[q]at p3;cases p3)]
   exact p3
  size:=by rw[n1];exact h.size
  os:=hos.trans h.os
  tape:=zV.trans h.tape
  output:=hout.trans h.output
  grown:=Nat.le_trans h.grown hsize
  frame:=λk hk hown=>by
   rw[qj k (Nat.lt_of_lt_of_le hk h.grown) (λe=>by
    rcases VY with q|q
    ·omega
    ·exact hown (C.HO _ (by rw[e];exact q))) (λj hj e=>by
    rcases(GA j hj k e).1 with q|q
    ·omega
    exact hown (C.HO _ q))]
   exact h.frame k hk hown
  m0:=Mem.le_trans h.m0 hM
  fu:=λb o v e=>by
   rcases hmn b o v e with q|q|⟨j,q1,q2⟩
   ·exact h.fu b o v q
   ·exact .inr (.inl (Nat.le_trans h.grown q))
   rcases(GA j q1 b q2).1 with q|q
   ·exact .inr (.inl q)
   exact .inr (.inr (C.HO _ q))
  dH:=hin
  tm:=λs=>by rw[tOf];exact keep _ (h.wf.tr s) _ (h.tm s)
  bx:=λj B iZ=>by
   rw[Dc]at iZ;by_cases e:j=i
   ·rw[if_pos e]at iZ;cases iZ;subst e;exact⟨VY,hnb,ab7,us',ap4,Dy⟩
   rw[if_neg e]at iZ;obtain⟨p1,p2,p3,vs,p4,p5⟩:=h.bx j B iZ;have hlt:=(Array.getElem?_eq_some_iff.1 p4).1;have hno:∀j'∈olds,(E.ν j').ownBlock≠some (E.β j):=λj' hj' q=>(GA j' hj' _ q).2.2.2.1 j B iZ Y;refine⟨p1,noM _ hlt p2 hno,p3,vs,?_,p5.imp (λx hx v hv=>keep x (h.wf.br j B iZ x hx) v hv)⟩;show w'.heap[E.β j]? =_;rw[qj _ hlt (λq=>e (h.inj j i B _ iZ hB q)) hno];exact p4
  inj:=λj j' B B' h1 h2 e=>by
   have key:∀n B,(AS.cK (E4 olds news) (AS.iM [(i,⟨T,cells'⟩)] S)).b n=some B->∃B',S.b n=some B':=λn B hn=>by
    rw[Dc]at hn;by_cases e:n=i
    ·subst e;exact⟨_,hB⟩
    rw[if_neg e]at hn;exact⟨B,hn⟩
   obtain⟨B1,p1⟩:=key j B h1;obtain⟨B2,p2⟩:=key j' B' h2;exact h.inj j j' B1 B2 p1 p2 e
  rx:=λj R hj=>by
   have boxes:∀g,(∀n B,S.b n=some B->E.β n≠g)->∀n B,(AS.cK (E4 olds news) (AS.iM [(i,⟨T,cells'⟩)] S)).b n=some B->E.β n≠g:=λg hg n B hn=>by
    rw[Dc]at hn;by_cases e:n=i
    ·subst e;exact hg _ _ hB
    rw[if_neg e]at hn;exact hg n B hn
   rcases live j R hj with⟨v,hm⟩|⟨hn,ho,hR⟩
   ·rw[show({E with M:=M',ν:=qy news E.ν}:Env).ν j=v from nv hnd hm];obtain⟨p1,p2⟩:=hrow j R v hm;refine⟨p1,λg hg=>?_⟩;obtain⟨p3,p4,p5⟩:=p2 g hg;rcases p3 with⟨j',q1,q2⟩|p3
    ·obtain⟨o1,o2,o3,o4,_⟩:=GA j' q1 g q2;exact⟨o1,p4,o3,boxes g o4⟩
    refine⟨.inl (Nat.le_trans h.grown p3),p4,λq=>?_,boxes g (λn B hn q=>?_)⟩
    ·have:=(h.l8 g q).1;omega
    obtain⟨_,_,_,vs,q4,_⟩:=h.bx n B hn;have:=(Array.getElem?_eq_some_iff.1 q4).1;omega
   rw[show({E with M:=M',ν:=qy news E.ν}:Env).ν j=E.ν j from u0 hn];obtain⟨⟨us,p1,p2⟩,p3⟩:=h.rx j R hR;refine⟨⟨us,ep p1 λg hg=>qj g (nZ h hR hg) (λe=>(p3 g hg).2.2.2 i _ hB e.symm) (oth j R hR ho g hg),p2.mono hM⟩,λg hg=>?_⟩;obtain⟨p4,p5,p6,p7⟩:=p3 g hg;exact⟨p4,noM g (nZ h hR hg) p5 (oth j R hR ho g hg),p6,boxes g p7⟩
  fP:=λj j' R R' h1 h2 g e1 e2=>by
   have mixed:∀j R v j' R' g,(j,R,v)∈news->S.r j'=.live R'->j'∉olds->v.ownBlock=some g->(E.ν j').ownBlock=some g->False:=λj R v j' R' g hm uM ho e1 e2=>by
    rcases((hrow j R v hm).2 g e1).1 with⟨j2,q1,q2⟩|q
    ·exact oth j' R' uM ho g e2 j2 q1 q2
    have:=nZ h uM e2;omega
   rcases live j R h1 with⟨v,hm⟩|⟨hn,ho,hR⟩<;>rcases live j' R' h2 with⟨v',hm'⟩|⟨hn',ho',uM⟩
   ·rw[show({E with M:=M',ν:=qy news E.ν}:Env).ν j=v from nv hnd hm]at e1;rw[show({E with M:=M',ν:=qy news E.ν}:Env).ν j'=v' from nv hnd hm']at e2;exact ala j R v j' R' v' g hm hm' e1 e2
   ·rw[show({E with M:=M',ν:=qy news E.ν}:Env).ν j=v from nv hnd hm]at e1;rw[show({E with M:=M',ν:=qy news E.ν}:Env).ν j'=E.ν j' from u0 hn']at e2;exact(mixed j R v j' R' g hm uM ho' e1 e2).elim
   ·rw[show({E with M:=M',ν:=qy news E.ν}:Env).ν j=E.ν j from u0 hn]at e1;rw[show({E with M:=M',ν:=qy news E.ν}:Env).ν j'=v' from nv hnd hm']at e2;exact(mixed j' R' v' j R g hm' hR ho e2 e1).elim
   rw[show({E with M:=M',ν:=qy news E.ν}:Env).ν j=E.ν j from u0 hn]at e1;rw[show({E with M:=M',ν:=qy news E.ν}:Env).ν j'=E.ν j' from u0 hn']at e2;exact h.fP j j' R R' hR uM g e1 e2
  jl:=h.jl
  eK:=λk v e=>by
   rw[show({E with M:=M',ν:=qy news E.ν}:Env).ν k=E.ν k from u0 (λR v hm=>by have:=(hnew k R v hm).2;have:=C.Pc k _ e;omega)];exact h.eK k v e
  l8:=λb hb=>by
   obtain⟨p1,p2,p3⟩:=h.l8 b hb;exact⟨Nat.lt_of_lt_of_le p1 hsize,noM b p1 p2 (λj hj e=>(GA j hj b e).2.2.1 hb),p3⟩
  jj:=by
   have hj:=C.jf S.g S.go E.O E.M M' w w' h.jj hM hin (λb o v e=>by
    rcases hmn b o v e with q|q|⟨j,q1,q2⟩
    ·exact .inl q
    ·exact .inr ⟨.inl (Nat.le_trans h.grown q),λq2=>by have:=(h.l8 b q2).1;omega⟩
    ·obtain⟨o1,_,o3,_⟩:=GA j q1 b q2;exact .inr ⟨o1,o3⟩) (λb hb=>by
    have hlt:b<w.heap.size\/w.heap.size<=b:=Nat.lt_or_ge _ _;have hb':b<w.heap.size:=by
     rcases hb with⟨q,_⟩|q
     ·exact Nat.lt_of_lt_of_le q h.grown
     exact(h.l8 b q).1
    refine qj b hb' (λe=>?_) (λj hj e=>?_)
    ·subst e;rcases hb with⟨q1,q2⟩|q
     ·rcases VY with p|p
      ·omega
      exact q2 p
     exact ab7 q
    obtain⟨o1,_,o3,_⟩:=GA j hj b e;rcases hb with⟨q1,q2⟩|q
    ·rcases o1 with p|p
     ·omega
     exact q2 p
    exact o3 q) hos zV hout hsize
   rw[n4,n5];exact hj}
end swap
end
section
open Go.RowKit
inductive Oc where
 |s (x:SV)
 |r (R:Row)
def vc(M:Mem)(w:World):List Oc->List Value->Prop
 |[],[]=>True
 |.s x::l,v::vs=>x.h M v/\vc M w l vs
 |.r R::l,v::vs=>(∃us:List Value,w.ownsRow 0 R.E R.sz v R.n us/\SV.eJ M R.cells us)/\vc M w l vs
 |_,_=>False
def rowsOf:List Oc->List Row
 |[]=>[]
 |.s _::l=>rowsOf l
 |.r R::l=>R::rowsOf l
def cJ:List Oc->List Value->List (Row×Value)
 |.s _::l,_::vs=>cJ l vs
 |.r R::l,v::vs=>(R,v)::cJ l vs
 |_,_=>[]
def fY(c:List Oc)(us:List Value)(g:Nat):Prop:=∃p∈cJ c us,p.2.ownBlock=some g
def c9:List Nat->List Oc->List AV
 |ids,.s x::l=>.sv x::c9 ids l
 |i::ids,.r _::l=>.row i::c9 ids l
 |[],.r _::l=>.sv .any::c9 [] l
 |_,[]=>[]
def MF(l:List (Row×Value)):Prop:=l.Pairwise λp q=>∀g,p.2.ownBlock=some g->q.2.ownBlock≠some g
structure xB (M:Mem) (w:World) (β:Nat) (T:TypeId) (c:List Oc) (us:List Value):Prop where
 hp:w.heap[β]? =some (.cells ⟨us⟩ T (0,0))
 al:vc M w c us
 nb:∀o,M β o=none
 nr:∀g,fY c us g->g≠β/\∀o,M g o=none
 ap:MF (cJ c us)
theorem kV{M:Mem}{w:World}:∀{c:List Oc} {us:List Value},vc M w c us->(cJ c us).map (·.1)=rowsOf c
 |[],[],_=>rfl
 |.s _::l,_::vs,h=>kV (c:=l) (us:=vs) h.2
 |.r R::l,v::vs,h=>congrArg (R:: ·) (kV (c:=l) (us:=vs) h.2)
 |[],_::_,h=>h.elim
 |.s _::_,[],h=>h.elim
 |.r _::_,[],h=>h.elim
theorem ow{M:Mem}{w:World}:∀{c:List Oc} {us:List Value},vc M w c us->∀p∈cJ c us,∃vs:List Value,w.ownsRow 0 p.1.E p.1.sz p.2 p.1.n vs/\SV.eJ M p.1.cells vs
 |[],[],_,p,hp=>by cases hp
 |.s _::l,_::vs,h,p,hp=>ow (c:=l) (us:=vs) h.2 p hp
 |.r R::l,v::vs,h,p,hp=>by
  rcases List.mem_cons.1 hp with rfl|hp
  ·exact h.1
  exact ow (c:=l) (us:=vs) h.2 p hp
 |[],_::_,h,_,_=>h.elim
 |.s _::_,[],h,_,_=>h.elim
 |.r _::_,[],h,_,_=>h.elim
theorem nQ{α β:Type}:∀{l:List α} {k:List β} {a:α} {b:β},(a,b)∈l.zip k->a∈l/\b∈k
 |_::_,_::_,_,_,h=>by
  rw[List.zip_cons_cons]at h;rcases List.mem_cons.1 h with e|e
  ·cases e;simp
  have:=nQ e;exact⟨List.mem_cons_of_mem _ this.1,List.mem_cons_of_mem _ this.2⟩
 |[],_,_,_,h=>by simp at h
 |_::_,[],_,_,h=>by simp at h
theorem IE{α β:Type}:∀{l:List α} {k:List β},l.length=k.length->(l.zip k).map (·.1)=l
 |[],[],_=>rfl
 |_::l,_::k,h=>by rw[List.zip_cons_cons,List.map_cons,IE (by simpa using h)]
 |[],_::_,h=>by simp at h
 |_::_,[],h=>by simp at h
theorem GB:∀{ids:List Nat} {l:List (Row×Value)},ids.Nodup->MF l->∀k R v k' R' v' g,(k,R,v)∈ids.zip l->(k',R',v')∈ids.zip l->v.ownBlock=some g->v'.ownBlock=some g->k=k'
 |i::ids,p::l,hn,ha,k,R,v,k',R',v',g,h1,h2,e1,e2=>by
  rw[List.zip_cons_cons]at h1 h2;rw[List.nodup_cons]at hn;obtain⟨ha1,ha2⟩:=List.pairwise_cons.1 ha;rcases List.mem_cons.1 h1 with q1|q1<;>rcases List.mem_cons.1 h2 with q2|q2
  ·cases q1;cases q2;rfl
  ·cases q1;exact absurd e2 (ha1 (R',v') (nQ q2).2 g e1)
  ·cases q2;exact absurd e1 (ha1 (R,v) (nQ q1).2 g e2)
  exact GB hn.2 ha2 k R v k' R' v' g q1 q2 e1 e2
 |[],_,_,_,_,_,_,_,_,_,_,h1,_,_,_=>by simp at h1
 |_::_,[],_,_,_,_,_,_,_,_,_,h1,_,_,_=>by simp at h1
theorem xC{E:Env}{w:World}:∀{ids:List Nat} {c:List Oc} {us:List Value},ids.length=(rowsOf c).length->vc E.M w c us->(∀i p,(i,p)∈ids.zip (cJ c us)->E.ν i=p.2)->dQ E (c9 ids c) us
 |ids,[],[],_,_,_=>by cases ids<;>exact trivial
 |ids,.s x::l,v::vs,hl,h,hv=>by
  have ih:=xC (E:=E) (w:=w) (ids:=ids) (c:=l) (us:=vs) hl h.2 hv;cases ids<;>exact⟨h.1,ih⟩
 |i::ids,.r R::l,v::vs,hl,h,hv=>by
  refine⟨(hv i (R,v) (by rw[cJ,List.zip_cons_cons];simp)).symm,xC (w:=w) (ids:=ids) (c:=l) (us:=vs) (by simpa[rowsOf]using hl) h.2 (λj p hm=>hv j p ?_)⟩;rw[cJ,List.zip_cons_cons];exact List.mem_cons_of_mem _ hm
 |[],.r R::l,_::_,hl,_,_=>by simp[rowsOf]at hl
 |_,[],_::_,_,h,_=>h.elim
 |_,.s _::_,[],_,h,_=>h.elim
 |_,.r _::_,[],_,h,_=>h.elim
theorem xD:∀{ids:List Nat} {c:List Oc} (x:AV),x∈c9 ids c->(∀j,¬x.mb j)/\∀j,x.mr j->j∈ids
 |ids,[],x,h=>by cases ids<;>simp[c9]at h
 |ids,.s y::l,x,h=>by
  have h':x∈AV.sv y::c9 ids l:=by cases ids<;>exact h
  rcases List.mem_cons.1 h' with rfl|h'
  ·exact⟨λj e=>e,λj e=>e.elim⟩
  exact xD x h'
 |i::ids,.r _::l,x,h=>by
  rcases List.mem_cons.1 (show x∈AV.row i::c9 ids l from h)with rfl|h'
  ·exact⟨λj e=>e,λj e=>by cases e;simp⟩
  obtain⟨h1,h2⟩:=xD x h';exact⟨h1,λj e=>List.mem_cons_of_mem _ (h2 j e)⟩
 |[],.r _::l,x,h=>by
  rcases List.mem_cons.1 (show x∈AV.sv .any::c9 [] l from h)with rfl|h'
  ·exact⟨λj e=>e,λj e=>e.elim⟩
  exact xD x h'
def Lv(S:AS):List Nat->List Row->Prop
 |[],[]=>True
 |j::js,R::Rs=>S.r j=.live R/\Lv S js Rs
 |_,_=>False
theorem Lv.len{S:AS}:∀{js:List Nat} {Rs:List Row},Lv S js Rs->js.length=Rs.length
 |[],[],_=>rfl
 |_::_,_::_,h=>congrArg (· +1) (Lv.len h.2)
 |[],_::_,h=>h.elim
 |_::_,[],h=>h.elim
theorem Lv.mem{S:AS}:∀{js:List Nat} {Rs:List Row},Lv S js Rs->∀j∈js,∃R,S.r j=.live R
 |j::js,R::Rs,h,k,hk=>by
  rcases List.mem_cons.1 hk with rfl|hk
  ·exact⟨R,h.1⟩
  exact Lv.mem h.2 k hk
 |[],_,_,k,hk=>by cases hk
 |_::_,[],h,_,_=>h.elim
theorem B6{C:Ctx}{S:AS}{E:Env}{a:Act}{w:World}(h:bz C S E a w):∀{js:List Nat} {c:List Oc} {us:List Value},Lv S js (rowsOf c)->dQ E (c9 js c) us->vc E.M w c us/\cJ c us=(rowsOf c).zip (js.map E.ν)
 |[],[],[],_,_=>⟨ak,Y⟩
 |js,.s x::l,v::vs,hL,hv=>by
  have C1:dQ E (AV.sv x::c9 js l) (v::vs):=by cases js<;>exact hv
  obtain⟨h1,h2⟩:=B6 h (js:=js) (c:=l) (us:=vs) hL C1.2;exact⟨⟨C1.1,h1⟩,h2⟩
 |j::js,.r R::l,v::vs,hL,hv=>by
  have hL:S.r j=.live R/\Lv S js (rowsOf l):=hL;have C1:dQ E (AV.row j::c9 js l) (v::vs):=hv;obtain⟨h1,h2⟩:=B6 h (js:=js) (c:=l) (us:=vs) hL.2 C1.2;have e:v=E.ν j:=C1.1;obtain⟨q1,_⟩:=h.rx j R hL.1;rw[<-e]at q1;refine⟨⟨q1,h1⟩,?_⟩;rw[cJ,h2,e];rfl
 |[],.r _::_,_,hL,_=>hL.elim
 |_::_,[],_,hL,_=>hL.elim
 |[],[],_::_,_,hv=>by simp[c9]at hv;exact hv.elim
 |js,.s x::l,[],_,hv=>by
  have C1:dQ E (AV.sv x::c9 js l) []:=by cases js<;>exact hv
  exact C1.elim
 |_::_,.r _::_,[],_,hv=>hv.elim
theorem B7{α β:Type}:∀{l:List α} {k:List β} {b:β},l.length=k.length->b∈k->∃a,(a,b)∈l.zip k
 |a::l,c::k,b,h,hb=>by
  rcases List.mem_cons.1 hb with rfl|hb
  ·exact⟨a,by rw[List.zip_cons_cons];simp⟩
  obtain⟨a',h'⟩:=B7 (l:=l) (k:=k) (by simpa using h) hb;exact⟨a',by rw[List.zip_cons_cons];exact List.mem_cons_of_mem _ h'⟩
 |[],[],_,_,hb=>by cases hb
 |[],_::_,_,h,_=>by simp at h
theorem zW{C:Ctx}{S:AS}{E:Env}{a:Act}{w:World}(h:bz C S E a w){i:Nat}{T:TypeId}{js:List Nat}{c:List Oc}(hB:S.b i=some ⟨T,c9 js c⟩)(hL:Lv S js (rowsOf c))(hn:js.Nodup):
  ∃us,xB E.M w (E.β i) T c us/\(∀g,fY c us g↔∃j∈js,(E.ν j).ownBlock=some g):=by
 obtain⟨_,q1,_,us,q2,q3⟩:=h.bx i _ hB;obtain⟨p1,p2⟩:=B6 h hL q3;have hlen:=hL.len;have Nf:∀g,fY c us g↔∃j∈js,(E.ν j).ownBlock=some g:=λg=>by
  unfold fY;rw[p2];constructor
  ·rintro⟨⟨R,v⟩,hm,hg⟩;obtain⟨j,hj,rfl⟩:=List.mem_map.1 (nQ hm).2;exact⟨j,hj,hg⟩
  rintro⟨j,hj,hg⟩;obtain⟨R,hR⟩:=B7 (l:=rowsOf c) (k:=js.map E.ν) (by simp[hlen]) (List.mem_map.2 ⟨j,hj,Y⟩);exact⟨(R,E.ν j),hR,hg⟩
 refine⟨us,⟨q2,p1,q1,λg hg=>?_,?_⟩,Nf⟩
 ·obtain⟨j,hj,Hf⟩:=(Nf g).1 hg;obtain⟨R,hR⟩:=hL.mem j hj;obtain⟨_,q4⟩:=h.rx j R hR;obtain⟨_,q5,_,q6⟩:=q4 g Hf;exact⟨λe=>q6 i _ hB e.symm,q5⟩
 rw[p2];have key:∀(js:List Nat) (Rs:List Row),Lv S js Rs->js.Nodup->MF (Rs.zip (js.map E.ν)):=by
  intro js
  induction js with
  |nil=>intro Rs hL _;cases Rs with|nil=>exact List.Pairwise.nil|cons _ _=>exact hL.elim
  |cons j js ih=>
   intro Rs hL hn;cases Rs with
   |nil=>exact hL.elim
   |cons R Rs=>
    rw[List.nodup_cons]at hn;rw[List.map_cons,List.zip_cons_cons];refine List.pairwise_cons.2 ⟨λp hp g e1 e2=>?_,ih Rs hL.2 hn.2⟩;obtain⟨R',v'⟩:=p;obtain⟨j',hj',rfl⟩:=List.mem_map.1 (nQ hp).2;obtain⟨R2,hR2⟩:=hL.2.mem j' hj';have:=h.fP j j' R R2 hL.1 hR2 g e1 e2;subst this;exact hn.1 hj'
 exact key js _ hL hn
def xE(M:Mem)(β:Nat):Env:=⟨λ_=>β,λ_=>.nilIface,λ_=>False,M⟩
def Fc.oy:Fc->Bool
 |.val _=>true
 |.box i=>Nat.beq i 1000
 |.row _=>false
def AV.oy:AV->Bool
 |.sv _=>true
 |.ptr i _=>Nat.beq i 1000
 |.cmp _ js=>js.all Fc.oy
 |_=>false
def Fc.rnb(i:Nat):Fc->Fc
 |.box _=>.box i
 |c=>c
def AV.rnb(i:Nat):AV->AV
 |.ptr _ o=>.ptr i o
 |.cmp t js=>.cmp t (js.map (Fc.rnb i))
 |x=>x
theorem V0{E:Env}{i:Nat}{x:AV}{v:Value}(hx:x.oy=true)(h:(x.rnb i).holds E v):x.holds (xE E.M (E.β i)) v:=by
 cases x with
 |sv s=>exact h
 |ptr k o=>exact h
 |cmp t js=>
  obtain⟨vs,rfl,h⟩:=h;refine⟨vs,Y,?_⟩;have key:∀(l:List Fc) (vs:List Value),(l.all Fc.oy)=true->Ei E (l.map (Fc.rnb i)) vs->Ei (xE E.M (E.β i)) l vs:=by
   intro l
   induction l with
   |nil=>intro vs _ h;cases vs with|nil=>trivial|cons _ _=>exact h.elim
   |cons c l ih=>
    intro vs ho h;rw[List.all_cons,Bool.and_eq_true]at ho;cases vs with
    |nil=>exact h.elim
    |cons u vs=>
     refine⟨?_,ih vs ho.2 h.2⟩;cases c with
     |val s=>exact h.1
     |box k=>exact h.1
     |row k=>exact(Bool.false_ne_true ho.1).elim
  exact key js vs hx h
 |_=>exact(Bool.false_ne_true hx).elim
theorem IF{E:Env}{i:Nat}:∀{l:List AV} {vs:List Value},(l.all AV.oy)=true->dQ E (l.map (AV.rnb i)) vs->dQ (xE E.M (E.β i)) l vs
 |[],[],_,_=>trivial
 |x::l,v::vs,h,hv=>by
  rw[List.all_cons,Bool.and_eq_true]at h;exact⟨V0 h.1 hv.1,IF h.2 hv.2⟩
 |[],_::_,_,h=>h.elim
 |_::_,[],_,h=>h.elim
def S4(P:Program)(f:FuncId)(args:List AV)(T:TypeId)(c0:List Oc)(res:SV)(c1:List Oc):Prop:=
 ∀(M:Mem) (w:World) (β:Nat) (vs us:List Value),M.dH w->xB M w β T c0 us->dQ (xE M β) args vs->
  Calls P f ⟨vs⟩ w λe w'=>∃v M' us',e=.returned v/\M.le M'/\(∀b o x,M' b o=some x->M b o=some x\/w.heap.size<=b\/fY c0 us b)/\M'.dH w'/\res.h M' v/\
   xB M' w' β T c1 us'/\(∀g,fY c1 us' g->fY c0 us g\/w.heap.size<=g)/\w'.os=w.os/\w'.tape=w.tape/\w'.output=w.output/\w.heap.size<=w'.heap.size/\
   ∀k,k<w.heap.size->k≠β->¬fY c0 us k->w'.heap[k]? =w.heap[k]?
def ahn(w:World)(M:Mem)(β:Nat)(c:List Oc)(us:List Value):Ctx:={w0:=w,M0:=M,own:=λk=>k=β\/fY c us k,A4:=λk=>k=β\/fY c us k,jl:=λi=>bif Nat.beq i 1000 then some β else none,eK:=λ_=>none,ro:=none,J:=λ_ _ _ _ _=>True,HO:=λ_ h=>h,Pc:=λ_ _ h=>(by cases h),jf:=λ_ _ _ _ _ _ _ _ _ _ _ _ _ _ _ _=>trivial}
theorem E6{M:Mem}{w:World}:∀{ids:List Nat} {c:List Oc} {us:List Value},vc M w c us->∀{i:Nat} {R:Row},(i,R)∈ids.zip (rowsOf c)->∃v,(i,R,v)∈ids.zip (cJ c us)
 |ids,.s x::l,v::vs,h,i,R,hm=>by
  have hm':(i,R)∈ids.zip (rowsOf l):=hm;exact E6 (c:=l) (us:=vs) h.2 hm'
 |k::ids,.r R'::l,v::vs,h,i,R,hm=>by
  have hm':(i,R)∈(k,R')::ids.zip (rowsOf l):=hm;rw[cJ,List.zip_cons_cons];rcases List.mem_cons.1 hm' with e|e
  ·cases e;exact⟨v,by simp⟩
  obtain⟨v',h'⟩:=E6 (ids:=ids) (c:=l) (us:=vs) h.2 e;exact⟨v',List.mem_cons_of_mem _ h'⟩
 |[],.r _::_,_::_,_,_,_,hm=>by simp at hm
 |_,[],[],_,_,_,hm=>by simp[rowsOf]at hm
 |_,[],_::_,h,_,_,_=>h.elim
 |_,.s _::_,[],h,_,_,_=>h.elim
 |_,.r _::_,[],h,_,_,_=>h.elim
theorem Uu{n:Nat}{args:List AV}{T:TypeId}{c:List Oc}{M:Mem}{w:World}{β:Nat}{vs us:List Value}(ids:List Nat)(hM:M.dH w)(ho:xB M w β T c us)(hv:dQ (xE M β) args vs)(Uv:args.all AV.oy=true)(hn:args.length<=n)(LA:ids.Nodup)(Yw:ids.length=(rowsOf c).length):
  bz (ahn w M β c us) (AS.Lm n args [(1000,⟨T,c9 ids c⟩)] (ids.zip (rowsOf c))) ⟨λ_=>β,qy (ids.zip (cJ c us)) (λ_=>.nilIface),λ_=>False,M⟩ {tmps:=⟨vs⟩++Array.replicate (n-(⟨vs⟩:Array Value).size) undef,defers:=[]} w:=by
 have hl:=hv.length;have Yx:(cJ c us).length=(rowsOf c).length:=by rw[<-kV ho.al,List.length_map]
 have hnd:((ids.zip (cJ c us)).map (·.1)).Nodup:=by rw[IE ξ];exact LA
 have aes:∀s,(Ak args s).oy=true:=λs=>by
  rcases Ex (l:=args) (k:=s)with e|e
  ·rw[e];rfl
  exact List.all_eq_true.1 Uv _ e
 have oyB:∀x:AV,x.oy=true->(∀j,x.mb j->j=1000)/\∀j,¬x.mr j:=λx hx=>by
  cases x with
  |sv s=>exact⟨λj e=>e.elim,λj e=>e⟩
  |ptr k o=>exact⟨λj e=>by cases e;exact Nat.eq_of_beq_eq_true hx,λj e=>e⟩
  |cmp t js=>
   refine⟨λj e=>?_,λj e=>?_⟩
   ·exact Nat.eq_of_beq_eq_true (List.all_eq_true.1 hx _ e)
   exact Bool.false_ne_true (List.all_eq_true.1 hx _ e)
  |_=>exact(Bool.false_ne_true hx).elim
 have hall:dQ ⟨λ_=>β,qy (ids.zip (cJ c us)) (λ_=>.nilIface),λ_=>False,M⟩ args vs:=by
  refine hv.imp (λx hx v hh=>?_);exact AV.dz (E:=xE M β) (E':=⟨λ_=>β,qy (ids.zip (cJ c us)) (λ_=>.nilIface),λ_=>False,M⟩) (Mem.le_refl _) (λ_ _=>Y) (λj hj=>absurd hj ((oyB x (List.all_eq_true.1 Uv x hx)).2 j)) hh
 have live:∀j R,(AS.Lm n args [(1000,⟨T,c9 ids c⟩)] (ids.zip (rowsOf c))).r j=.live R->(j,R)∈ids.zip (rowsOf c):=λj R hj=>by
  have hj:(match It (ids.zip (rowsOf c)) j with|some R=>qa.live R|none=>.un)=.live R:=hj;cases e:It (ids.zip (rowsOf c)) j with
  |none=>rw[e]at hj;cases hj
  |some R'=>rw[e]at hj;cases hj;exact Et e
 have isLive:∀j∈ids,(AS.Lm n args [(1000,⟨T,c9 ids c⟩)] (ids.zip (rowsOf c))).r j≠ .un:=λj hj=>by
  have key:∀(ids:List Nat) (Rs:List Row),ids.length=Rs.length->j∈ids->∃R,It (ids.zip Rs) j=some R:=by
   intro ids
   induction ids with
   |nil=>intro _ _ h;cases h
   |cons k ids ih=>
    intro Rs hl hm;cases Rs with
    |nil=>simp at hl
    |cons R Rs=>
     rw[List.zip_cons_cons,It];by_cases e:j=k
     ·subst e;exact⟨R,by simp⟩
     rw[bZ e];rcases List.mem_cons.1 hm with q|q
     ·exact absurd q e
     exact ih Rs (by simpa using hl) q
  obtain⟨R,hR⟩:=key ids _ Yw hj;show(match It (ids.zip (rowsOf c)) j with|some R=>qa.live R|none=>.un)≠ .un;rw[hR];simp
 have box:∀j B,(AS.Lm n args [(1000,⟨T,c9 ids c⟩)] (ids.zip (rowsOf c))).b j=some B->j=1000/\B=⟨T,c9 ids c⟩:=λj B h=>by
  have:=qc h;simpa using this
 have Xo:(AS.Lm n args [(1000,⟨T,c9 ids c⟩)] (ids.zip (rowsOf c))).b 1000=some ⟨T,c9 ids c⟩:=rfl
 exact{
  wf:=by
   refine⟨λs j hj=>?_,λs j hj=>?_,λi B hB x hx j hj=>?_,λi B hB x hx j hj=>?_⟩
   ·have:=(oyB _ (aes s)).1 j hj;subst this;exact⟨_,Xo⟩
   ·exact absurd hj ((oyB _ (aes s)).2 j)
   ·obtain⟨rfl,rfl⟩:=box i B hB;exact absurd hj ((xD x hx).1 j)
   obtain⟨rfl,rfl⟩:=box i B hB;exact isLive j ((xD x hx).2 j hj)
  marks:=⟨[],Y,List.nodup_nil,by simp⟩
  size:=by simp[AS.Lm];omega
  os:=rfl
  tape:=rfl
  output:=rfl
  grown:=Nat.le_refl _
  frame:=λ_ _ _=>rfl
  m0:=Mem.le_refl _
  fu:=λ_ _ _ e=>.inl e
  dH:=hM
  tm:=λs=>St hall s
  bx:=λi B h=>by
   obtain⟨rfl,rfl⟩:=box i B h;refine⟨.inr (.inl Y),ho.nb,λh=>h,us,ho.hp,?_⟩;exact xC (w:=w) Yw ho.al (λj p hm=>nv (R:=p.1) (v:=p.2) hnd hm)
  inj:=λi j B1 B2 hi hj _=>by rw[(box i B1 hi).1,(box j B2 hj).1]
  rx:=λj R hj=>by
   obtain⟨v,hm⟩:=E6 ho.al (live j R hj);have hν:qy (ids.zip (cJ c us)) (λ_=>Value.nilIface) j=v:=nv hnd hm;show(∃vs:List Value,w.ownsRow 0 R.E R.sz (qy (ids.zip (cJ c us)) (λ_=>.nilIface) j) R.n vs/\SV.eJ M R.cells vs)/\_;rw[hν];refine⟨ow ho.al (R,v) (nQ hm).2,λg hg=>?_⟩;have hg:v.ownBlock=some g:=by rw[<-hν];exact hg
   have hb:fY c us g:=⟨(R,v),(nQ hm).2,hg⟩;obtain⟨q1,q2⟩:=ho.nr g hb;refine⟨.inr (.inr hb),q2,λh=>h,λk B _ e=>q1 e.symm⟩
  fP:=λj j' R R' h1 h2 g e1 e2=>by
   obtain⟨v,hm⟩:=E6 ho.al (live j R h1);obtain⟨v',hm'⟩:=E6 ho.al (live j' R' h2);have hν:qy (ids.zip (cJ c us)) (λ_=>Value.nilIface) j=v:=nv hnd hm;have ap9:qy (ids.zip (cJ c us)) (λ_=>Value.nilIface) j'=v':=nv hnd hm';exact GB LA ho.ap j R v j' R' v' g hm hm' (by rw[<-hν];exact e1) (by rw[<-ap9];exact e2)
  jl:=λi b e=>by
   simp only[ahn]at e;cases h:Nat.beq i 1000 with
   |false=>rw[h]at e;cases e
   |true=>rw[h]at e;cases e;rfl
  eK:=λi v e=>by cases e
  l8:=λb e=>e.elim
  jj:=trivial}
theorem xF{P:Program}{f:FuncId}{fn:Func}{code:Code}{args:List AV}{T:TypeId}{c0 c1:List Oc}{res:SV}(ids:List Nat)(hf:P.funcs[f]? =some fn)(hb:fn.body=some code)(hn:args.length<=fn.ntmps)(Uv:args.all AV.oy=true)(LA:ids.Nodup)(Yw:ids.length=(rowsOf c0).length)
  (h:∀(w:World) (M:Mem) (β:Nat) (us:List Value),Ok P (ahn w M β c0 us) code (AS.Lm fn.ntmps args [(1000,⟨T,c9 ids c0⟩)] (ids.zip (rowsOf c0))) (λe S=>(e=.normal\/e=.ret)/\WI P S fn.results.toList res/\∃ks:List Nat,S.b 1000=some ⟨T,c9 ks c1⟩/\Lv S ks (rowsOf c1)/\ks.Nodup)):S4 P f args T c0 res c1:=by
 intro M w β vs us hM ho hv;refine fW Y hf hb (Uu ids hM ho hv Uv hn LA Yw) (h w M β us) ?_;rintro S' E a w' ⟨hr,ks,hB,hL,hk⟩ hh;obtain⟨v,hv,hx⟩:=(Ew.sv hr).run hh;have hβ:E.β 1000=β:=hh.jl 1000 β Y;obtain⟨us',ho',qj⟩:=zW hh hB hL hk;rw[hβ]at ho';refine⟨v,hv,v,E.M,us',Y,hh.m0,λb o x e=>?_,hh.dH,hx,ho',λg hg=>?_,hh.os,hh.tape,hh.output,hh.grown,λk hk hne hno=>hh.frame k hk (λe=>e.elim hne hno)⟩
 ·rcases hh.fu b o x e with q|q|q|q
  ·exact .inl q
  ·exact .inr (.inl q)
  ·rw[show b=β from q,ho'.nb o]at e;cases e
  exact .inr (.inr q)
 obtain⟨j,hj,Hf⟩:=(qj g).1 hg;obtain⟨R,hR⟩:=hL.mem j hj;obtain⟨_,q⟩:=hh.rx j R hR;rcases(q g Hf).1 with q1|q1|q1
 ·exact .inr q1
 ·exact absurd q1 (ho'.nr g hg).1
 exact .inl q1
end
section
open Go.RowKit
def Un(S:AS):List Nat->Prop
 |[]=>True
 |k::ks=>(S.r k=.un/\k<1000)/\Un S ks
theorem Un.mem{S:AS}:∀{ks:List Nat},Un S ks->∀k∈ks,S.r k=.un/\k<1000
 |k::ks,h,j,hj=>by
  rcases List.mem_cons.1 hj with rfl|hj
  ·exact h.1
  exact Un.mem h.2 j hj
 |[],_,j,hj=>by cases hj
theorem Un.congr{S S':AS}:∀{ks:List Nat},(∀k∈ks,S'.r k=S.r k)->Un S ks->Un S' ks
 |[],_,_=>trivial
 |k::ks,h,hu=>⟨by rw[h k θ];exact hu.1,Un.congr (λj hj=>h j (List.mem_cons_of_mem _ hj)) hu.2⟩
theorem Lv.congr{S S':AS}:∀{js:List Nat} {Rs:List Row},(∀k∈js,S'.r k=S.r k)->Lv S js Rs->Lv S' js Rs
 |[],[],_,_=>trivial
 |j::js,R::Rs,h,hl=>⟨by rw[h j θ];exact hl.1,Lv.congr (λk hk=>h k (List.mem_cons_of_mem _ hk)) hl.2⟩
 |[],_::_,_,h=>h.elim
 |_::_,[],_,h=>h.elim
def yf(js ks:List Nat)(c:List Oc):List (Nat×qa):=js.map (λj=>(j,qa.dead))++(ks.zip (rowsOf c)).map (λp=>(p.1,.live p.2))
theorem Qv:∀(ks:List Nat) (l:List (Row×Value)),(ks.zip l).map (λn=>(n.1,qa.live n.2.1))=(ks.zip (l.map (·.1))).map (λp=>(p.1,.live p.2))
 |[],_=>rfl
 |_::_,[]=>rfl
 |k::ks,p::l=>by rw[List.map_cons,List.zip_cons_cons,List.zip_cons_cons,List.map_cons,List.map_cons,Qv ks l]
theorem JU{M:Mem}{w:World}{c:List Oc}{us:List Value}(h:vc M w c us)(js ks:List Nat):E4 js (ks.zip (cJ c us))=yf js ks c:=by
 unfold E4 yf;rw[Qv,kV h]
section steps
variable {P:Program}{C:Ctx}{ops:Array Oper}{S:AS}{nd:Bool}{K:List Ac->AS->Prop}{rest:List Oper}{acc:List Ac}
variable {gd:Option (Nat×Bool)}{rg:List Nat}{d:Nat}{ty:TypeId}{pos:String}{aft:Array Edge}{x y z:Operand}{T U E0:TypeId}
theorem bz.ab8{E:Env}{a:Act}{w w':World}(h:bz C S E a w){i:Nat}{js ks:List Nat}{c0 c1:List Oc}{us us':List Value}{M':Mem}(hB:S.b i=some ⟨T,c9 js c0⟩)(hL:Lv S js (rowsOf c0))(hks:ks.Nodup)(C2:ks.length=(rowsOf c1).length)(S5:Un S ks)
  (JV:∀g,fY c0 us g↔∃j∈js,(E.ν j).ownBlock=some g) (hM:E.M.le M') (hn:∀b o x,M' b o=some x->E.M b o=some x\/w.heap.size<=b\/fY c0 us b) (hin:M'.dH w') (ho:xB M' w' (E.β i) T c1 us') (hg:∀g,fY c1 us' g->fY c0 us g\/w.heap.size<=g)
  (hos:w'.os=w.os) (zV:w'.tape=w.tape) (hout:w'.output=w.output) (hsize:w.heap.size<=w'.heap.size) (qj:∀k,k<w.heap.size->k≠E.β i->¬fY c0 us k->w'.heap[k]? =w.heap[k]?):
  ∃E':Env,E'.M=M'/\E'.β=E.β/\bz C (AS.cK (yf js ks c1) (AS.iM [(i,⟨T,c9 ks c1⟩)] S)) E' a w':=by
 have Yx:(cJ c1 us').length=(rowsOf c1).length:=by rw[<-kV ho.al,List.length_map]
 have hnd:((ks.zip (cJ c1 us')).map (·.1)).Nodup:=by rw[IE ξ];exact hks
 rw[<-JU ho.al js ks];refine⟨{E with M:=M',ν:=qy (ks.zip (cJ c1 us')) E.ν},Y,Y,h.ak9 hB js (ks.zip (cJ c1 us')) (λj hj=>hL.mem j hj) (λk R v hm=>S5.mem k (nQ hm).1) hnd hM (λb o x e=>?_) hin ho.hp ho.nb ?_ (λx hx=>?_) (λk R v hm=>?_) (GB hks ho.ap) hos zV hout hsize (λk hk hne hno=>qj k hk hne (λq=>?_))⟩
 ·rcases hn b o x e with q|q|q
  ·exact .inl q
  ·exact .inr (.inl q)
  exact .inr (.inr ((JV b).1 q))
 ·exact xC (E:={E with M:=M',ν:=qy (ks.zip (cJ c1 us')) E.ν}) (w:=w') C2 ho.al (λj p hm=>nv (R:=p.1) (v:=p.2) hnd hm)
 ·obtain⟨q1,q2⟩:=xD x hx;refine⟨q1,λj hj=>?_⟩;have hj:=q2 j hj;have key:∀(ks:List Nat) (l:List (Row×Value)),ks.length=l.length->j∈ks->∃R v,(j,R,v)∈ks.zip l:=by
   intro ks
   induction ks with
   |nil=>intro _ _ h;cases h
   |cons k ks ih=>
    intro l hl hm;cases l with
    |nil=>simp at hl
    |cons p l=>
     rw[List.zip_cons_cons];rcases List.mem_cons.1 hm with q|q
     ·subst q;exact⟨p.1,p.2,by simp⟩
     obtain⟨R,v,h⟩:=ih l (by simpa using hl) q;exact⟨R,v,List.mem_cons_of_mem _ h⟩
  exact key ks _ ξ hj
 ·refine⟨ow ho.al (R,v) (nQ hm).2,λg LB=>?_⟩;have hb:fY c1 us' g:=⟨(R,v),(nQ hm).2,LB⟩;obtain⟨q1,q2⟩:=ho.nr g hb;refine⟨?_,q2,q1⟩;rcases hg g hb with q|q
  ·exact .inl ((JV g).1 q)
  exact .inr q
 obtain⟨j,hj,e⟩:=(JV k).1 q;exact hno j hj e
theorem RT.JW(hg:Gd ops S gd rg){f:FuncId}[dm P f]{g:Operand}{xs:Array Operand}{at_:Array TypeId}{args:List AV}{T:TypeId}{c0 c1:List Oc}{res:SV}(hp:S4 P f args T c0 res c1)(i:Nat)(js ks:List Nat)(hB:S.b i=some ⟨T,c9 js c0⟩)(hL:Lv S js (rowsOf c0))(hjs:js.Nodup)(hks:ks.Nodup)(C2:ks.length=(rowsOf c1).length)(S5:Un S ks)
  (Uv:args.all AV.oy=true) (hf:S.ev g=.sv (.v (.func (.func f) #[] #[]))) (hargs:DA S xs.toList (args.map (AV.rnb i))) (hd:d<S.n)
  (next:RunT P C ops nd K rest (⟨rg++(bn g++xs.toList.flatMap bn),[i],js++ks,⟨some (d,.sv res),[(i,⟨T,c9 ks c1⟩)],yf js ks c1⟩⟩::acc) ((AS.cK (yf js ks c1) (AS.iM [(i,⟨T,c9 ks c1⟩)] S)).set d (.sv res))):RunT P C ops nd K (⟨some d,.call ⟨.value g,xs,at_⟩,ty,pos,aft,gd⟩::rest) acc S:=by
 refine .inl ⟨_,[i],js++ks,_,?_,next⟩;rintro S' hn ht hb hr k a w L Q ho ⟨E,h⟩ hLL;refine dj (C:=C) ho (hg.wanted h (λs hs=>ht s (List.mem_append_left _ hs)) Y) ?_;have wY:a.eval g=.func (.func f) #[] ⟨[]⟩:=by
  have h1:=h.ev g;rw[bT (λ_ h=>List.mem_append_right _ (List.mem_append_left _ h)) ht,hf]at h1;exact h1
 have hall:=IF Uv (DA.vals h hargs (λs hs=>ht s (List.mem_append_right _ (List.mem_append_right _ hs))));have iZ:S'.b i=some ⟨T,c9 js c0⟩:=by rw[hb i θ];exact hB
 have hL':Lv S' js (rowsOf c0):=hL.congr (λk hk=>hr k (List.mem_append_left _ hk));have aqa:Un S' ks:=S5.congr (λk hk=>hr k (List.mem_append_right _ hk));obtain⟨us,ho1,JV⟩:=zW h iZ hL' hjs;refine dh (C:=C) aE (mc wY) ?_;rw[List.append_nil];refine⟨λh=>by simp at h,gG ((hp E.M w (E.β i) _ us h.dH ho1 hall).mono ?_)⟩;rintro e w' ⟨v,M',us',rfl,hM,hnew,hin,hv,Js,Uw,hos,zV,hout,hsize,qj⟩;obtain⟨E',e1,e2,h1⟩:=h.ab8 iZ hL' hks C2 aqa JV hM hnew hin Js Uw hos zV hout hsize qj;refine hLL _ _ ⟨_,h1.put (x:=.sv res) (v:=v) (by show res.h E'.M v;rw[e1];exact hv) ?_ iu⟩;rw[(fV _ _).1];show d<S'.n;omega
theorem RT.cY(hg:Gd ops S gd rg){i o:Nat}(hx:S.ev x=.ptr i o)(hd:d<S.n)
  (next:RunT P C ops nd K rest (⟨rg++bn x,[],[],⟨some (d,.ptr i o),[],[]⟩⟩::acc) (S.set d (.ptr i o))):RunT P C ops nd K (⟨some d,.nilCheck x,ty,pos,aft,gd⟩::rest) acc S:=
 RT.value hg (bn x) [] [] (.ptr i o) hd aE (λS' ht _ _ E a w h=>by
  have hx':S'.ev x=.ptr i o:=by rw[bT (λ_ h=>h) ht,hx]
  have h1:=h.ev x;rw[hx']at h1;have h2:a.eval x=.pointer (some ⟨E.β i,o,none⟩):=h1;exact⟨a.eval x,by simp[execOp,h2],h1,qb h.wf hx'⟩) next
class Yy (P:Program) (T:TypeId):Prop where
 u:P.underlying T=some (.pointer (P.pointee T))
theorem RT.Yz(hg:Gd ops S gd rg)[tT:Yy P T]{i o:Nat}(hx:S.ev x=.ptr i o)(hy:S.ev y=.sv (.v (.pointer none)))(hd:d<S.n)
  (next:RunT P C ops nd K rest (⟨rg++(bn x++bn y),[],[],⟨some (d,.sv (.v (.bool false))),[],[]⟩⟩::acc) (S.set d (.sv (.v (.bool false))))):RunT P C ops nd K (⟨some d,.binOp .eql T x y U,ty,pos,aft,gd⟩::rest) acc S:=
 RT.value hg (bn x++bn y) [] [] (.sv (.v (.bool false))) hd aE (λS' ht _ _ E a w h=>by
  have h1:=h.ev x;rw[bT (λ_ h=>List.mem_append_left _ h) ht,hx]at h1;have h2:=h.ev y;rw[bT (λ_ h=>List.mem_append_right _ h) ht,hy]at h2;have h1:a.eval x=.pointer (some ⟨E.β i,o,none⟩):=h1;have h2:a.eval y=.pointer none:=h2;have e:=run_eql_pointer_nil (P:=P) w T (some ⟨E.β i,o,none⟩) tT.u;refine⟨.bool false,?_,Y,iu⟩;simp[execOp,h1,h2,eqGuard,e]) next
def Fc.av:Fc->AV
 |.val s=>.sv s
 |.box i=>.ptr i 0
 |.row i=>.row i
theorem RT.E7(hg:Gd ops S gd rg){i:Nat}{js:List Fc}{s:Fc}(hx:S.ev x=.cmp .Bs js)(hi:js[i]? =some s)(hd:d<S.n)
  (next:RunT P C ops nd K rest (⟨rg++bn x,[],[],⟨some (d,s.av),[],[]⟩⟩::acc) (S.set d s.av)):RunT P C ops nd K (⟨some d,.extract x i,ty,pos,aft,gd⟩::rest) acc S:=
 RT.value hg (bn x) [] [] s.av hd aE (λS' ht _ _ E a w h=>by
  have hx':S'.ev x=.cmp .Bs js:=by rw[bT (λ_ h=>h) ht,hx]
  have h1:=h.ev x;rw[hx']at h1;obtain⟨l1,l2⟩:=qb h.wf hx';obtain⟨vs,hv,hall⟩:=h1;have hv:a.eval x=.tuple ⟨vs⟩:=hv;obtain⟨u,hu,hs⟩:=hall.get hi;have hm:=List.mem_of_getElem? hi;refine⟨u,by simp[execOp,hv,Instr.extract,hu],?_,λj e=>?_,λj e=>?_⟩
  ·cases s<;>exact hs
  ·cases s with
   |val s=>exact e.elim
   |box k=>have e:j=k:=e;subst e;exact l1 j hm
   |row k=>exact e.elim
  cases s with
  |val s=>exact e.elim
  |box k=>exact e.elim
  |row k=>have e:j=k:=e;subst e;exact l2 j hm) next
def alh(tp:Bool)(p:Value)(rs:List Value):Value:=bif tp then .tuple ⟨p::rs⟩else p
def S6(P:Program)(f:FuncId)(args:List SV)(tp:Bool)(rest:List SV)(T:TypeId)(c:List Oc):Prop:=
 ∀(M:Mem) (w:World) (vs:List Value),M.dH w->SV.eJ M args vs->
  Calls P f ⟨vs⟩ w λe w'=>∃β rs M' us,e=.returned (alh tp (.pointer (some ⟨β,0,none⟩)) rs)/\M.le M'/\(∀b o x,M' b o=some x->M b o=some x\/w.heap.size<=b)/\M'.dH w'/\SV.eJ M' rest rs/\
   xB M' w' β T c us/\w.heap.size<=β/\(∀g,fY c us g->w.heap.size<=g)/\Below w.heap.size w w'
theorem B8{w:World}{M:Mem}{S':AS}{E:Env}{a:Act}{w':World}{k:Nat}{ks:List Nat}{c:List Oc}(hB:S'.b k=some ⟨T,c9 ks c⟩)(hL:Lv S' ks (rowsOf c))(hk:ks.Nodup)(hh:bz (C0 w M) S' E a w'):
  ∃us,M.le E.M/\(∀b o x,E.M b o=some x->M b o=some x\/w.heap.size<=b)/\E.M.dH w'/\xB E.M w' (E.β k) T c us/\w.heap.size<=E.β k/\(∀g,fY c us g->w.heap.size<=g)/\Below w.heap.size w w':=by
 obtain⟨us,ho,qj⟩:=zW hh hB hL hk;refine⟨us,hh.m0,λb o x e=>?_,hh.dH,ho,(hh.bx k _ hB).1.elim id (λh=>h.elim),λg hg=>?_,hh.os,hh.tape,hh.output,hh.grown,λk hk=>hh.frame k hk (λh=>h)⟩
 ·rcases hh.fu b o x e with h|h|h
  ·exact .inl h
  ·exact .inr h
  exact h.elim
 obtain⟨j,hj,Hf⟩:=(qj g).1 hg;obtain⟨R,hR⟩:=hL.mem j hj;exact((hh.rx j R hR).2 g Hf).1.elim id (λh=>h.elim)
theorem Hv{f:FuncId}{fn:Func}{code:Code}{args:List SV}{c:List Oc}(hf:P.funcs[f]? =some fn)(hb:fn.body=some code)(hn:args.length<=fn.ntmps)
  (h:∀(w:World) (M:Mem) (vs:List Value),SV.eJ M args vs->Ok P (C0 w M) code (AS.init fn.ntmps args) (λe S=>(e=.normal\/e=.ret)/\∃(k:Nat) (ks:List Nat),Ew P S fn.results.toList (.ptr k 0)/\S.b k=some ⟨T,c9 ks c⟩/\Lv S ks (rowsOf c)/\ks.Nodup)):S6 P f args false [] T c:=by
 intro M w vs hM hvs;refine fW Y hf hb (iA hM hvs hn) (h w M vs hvs) ?_;rintro S' E a w' ⟨k,ks,hr,hB,hL,hk⟩ hh;obtain⟨v,hv,hx⟩:=hr.run hh;obtain rfl:v=.pointer (some ⟨E.β k,0,none⟩):=hx;obtain⟨us,q1,q2,q3,q4,q5,q6,q7⟩:=B8 hB hL hk hh;exact⟨_,hv,E.β k,[],E.M,us,Y,q1,q2,q3,ak,q4,q5,q6,q7⟩
theorem Qw{f:FuncId}{fn:Func}{code:Code}{args:List SV}{s:SV}{c:List Oc}{t1 t2:Nat}(hf:P.funcs[f]? =some fn)(hb:fn.body=some code)(hn:args.length<=fn.ntmps)(hres:fn.results=#[.tmp t1,.tmp t2])
  (h:∀(w:World) (M:Mem) (vs:List Value),SV.eJ M args vs->Ok P (C0 w M) code (AS.init fn.ntmps args) (λe S=>(e=.normal\/e=.ret)/\∃(k:Nat) (ks:List Nat),S.t t1=.ptr k 0/\S.t t2=.sv s/\S.b k=some ⟨T,c9 ks c⟩/\Lv S ks (rowsOf c)/\ks.Nodup)):S6 P f args true [s] T c:=by
 intro M w vs hM hvs;refine fW Y hf hb (iA hM hvs hn) (h w M vs hvs) ?_;rintro S' E a w' ⟨k,ks,YA,hr2,hB,hL,hk⟩ hh;have h1:=hh.tm t1;rw[YA]at h1;have h1:a.tmps.getD t1 undef=.pointer (some ⟨E.β k,0,none⟩):=h1;have h2:=hh.tm t2;rw[hr2]at h2;obtain⟨us,q1,q2,q3,q4,q5,q6,q7⟩:=B8 hB hL hk hh;refine⟨.tuple #[.pointer (some ⟨E.β k,0,none⟩),a.tmps.getD t2 undef],?_,E.β k,[a.tmps.getD t2 undef],E.M,us,Y,q1,q2,q3,⟨h2,ak⟩,q4,q5,q6,q7⟩;rw[Array.getD_eq_getD_getElem?]at h1;simp[results,hres,h1]
theorem bz.NK{a:Act}{w:World}:∀(ks:List Nat) (l:List (Row×Value)) {S:AS} {E:Env},bz C S E a w->ks.length=l.length->ks.Nodup->Un S ks->(∀p∈l,∃vs:List Value,w.ownsRow 0 p.1.E p.1.sz p.2 p.1.n vs/\SV.eJ E.M p.1.cells vs)->MF l->(∀p∈l,∀g,p.2.ownBlock=some g->VB C S E g)->
  ∃E':Env,E'.M=E.M/\E'.β=E.β/\E'.O=E.O/\(∀i p,(i,p)∈ks.zip l->E'.ν i=p.2)/\(∀i,i∉ks->E'.ν i=E.ν i)/\bz C (AS.cK ((ks.zip l).map (λn=>(n.1,.live n.2.1))) S) E' a w
 |[],[],S,E,h,_,_,_,_,_,_=>⟨E,Y,Y,Y,λi p hm=>(by simp at hm),λ_ _=>Y,h⟩
 |k::ks,p::l,S,E,h,hl,hn,hu,ho,ha,hf=>by
  obtain⟨R,v⟩:=p;rw[List.nodup_cons]at hn;obtain⟨ha1,ha2⟩:=List.pairwise_cons.1 ha;obtain⟨vs,ho1,Js⟩:=ho (R,v) θ;have h1:=h.Iu hu.1.1 hu.1.2 [] none (.inl ⟨Y,Y⟩) (R':=R) ho1 Js (λg hg=>.inr (hf (R,v) θ g hg)) (w5 w none);have hu':Un (AS.cK ([]++[(k,.live R)]) S) ks:=hu.2.congr (λj hj=>by
   show(AS.uI S k _).r j=_;exact AS.lF _ _ _ _ (λe=>hn.1 (e▸hj)))
  obtain⟨E',q1,q2,q3,q4,q5,q6⟩:=bz.NK ks l h1 (by simpa using hl) hn.2 hu' (λp hp=>ho p (List.mem_cons_of_mem _ hp)) ha2 (λp hp g hg=>by
   obtain⟨f1,f2,f3,f4,f5⟩:=hf p (List.mem_cons_of_mem _ hp) g hg;refine⟨f1,f2,f3,f4,λj R' uM e=>?_⟩;have uM:(AS.uI S k (.live R)).r j=.live R':=uM;by_cases ej:j=k
   ·subst ej;have e:(if j=j then v else E.ν j).ownBlock=some g:=e;rw[if_pos rfl]at e;exact ha1 p hp g e hg
   rw[AS.lF _ _ _ _ ej]at uM;have e:(if j=k then v else E.ν j).ownBlock=some g:=e;rw[if_neg ej]at e;exact f5 j R' uM e)
  refine⟨E',q1,q2,q3,λi p hm=>?_,λi hi=>?_,q6⟩
  ·rw[List.zip_cons_cons]at hm;rcases List.mem_cons.1 hm with e|e
   ·cases e;rw[q5 k hn.1];show(if k=k then v else E.ν k)=v;rw[if_pos rfl]
   exact q4 i p e
  rw[q5 i (λhm=>hi (List.mem_cons_of_mem _ hm))];show(if i=k then v else E.ν i)=E.ν i;rw[if_neg (λe=>hi (by rw[e];simp))]
 |[],_::_,_,_,_,hl,_,_,_,_,_=>by simp at hl
 |_::_,[],_,_,_,hl,_,_,_,_,_=>by simp at hl
theorem JX(i:Nat)(B:ur):∀(l:List (Nat×qa)) (S:AS),AS.cK l (S.nX i B)=(AS.cK l S).nX i B
 |[],_=>rfl
 |(j,R)::l,S=>JX i B l (S.uI j R)
theorem yz{α β:Type}:∀{l:List α} {k:List β} {a:α},l.length=k.length->a∈l->∃b,(a,b)∈l.zip k
 |a::l,c::k,b,h,hb=>by
  rcases List.mem_cons.1 hb with rfl|hb
  ·exact⟨c,by rw[List.zip_cons_cons];simp⟩
  obtain⟨a',h'⟩:=yz (l:=l) (k:=k) (by simpa using h) hb;exact⟨a',by rw[List.zip_cons_cons];exact List.mem_cons_of_mem _ h'⟩
 |[],_,_,_,hb=>by cases hb
 |_::_,[],_,h,_=>by simp at h
theorem bz.newObj{E:Env}{a:Act}{w w':World}(h:bz C S E a w){i:Nat}(hi:S.b i=none)(hp:C.jl i=none){ks:List Nat}{c:List Oc}{us:List Value}{M':Mem}{β:Nat}(hks:ks.Nodup)(C2:ks.length=(rowsOf c).length)(S5:Un S ks)
  (hM:E.M.le M') (hn:∀b o x,M' b o=some x->E.M b o=some x\/w.heap.size<=b) (hin:M'.dH w') (ho:xB M' w' β T c us) (hβ:w.heap.size<=β) (hg:∀g,fY c us g->w.heap.size<=g) (Jj:Below w.heap.size w w'):
  ∃E':Env,E'.M=M'/\E'.β i=β/\bz C (AS.cK (yf [] ks c) (AS.iM [(i,⟨T,c9 ks c⟩)] S)) E' a w':=by
 have Yx:(cJ c us).length=(rowsOf c).length:=by rw[<-kV ho.al,List.length_map]
 have h0:=h.grow hM hn hin Jj;obtain⟨E1,q1,q2,q3,q4,q5,h1⟩:=bz.NK ks (cJ c us) h0 ξ hks S5 (ow ho.al) ho.ap (λp hp g LB=>h.CI (hg g ⟨p,hp,LB⟩) (ho.nr g ⟨p,hp,LB⟩).2);have hS1:AS.cK ((ks.zip (cJ c us)).map (λn=>(n.1,.live n.2.1))) S=AS.cK (yf [] ks c) S:=by rw[<-JU ho.al [] ks];rfl
 rw[hS1]at h1;obtain⟨f1,f2,f3,f4,f5⟩:=h.CI (M':=M') hβ ho.nb;have hi1:(AS.cK (yf [] ks c) S).b i=none:=by rw[(fV _ _).2.2.1];exact hi
 have hfree:VB C (AS.cK (yf [] ks c) S) E1 β:=by
  refine⟨f1,by rw[q1];exact f2,by rw[q3];exact f3,λj B hB=>?_,λj R hR e=>?_⟩
  ·rw[(fV _ _).2.2.1]at hB;rw[q2];exact f4 j B hB
  by_cases hj:j∈ks
  ·obtain⟨p,hm⟩:=yz (l:=ks) (k:=cJ c us) ξ hj;rw[q4 j p hm]at e;exact(ho.nr β ⟨p,(nQ hm).2,e⟩).1 Y
  rw[oP,DU (λR hm=>by
   obtain⟨x,hx,e⟩:=List.mem_map.1 (show(j,R)∈(ks.zip (rowsOf c)).map (λp=>(p.1,qa.live p.2))from hm);obtain⟨k,R2⟩:=x;have e:k=j:=congrArg Prod.fst e;exact hj (e▸(nQ hx).1))]at hR
  rw[q5 j hj]at e;exact f5 j R hR e
 have h2:=h1.Uh hi1 hp hfree ho.hp (xC (w:=w') C2 (by rw[q1];exact ho.al) q4) (λx hx=>by
  obtain⟨p1,p2⟩:=xD x hx;refine⟨λj e=>absurd e (p1 j),λj e=>?_⟩;obtain⟨R,hm⟩:=yz (l:=ks) (k:=rowsOf c) C2 (p2 j e);obtain⟨R',uM⟩:=E5 (l:=yf [] ks c) (j:=j) (R:=.live R) (List.mem_map.2 ⟨(j,R),hm,Y⟩);rw[oP,uM];obtain⟨x,hx,e⟩:=List.mem_map.1 (show(j,R')∈(ks.zip (rowsOf c)).map (λp=>(p.1,qa.live p.2))from Av uM);rw[<-show qa.live x.2=R' from congrArg Prod.snd e];simp)
 refine⟨{E1 with β:=λj=>if j=i then β else E1.β j},q1,?_,?_⟩
 rotate_left 1
 ·rw[show AS.iM [(i,(⟨T,c9 ks c⟩:ur))] S=S.nX i ⟨T,c9 ks c⟩from Y,JX];exact h2
 show(if i=i then β else E1.β i)=β;rw[if_pos rfl]
theorem RT.S7(hg:Gd ops S gd rg){f:FuncId}[dm P f]{g:Operand}{xs:Array Operand}{at_:Array TypeId}{args:List SV}{T:TypeId}{c:List Oc}(hp:S6 P f args false [] T c)(ks:List Nat)(hks:ks.Nodup)(C2:ks.length=(rowsOf c).length)(S5:Un S ks)(hf:S.ev g=.sv (.v (.func (.func f) #[] #[])))(hargs:gM S xs.toList args)(hd:d<S.n)(hdb:S.b d=none)(Ji:C.jl d=none)
  (next:RunT P C ops nd K rest (⟨rg++(bn g++xs.toList.flatMap bn),[d],ks,⟨some (d,.ptr d 0),[(d,⟨T,c9 ks c⟩)],yf [] ks c⟩⟩::acc) ((AS.cK (yf [] ks c) (AS.iM [(d,⟨T,c9 ks c⟩)] S)).set d (.ptr d 0))):RunT P C ops nd K (⟨some d,.call ⟨.value g,xs,at_⟩,ty,pos,aft,gd⟩::rest) acc S:=by
 refine .inl ⟨_,[d],ks,_,?_,next⟩;rintro S' hn ht hb hr i a w L Q ho ⟨E,h⟩ hL;refine dj (C:=C) ho (hg.wanted h (λs hs=>ht s (List.mem_append_left _ hs)) Y) ?_;have wY:a.eval g=.func (.func f) #[] ⟨[]⟩:=by
  have h1:=h.ev g;rw[bT (λ_ h=>List.mem_append_right _ (List.mem_append_left _ h)) ht,hf]at h1;exact h1
 have hall:=gM.vals h hargs (λs hs=>ht s (List.mem_append_right _ (List.mem_append_right _ hs)));have hdn:S'.b d=none:=by rw[hb d θ];exact hdb
 refine dh (C:=C) aE (mc wY) ?_;rw[List.append_nil];refine⟨λh=>by simp at h,gG ((hp E.M w _ h.dH hall).mono ?_)⟩;rintro e w' ⟨β,rs,M',us,rfl,hM,hnew,hin,S8,Js,hβ,Uw,Jj⟩;obtain⟨E',e1,e2,h1⟩:=h.newObj hdn Ji hks C2 (S5.congr hr) hM hnew hin Js hβ Uw Jj;refine hL _ _ ⟨_,h1.put (x:=.ptr d 0) (v:=.pointer (some ⟨β,0,none⟩)) (by show _=Value.pointer (some ⟨E'.β d,0,none⟩);rw[e2]) ?_ ⟨λj e=>?_,λj e=>e.elim⟩⟩
 ·rw[(fV _ _).1];show d<S'.n;omega
 have e:j=d:=e;subst e;rw[(fV _ _).2.2.1];exact⟨_,AS.dP _ _ _⟩
theorem RT.acd(hg:Gd ops S gd rg){f:FuncId}[dm P f]{g:Operand}{xs:Array Operand}{at_:Array TypeId}{args:List SV}{T:TypeId}{c:List Oc}{s:SV}(hp:S6 P f args true [s] T c)(ks:List Nat)(hks:ks.Nodup)(C2:ks.length=(rowsOf c).length)(S5:Un S ks)(hf:S.ev g=.sv (.v (.func (.func f) #[] #[])))(hargs:gM S xs.toList args)(hd:d<S.n)(hdb:S.b d=none)(Ji:C.jl d=none)
  (next:RunT P C ops nd K rest (⟨rg++(bn g++xs.toList.flatMap bn),[d],ks,⟨some (d,.cmp .Bs [.box d,.val s]),[(d,⟨T,c9 ks c⟩)],yf [] ks c⟩⟩::acc) ((AS.cK (yf [] ks c) (AS.iM [(d,⟨T,c9 ks c⟩)] S)).set d (.cmp .Bs [.box d,.val s]))):RunT P C ops nd K (⟨some d,.call ⟨.value g,xs,at_⟩,ty,pos,aft,gd⟩::rest) acc S:=by
 refine .inl ⟨_,[d],ks,_,?_,next⟩;rintro S' hn ht hb hr i a w L Q ho ⟨E,h⟩ hL;refine dj (C:=C) ho (hg.wanted h (λs hs=>ht s (List.mem_append_left _ hs)) Y) ?_;have wY:a.eval g=.func (.func f) #[] ⟨[]⟩:=by
  have h1:=h.ev g;rw[bT (λ_ h=>List.mem_append_right _ (List.mem_append_left _ h)) ht,hf]at h1;exact h1
 have hall:=gM.vals h hargs (λs hs=>ht s (List.mem_append_right _ (List.mem_append_right _ hs)));have hdn:S'.b d=none:=by rw[hb d θ];exact hdb
 refine dh (C:=C) aE (mc wY) ?_;rw[List.append_nil];refine⟨λh=>by simp at h,gG ((hp E.M w _ h.dH hall).mono ?_)⟩;rintro e w' ⟨β,rs,M',us,rfl,hM,hnew,hin,S8,Js,hβ,Uw,Jj⟩;obtain⟨E',e1,e2,h1⟩:=h.newObj hdn Ji hks C2 (S5.congr hr) hM hnew hin Js hβ Uw Jj
 match rs,S8 with
 |[r],S8=>
  refine hL _ _ ⟨_,h1.put (x:=.cmp .Bs [.box d,.val s]) (v:=.tuple #[.pointer (some ⟨β,0,none⟩),r]) ⟨[.pointer (some ⟨β,0,none⟩),r],Y,by show _=Value.pointer (some ⟨E'.β d,0,none⟩);rw[e2],by show s.h E'.M r;rw[e1];exact S8.1,ak⟩ ?_ ⟨λj e=>?_,λj e=>?_⟩⟩
  ·rw[(fV _ _).1];show d<S'.n;omega
  ·have e:j=d:=by simpa[AV.mb]using e
   subst e;rw[(fV _ _).2.2.1];exact⟨_,AS.dP _ _ _⟩
  simp[AV.mr]at e
end steps
end
section
open Go.RowKit
def JY(P:Program)(f:FuncId)(args:List AV)(T:TypeId)(c:List Oc)(res:SV):Prop:=
 ∀(M:Mem) (w:World) (β:Nat) (vs us:List Value),M.dH w->xB M w β T c us->dQ (xE M β) args vs->
  Calls P f ⟨vs⟩ w λe w'=>∃v M',e=.returned v/\M.le M'/\(∀b o x,M' b o=some x->M b o=some x\/w.heap.size<=b)/\M'.dH w'/\res.h M' v/\
   xB M' w' β T c us/\w'.os=w.os/\w'.tape=w.tape/\w'.output=w.output/\w.heap.size<=w'.heap.size/\∀k,k<w.heap.size->k≠β->¬fY c us k->w'.heap[k]? =w.heap[k]?
def lkV:List (Nat×Row×Value)->Nat->Option Value
 |[],_=>none
 |(k,_,v)::l,j=>if j=k then some v else lkV l j
theorem NL:∀{l:List (Nat×Row×Value)} {j:Nat} {v:Value},lkV l j=some v->∃R,(j,R,v)∈l
 |(k,R,u)::l,j,v,h=>by
  rw[lkV]at h;by_cases e:j=k
  ·rw[if_pos e]at h;cases h;subst e;exact⟨R,by simp⟩
  rw[if_neg e]at h;obtain⟨R',hm⟩:=NL h;exact⟨R',List.mem_cons_of_mem _ hm⟩
 |[],_,_,h=>by cases h
theorem YB:∀{l:List (Nat×Row×Value)} {j:Nat} {R:Row} {v:Value},(l.map (·.1)).Nodup->(j,R,v)∈l->lkV l j=some v
 |(k,R',v')::l,j,R,v,hn,h=>by
  rw[List.map_cons,List.nodup_cons]at hn;rw[lkV];rcases List.mem_cons.1 h with e|e
  ·cases e;rw[if_pos rfl]
  have:j≠k:=λq=>hn.1 (List.mem_map.2 ⟨(j,R,v),e,q⟩);rw[if_neg this];exact YB hn.2 e
theorem ahp{ids:List Nat}(h:(ids.all λi=>Nat.ble 1000 i)=true):∀i∈ids,1000<=i:=λi hi=>ae (List.all_eq_true.1 h i hi)
def ace(w:World)(M:Mem)(β:Nat)(c:List Oc)(us:List Value)(ids:List Nat)(LA:(ids.all λi=>Nat.ble 1000 i)=true):Ctx:={w0:=w,M0:=M,own:=λk=>k=β\/fY c us k,A4:=λk=>k=β\/fY c us k,jl:=λi=>bif Nat.beq i 1000 then some β else none,eK:=lkV (ids.zip (cJ c us)),ro:=none,J:=λ_ _ _ _ _=>True,HO:=λ_ h=>h,Pc:=λ_ _ h=>(by obtain⟨R,hm⟩:=NL h;exact ahp LA _ (nQ hm).1),jf:=λ_ _ _ _ _ _ _ _ _ _ _ _ _ _ _ _=>trivial}
def Oc.cst:Oc->Prop
 |.s x=>∃v,x=.v v
 |.r _=>True
def NM:List Oc->Prop
 |[]=>True
 |c::l=>c.cst/\NM l
theorem NN{M M':Mem}{w w':World}:∀{c:List Oc} {us us':List Value},NM c->vc M w c us->vc M' w' c us'->cJ c us=cJ c us'->us=us'
 |[],[],[],_,_,_,_=>rfl
 |.s x::l,v::vs,v'::vs',hc,h,h',e=>by
  obtain⟨y,rfl⟩:=hc.1;have e1:v=y:=h.1;have e2:v'=y:=h'.1;rw[e1,e2,NN hc.2 h.2 h'.2 e]
 |.r R::l,v::vs,v'::vs',hc,h,h',e=>by
  rw[cJ,cJ]at e;have e1:=(List.cons.inj e).1;have e2:=(List.cons.inj e).2;rw[NN hc.2 h.2 h'.2 e2];rw[(Prod.mk.inj e1).2]
 |[],[],_::_,_,_,h,_=>h.elim
 |[],_::_,_,_,h,_,_=>h.elim
 |.s _::_,[],_,_,h,_,_=>h.elim
 |.r _::_,[],_,_,h,_,_=>h.elim
 |.s _::_,_::_,[],_,_,h,_=>h.elim
 |.r _::_,_::_,[],_,_,h,_=>h.elim
section steps
variable {P:Program}{C:Ctx}{ops:Array Oper}{S:AS}{nd:Bool}{K:List Ac->AS->Prop}{rest:List Oper}{acc:List Ac}
variable {gd:Option (Nat×Bool)}{rg:List Nat}{d:Nat}{ty:TypeId}{pos:String}{aft:Array Edge}{x y z:Operand}{T U E0:TypeId}
theorem bz.Ux{E:Env}{a:Act}{w w':World}(h:bz C S E a w){i:Nat}{js:List Nat}{c:List Oc}{us:List Value}{M':Mem}(hB:S.b i=some ⟨T,c9 js c⟩)(hL:Lv S js (rowsOf c))(hjs:js.Nodup)(Is:xB E.M w (E.β i) T c us)
  (hM:E.M.le M') (hn:∀b o x,M' b o=some x->E.M b o=some x\/w.heap.size<=b) (hin:M'.dH w') (ho:xB M' w' (E.β i) T c us)
  (hos:w'.os=w.os) (zV:w'.tape=w.tape) (hout:w'.output=w.output) (hsize:w.heap.size<=w'.heap.size) (qj:∀k,k<w.heap.size->k≠E.β i->¬fY c us k->w'.heap[k]? =w.heap[k]?):
  bz C S {E with M:=M'} a w':=by
 obtain⟨VY,ap5,ab7,us0,VZ,ali⟩:=h.bx i _ hB;obtain rfl:us0=us:=by
  rw[Is.hp]at VZ;have:=Option.some.inj VZ;injection this with e
  injection e with e
  exact e.symm
 obtain⟨_,Yx⟩:=B6 h hL ali;have hlen:=hL.len;have Nf:∀g,fY c us0 g↔∃j∈js,(E.ν j).ownBlock=some g:=λg=>by
  unfold fY;rw[Yx];constructor
  ·rintro⟨⟨R,v⟩,hm,hg⟩;obtain⟨j,hj,rfl⟩:=List.mem_map.1 (nQ hm).2;exact⟨j,hj,hg⟩
  rintro⟨j,hj,hg⟩;obtain⟨R,hR⟩:=B7 (l:=rowsOf c) (k:=js.map E.ν) (by simp[hlen]) (List.mem_map.2 ⟨j,hj,Y⟩);exact⟨(R,E.ν j),hR,hg⟩
 have GA:∀g,fY c us0 g->(C.w0.heap.size<=g\/C.A4 g)/\¬E.O g/\(∀n B,S.b n=some B->E.β n≠g)/\∃c e,w.heap[g]? =some (Obj.cells c e (0,0)):=λg hg=>by
  obtain⟨j,hj,Hf⟩:=(Nf g).1 hg;obtain⟨R,hR⟩:=hL.mem j hj;obtain⟨⟨us,q1,_⟩,q2⟩:=h.rx j R hR;obtain⟨q3,q4,q5,q6⟩:=q2 g Hf;refine⟨q3,q5,q6,?_⟩;rcases q1.2 with⟨q7,_⟩|⟨g',cap,cur,q7,_,q8,_⟩
  ·rw[q7]at Hf;cases Hf
  rw[q7]at Hf;cases Hf;exact⟨_,_,q8⟩
 have keep:∀x:AV,∀v,x.holds E v->x.holds {E with M:=M'} v:=λx v hv=>AV.dz (E:=E) (E':={E with M:=M'}) hM (λ_ _=>Y) (λ_ _=>Y) hv;have noM:∀b,b<w.heap.size->(∀o,E.M b o=none)->∀o,M' b o=none:=λb h1 h2 o=>by
  cases e:M' b o with
  |none=>rfl
  |some v=>
   rcases hn b o v e with q|q
   ·rw[h2 o]at q;cases q
   omega
 exact{
  wf:=h.wf
  marks:=by
   obtain⟨ds,d1,d2,d3⟩:=h.marks;refine⟨ds,d1,d2,λr hr=>?_⟩;obtain⟨p1,p2,p3⟩:=d3 r hr;refine⟨p1,p2,?_⟩;rw[qj r (Array.getElem?_eq_some_iff.1 p3).1 (λe=>by rw[e,VZ]at p3;cases p3) (λe=>by
    obtain⟨_,_,_,c,e2,q⟩:=GA r e;rw[q]at p3;cases p3)]
   exact p3
  size:=h.size
  os:=hos.trans h.os
  tape:=zV.trans h.tape
  output:=hout.trans h.output
  grown:=Nat.le_trans h.grown hsize
  frame:=λk hk hown=>by
   rw[qj k (Nat.lt_of_lt_of_le hk h.grown) (λe=>by
    rcases VY with q|q
    ·omega
    ·exact hown (C.HO _ (by rw[e];exact q))) (λe=>by
    rcases(GA k e).1 with q|q
    ·omega
    exact hown (C.HO _ q))]
   exact h.frame k hk hown
  m0:=Mem.le_trans h.m0 hM
  fu:=λb o v e=>by
   rcases hn b o v e with q|q
   ·exact h.fu b o v q
   exact .inr (.inl (Nat.le_trans h.grown q))
  dH:=hin
  tm:=λs=>keep _ _ (h.tm s)
  bx:=λj B iZ=>by
   obtain⟨p1,p2,p3,vs,p4,p5⟩:=h.bx j B iZ;have hlt:=(Array.getElem?_eq_some_iff.1 p4).1;by_cases e:j=i
   ·subst e;rw[hB]at iZ;cases iZ;refine⟨p1,ho.nb,p3,us0,ho.hp,?_⟩;exact ali.imp (λx _ v hv=>keep x v hv)
   refine⟨p1,noM _ hlt p2,p3,vs,?_,p5.imp (λx _ v hv=>keep x v hv)⟩;show w'.heap[E.β j]? =_;rw[qj _ hlt (λq=>e (h.inj j i B _ iZ hB q)) (λq=>(GA _ q).2.2.1 j B iZ Y)];exact p4
  inj:=h.inj
  rx:=λj R hR=>by
   obtain⟨⟨vs,p1,p2⟩,p3⟩:=h.rx j R hR;by_cases hj:j∈js
   ·have hz:(R,E.ν j)∈cJ c us0:=by
     rw[Yx];have key:∀(js:List Nat) (Rs:List Row),Lv S js Rs->j∈js->(R,E.ν j)∈Rs.zip (js.map E.ν):=by
      intro js
      induction js with
      |nil=>intro _ _ h;cases h
      |cons k js ih=>
       intro Rs hl hm;cases Rs with
       |nil=>exact hl.elim
       |cons R' Rs=>
        rw[List.map_cons,List.zip_cons_cons];rcases List.mem_cons.1 hm with q|q
        ·subst q;have:=hl.1;rw[hR]at this;cases this;simp
        exact List.mem_cons_of_mem _ (ih Rs hl.2 q)
     exact key js _ hL hj
    refine⟨ow ho.al _ hz,λg hg=>?_⟩;obtain⟨p4,p5,p6,p7⟩:=p3 g hg;exact⟨p4,(ho.nr g ⟨_,hz,hg⟩).2,p6,p7⟩
   have oth:∀g,(E.ν j).ownBlock=some g->¬fY c us0 g:=λg hg q=>by
    obtain⟨j',hj',e⟩:=(Nf g).1 q;obtain⟨R',uM⟩:=hL.mem j' hj';have:=h.fP j j' R R' hR uM g hg e;subst this;exact hj hj'
   refine⟨⟨vs,ep p1 λg hg=>qj g (nZ h hR hg) (λe=>(p3 g hg).2.2.2 i _ hB e.symm) (oth g hg),p2.mono hM⟩,λg hg=>?_⟩;obtain⟨p4,p5,p6,p7⟩:=p3 g hg;exact⟨p4,noM g (nZ h hR hg) p5,p6,p7⟩
  fP:=h.fP
  jl:=h.jl
  eK:=h.eK
  l8:=λb hb=>by
   obtain⟨p1,p2,p3⟩:=h.l8 b hb;exact⟨Nat.lt_of_lt_of_le p1 hsize,noM b p1 p2,p3⟩
  jj:=C.jf S.g S.go E.O E.M M' w w' h.jj hM hin (λb o v e=>by
    rcases hn b o v e with q|q
    ·exact .inl q
    ·exact .inr ⟨.inl (Nat.le_trans h.grown q),λq2=>by have:=(h.l8 b q2).1;omega⟩) (λb hb=>by
    have hb':b<w.heap.size:=by
     rcases hb with⟨q,_⟩|q
     ·exact Nat.lt_of_lt_of_le q h.grown
     exact(h.l8 b q).1
    refine qj b hb' (λe=>?_) (λe=>?_)
    ·subst e;rcases hb with⟨q1,q2⟩|q
     ·rcases VY with p|p
      ·omega
      exact q2 p
     exact ab7 q
    obtain⟨o1,o3,_⟩:=GA b e;rcases hb with⟨q1,q2⟩|q
    ·rcases o1 with p|p
     ·omega
     exact q2 p
    exact o3 q) hos zV hout hsize}
theorem RT.tW(hg:Gd ops S gd rg){f:FuncId}[dm P f]{g:Operand}{xs:Array Operand}{at_:Array TypeId}{args:List AV}{T:TypeId}{c:List Oc}{res:SV}(hp:JY P f args T c res)(i:Nat)(js:List Nat)(hB:S.b i=some ⟨T,c9 js c⟩)(hL:Lv S js (rowsOf c))(hjs:js.Nodup)
  (Uv:args.all AV.oy=true) (hf:S.ev g=.sv (.v (.func (.func f) #[] #[]))) (hargs:DA S xs.toList (args.map (AV.rnb i))) (hd:d<S.n)
  (next:RunT P C ops nd K rest (⟨rg++(bn g++xs.toList.flatMap bn),[i],js,⟨some (d,.sv res),[],[]⟩⟩::acc) (S.set d (.sv res))):RunT P C ops nd K (⟨some d,.call ⟨.value g,xs,at_⟩,ty,pos,aft,gd⟩::rest) acc S:=by
 refine .inl ⟨_,[i],js,_,?_,next⟩;rintro S' hn ht hb hr k a w L Q ho ⟨E,h⟩ hLL;refine dj (C:=C) ho (hg.wanted h (λs hs=>ht s (List.mem_append_left _ hs)) Y) ?_;have wY:a.eval g=.func (.func f) #[] ⟨[]⟩:=by
  have h1:=h.ev g;rw[bT (λ_ h=>List.mem_append_right _ (List.mem_append_left _ h)) ht,hf]at h1;exact h1
 have hall:=IF Uv (DA.vals h hargs (λs hs=>ht s (List.mem_append_right _ (List.mem_append_right _ hs))));have iZ:S'.b i=some ⟨T,c9 js c⟩:=by rw[hb i θ];exact hB
 have hL':Lv S' js (rowsOf c):=hL.congr (λk hk=>hr k hk);obtain⟨us,ho1,JV⟩:=zW h iZ hL' hjs;refine dh (C:=C) aE (mc wY) ?_;rw[List.append_nil];refine⟨λh=>by simp at h,gG ((hp E.M w (E.β i) _ us h.dH ho1 hall).mono ?_)⟩;rintro e w' ⟨v,M',rfl,hM,hnew,hin,hv,Js,hos,zV,hout,hsize,qj⟩;have h1:=h.Ux iZ hL' hjs ho1 hM hnew hin Js hos zV hout hsize qj;exact hLL _ _ ⟨_,h1.put (x:=.sv res) (v:=v) hv (by show d<S'.n;omega) iu⟩
end steps
end
section
open Go.RowKit
def Ic:List Nat->List Oc->List Fc
 |ids,.s x::l=>.val x::Ic ids l
 |i::ids,.r _::l=>.row i::Ic ids l
 |[],.r _::l=>.val .any::Ic [] l
 |_,[]=>[]
theorem JZ{E:Env}{w:World}:∀{ids:List Nat} {c:List Oc} {us:List Value},ids.length=(rowsOf c).length->vc E.M w c us->(∀i p,(i,p)∈ids.zip (cJ c us)->E.ν i=p.2)->Ei E (Ic ids c) us
 |ids,[],[],_,_,_=>by cases ids<;>exact trivial
 |ids,.s x::l,v::vs,hl,h,hv=>by
  have ih:=JZ (E:=E) (w:=w) (ids:=ids) (c:=l) (us:=vs) hl h.2 hv;cases ids<;>exact⟨h.1,ih⟩
 |i::ids,.r R::l,v::vs,hl,h,hv=>by
  refine⟨(hv i (R,v) (by rw[cJ,List.zip_cons_cons];simp)).symm,JZ (w:=w) (ids:=ids) (c:=l) (us:=vs) (by simpa[rowsOf]using hl) h.2 (λj p hm=>hv j p ?_)⟩;rw[cJ,List.zip_cons_cons];exact List.mem_cons_of_mem _ hm
 |[],.r R::l,_::_,hl,_,_=>by simp[rowsOf]at hl
 |_,[],_::_,_,h,_=>h.elim
 |_,.s _::_,[],_,h,_=>h.elim
 |_,.r _::_,[],_,h,_=>h.elim
theorem J0:∀{ids:List Nat} {c:List Oc},(∀j,¬Fc.box j∈Ic ids c)/\∀j,Fc.row j∈Ic ids c->j∈ids
 |ids,[]=>by cases ids<;>simp[Ic]
 |ids,.s y::l=>by
  have ih:=J0 (ids:=ids) (c:=l);have e:Ic ids (.s y::l)=.val y::Ic ids l:=by cases ids<;>rfl
  rw[e];exact⟨λj h=>by rcases List.mem_cons.1 h with h|h;cases h;exact ih.1 j h,λj h=>by rcases List.mem_cons.1 h with h|h;cases h;exact ih.2 j h⟩
 |i::ids,.r R::l=>by
  have ih:=J0 (ids:=ids) (c:=l);exact⟨λj h=>by rcases List.mem_cons.1 h with h|h;cases h;exact ih.1 j h,λj h=>by
   rcases List.mem_cons.1 h with h|h
   ·cases h;simp
   exact List.mem_cons_of_mem _ (ih.2 j h)⟩
 |[],.r R::l=>by
  have ih:=J0 (ids:=[]) (c:=l);exact⟨λj h=>by rcases List.mem_cons.1 h with h|h;cases h;exact ih.1 j h,λj h=>by rcases List.mem_cons.1 h with h|h;cases h;exact ih.2 j h⟩
theorem GC{M:Mem}{w:World}:∀{c:List Oc} {us:List Value},vc M w c us->us.length=c.length
 |[],[],_=>rfl
 |.s _::l,_::vs,h=>congrArg (· +1) (GC (c:=l) (us:=vs) h.2)
 |.r _::l,_::vs,h=>congrArg (· +1) (GC (c:=l) (us:=vs) h.2)
 |[],_::_,h=>h.elim
 |.s _::_,[],h=>h.elim
 |.r _::_,[],h=>h.elim
section
variable {P:Program}
end
section
variable {P:Program}{C:Ctx}{ops:Array Oper}{S:AS}{nd:Bool}{K:List Ac->AS->Prop}{rest:List Oper}{acc:List Ac}
variable {gd:Option (Nat×Bool)}{rg:List Nat}{d:Nat}{ty:TypeId}{pos:String}{aft:Array Edge}{x y z:Operand}{T U E0:TypeId}
def S9(S:AS):List Fc->Prop
 |[]=>True
 |.val s::l=>(∀M v,s.h M v->v.oneCell'=true)/\S9 S l
 |.row i::l=>(∃R,S.r i=.live R)/\S9 S l
 |.box _::l=>S9 S l
def Aw:List Fc->List Nat
 |[]=>[]
 |.row i::l=>i::Aw l
 |.val _::l=>Aw l
 |.box _::l=>Aw l
theorem E8{S':AS}{E:Env}{a:Act}{w:World}(h:bz C S' E a w):∀{js:List Fc} {us:List Value},S9 S js->(∀i∈Aw js,S'.r i=S.r i)->Ei E js us->dQ E (js.map Fc.av) us/\∀u∈us,u.oneCell'=true
 |[],[],_,_,_=>⟨ak,by simp⟩
 |.val s::l,u::us,ho,hr,ha=>by
  obtain⟨i1,i2⟩:=E8 h (js:=l) (us:=us) ho.2 hr ha.2;exact⟨⟨ha.1,i1⟩,λv hv=>by rcases List.mem_cons.1 hv with rfl|hv;exact ho.1 _ _ ha.1;exact i2 v hv⟩
 |.row i::l,u::us,ho,hr,ha=>by
  obtain⟨i1,i2⟩:=E8 h (js:=l) (us:=us) ho.2 (λj hj=>hr j (List.mem_cons_of_mem _ hj)) ha.2;obtain⟨R,hR⟩:=ho.1;obtain⟨⟨ws,hw,_⟩,_⟩:=h.rx i R (by rw[hr i (by simp[Aw])];exact hR);have hu:u=E.ν i:=ha.1;refine⟨⟨hu,i1⟩,λv hv=>?_⟩;rcases List.mem_cons.1 hv with rfl|hv
  ·rw[hu];rcases hw.2 with⟨h3,_⟩|⟨g,cap,cur,h3,_⟩<;>rw[h3]<;>rfl
  exact i2 v hv
 |.box i::l,u::us,ho,hr,ha=>by
  obtain⟨i1,i2⟩:=E8 h (js:=l) (us:=us) ho hr ha.2;have hu:u=.pointer (some ⟨E.β i,0,none⟩):=ha.1;exact⟨⟨hu,i1⟩,λv hv=>by rcases List.mem_cons.1 hv with rfl|hv;rw[hu];rfl;exact i2 v hv⟩
 |[],_::_,_,_,ha=>ha.elim
 |_::_,[],_,_,ha=>ha.elim
theorem RT.YC(hg:Gd ops S gd rg){n:Nat}[tA:Em P T n]{j:Nat}{B:ur}{js:List Fc}(hx:S.ev x=.ptr j 0)(hB:S.b j=some B)(hy:S.ev y=.cmp .agg js)(hok:S9 S js)(tg:js.length=n)(hn:B.cells.length=n)(rr:List Nat)(Sj:Aw js=rr)(cells:List AV)(hc:js.map Fc.av=cells)
  (next:RunT P C ops nd K rest (⟨rg++(bn x++bn y),[j],rr,⟨none,[(j,⟨B.T,cells⟩)],[]⟩⟩::acc) (S.nX j ⟨B.T,cells⟩)):RunT P C ops nd K (⟨none,.store T x y,ty,pos,aft,gd⟩::rest) acc S:=by
 subst hc;refine RT.Nc hg rr hx hB (cs:=js.map Fc.av) ?_ (λw=>tA.size w) (by simp[tg]) ξ (cells:=js.map Fc.av) (F4 (js.map Fc.av) [] B.cells aH) next
 intro S' E a w h e hr;have h2:=h.ev y;rw[e,hy]at h2;obtain⟨us,hu,hall⟩:=h2;have hu:a.eval y=.agg ⟨us⟩:=hu;obtain⟨k1,k2⟩:=E8 h hok (by rw[Sj];exact hr) hall;refine⟨us,by rw[hu];rfl,k1,k2,λz hz=>?_⟩;obtain⟨l1,l2⟩:=qb h.wf (e.trans hy);obtain⟨q,hq,rfl⟩:=List.mem_map.1 hz;cases q with
 |val s=>exact iu
 |box k=>exact⟨λi e=>l1 i (by have e:i=k:=e;subst e;exact hq),λi e=>e.elim⟩
 |row k=>exact⟨λi e=>e.elim,λi e=>l2 i (by have e:i=k:=e;subst e;exact hq)⟩
def Uy:List Fc->Bool
 |[]=>true
 |.box _::_=>false
 |.val _::l=>Uy l
 |.row _::l=>Uy l
theorem NO:∀{js:List Fc},Uy js=true->∀j,Fc.box j∉js
 |[],_,j,h=>by cases h
 |.box _::_,h,_,_=>by cases h
 |.val _::l,h,j,hj=>by rcases List.mem_cons.1 hj with e|e;cases e;exact NO (js:=l) h j e
 |.row _::l,h,j,hj=>by rcases List.mem_cons.1 hj with e|e;cases e;exact NO (js:=l) h j e
theorem E9:∀{js:List Fc} {j:Nat},Fc.row j∈js->j∈Aw js
 |.box _::l,j,h=>by rcases List.mem_cons.1 h with e|e;cases e;exact E9 (js:=l) e
 |.val _::l,j,h=>by rcases List.mem_cons.1 h with e|e;cases e;exact E9 (js:=l) e
 |.row i::l,j,h=>by
  rcases List.mem_cons.1 h with e|e
  ·cases e;simp[Aw]
  exact List.mem_cons_of_mem _ (E9 (js:=l) e)
theorem CL:∀{js:List Fc} {j:Nat},S9 S js->Fc.row j∈js->∃R,S.r j=.live R
 |.box _::l,j,ho,h=>by rcases List.mem_cons.1 h with e|e;cases e;exact CL (js:=l) ho e
 |.val _::l,j,ho,h=>by rcases List.mem_cons.1 h with e|e;cases e;exact CL (js:=l) ho.2 e
 |.row i::l,j,ho,h=>by
  rcases List.mem_cons.1 h with e|e
  ·cases e;exact ho.1
  exact CL (js:=l) ho.2 e
theorem NP{E:Env}:∀{js:List Fc} {us:List Value},dQ E (js.map Fc.av) us->Ei E js us
 |[],[],_=>trivial
 |.val _::l,_::us,h=>⟨h.1,NP (js:=l) (us:=us) h.2⟩
 |.box _::l,_::us,h=>⟨h.1,NP (js:=l) (us:=us) h.2⟩
 |.row _::l,_::us,h=>⟨h.1,NP (js:=l) (us:=us) h.2⟩
 |[],_::_,h=>h.elim
 |.val _::_,[],h=>h.elim
 |.box _::_,[],h=>h.elim
 |.row _::_,[],h=>h.elim
theorem Qx{E:Env}:∀{l:List AV} {us:List Value},dQ E l us->us.length=l.length
 |[],[],_=>rfl
 |_::l,_::us,h=>congrArg (· +1) (Qx (l:=l) (us:=us) h.2)
 |[],_::_,h=>h.elim
 |_::_,[],h=>h.elim
theorem RT.aev(hg:Gd ops S gd rg){n:Nat}[tA:Em P T n]{j:Nat}{B:ur}(js:List Fc)(hx:S.ev x=.ptr j 0)(hB:S.b j=some B)(hc:js.map Fc.av=B.cells)(hl:js.length=n)(hnb:Uy js=true)(hok:S9 S js)(rr:List Nat)(Sj:Aw js=rr)(hd:d<S.n)
  (next:RunT P C ops nd K rest (⟨rg++bn x,[j],rr,⟨some (d,.cmp .agg js),[],[]⟩⟩::acc) (S.set d (.cmp .agg js))):RunT P C ops nd K (⟨some d,.load T x,ty,pos,aft,gd⟩::rest) acc S:=
 RT.value hg (bn x) [j] rr (.cmp .agg js) hd aE (λS' ht hb hr E a w h=>by
  have h1:=h.ev x;rw[bT (λ_ h=>h) ht,hx]at h1;have h1:a.eval x=.pointer (some ⟨E.β j,0,none⟩):=h1;obtain⟨_,_,_,vs,hv,hall⟩:=h.bx j B (by rw[hb j θ];exact hB);rw[<-hc]at hall;have hvl:=Qx hall;rw[List.length_map]at hvl;have hld:=uK (P:=P) (T:=T) (n:=n) (w:=w) (b:=E.β j) (o:=0) (vs:=vs) ξ (λi v e=>by simp[World.cell?,hv];simpa using e);refine⟨.agg ⟨vs⟩,by simp[execOp,h1,Instr.loadAt,Instr.sureAddr,hld],⟨vs,Y,NP hall⟩,λj e=>(NO hnb j e).elim,λj e=>?_⟩;obtain⟨R,hR⟩:=CL hok e;rw[hr j (by rw[<-Sj];exact E9 e),hR];simp) next
end
end
end Go.Fw
namespace Go.Proofs.YtningmnklfpfjaaGreat
section
open Go.Fw
noncomputable def wE(x0:Lr):Option (Sz):=match x0 with|⟨bt,bu,bD,bG⟩=>(some (bu.length:Int)).bind λx7=>(some (bD.length:Int)).bind λdN=>(some (bG.length:Int)).bind λeP=>some ⟨bt,x7,dN,eP⟩
noncomputable def qA(x0:Lr):Option (Bool):=match x0 with|⟨bt,bu,bD,bG⟩=>(wE ⟨bt,bu,bD,bG⟩).bind λ⟨BX,DQ,Gx,H6⟩=>cX (λ(YD:Bool)=>(bif YD then some false else cX (λ(Ta:Bool)=>(bif Ta then some false else cX (λ(aew:Bool)=>some aew) λK16=>(tQ bu).bind λmF=>(some (decide ((mF:Int)<=BX))).bind λvI=>(bif vI then(tQ bD).bind λA6=>(some (decide ((A6:Int)<=BX))).bind λzo=>some zo else some false).bind λYE=>K16 YE)) λGe=>(some (decide ((128:Int)<Gx))).bind λjw=>(bif jw then some true else(some (decide ((H6:Int)≠Gx))).bind λkN=>some kN).bind λYF=>Ge YF)) λV1=>(some (decide ((BX:Int)<0))).bind λx8=>(bif x8 then some true else(some (decide ((64:Int)<BX))).bind λdr=>some dr).bind λYG=>(bif YG then some true else(some (decide ((DQ:Int)<1))).bind λdZ=>some dZ).bind λahq=>(bif ahq then some true else(some (decide ((4:Int)<DQ))).bind λiE=>some iE).bind λahr=>V1 ahr
end
section
open Go.Fw Go.Fw.Z Go.RowKit
theorem LS{x0:Lr}{r:Sz}(h:wE x0=some r):Pure af 83 [.agg (Lo x0)] (.agg (eSz r)):=by
 obtain⟨bt,bu,bD,bG⟩:=x0;refine bp Tryz.func83 Y (ae Y) (λdA M vs hvs=>?_);unfold wE at h;refine sr<|bx Y<|al (cs:=[ax 0,ax 0,ax 0,ax 0]) (by exact⟨aq,aq,aq,aq,ak⟩) Y<|dn<|sr<|fa Y Y<|lV Y Y Y<|fa Y Y<|lV Y Y Y<|lE h λx7 h7 h=>ln Y h7<|fa Y Y<|lV Y Y Y<|lE h λdN gL h=>ln Y gL<|fa Y Y<|lV Y Y Y<|lE h λeP jg h=>ln Y jg<|bI (cs:=[_,_,_,_]) (cs':=[ax bt,ax x7,ax dN,ax eP]) (.one Y (.one Y (.one Y (.one Y (.nil))))) ⟨aq,aq,aq,aq,ak⟩<|so Y Y Y<|dn<|bj ?_;cases O h;exact RZ (.agg Y Y (.k4 Y Y Y Y) Y (.nil))
theorem B9{x0:Lr}{r:Bool}(h:qA x0=some r):Pure af 34 [.agg (Lo x0)] (ay r):=by
 obtain⟨bt,bu,bD,bG⟩:=x0;refine bp Tryz.func34 Y (ae Y) (λdA M vs hvs=>?_);unfold qA at h;refine sr<|bx Y<|ag Y<|dn<|sr<|ld Y Y (.k4 Y Y Y Y) ?_;obtain⟨⟨BX,DQ,Gx,H6⟩,h5,h⟩:=bS h;refine cl (LS h5) ⟨Y,ak⟩<|al (cs:=[ax 0,ax 0,ax 0,ax 0]) (by exact⟨aq,aq,aq,aq,ak⟩) Y<|so Y Y Y<|dn<|qq<|qq ?_;refine bU h (λSf=>AS.cz 48 [(1,.ptr 1 0),(3,.ptr 3 0),(23,ai Sf)] [(3,⟨97,[ah BX,ah DQ,ah Gx,ah H6]⟩),(1,⟨25,[ah bt,.sv (aM 1 (eS 4 eQ) bu),.sv (aM 1 (eS 4 eQ) bD),.sv (aM 4 eQ bG)]⟩)] []) (λh=>?_) (λYD h=>?_);refine aZ<|fa Y Y<|lV Y Y Y<|lE h λx8 h8 h=>ls _ Y Y h8<|mv Y<|bE h λYG C7 h=>?_;cases x8;refine RT.fieldAddr (.some Y Y) Y T Y<|RT.zh (.some Y Y) Y Y Y T<|lE (F C7) λdr fO C7=>gg _ Y Y fO ?_;obtain rfl:=O C7;refine pF Y<|mv Y<|bE h λaqe NQ h=>?_;cases dr;refine RT.fieldAddr (.some Y Y) Y T Y<|RT.zh (.some Y Y) Y Y Y T<|lE (F NQ) λdZ jE NQ=>RT.lss (.some Y Y) _ Y Y T jE ?_;obtain rfl:=O NQ;refine pF Y<|mv Y<|bE h λaqf GD h=>?_;cases dZ;refine RT.fieldAddr (.some Y Y) Y T Y<|RT.zh (.some Y Y) Y Y Y T<|lE (F GD) λiE oc GD=>gg _ Y Y oc ?_;obtain rfl:=O GD;exact pF Y<|dn<|⟨iE,h,wR []⟩;obtain rfl:=O (V GD);exact ww<|ww<|ww<|pT Y<|dn<|⟨true,h,wR []⟩
 obtain rfl:=O (V NQ);refine ww<|ww<|ww<|pT Y<|mv Y<|bE h λahs Ie h=>?_;obtain rfl:=O (V Ie);exact ww<|ww<|ww<|pT Y<|dn<|⟨true,h,wR []⟩;obtain rfl:=O (V C7);refine ww<|ww<|ww<|pT Y<|mv Y<|bE h λTc nM h=>?_;obtain rfl:=O (V nM);refine ww<|ww<|ww<|pT Y<|mv Y<|bE h λaqg pD h=>?_;obtain rfl:=O (V pD);exact ww<|ww<|ww<|pT Y<|dn<|⟨true,h,wR []⟩;refine aY.n ?_;cases YD;refine fs<|qq<|qq ?_;refine bU (F h) (λGk=>AS.cz 48 [(1,.ptr 1 0),(3,.ptr 3 0),(33,ai Gk)] [(3,⟨97,[ah BX,ah DQ,ah Gx,ah H6]⟩),(1,⟨25,[ah bt,.sv (aM 1 (eS 4 eQ) bu),.sv (aM 1 (eS 4 eQ) bD),.sv (aM 4 eQ bG)]⟩)] []) (λh=>?_) (λTa h=>?_);refine aZ<|fa Y Y<|lV Y Y Y<|lE h λjw pK h=>gt _ Y Y pK<|mv Y<|bE h λYF sN h=>?_;cases jw;refine RT.fieldAddr (.some Y Y) Y T Y<|RT.zh (.some Y Y) Y Y Y T<|RT.fieldAddr (.some Y Y) Y T Y<|RT.zh (.some Y Y) Y Y Y T<|lE (F sN) λkN sL sN=>gq _ Y Y (Nh (p:=H6) (q:=Gx) sL) ?_;obtain rfl:=O sN;exact pF Y<|dn<|⟨kN,h,wR []⟩;obtain rfl:=O (V sN);exact ww<|ww<|ww<|ww<|ww<|pT Y<|dn<|⟨true,h,wR []⟩;refine aY.n ?_;cases Ta;refine fs<|qq ?_;refine bU (F h) (λWR=>AS.cz 48 [(2,ai WR)] [] []) (λh=>?_) (λaew h=>?_);refine bh mixed<|fa Y Y<|lV Y Y Y<|bE h λmF vJ h=>cl (Hu vJ) ⟨Y,ak⟩<|fa Y Y<|lV Y Y Y<|lE h λvI DO h=>RT.leq .none _ Y Y T DO<|mv Y<|bE h λYE yY h=>?_;cases vI;obtain rfl:=O (F yY);refine ww<|ww<|ww<|ww<|ww<|ww<|pF Y<|ag Y ?_;refine RT.done ⟨by kernel_rfl,?_⟩;exact aY.n<|⟨false,h,wR []⟩;refine RT.fieldAddr (.some Y Y) Y T Y<|RT.zh (.some Y Y) Y Y Y T<|bE (V yY) λA6 Lu yY=>gc (Hu Lu) ⟨Y,ak⟩<|RT.fieldAddr (.some Y Y) Y T Y<|RT.zh (.some Y Y) Y Y Y T<|lE yY λzo h46 yY=>RT.leq (.some Y Y) _ Y Y T h46 ?_;obtain rfl:=O yY;refine pT Y<|ag Y ?_;refine RT.done ⟨by kernel_rfl,?_⟩;exact aY.n<|⟨zo,h,wR []⟩;refine aY.n<|bj ?_;obtain rfl:=O h;exact R1 Y;refine cT<|sr<|ag Y<|dn<|bj<|aY.r ?_;obtain rfl:=O (V h);exact R1 Y;refine cT<|sr<|ag Y<|dn<|bj<|aY.r ?_;obtain rfl:=O (V h);exact R1 Y
end
end Go.Proofs.YtningmnklfpfjaaGreat
namespace Go.Fw
section
open Go.RowKit
def Uz(P:Program)(f:FuncId)(args:Nat->List AV)(T:TypeId)(c:List Oc)(Post:Nat->Mem->World->Value->Prop):Prop:=
 ∀(M:Mem) (w:World) (β:Nat) (vs us:List Value),M.dH w->xB M w β T c us->dQ (xE M β) (args β) vs->
  Calls P f ⟨vs⟩ w λe w'=>∃v M',e=.returned v/\M.le M'/\(∀b o x,M' b o=some x->M b o=some x\/w.heap.size<=b)/\M'.dH w'/\Post w.heap.size M' w' v/\
   xB M' w' β T c us/\w'.os=w.os/\w'.tape=w.tape/\w'.output=w.output/\w.heap.size<=w'.heap.size/\∀k,k<w.heap.size->k≠β->¬fY c us k->w'.heap[k]? =w.heap[k]?
theorem Qy{P:Program}{f:FuncId}{fn:Func}{code:Code}{args:Nat->List AV}{T:TypeId}{c:List Oc}{Post:Nat->Mem->World->Value->Prop}(ids:List Nat)(hf:P.funcs[f]? =some fn)(hb:fn.body=some code)(hn:∀β,(args β).length<=fn.ntmps)(Uv:∀β,(args β).all AV.oy=true)(LA:ids.Nodup)(Yw:ids.length=(rowsOf c).length)(hge:(ids.all λi=>Nat.ble 1000 i)=true)(aht:NM c)(Rq:AS->Prop)
  (h:∀(w:World) (M:Mem) (β:Nat) (us:List Value),Ok P (ace w M β c us ids hge) code (AS.Lm fn.ntmps (args β) [(1000,⟨T,c9 ids c⟩)] (ids.zip (rowsOf c))) (λe S=>(e=.normal\/e=.ret)/\Rq S/\S.b 1000=some ⟨T,c9 ids c⟩/\Lv S ids (rowsOf c)))
  (hr:∀(w:World) (M:Mem) (β:Nat) (us:List Value) (S':AS) (E:Env) (a:Act) (w':World),Rq S'->bz (ace w M β c us ids hge) S' E a w'->S'.b 1000=some ⟨T,c9 ids c⟩->(∀g,fY c us g->∃j∈ids,(E.ν j).ownBlock=some g)->(∀j∈ids,∃R,S'.r j=.live R)->∃v,(results fn a.tmps).run P w'=.ok v w'/\Post w.heap.size E.M w' v):Uz P f args T c Post:=by
 intro M w β vs us hM ho hv;have Yx:(cJ c us).length=(rowsOf c).length:=by rw[<-kV ho.al,List.length_map]
 have hnd:((ids.zip (cJ c us)).map (·.1)).Nodup:=by rw[IE ξ];exact LA
 have Xp:bz (ace w M β c us ids hge) (AS.Lm fn.ntmps (args β) [(1000,⟨T,c9 ids c⟩)] (ids.zip (rowsOf c))) ⟨λ_=>β,qy (ids.zip (cJ c us)) (λ_=>.nilIface),λ_=>False,M⟩ {tmps:=⟨vs⟩++Array.replicate (fn.ntmps-(⟨vs⟩:Array Value).size) undef,defers:=[]} w:=by
  have h0:=Uu (n:=fn.ntmps) ids hM ho hv (Uv β) (hn β) LA Yw
  exact{wf:=h0.wf,marks:=h0.marks,size:=h0.size,os:=h0.os,tape:=h0.tape,output:=h0.output,grown:=h0.grown,frame:=h0.frame,m0:=h0.m0,fu:=h0.fu,dH:=h0.dH,tm:=h0.tm,bx:=h0.bx,inj:=h0.inj,rx:=h0.rx,fP:=h0.fP,jl:=h0.jl,eK:=λi v e=>(by
   obtain⟨R,hm⟩:=NL e
   exact nv hnd hm),l8:=h0.l8,jj:=trivial}
 refine fW Y hf hb Xp (h w M β us) ?_;rintro S' E a w' ⟨hq,hB,hL⟩ hh;have hβ:E.β 1000=β:=hh.jl 1000 β Y;obtain⟨us',ho',qj⟩:=zW hh hB hL LA;rw[hβ]at ho';obtain⟨_,_,_,us2,q2,q3⟩:=hh.bx 1000 _ hB;rw[hβ,ho'.hp]at q2;obtain rfl:us'=us2:=by
  have:=Option.some.inj q2;injection this with e
  injection e
 obtain⟨_,aqh⟩:=B6 hh hL q3;have n7:cJ c us=cJ c us':=by
  rw[aqh];have key:∀(ids:List Nat) (l:List (Row×Value)) (Rs:List Row),ids.length=l.length->l.map (·.1)=Rs->(∀i R v,(i,R,v)∈ids.zip l->E.ν i=v)->l=Rs.zip (ids.map E.ν):=by
   intro ids
   induction ids with
   |nil=>intro l Rs hl hm _;cases l with|nil=>cases hm;rfl|cons _ _=>simp at hl
   |cons i ids ih=>
    intro l Rs hl hm hν;cases l with
    |nil=>simp at hl
    |cons p l=>
     cases hm;obtain⟨R,v⟩:=p;rw[List.map_cons,List.map_cons,List.zip_cons_cons,hν i R v (by rw[List.zip_cons_cons];simp),<-ih l _ (by simpa using hl) Y (λi R v hm=>hν i R v (by rw[List.zip_cons_cons];exact List.mem_cons_of_mem _ hm))]
  exact key ids _ _ ξ (kV ho.al) (λi R v hm=>hh.eK i v (YB hnd hm))
 obtain rfl:us=us':=NN aht ho.al ho'.al n7;obtain⟨v,hv,hx⟩:=hr w M β us S' E a w' hq hh hB (λg hg=>(qj g).1 hg) (λj hj=>hL.mem j hj);refine⟨v,hv,v,E.M,Y,hh.m0,λb o x e=>?_,hh.dH,hx,ho',hh.os,hh.tape,hh.output,hh.grown,λk hk hne hno=>hh.frame k hk (λe=>e.elim hne hno)⟩;rcases hh.fu b o x e with q|q|q|q
 ·exact .inl q
 ·exact .inr q
 ·rw[show b=β from q,ho'.nb o]at e;cases e
 rw[(ho'.nr b q).2 o]at e;cases e
section steps
variable {P:Program}{C:Ctx}{ops:Array Oper}{S:AS}{nd:Bool}{K:List Ac->AS->Prop}{rest:List Oper}{acc:List Ac}
variable {gd:Option (Nat×Bool)}{rg:List Nat}{d:Nat}{ty:TypeId}{pos:String}{aft:Array Edge}{x y z:Operand}{T U E0:TypeId}
end steps
end
section
open Go.RowKit
def Mem.to(M:Mem)(N:Nat):Mem:=λb o=>if b<N then M b o else none
theorem Mem.YH(M:Mem)(N:Nat):(M.to N).le M:=λb o v h=>by
 unfold Mem.to at h;split at h
 ·exact h
 cases h
theorem Mem.acf{M M':Mem}(h:M.le M')(N:Nat):(M.to N).le (M'.to N):=λb o v e=>by
 unfold Mem.to at*;split at e
 ·rename_i hn;rw[if_pos hn];exact h b o v e
 cases e
def od(N:Nat)(s:SV):SV:=⟨λM v=>s.h (M.to N) v,λhM h=>s.mono (Mem.acf hM N) h⟩
theorem Ax{N:Nat}{s:SV}:SV.imp (od N s) s:=λM _ h=>s.mono (Mem.YH M N) h
def AV.od(N:Nat):AV->AV
 |.sv s=>.sv (Fw.od N s)
 |x=>x
theorem AV.aex{N:Nat}{x:AV}{j:Nat}:(x.od N).mb j↔x.mb j:=by cases x<;>exact Iff.rfl
theorem AV.aey{N:Nat}{x:AV}{j:Nat}:(x.od N).mr j↔x.mr j:=by cases x<;>exact Iff.rfl
def AS.od(N:Nat)(S:AS):AS:={S with t:=λs=>(S.t s).od N,b:=λj=>(S.b j).map λB=>⟨B.T,B.cells.map (AV.od N)⟩}
theorem AV.Qz{E:Env}{N:Nat}(h:E.M.le (E.M.to N)){x:AV}{v:Value}(hx:x.holds E v):(x.od N).holds E v:=by
 cases x with
 |sv s=>exact s.mono h hx
 |_=>exact hx
theorem dQ.od{E:Env}{N:Nat}(h:E.M.le (E.M.to N)):∀{l:List AV} {vs:List Value},dQ E l vs->dQ E (l.map (AV.od N)) vs
 |[],[],_=>trivial
 |_::_,_::_,hv=>⟨AV.Qz h hv.1,dQ.od h hv.2⟩
 |[],_::_,hv=>hv.elim
 |_::_,[],hv=>hv.elim
section
variable {P:Program}{C:Ctx}{S:AS}{Q:Exit->AS->Prop}
theorem bz.odd{E:Env}{a:Act}{w:World}(h:bz C S E a w){N:Nat}(hN:w.heap.size<=N):bz C (S.od N) E a w:=by
 have hle:E.M.le (E.M.to N):=λb o v e=>by
  have:=nL h.dH e;unfold Mem.to;rw[if_pos ξ];exact e
 have Dc:∀i B,(S.od N).b i=some B->∃B0,S.b i=some B0/\B=⟨B0.T,B0.cells.map (AV.od N)⟩:=λi B hB=>by
  have hB:(S.b i).map (λB=>(⟨B.T,B.cells.map (AV.od N)⟩:ur))=some B:=hB;cases e:S.b i with
  |none=>rw[e]at hB;cases hB
  |some B0=>rw[e]at hB;cases hB;exact⟨B0,rfl,rfl⟩
 have bTo:∀i B0,S.b i=some B0->∃B,(S.od N).b i=some B:=λi B0 e=>⟨_,by show(S.b i).map _=_;rw[e];rfl⟩
 exact{h with
  wf:=by
   refine⟨λs j hj=>?_,λs j hj=>h.wf.tr s j (AV.aey.1 hj),λi B hB x hx j hj=>?_,λi B hB x hx j hj=>?_⟩
   ·obtain⟨B,hB⟩:=h.wf.tb s j (AV.aex.1 hj);exact bTo j B hB
   ·obtain⟨B0,h0,rfl⟩:=Dc i B hB;obtain⟨y,hy,rfl⟩:=List.mem_map.1 hx;obtain⟨B1,h1⟩:=h.wf.bb i B0 h0 y hy j (AV.aex.1 hj);exact bTo j B1 h1
   obtain⟨B0,h0,rfl⟩:=Dc i B hB;obtain⟨y,hy,rfl⟩:=List.mem_map.1 hx;exact h.wf.br i B0 h0 y hy j (AV.aey.1 hj)
  tm:=λs=>AV.Qz hle (h.tm s)
  bx:=λi B hB=>by
   obtain⟨B0,h0,rfl⟩:=Dc i B hB;obtain⟨h1,h2,h3,vs,h4,h5⟩:=h.bx i B0 h0;exact⟨h1,h2,h3,vs,h4,h5.od hle⟩
  inj:=λi j B B' hi hj e=>by
   obtain⟨B0,h0,_⟩:=Dc i B hi;obtain⟨B1,h1,_⟩:=Dc j B' hj;exact h.inj i j B0 B1 h0 h1 e
  rx:=λi R hR=>by
   obtain⟨p1,p2⟩:=h.rx i R hR;refine⟨p1,λg hg=>?_⟩;obtain⟨q1,q2,q3,q4⟩:=p2 g hg;refine⟨q1,q2,q3,λj B hB=>?_⟩;obtain⟨B0,h0,_⟩:=Dc j B hB
   exact q4 j B0 h0}
theorem QA{f:FuncId}{fn:Func}{code:Code}{args:List SV}{r:SV}(hf:P.funcs[f]? =some fn)(hb:fn.body=some code)(hn:args.length<=fn.ntmps)
  (h:∀(w:World) (M:Mem) (vs:List Value),M.dH w->SV.eJ M args vs->Ok P (C0 w M) code (AS.init fn.ntmps args) (λe S=>(e=.normal\/e=.ret)/\WI P S fn.results.toList r)):Pure P f args r:=by
 intro M w vs hM hvs;refine(callsIn_wide (n:=0)).1 (callsIn_of_wp_marks (F:=Fence.wide) hf hb trivial ?_);refine wpIn_mono (h w M vs hM hvs _ w ⟨_,iA hM hvs hn⟩) ?_;rintro e a' w' ⟨S',⟨he,ss,hss,himp⟩,E,hh⟩;have key:LeavesInM Fence.wide 0 P fn a'.tmps (λe w'=>∃v M',e=.returned v/\M.le M'/\(∀b o x,M' b o=some x->M b o=some x\/w.heap.size<=b)/\M'.dH w'/\r.h M' v/\Below w.heap.size w w') a'.defers .returning w':=by
  obtain⟨ds,h1,h2,h3⟩:=hh.marks;rw[h1];refine rE ds w' h2 (λr hr=>(h3 r hr).2.2) (λw2 g1 g2 g3 g4 g5=>?_);have Dx:=hh.Er h3 g1 g2 g3 g4 g5;obtain⟨v,hv,hs⟩:=Ep Dx hss;refine⟨v,hv,v,E.M,Y,Dx.m0,λb o x e=>?_,Dx.dH,himp _ _ hs,Dx.os,Dx.tape,Dx.output,Dx.grown,λk hk=>Dx.frame k hk (λh=>h)⟩;rcases Dx.fu b o x e with h|h|h
  ·exact .inl h
  ·exact .inr h
  exact h.elim
 rcases he with rfl|rfl
 ·exact key
 exact key
end
section
variable {P:Program}{C:Ctx}{ops:Array Oper}{S:AS}{K:List Ac->AS->Prop}{rest:List Oper}{acc:List Ac}
variable {gd:Option (Nat×Bool)}{rg:List Nat}{d:Nat}{ty:TypeId}{pos:String}{aft:Array Edge}{x y z:Operand}{T U E0:TypeId}
end
end
section
open Go.RowKit
structure SpD where
 W:World
 Mx:Mem
 b0:Nat
 o0:Nat
 n:Nat
 sz:Nat
 hin:Mx.dH W
 hb:0<n->∃o,Mx b0 o=some (.agg #[])
 cell:∀i k,i<n->k<sz->∃y,Mx b0 (o0+i*sz+k)=some y/\y.oneCell'=true
section
variable {P:Program}{D:SpD}{M0:Mem}{S:AS}
theorem UA:∀(xs:List Value) (l:List Value) (k:Nat),(qH l k xs).length=l.length
 |[],_,_=>rfl
 |x::xs,l,k=>by rw[qH,UA xs];simp
end
section
variable {P:Program}{C:Ctx}{ops:Array Oper}{S:AS}{nd:Bool}{K:List Ac->AS->Prop}{rest:List Oper}{acc:List Ac}
variable {gd:Option (Nat×Bool)}{rg:List Nat}{d:Nat}{ty:TypeId}{pos:String}{aft:Array Edge}{x y z:Operand}{T U E0:TypeId}{D:SpD}{M0:Mem}
instance{a:Option Addr}{n c:Nat}:Len (.v (.slice a n c)) n:=⟨λ_ v h=>⟨a,c,h⟩⟩
theorem RT.alk(hg:Gd ops S gd rg){m:Nat}[tS:gP P T E0 m]{a:Option Addr}{n c:Nat}(hx:S.ev x=.sv (.v (.slice a n c)))(hd:d<S.n)
  (next:RunT P C ops nd K rest (⟨rg++bn x,[],[],⟨some (d,.sv (.v (.int .i64 n))),[],[]⟩⟩::acc) (S.set d (.sv (.v (.int .i64 n))))):RunT P C ops nd K (⟨some d,.call ⟨.builtin .len,#[x],#[T]⟩,ty,pos,aft,gd⟩::rest) acc S:=
 RT.len hg hx hd next
theorem RT.ixC(hg:Gd ops S gd rg){sz:Nat}[tS:gP P T E0 sz]{b o n c:Nat}{kk:IntKind}{i:Nat}(hx:S.ev x=.sv (.v (.slice (some ⟨b,o,none⟩) n c)))(hy:S.ev y=.sv (.v (.int kk (i:Int))))(hd:d<S.n)(hi:i<n)
  (next:RunT P C ops nd K rest (⟨rg++(bn x++bn y),[],[],⟨some (d,.sv (.v (.pointer (some ⟨b,o+i*sz,none⟩)))),[],[]⟩⟩::acc) (S.set d (.sv (.v (.pointer (some ⟨b,o+i*sz,none⟩)))))):RunT P C ops nd K (⟨some d,.indexAddr T x y,ty,pos,aft,gd⟩::rest) acc S:=
 RT.value hg (bn x++bn y) [] [] _ hd aE (λS' ht _ _ E a w h=>by
  have h1:a.eval x=.slice (some ⟨b,o,none⟩) n c:=by have h1:=h.ev x;rw[bT (λ_ h=>List.mem_append_left _ h) ht,hx]at h1;exact h1
  have h2:a.eval y=.int kk (i:Int):=by have h2:=h.ev y;rw[bT (λ_ h=>List.mem_append_right _ h) ht,hy]at h2;exact h2
  refine⟨.pointer (some ⟨b,o+i*sz,none⟩),?_,Y,iu⟩;have hsz:=tS.size w;have hb:(0:Int)<=(i:Int)/\(i:Int)<(n:Int):=⟨by omega,by omega⟩;simp[execOp,h2,h1,Instr.indexAt,asIntOf,underlying,tS.u,hsz,jA,hb];exact λq=>absurd q ξ) next
end
section
variable {P:Program}
end
end
section
open Go.RowKit
instance{cs:List SV}:One (ref cs):=⟨λ_ _ h=>by obtain⟨b,o,rfl,_⟩:=h;rfl⟩
section steps
variable {P:Program}{C:Ctx}{ops:Array Oper}{S:AS}{nd:Bool}{K:List Ac->AS->Prop}{rest:List Oper}{acc:List Ac}
variable {gd:Option (Nat×Bool)}{rg:List Nat}{d:Nat}{ty:TypeId}{pos:String}{aft:Array Edge}{x y z:Operand}{T U E0:TypeId}
theorem RT.cE(hg:Gd ops S gd rg){cs:List SV}(hx:S.ev x=.sv (ref cs))(hd:d<S.n)
  (next:RunT P C ops nd K rest (⟨rg++bn x,[],[],⟨some (d,.sv (ref cs)),[],[]⟩⟩::acc) (S.set d (.sv (ref cs)))):RunT P C ops nd K (⟨some d,.nilCheck x,ty,pos,aft,gd⟩::rest) acc S:=
 RT.value hg (bn x) [] [] (.sv (ref cs)) hd aE (λS' ht _ _ E a w h=>by
  have h1:=h.ev x;rw[bT (λ_ h=>h) ht,hx]at h1;have h1:(ref cs).h E.M (a.eval x):=h1;obtain⟨b,o,e,h2⟩:=h1;exact⟨a.eval x,by simp[execOp,e],⟨b,o,e,h2⟩,iu⟩) next
theorem RT.YI(hg:Gd ops S gd rg)[tT:Yy P T]{cs:List SV}(hx:S.ev x=.sv (ref cs))(hy:S.ev y=.sv (.v (.pointer none)))(hd:d<S.n)
  (next:RunT P C ops nd K rest (⟨rg++(bn x++bn y),[],[],⟨some (d,.sv (.v (.bool false))),[],[]⟩⟩::acc) (S.set d (.sv (.v (.bool false))))):RunT P C ops nd K (⟨some d,.binOp .eql T x y U,ty,pos,aft,gd⟩::rest) acc S:=
 RT.value hg (bn x++bn y) [] [] (.sv (.v (.bool false))) hd aE (λS' ht _ _ E a w h=>by
  have h1:=h.ev x;rw[bT (λ_ h=>List.mem_append_left _ h) ht,hx]at h1;have h2:=h.ev y;rw[bT (λ_ h=>List.mem_append_right _ h) ht,hy]at h2;have h1:(ref cs).h E.M (a.eval x):=h1;obtain⟨b,o,h1,_⟩:=h1;have h2:a.eval y=.pointer none:=h2;have e:=run_eql_pointer_nil (P:=P) w T (some ⟨b,o,none⟩) tT.u;refine⟨.bool false,?_,Y,iu⟩;simp[execOp,h1,h2,eqGuard,e]) next
end steps
end
section
open Go.RowKit
noncomputable def A9(M:Mem)(w:World)(p:Nat->Prop):Mem:=λb o=>@ite _ (p b) (Classical.propDecidable _) (match w.cell? ⟨b,o,none⟩with|some v=>if v.oneCell'=true then some v else none|none=>none) (M b o)
noncomputable def yA(M:Mem)(p:Nat->Prop):Mem:=λb o=>@ite _ (p b) (Classical.propDecidable _) none (M b o)
theorem QB{M:Mem}{w:World}{p:Nat->Prop}{b o:Nat}{v:Value}(hb:p b)(hc:w.cell? ⟨b,o,none⟩=some v)(h1:v.oneCell'=true):A9 M w p b o=some v:=by
 unfold A9;rw[if_pos hb,hc];simp[h1]
theorem MG{M:Mem}{w:World}{p:Nat->Prop}(h:M.dH w):(A9 M w p).dH w:=λb o v e=>by
 unfold A9 at e;split at e
 ·split at e
  ·rename_i q;split at e
   ·rename_i h1;cases e;exact Fact.of q h1
   cases e
  cases e
 exact h b o v e
theorem Ca{M:Mem}{w:World}{p:Nat->Prop}(h:∀b,p b->∀o,M b o=none):M.le (A9 M w p):=λb o v e=>by
 unfold A9;rw[if_neg];exact e;intro hb;rw[h b hb o]at e;cases e
theorem zX{M:Mem}{p:Nat->Prop}:(yA M p).le M:=λb o v e=>by
 unfold yA at e;split at e
 ·cases e
 exact e
theorem Fa{M:Mem}{p:Nat->Prop}{b o:Nat}{v:Value}(hb:¬p b)(e:M b o=some v):yA M p b o=some v:=by unfold yA;rw[if_neg hb];exact e
theorem Fb{M:Mem}{p:Nat->Prop}{b:Nat}(hb:p b)(o:Nat):yA M p b o=none:=by unfold yA;rw[if_pos hb]
def OcI:List Oc->List SV->Prop
 |[],[]=>True
 |.s x::l,y::k=>(SV.imp x y/\∀M v,x.h M v->v.oneCell'=true)/\OcI l k
 |.r R::l,y::k=>(∃rows,Rows R.sz rows R.cells/\rows.length=R.n/\(∀M vs,SV.eJ M R.cells vs->∀v∈vs,v.oneCell'=true)/\SV.imp (slc R.sz rows) y)/\OcI l k
 |_,_=>False
theorem fI{E:TypeId}{n:Nat}{α:Type}{e:α->List SV}{l:List α}[el:EL e n]:∃rows,Rows (TR E n e l).sz rows (TR E n e l).cells/\rows.length=(TR E n e l).n/\(∀M vs,SV.eJ M (TR E n e l).cells vs->∀v∈vs,v.oneCell'=true)/\SV.imp (slc (TR E n e l).sz rows) (slc n (l.map e)):=
 ⟨l.map e,uP l,by simp,oS l,aq⟩
theorem J1{M:Mem}{w:World}{p:Nat->Prop}{R:Row}{v:Value}{rows:List (List SV)}(hno:∀b,p b->∀o,M b o=none)(hb:∀g,v.ownBlock=some g->p g)(ho:∃vs:List Value,w.ownsRow 0 R.E R.sz v R.n vs/\SV.eJ M R.cells vs)
  (n7:Rows R.sz rows R.cells) (hn:rows.length=R.n) (hone:∀M vs,SV.eJ M R.cells vs->∀v∈vs,v.oneCell'=true):(slc R.sz rows).h (A9 M w p) v/\v.oneCell'=true:=by
 obtain⟨vs,hown,hvs⟩:=ho;have tg:=Bx n7;rcases hown.2 with⟨h1,h2⟩|⟨g,cap,cur,h1,_,h2,h3,h4,h5,h6⟩
 ·rw[h2]at hn;exact⟨.inl ⟨none,h1,List.length_eq_zero_iff.1 hn⟩,by rw[h1];rfl⟩
 have hg:p g:=hb g (by rw[h1];rfl);have hm:maxLen=9223372036854775807:=by decide
 refine⟨.inr ⟨g,0,cap,by rw[h1,hn],by rw[hn];exact h3,by omega,λk row hk=>?_⟩,by rw[h1];rfl⟩;obtain⟨q1,q2⟩:=zw n7 k row hk;refine⟨q1,λj s hs=>?_⟩;have A5:=q2 j s hs;obtain⟨y,hy,hys⟩:=hvs.get A5;have hlt:k*R.sz+j<R.n*R.sz:=by
  have:=(List.getElem?_eq_some_iff.1 A5).1;rw[tg,hn]at this;exact this
 have h1':=hone _ _ hvs y (List.mem_of_getElem? hy);refine⟨y,QB hg ?_ h1',h1',s.mono (Ca hno) hys⟩;rw[<-h6,List.getElem?_take,if_pos hlt]at hy;simp only[World.cell?,h2];simpa using hy
theorem NR{M:Mem}{w:World}{p:Nat->Prop}(hno:∀b,p b->∀o,M b o=none):∀{c:List Oc} {cs:List SV} {us:List Value} {k:Nat} {s:SV},OcI c cs->vc M w c us->(∀q∈cJ c us,∀g,q.2.ownBlock=some g->p g)->cs[k]? =some s->∃y,us[k]? =some y/\y.oneCell'=true/\s.h (A9 M w p) y
 |.s x::l,y::cs,u::us,k,s,hi,ho,hb,hk=>by
  cases k with
  |zero=>cases hk;exact⟨u,rfl,hi.1.2 _ _ ho.1,y.mono (Ca hno) (hi.1.1 _ _ ho.1)⟩
  |succ k=>exact NR hno (c:=l) (cs:=cs) (us:=us) (k:=k) hi.2 ho.2 hb hk
 |.r R::l,y::cs,u::us,k,s,hi,ho,hb,hk=>by
  cases k with
  |zero=>
   cases hk;obtain⟨rows,q1,q2,q3,q4⟩:=hi.1;obtain⟨r1,r2⟩:=J1 hno (λg hg=>hb (R,u) (by rw[cJ];simp) g hg) ho.1 q1 q2 q3;exact⟨u,Y,r2,q4 _ _ r1⟩
  |succ k=>exact NR hno (c:=l) (cs:=cs) (us:=us) (k:=k) hi.2 ho.2 (λq hq=>hb q (by rw[cJ];exact List.mem_cons_of_mem _ hq)) hk
 |[],[],_,_,_,_,_,_,hk=>by simp at hk
 |[],_::_,_,_,_,hi,_,_,_=>hi.elim
 |.s _::_,[],_,_,_,hi,_,_,_=>hi.elim
 |.r _::_,[],_,_,_,hi,_,_,_=>hi.elim
 |.s _::_,_::_,[],_,_,_,ho,_,_=>ho.elim
 |.r _::_,_::_,[],_,_,_,ho,_,_=>ho.elim
theorem DV{M M':Mem}{w w':World}(hM:M.le M'):∀{c:List Oc} {us:List Value},vc M w c us->(∀q∈cJ c us,∀g,q.2.ownBlock=some g->w'.heap[g]? =w.heap[g]?)->vc M' w' c us
 |[],[],_,_=>trivial
 |.s x::l,u::us,h,hs=>⟨x.mono hM h.1,DV hM (c:=l) (us:=us) h.2 hs⟩
 |.r R::l,u::us,h,hs=>by
  obtain⟨vs,h1,h2⟩:=h.1;exact⟨⟨vs,ep h1 (λg hg=>hs (R,u) (by rw[cJ];simp) g hg),h2.mono hM⟩,DV hM (c:=l) (us:=us) h.2 (λq hq=>hs q (by rw[cJ];exact List.mem_cons_of_mem _ hq))⟩
 |[],_::_,h,_=>h.elim
 |.s _::_,[],h,_=>h.elim
 |.r _::_,[],h,_=>h.elim
def AV.alm(cells:List SV):AV->SV
 |.sv s=>s
 |_=>ref cells
def AV.aez:AV->Bool
 |.sv _=>true
 |.ptr i o=>Nat.beq i 1000&&Nat.beq o 0
 |_=>false
theorem QC{M M':Mem}{β:Nat}{cells:List SV}(hM:M.le M')(hc:(ref cells).h M' (.pointer (some ⟨β,0,none⟩))):∀{args:List AV} {vs:List Value},(args.all AV.aez)=true->dQ (xE M β) args vs->SV.eJ M' (args.map (AV.alm cells)) vs
 |[],[],_,_=>trivial
 |x::l,v::vs,hy,h=>by
  rw[List.all_cons,Bool.and_eq_true]at hy;refine⟨?_,QC hM hc hy.2 h.2⟩;cases x with
  |sv s=>exact s.mono hM h.1
  |ptr i o=>
   have h1:=Bool.and_eq_true_iff.1 hy.1;have e:v=.pointer (some ⟨β,o,none⟩):=h.1;rw[e,Nat.eq_of_beq_eq_true h1.2];exact hc
  |_=>exact(Bool.false_ne_true hy.1).elim
 |[],_::_,_,h=>h.elim
 |_::_,[],_,h=>h.elim
theorem iW{P:Program}{f:FuncId}{args:List AV}{T:TypeId}{c:List Oc}{cells:List SV}{r:Nat->SV}{res:SV}(hp:∀N,dB P f N (args.map (AV.alm cells)) (r N))(hy:args.all AV.aez=true)(hi:OcI c cells)(hr:∀N M v,(r N).h M v->res.h (M.fr N) v):JY P f args T c res:=by
 intro M w β vs us hM ho hv;have hno:∀b,(b=β\/fY c us b)->∀o,M b o=none:=λb hb o=>by
  rcases hb with rfl|hb
  ·exact ho.nb o
  exact(ho.nr b hb).2 o
 have hlt:∀b,(b=β\/fY c us b)->b<w.heap.size:=λb hb=>by
  rcases hb with rfl|⟨q,hq,hg⟩
  ·exact(Array.getElem?_eq_some_iff.1 ho.hp).1
  obtain⟨ws,h1,_⟩:=ow ho.al q hq;rcases h1.2 with⟨h2,_⟩|⟨g,cap,cur,h2,_,h3,_⟩
  ·rw[h2]at hg;cases hg
  rw[h2]at hg;cases hg;exact(Array.getElem?_eq_some_iff.1 h3).1
 have tg:(ref cells).h (A9 M w (λb=>b=β\/fY c us b)) (.pointer (some ⟨β,0,none⟩)):=⟨β,0,Y,λk s hk=>by
  obtain⟨y,h1,h2,h3⟩:=NR hno hi ho.al (λq hq g hg=>.inr ⟨q,hq,hg⟩) hk;refine⟨y,QB (.inl Y) ?_ h2,h2,h3⟩;simp only[World.cell?,ho.hp];simpa using h1⟩
 refine(hp w.heap.size _ w vs (Nat.le_refl _) (MG hM) (QC (Ca hno) tg hy hv)).mono ?_;rintro e w' ⟨v,M',rfl,hM',hnew,aqi,hres,hb⟩;have hMM:M.le (yA M' (λb=>b=β\/fY c us b)):=λb o x e=>Fa (λhb=>by rw[hno b hb o]at e;cases e) (hM' b o x (Ca hno b o x e));refine⟨v,yA M' (λb=>b=β\/fY c us b),Y,hMM,λb o x e=>?_,λb o x e=>aqi b o x (zX b o x e),res.mono (λb o x e=>?_) (hr _ _ _ hres),?_,hb.os,hb.tape,hb.output,hb.size,λk hk _ _=>hb.block k hk⟩
 ·rcases hnew b o x (zX b o x e)with q|q
  ·refine .inl ?_;unfold A9 at q;split at q
   ·rename_i By;have e2:yA M' (λb=>b=β\/fY c us b) b o=none:=Fb (p:=λb=>b=β\/fY c us b) By o;rw[e2]at e;cases e
   exact q
  exact .inr q
 ·unfold Mem.fr at e;split at e
  ·rename_i hN;exact Fa (λBy=>by have:=hlt b By;omega) e
  cases e
 exact⟨by rw[hb.block β (hlt β (.inl Y))];exact ho.hp,DV hMM ho.al (λq hq g hg=>hb.block g (hlt g (.inr ⟨q,hq,hg⟩))),λo=>Fb (p:=λb=>b=β\/fY c us b) (.inl Y) o,λg hg=>⟨(ho.nr g hg).1,λo=>Fb (p:=λb=>b=β\/fY c us b) (.inr hg) o⟩,ho.ap⟩
theorem uy{P:Program}{f:FuncId}{args:List SV}{r:SV}(h:Pure P f args r)(N:Nat):dB P f N args r:=λM w vs _ hM hv=>h M w vs hM hv
theorem ahu{s:SV}:∀(N:Nat) (M:Mem) (v:Value),(nw N s).h M v->s.h (M.fr N) v:=λ_ _ _ h=>h.1
theorem IG{l:List Qr}:∀(N:Nat) (M:Mem) (v:Value),(nw N (slc 4 (l.map (fQ N)))).h M v->(slc 4 (l.map eQ)).h (M.fr N) v:=λN M v h=>PF (M.fr N) v (by
 obtain⟨h1,h2⟩:=h;rw[<-Mem.Jr]at h1;exact⟨h1,λg e=>by rw[Mem.Jr];exact h2 g e⟩)
theorem UB{x:Value}:∀(N:Nat) (M:Mem) (v:Value),(SV.v x).h M v->(SV.v x).h (M.fr N) v:=λ_ _ _ h=>h
theorem NS{P:Program}{f:FuncId}{fn:Func}{code:Code}{args:Nat->List AV}{T:TypeId}{c:List Oc}{res:SV}(ids:List Nat)(hf:P.funcs[f]? =some fn)(hb:fn.body=some code)(hn:∀β,(args β).length<=fn.ntmps)(Uv:∀β,(args β).all AV.oy=true)(LA:ids.Nodup)(Yw:ids.length=(rowsOf c).length)(hge:(ids.all λi=>Nat.ble 1000 i)=true)(aht:NM c)
  (h:∀(w:World) (M:Mem) (β:Nat) (us:List Value),Ok P (ace w M β c us ids hge) code (AS.Lm fn.ntmps (args β) [(1000,⟨T,c9 ids c⟩)] (ids.zip (rowsOf c))) (λe S=>(e=.normal\/e=.ret)/\WI P S fn.results.toList res/\S.b 1000=some ⟨T,c9 ids c⟩/\Lv S ids (rowsOf c))):Uz P f args T c (λ_ M' _ v=>res.h M' v):=
 Qy ids hf hb hn Uv LA Yw hge aht _ h (λw M β us S' E a w' hr hh _ _ _=>by
  obtain⟨v,hv,hx⟩:=(Ew.sv hr).run hh;exact⟨v,hv,hx⟩)
section steps
variable {P:Program}{C:Ctx}{ops:Array Oper}{S:AS}{nd:Bool}{K:List Ac->AS->Prop}{rest:List Oper}{acc:List Ac}{Q:Exit->AS->Prop}
variable {gd:Option (Nat×Bool)}{rg:List Nat}{d:Nat}{ty:TypeId}{pos:String}{aft:Array Edge}{x y z:Operand}{T U E0:TypeId}
theorem acg{c:Code}{i k β:Nat}(hp:C.jl k=some β)(hB:S.b i=some ⟨T,[.ptr k 0]⟩)(h:Ok P C c (S.nX i ⟨T,[.sv (.v (.pointer (some ⟨β,0,none⟩)))]⟩) Q):Ok P C c S Q:=λa w ⟨E,hh⟩=>by
 refine h a w ⟨E,?_⟩;have hβ:E.β k=β:=hh.jl k β hp;have Dc:∀j B,(S.nX i ⟨T,[.sv (.v (.pointer (some ⟨β,0,none⟩)))]⟩).b j=some B->(j=i/\B=⟨T,[.sv (.v (.pointer (some ⟨β,0,none⟩)))]⟩)\/(j≠i/\S.b j=some B):=λj B e=>by
  by_cases hj:j=i
  ·subst hj;rw[AS.dP]at e;cases e;exact .inl ⟨rfl,rfl⟩
  rw[AS.cP _ _ _ _ hj]at e;exact .inr ⟨hj,e⟩
 have bTo:∀j,(∃B,S.b j=some B)->∃B,(S.nX i ⟨T,[.sv (.v (.pointer (some ⟨β,0,none⟩)))]⟩).b j=some B:=λj ⟨B,e⟩=>by
  by_cases hj:j=i
  ·subst hj;exact⟨_,AS.dP _ _ _⟩
  exact⟨B,by rw[AS.cP _ _ _ _ hj];exact e⟩
 have ahv:∀j B,(S.nX i ⟨T,[.sv (.v (.pointer (some ⟨β,0,none⟩)))]⟩).b j=some B->∃B',S.b j=some B':=λj B e=>by
  rcases Dc j B e with⟨rfl,_⟩|⟨_,q⟩
  ·exact⟨_,hB⟩
  exact⟨_,q⟩
 exact{hh with
  wf:=⟨λs j hj=>bTo j (hh.wf.tb s j hj),hh.wf.tr,λj B e y hy m hm=>by
    rcases Dc j B e with⟨rfl,rfl⟩|⟨_,q⟩
    ·obtain rfl:y=_:=by simpa using hy
     exact(hm:False).elim
    ·exact bTo m (hh.wf.bb j B q y hy m hm),λj B e y hy m hm=>by
    rcases Dc j B e with⟨rfl,rfl⟩|⟨_,q⟩
    ·obtain rfl:y=_:=by simpa using hy
     exact(hm:False).elim
    exact hh.wf.br j B q y hy m hm⟩
  bx:=λj B e=>by
   rcases Dc j B e with⟨rfl,rfl⟩|⟨_,q⟩
   ·obtain⟨h1,h2,h3,vs,h4,h5⟩:=hh.bx j _ hB;refine⟨h1,h2,h3,vs,h4,?_⟩
    match vs,h5 with
    |[v],h5=>exact⟨(show v=.pointer (some ⟨β,0,none⟩)from hβ▸h5.1),ak⟩
   exact hh.bx j B q
  inj:=λj j' B B' e e' q=>by
   obtain⟨_,h1⟩:=ahv j B e;obtain⟨_,h2⟩:=ahv j' B' e';exact hh.inj j j' _ _ h1 h2 q
  rx:=λj R hR=>by
   obtain⟨p1,p2⟩:=hh.rx j R hR;refine⟨p1,λg hg=>?_⟩;obtain⟨q1,q2,q3,q4⟩:=p2 g hg;refine⟨q1,q2,q3,λm B e=>?_⟩;obtain⟨_,h1⟩:=ahv m B e
   exact q4 m _ h1}
theorem RT.GF(hg:Gd ops S gd rg)[tV:Af P T]{k β:Nat}{B:ur}(hx:S.ev x=.sv (ref [.v (.pointer (some ⟨β,0,none⟩))]))(hp:C.jl k=some β)(hB:S.b k=some B)(hd:d<S.n)
  (next:RunT P C ops nd K rest (⟨rg++bn x,[k],[],⟨some (d,.ptr k 0),[],[]⟩⟩::acc) (S.set d (.ptr k 0))):RunT P C ops nd K (⟨some d,.load T x,ty,pos,aft,gd⟩::rest) acc S:=
 RT.value hg (bn x) [k] [] (.ptr k 0) hd aE (λS' ht hb _ E a w h=>by
  have h1:=h.ev x;rw[bT (λ_ h=>h) ht,hx]at h1;obtain⟨b,o,e,hc⟩:=h1;obtain⟨u,hu,hu1,hs⟩:=hc 0 _ Y;have hβ:E.β k=β:=h.jl k β hp;have hs:u=.pointer (some ⟨β,0,none⟩):=hs;refine⟨u,?_,by show u=.pointer (some ⟨E.β k,0,none⟩);rw[hβ];exact hs,λj e=>?_,λj e=>e.elim⟩
  ·have hcc:w.cell? ⟨b,o,none⟩=some u:=(h.dH _ _ _ hu).cell hu1;simp[execOp,e,Instr.loadAt,Instr.sureAddr,loadVar,tV.isAgg,hcc]
  have e:j=k:=e;subst e;exact⟨B,by rw[hb j θ];exact hB⟩) next
theorem RT.ach(hg:Gd ops S gd rg){f:FuncId}[dm P f]{g:Operand}{xs:Array Operand}{at_:Array TypeId}{args:List AV}{caps:Nat->List SV}{β:Nat}{T:TypeId}{c:List Oc}{res:SV}(hp:Uz P f (λβ=>args++(caps β).map AV.sv) T c (λ_ M' _ v=>res.h M' v))(i:Nat)(js:List Nat)(Ji:C.jl i=some β)(hB:S.b i=some ⟨T,c9 js c⟩)(hL:Lv S js (rowsOf c))(hjs:js.Nodup)
  (Uv:args.all AV.oy=true) (hf:S.ev g=.sv (oQ f (caps β))) (hargs:DA S xs.toList (args.map (AV.rnb i))) (hd:d<S.n)
  (next:RunT P C ops nd K rest (⟨rg++(bn g++xs.toList.flatMap bn),[i],js,⟨some (d,.sv res),[],[]⟩⟩::acc) (S.set d (.sv res))):RunT P C ops nd K (⟨some d,.call ⟨.value g,xs,at_⟩,ty,pos,aft,gd⟩::rest) acc S:=by
 refine .inl ⟨_,[i],js,_,?_,next⟩;rintro S' hn ht hb hr k a w L Q ho ⟨E,h⟩ hLL;refine dj (C:=C) ho (hg.wanted h (λs hs=>ht s (List.mem_append_left _ hs)) Y) ?_;have wY:(oQ f (caps β)).h E.M (a.eval g):=by
  have h1:=h.ev g;rw[bT (λ_ h=>List.mem_append_right _ (List.mem_append_left _ h)) ht,hf]at h1;exact h1
 obtain⟨yh,wY,Lq⟩:=wY;have hβ:E.β i=β:=h.jl i β Ji;have hall:=IF Uv (DA.vals h hargs (λs hs=>ht s (List.mem_append_right _ (List.mem_append_right _ hs))));have iZ:S'.b i=some ⟨T,c9 js c⟩:=by rw[hb i θ];exact hB
 have hL':Lv S' js (rowsOf c):=hL.congr (λk hk=>hr k hk);obtain⟨us,ho1,JV⟩:=zW h iZ hL' hjs;have aln:dQ (xE E.M (E.β i)) (args++(caps (E.β i)).map AV.sv) (xs.toList.map a.eval++yh):=hall.append (dQ.Ej (E:=xE E.M (E.β i)) (by rw[hβ];exact Lq));have hrun:(execOp a.eval ⟨some d,.call ⟨.value g,xs,at_⟩,ty,pos,aft,gd⟩).run P w=.ok (.enter f ⟨xs.toList.map a.eval++yh⟩) w:=by
  have e2:xs.map a.eval++⟨yh⟩=⟨xs.toList.map a.eval++yh⟩:=by apply Array.ext';simp
  have e1:=dm.run (P:=P) (f:=f) (xs.map a.eval++⟨yh⟩) w;rw[<-e2];simp[execOp,resolve,wY,Deferred.ofValue,invoke,e1]
 refine dh (C:=C) aE hrun<|⟨λh=>by simp at h,gG ((hp E.M w (E.β i) _ us h.dH ho1 aln).mono ?_)⟩;rintro e w' ⟨v,M',rfl,hM,hnew,hin,hv,Js,hos,zV,hout,hsize,qj⟩;have h1:=h.Ux iZ hL' hjs ho1 hM hnew hin Js hos zV hout hsize qj;exact hLL _ _ ⟨_,h1.put (x:=.sv res) (v:=v) hv (by show d<S'.n;omega) iu⟩
theorem aci{α:Type}(l k:List α):(Nj l k).length=l.length:=by unfold Nj;simp;omega
theorem MH{M:Mem}{b:Nat}{α:Type}{e:α->List SV}[el:EL e 1]:∀(k:List α) (o:Nat),(∀(i:Nat) (row:List SV),(k.map e)[i]? =some row->∀(q:Nat) (s:SV),row[q]? =some s->∃y,M b (o+i*1+q)=some y/\y.oneCell'=true/\s.h M y)->∃cs:List Value,cs.length=k.length/\SV.eJ M (k.flatMap e) cs/\∀j v,cs[j]? =some v->M b (o+j)=some v/\v.oneCell'=true
 |[],_,_=>⟨[],Y,ak,λj v h=>by simp at h⟩
 |x::k,o,h=>by
  obtain⟨cs,h1,h2,h3⟩:=MH k (o+1) (λi row hr q s hs=>by
   have:=h (i+1) row (by simpa using hr) q s hs;rwa[show o+(i+1)*1+q=o+1+i*1+q by omega]at this)
  have hl:=el.len x
  match he:e x,hl with
  |[s],_=>
   obtain⟨y,q1,q2,q3⟩:=h 0 [s] (by simp[he]) 0 s Y;refine⟨y::cs,by simp[h1],?_,λj v hj=>?_⟩
   ·rw[List.flatMap_cons,he];exact⟨q3,h2⟩
   cases j with
   |zero=>cases hj;exact⟨by simpa using q1,q2⟩
   |succ j=>rw[show o+(j+1)=o+1+j by omega];exact h3 j v (by simpa using hj)
theorem QD{M:Mem}{α:Type}{e:α->List SV}[el:EL e 1]:∀(l:List α) (vs:List Value) (m:Nat),SV.eJ M (l.flatMap e) vs->SV.eJ M ((l.drop m).flatMap e) (vs.drop m)
 |l,vs,0,h=>by simpa using h
 |[],vs,m+1,h=>by
  cases vs with
  |nil=>trivial
  |cons _ _=>exact h.elim
 |x::l,vs,m+1,h=>by
  have hl:=el.len x
  match he:e x,hl with
  |[s],_=>
   rw[List.flatMap_cons,he]at h
   match vs,h with
   |v::vs,h=>exact QD l vs m h.2
theorem RT.aeA(hg:Gd ops S gd rg)[tS:gP P T E0 1]{α:Type}{e:α->List SV}[el:EL e 1]{i:Nat}{E1:TypeId}{l k:List α}{m:Int}(hx:S.ev x=.row i)(hR:S.r i=.live (TR E1 1 e l))(hy:S.ev y=.sv (slc 1 (k.map e)))(hd:d<S.n)(hm:((Min.min k.length l.length:Nat):Int)=m)
  (next:RunT P C ops nd K rest (⟨rg++(bn x++bn y),[],[i],⟨some (d,.sv (.v (.int .i64 m))),[],[(i,.live (TR E1 1 e (Nj l k)))]⟩⟩::acc) ((AS.cK [(i,.live (TR E1 1 e (Nj l k)))] S).set d (.sv (.v (.int .i64 m))))):RunT P C ops nd K (⟨some d,.call ⟨.builtin .copy,#[x,y],#[T,U]⟩,ty,pos,aft,gd⟩::rest) acc S:=by
 subst hm;refine .inl ⟨_,[],[i],_,?_,next⟩;rintro S' hn' ht _ Sj ix a w L Q ho ⟨E,h⟩ hL;refine dj (C:=C) ho (hg.wanted h (λs hs=>ht s (List.mem_append_left _ hs)) Y) ?_;have uM:S'.r i=.live (TR E1 1 e l):=by rw[Sj i θ];exact hR
 have h1:a.eval x=E.ν i:=by
  have h1:=h.ev x;rw[bT (λ_ h=>List.mem_append_right _ (List.mem_append_left _ h)) ht,hx]at h1;exact h1
 have h2:(slc 1 (k.map e)).h E.M (a.eval y):=by
  have h2:=h.ev y;rw[bT (λ_ h=>List.mem_append_right _ (List.mem_append_right _ h)) ht,hy]at h2;exact h2
 have hsrc:∃sa sc,a.eval y=.slice sa k.length sc:=by
  rcases h2 with⟨sa,q1,q2⟩|⟨b,o,c,q1,_⟩
  ·have:k=[]:=List.map_eq_nil_iff.1 q2;subst this;exact⟨sa,0,q1⟩
  rw[List.length_map]at q1;exact⟨_,c,q1⟩
 obtain⟨⟨us,hown,Is⟩,_⟩:=h.rx i _ uM;have aqj:∃da dc,E.ν i=.slice da l.length dc:=by
  rcases hown.2 with⟨q1,q2⟩|⟨g,cap,cur,q1,_⟩
  ·have q2:l.length=0:=q2;exact⟨none,0,by rw[q2];exact q1⟩
  exact⟨_,cap,q1⟩
 obtain⟨sa,sc,hs⟩:=hsrc;by_cases h0:Nat.min k.length l.length=0
 ·obtain⟨da,dc,hdv⟩:=aqj;have hc:Nj l k=l:=by
   rcases Nat.eq_zero_or_pos l.length with q|q
   ·have:=List.length_eq_zero_iff.1 q;subst this;simp[Nj]
   have:k.length=0:=by
    have h0:Min.min k.length l.length=0:=h0;omega
   have:=List.length_eq_zero_iff.1 this;subst this;simp[Nj]
  have hr:(execOp a.eval ⟨some d,.call ⟨.builtin .copy,#[x,y],#[T,U]⟩,ty,pos,aft,gd⟩).run P w=.ok (.value (goInt 0)) w:=by
   have:=run_copy_none (P:=P) w T U ty E0 da sa l.length dc k.length sc tS.u tS.s h0;simp[execOp,resolve,invoke,builtin,h1,hs,hdv,this]
  refine dh (C:=C) aE hr (hL _ _ ⟨E,?_⟩);rw[hc];have e0:((Min.min k.length l.length:Nat):Int)=0:=by
   have h0:Min.min k.length l.length=0:=h0;rw[h0];rfl
  rw[e0];have:AS.app S' ⟨some (d,.sv (.v (.int .i64 0))),[],[(i,.live (TR E1 1 e l))]⟩=S'.set d (.sv (.v (.int .i64 0))):=by
   show(AS.uI S' i _).set d _=_;rw[AS.Mn uM]
  rw[this];exact h.put (x:=.sv (.v (.int .i64 0))) (v:=.int .i64 0) Y (by show d<S'.n;omega) iu
 have hpos:0<Min.min k.length l.length:=Nat.pos_of_ne_zero h0;obtain⟨g,Hf⟩:∃g,(E.ν i).ownBlock=some g:=by
  rcases hown.2 with⟨_,q2⟩|⟨g,cap,cur,q1,_⟩
  ·have q2:l.length=0:=q2;omega
  exact⟨g,by rw[q1];rfl⟩
 obtain⟨cur,vs,q1,q2,q3,q4,cap,q5,q6,q7,q8⟩:=Je h uM Hf;replace q2:cur.take (l.length*1)=vs:=q2;replace q3:vs.length=l.length*1:=q3;replace q6:l.length<=cap:=q6;replace q8:cur.length=cap*1:=q8;rcases h2 with⟨sa',r1,r2⟩|⟨b,o,c,r1,_,_,r4⟩
 ·have:k=[]:=List.map_eq_nil_iff.1 r2;subst this;simp at hpos
 rw[List.length_map]at r1;rw[hs]at r1;cases r1;obtain⟨cs,c1,c2,c3⟩:=MH (M:=E.M) (b:=b) (e:=e) (k.take (Min.min k.length l.length)) o (λj row hr q s hq=>by
  refine(r4 j row ?_).2 q s hq;rw[List.map_take,List.getElem?_take]at hr;split at hr
  ·exact hr
  cases hr)
 have tg:cs.length=Nat.min k.length l.length:=by rw[c1,List.length_take];show Min.min (Min.min k.length l.length) k.length=Min.min k.length l.length;omega
 have ahw:cs.length=Min.min k.length l.length:=tg;have hrun:=run_copy_row (P:=P) w T U ty E0 g 0 l.length cap ⟨b,o,none⟩ k.length sc ⟨cur⟩ E1 cs tS.u tS.s q1 tg (λj v hj=>by
  rw[jA];exact(h.dH _ _ _ (c3 j v hj).1).cell (c3 j v hj).2) aH (λv hv=>by
  obtain⟨j,hj,rfl⟩:=List.getElem_of_mem hv;exact(c3 j _ (List.getElem?_eq_getElem hj)).2)
 have hr:(execOp a.eval ⟨some d,.call ⟨.builtin .copy,#[x,y],#[T,U]⟩,ty,pos,aft,gd⟩).run P w=.ok (.value (goInt cs.length)) (w.setRow g (cs++cur.drop cs.length).toArray):=by
  have hrun:(Builtin.copy_ #[T,U] ty #[.slice (some ⟨g,0,none⟩) l.length cap,.slice (some ⟨b,o,none⟩) k.length sc]).run P w=.ok (goInt cs.length) (w.setRow g (cs++cur.drop cs.length).toArray):=by simpa using hrun
  have q5:E.ν i=.slice (some ⟨g,0,none⟩) l.length cap:=q5;simp[execOp,resolve,invoke,builtin,h1,hs,q5,hrun]
 have aqk:Nj l k=k.take (Min.min k.length l.length)++l.drop (Min.min k.length l.length):=by
  unfold Nj;have e1:k.take l.length=k.take (Min.min k.length l.length):=by rw[List.take_eq_take_iff];omega
  have e2:l.drop k.length=l.drop (Min.min k.length l.length):=by rw[List.drop_eq_drop_iff];omega
  rw[e1,e2]
 have hall:SV.eJ E.M ((Nj l k).flatMap e) (cs++vs.drop cs.length):=by
  rw[aqk,List.flatMap_append,<-ahw];rw[<-ahw]at c2;exact SV.eJ.append c2 (QD l vs cs.length q4)
 have hh:=setRow_heap w g ⟨cur⟩ (cs++cur.drop cs.length).toArray E1 (0,0) q1;have alo:(w.setRow g (cs++cur.drop cs.length).toArray).ownsRow 0 E1 1 (E.ν i) l.length (cs++vs.drop cs.length):=by
  refine⟨by simp;omega,.inr ⟨g,cap,_,q5,Nat.zero_le _,hh,q6,q7,by simp;omega,?_⟩⟩;rw[<-q2];simp only[List.take_append,List.length_take,List.drop_take];congr 1;rw[List.take_of_length_le ξ]
 have hp:=h.Ss uM Hf (w':=w.setRow g (cs++cur.drop cs.length).toArray) ⟨_,_,q1⟩ Y Y Y (by simp[World.setRow]) (λk' hk'=>setRow_other w g k' _ hk') alo hall;refine dh (C:=C) aE hr (hL _ _ ⟨E,?_⟩);have hrow:(⟨(TR E1 1 e l).E,(TR E1 1 e l).sz,(TR E1 1 e l).n,(Nj l k).flatMap e⟩:Row)=TR E1 1 e (Nj l k):=by
  show Row.mk _ _ l.length _=Row.mk _ _ (Nj l k).length _;rw[aci]
 rw[hrow]at hp;rw[<-ahw];exact hp.put (x:=.sv (.v (.int .i64 cs.length))) (v:=.int .i64 cs.length) Y (by show d<S'.n;omega) iu
end steps
end
end Go.Fw
namespace Go.Proofs.YtningmnklfpfjaaGreat
section
open Go.Fw
noncomputable def di(x0:Tb):Option (Bool):=match x0 with|⟨bt,bu,bD,bG,cD⟩=>cX (λ(alp:Bool)=>some alp) λK3=>(bif false then none else(some (!bt)).bind λdN=>some dN).bind λaeB=>K3 aeB
noncomputable def gI(x0:Tb):Option (Int):=match x0 with|⟨bt,bu,bD,bG,cD⟩=>(some (cD.length:Int)).bind λfy=>(some (IntKind.i64.wrap (bu+fy))).bind λdr=>some dr
noncomputable def oV(x0:Tb)(x1:Int):Option (List Qr):=match x0 with|⟨bt,bu,bD,bG,cD⟩=>(some (cD.length:Int)).bind λdr=>(Ln 64 dr (⟨⟨false,[]⟩,⟨false,[]⟩⟩:Qr)).bind λeP=>(some (cD.length:Int)).bind λfe=>(cm (λ(s8:Int×(List Qr))=>match s8 with|⟨QE,QF⟩=>(show Option ((Int×(List Qr))⊕((List Qr)))from(some (decide ((QE:Int)<fe))).bind λiz=>(bif iz then(cV cD QE).bind λiE=>(cV iE x1).bind λ⟨⟨aeC,aeD⟩,⟨aeE,aeF⟩⟩=>(dV ⟨⟨aeC,aeD⟩,⟨aeE,aeF⟩⟩).bind λ⟨⟨sQ,sS⟩,⟨Hw,Hx⟩⟩=>(qK QF QE).bind λmP=>(stM QF mP ⟨⟨sQ,sS⟩,⟨Hw,Hx⟩⟩).bind λEE=>(some (IntKind.i64.wrap (QE+1))).bind λkN=>some (.inl (kN,EE))else some (.inr QF)))) (0,eP)).bind λJ2=>some J2
noncomputable def nD(x0:Tb)(x1:Int):Option (List Qr):=match x0 with|⟨bt,bu,bD,bG,cD⟩=>(some (bD.length:Int)).bind λdr=>(some (IntKind.i64.wrap (dr+bu))).bind λdZ=>(Ln 64 dZ (⟨⟨false,[]⟩,⟨false,[]⟩⟩:Qr)).bind λfe=>(some (decide ((x1:Int)<bu))).bind λiv=>cX (λ(YJ:(List Qr))=>some YJ) λV1=>(bif iv then(some (bD.length:Int)).bind λjd=>(cm (λ(UC:Int×(List Qr))=>match UC with|⟨J3,J4⟩=>(show Option ((Int×(List Qr))⊕((List Qr)))from(some (decide ((J3:Int)<jd))).bind λmP=>(bif mP then(cV bD J3).bind λpz=>(cV pz x1).bind λ⟨⟨Fe,Ff⟩,⟨MI,MJ⟩⟩=>(qK J4 J3).bind λyj=>(stM J4 yj ⟨⟨Fe,Ff⟩,⟨MI,MJ⟩⟩).bind λl20=>(some (IntKind.i64.wrap (J3+1))).bind λry=>some (.inl (ry,l20))else some (.inr J4)))) (0,fe)).bind λDW=>(some (bD.length:Int)).bind λtD=>(some (IntKind.i64.wrap (tD+x1))).bind λyU=>(dU (-1)).bind λ⟨⟨My,Mz⟩,⟨YK,YL⟩⟩=>(qK DW yU).bind λzm=>(stM DW zm ⟨⟨My,Mz⟩,⟨YK,YL⟩⟩).bind λl22=>V1 l22 else V1 fe)
noncomputable def mz(x0:Tb)(x1:List Qr):Option (List Qr):=match x0 with|⟨bt,bu,bD,bG,cD⟩=>(some (bD.length:Int)).bind λdr=>(some (IntKind.i64.wrap (dr+bu))).bind λdZ=>(Ln 64 dZ (⟨⟨false,[]⟩,⟨false,[]⟩⟩:Qr)).bind λfe=>(some (x1.length:Int)).bind λiz=>(cm (λ(nR:(List Qr)×Int)=>match nR with|⟨J5,Ay⟩=>(show Option (((List Qr)×Int)⊕((List Qr)))from(some (decide ((Ay:Int)<iz))).bind λiE=>(bif iE then(cV x1 Ay).bind λ⟨⟨wh,wj⟩,⟨zN,zO⟩⟩=>cX (λ(Td:Bool)=>cX (λ(YM:(List Qr))=>(some (IntKind.i64.wrap (Ay+1))).bind λAo=>some (.inl (YM,Ao))) λK21=>(bif Td then(cV bG Ay).bind λyU=>(nD ⟨bt,bu,bD,bG,cD⟩ yU).bind λzm=>(jx ⟨⟨wh,wj⟩,⟨zN,zO⟩⟩ zm J5).bind λHW=>K21 HW else K21 J5)) λK19=>(cV bG Ay).bind λmP=>(some (decide ((mP:Int)<bu))).bind λqk=>(bif qk then(kT ⟨⟨wh,wj⟩,⟨zN,zO⟩⟩).bind λmI=>(some (decide ((mI:Int)≠0))).bind λyj=>some yj else some false).bind λYN=>K19 YN else some (.inr J5)))) (fe,0)).bind λzY=>some zY
noncomputable def jO(x0:Tb):Option (List Int):=match x0 with|⟨bt,bu,bD,bG,cD⟩=>(di ⟨bt,bu,bD,bG,cD⟩).bind λx5=>(bif x5 then some []else(some (bG.length:Int)).bind λdN=>(Ln 8 dN (0:Int)).bind λfy=>some (Nj fy bG))
noncomputable def ju(x0:Tb):Option (List Qr):=match x0 with|⟨bt,bu,bD,bG,cD⟩=>(di ⟨bt,bu,bD,bG,cD⟩).bind λx4=>(bif x4 then some []else(gI ⟨bt,bu,bD,bG,cD⟩).bind λx7=>(oV ⟨bt,bu,bD,bG,cD⟩ x7).bind λx8=>some x8)
noncomputable def ee(x0:Tb)(x1:Int):Option (List Qr):=match x0 with|⟨bt,bu,bD,bG,cD⟩=>cX (λ(YO:Bool)=>(bif YO then some []else(oV ⟨bt,bu,bD,bG,cD⟩ x1).bind λiz=>(mz ⟨bt,bu,bD,bG,cD⟩ iz).bind λfR=>(nD ⟨bt,bu,bD,bG,cD⟩ x1).bind λiv=>(zM fR iv).bind λkD=>some kD)) λK6=>(di ⟨bt,bu,bD,bG,cD⟩).bind λx6=>(bif x6 then some true else(some (decide ((x1:Int)<0))).bind λx9=>some x9).bind λaeG=>(bif aeG then some true else(gI ⟨bt,bu,bD,bG,cD⟩).bind λeL=>(some (decide ((eL:Int)<=x1))).bind λdO=>some dO).bind λahx=>K6 ahx
noncomputable def kW(x0:Tb):Option (List Qr):=match x0 with|⟨bt,bu,bD,bG,cD⟩=>(di ⟨bt,bu,bD,bG,cD⟩).bind λx4=>(bif x4 then some []else(ju ⟨bt,bu,bD,bG,cD⟩).bind λx7=>(mz ⟨bt,bu,bD,bG,cD⟩ x7).bind λx8=>some x8)
noncomputable def gY(x0:Tb):Option (List Qr):=match x0 with|⟨bt,bu,bD,bG,cD⟩=>(di ⟨bt,bu,bD,bG,cD⟩).bind λx7=>(bif x7 then some []else(Ln 64 bu (⟨⟨false,[]⟩,⟨false,[]⟩⟩:Qr)).bind λdr=>(ju ⟨bt,bu,bD,bG,cD⟩).bind λeL=>(some (eL.length:Int)).bind λdO=>(cm (λ(rI:Int×(List Qr))=>match rI with|⟨J6,J7⟩=>(show Option ((Int×(List Qr))⊕((List Qr)))from(some (decide ((J6:Int)<dO))).bind λdZ=>(bif dZ then(cV eL J6).bind λ⟨⟨kF,kG⟩,⟨sX,sY⟩⟩=>(cV bG J6).bind λjw=>(some (decide ((jw:Int)<bu))).bind λkN=>cX (λ(Te:(List Qr))=>(some (IntKind.i64.wrap (J6+1))).bind λA6=>some (.inl (A6,Te))) λGe=>(bif kN then(cV bG J6).bind λvI=>(qK J7 vI).bind λry=>(stM J7 ry ⟨⟨kF,kG⟩,⟨sX,sY⟩⟩).bind λUD=>Ge UD else Ge J7)else some (.inr J7)))) (0,dr)).bind λJ8=>some J8)
noncomputable def qB(x0:Tb):Option (List (List Qr)):=match x0 with|⟨bt,bu,bD,bG,cD⟩=>(di ⟨bt,bu,bD,bG,cD⟩).bind λx7=>(bif x7 then some []else(some (cD.length:Int)).bind λdr=>(cm (λ(s6:Int×(List (List Qr)))=>match s6 with|⟨Fg,fJ⟩=>(show Option ((Int×(List (List Qr)))⊕((List (List Qr))))from(some (decide ((Fg:Int)<dr))).bind λeL=>(bif eL then(cV cD Fg).bind λdO=>(gI ⟨bt,bu,bD,bG,cD⟩).bind λiz=>(kU dO iz).bind λfR=>(lM 24 fJ [fR]).bind λiN=>(some (IntKind.i64.wrap (Fg+1))).bind λiv=>some (.inl (iv,iN))else some (.inr fJ)))) (0,[])).bind λc7=>some c7)
noncomputable def kj(x0:Tb):Option (Bool):=match x0 with|⟨bt,bu,bD,bG,cD⟩=>(di ⟨bt,bu,bD,bG,cD⟩).bind λx6=>(bif x6 then some false else(ju ⟨bt,bu,bD,bG,cD⟩).bind λx8=>(some (x8.length:Int)).bind λx9=>(cm (λ(UE:Int)=>(show Option ((Int)⊕((Unit)⊕(Bool)))from(some (decide ((UE:Int)<x9))).bind λfy=>(bif fy then(cV x8 UE).bind λ⟨⟨jC,jr⟩,⟨UF,UG⟩⟩=>(kT ⟨⟨jC,jr⟩,⟨UF,UG⟩⟩).bind λdO=>(some (decide ((dO:Int)<0))).bind λfD=>(bif fD then some (.inr (.inr false))else(some (IntKind.i64.wrap (UE+1))).bind λdZ=>some (.inl dZ))else some (.inr (.inl ()))))) 0).bind λe6=>match e6 with|.inr v6=>some v6|.inl _=>some true)
noncomputable def jP(x0:Tb):Option (Bool):=match x0 with|⟨bt,bu,bD,bG,cD⟩=>(di ⟨bt,bu,bD,bG,cD⟩).bind λx5=>(bif x5 then some false else(w7 (λ(k:Nat) (s3:Unit)=>(show Option ((Unit)⊕(Bool))from(some ((k:Nat):Int)).bind λp8=>(ee ⟨bt,bu,bD,bG,cD⟩ p8).bind λfy=>(xy fy).bind λdr=>(some (decide ((dr:Int)<0))).bind λeP=>(bif eP then some (.inr false)else some (.inl ())))) ((IntKind.i64.wrap (Tb.vars ⟨bt,bu,bD,bG,cD⟩+((Tb.rows ⟨bt,bu,bD,bG,cD⟩).length:Int))).toNat) ()).bind λe3=>match e3 with|.inr v3=>some v3|.inl _=>some true)
noncomputable def gB(x0:Tb):Option (List (List Qr)):=match x0 with|⟨bt,bu,bD,bG,cD⟩=>(di ⟨bt,bu,bD,bG,cD⟩).bind λx6=>(bif x6 then some []else(tq (λ(k:Nat) (xG:(List (List Qr)))=>(show Option ((List (List Qr)))from(some ((k:Nat):Int)).bind λp9=>(ee ⟨bt,bu,bD,bG,cD⟩ p9).bind λeP=>(lM 24 xG [eP]).bind λdO=>some dO)) ((IntKind.i64.wrap (Tb.vars ⟨bt,bu,bD,bG,cD⟩+((Tb.rows ⟨bt,bu,bD,bG,cD⟩).length:Int))).toNat) []).bind λxG=>some xG)
noncomputable def ek(x0:Lr):Option (Bool×Int×(List (List Qr))×(List Int)×(List (List Qr))):=match x0 with|⟨bt,bu,bD,bG⟩=>(some (bu.length:Int)).bind λdO=>(cm (λ(s6:Int×(List (List Qr)))=>match s6 with|⟨QG,GG⟩=>(show Option ((Int×(List (List Qr)))⊕((List (List Qr))))from(some (decide ((QG:Int)<dO))).bind λdZ=>(bif dZ then(cV bu QG).bind λfe=>(kU fe bt).bind λlO=>(lM 24 GG [lO]).bind λvY=>(some (IntKind.i64.wrap (QG+1))).bind λpz=>some (.inl (pz,vY))else some (.inr GG)))) (0,[])).bind λmW=>(some (bD.length:Int)).bind λmF=>(cm (λ(V3:Int×(List Int)×(List (List Qr)))=>match V3 with|⟨pE,uz,uC⟩=>(show Option ((Int×(List Int)×(List (List Qr)))⊕((List Int)×(List (List Qr))))from(some (decide ((pE:Int)<mF))).bind λwA=>(bif wA then(some (bD.length:Int)).bind λsK=>(some (IntKind.i64.wrap (bt+sK))).bind λvZ=>(some (IntKind.i64.wrap (vZ+1))).bind λzo=>(Ln 64 zo (⟨⟨false,[]⟩,⟨false,[]⟩⟩:Qr)).bind λw9=>(cm (λ(Nq:Int×(List Qr))=>match Nq with|⟨GH,DX⟩=>(show Option ((Int×(List Qr))⊕((List Qr)))from(some (decide ((GH:Int)<bt))).bind λBr=>(bif Br then(zU bD pE GH).bind λ⟨⟨Dn,Cb⟩,⟨Hy,Hz⟩⟩=>(qK DX GH).bind λPI=>(stM DX PI ⟨⟨Dn,Cb⟩,⟨Hy,Hz⟩⟩).bind λWM=>(some (IntKind.i64.wrap (GH+1))).bind λHl=>some (.inl (Hl,WM))else some (.inr DX)))) (0,w9)).bind λvN=>(some (IntKind.i64.wrap (bt+pE))).bind λMw=>(dU 1).bind λ⟨⟨HA,HB⟩,⟨HC,HD⟩⟩=>(qK vN Mw).bind λSd=>(stM vN Sd ⟨⟨HA,HB⟩,⟨HC,HD⟩⟩).bind λl42=>(some (l42.length:Int)).bind λx71=>(some (IntKind.i64.wrap (x71-1))).bind λO8=>(cV bG pE).bind λ⟨⟨YP,YQ⟩,⟨YR,YS⟩⟩=>(dV ⟨⟨YP,YQ⟩,⟨YR,YS⟩⟩).bind λ⟨⟨QH,QI⟩,⟨QJ,QK⟩⟩=>(qK l42 O8).bind λO9=>(stM l42 O9 ⟨⟨QH,QI⟩,⟨QJ,QK⟩⟩).bind λV4=>(lM 24 uC [V4]).bind λx87=>(some (IntKind.i64.wrap (bt+pE))).bind λV5=>(lM 8 uz [V5]).bind λYT=>(some (IntKind.i64.wrap (pE+1))).bind λHU=>some (.inl (HU,YT,x87))else some (.inr (uz,uC))))) (0,[],[])).bind λe30=>match e30 with|⟨NT,NU⟩=>some (true,bt,mW,NT,NU)
noncomputable def iX(x0:Lr):Option (Bool×Int×(List (List Qr))×(List Int)×(List (List Qr))):=match x0 with|⟨bt,bu,bD,bG⟩=>(qA ⟨bt,bu,bD,bG⟩).bind λx5=>(some (!x5)).bind λx6=>(bif x6 then none else(ek ⟨bt,bu,bD,bG⟩).bind λ⟨qw,qx,Bn,Bo,YU⟩=>some (qw,qx,Bn,Bo,YU))
noncomputable def ve(x0:List Qr)(Qh:Qr):Option (List Qr):=match Qh with|⟨⟨Qi,Qj⟩,⟨Qk,Ql⟩⟩=>(qQ ⟨⟨Qi,Qj⟩,⟨Qk,Ql⟩⟩ x0).bind λx6=>some x6
noncomputable def oW(o0:Bool)(o1:Int)(o2:List (List Qr))(o3:List Int)(o4:List (List Qr))(x0:List Qr)(Qh:Int)(c_2:Int):Option (List Qr):=(cV x0 Qh).bind λ⟨⟨qw,qx⟩,⟨Bn,Bo⟩⟩=>(kT ⟨⟨qw,qx⟩,⟨Bn,Bo⟩⟩).bind λdN=>(some (decide ((dN:Int)=0))).bind λfy=>(bif fy then some x0 else(cV x0 Qh).bind λ⟨⟨kf,kg⟩,⟨yw,yx⟩⟩=>(tL ⟨⟨kf,kg⟩,⟨yw,yx⟩⟩).bind λ⟨⟨rO,rP⟩,⟨Ba,Bb⟩⟩=>(qK o4 c_2).bind λiN=>(o4[iN]?).bind λiv=>(jx ⟨⟨rO,rP⟩,⟨Ba,Bb⟩⟩ iv x0).bind λjw=>some jw)
noncomputable def fB(o0:Bool)(o1:Int)(o2:List (List Qr))(o3:List Int)(o4:List (List Qr))(x1:Int)(x2:Int):Option ((List (List Qr))×(List Int)×(List (List Qr))):=(dU 1).bind λ⟨⟨BJ,BK⟩,⟨aeH,aeI⟩⟩=>(qK o4 x1).bind λkI=>(o4[kI]?).bind λiz=>(cV iz x2).bind λ⟨⟨xq,xu⟩,⟨xw,xx⟩⟩=>(xo ⟨⟨BJ,BK⟩,⟨aeH,aeI⟩⟩ ⟨⟨xq,xu⟩,⟨xw,xx⟩⟩).bind λ⟨⟨⟨GI,GJ⟩,⟨GK,GL⟩⟩,VW⟩=>(qK o4 x1).bind λyj=>(o4[yj]?).bind λry=>(ve ry ⟨⟨GI,GJ⟩,⟨GK,GL⟩⟩).bind λA6=>(qK o4 x1).bind λsK=>(stM o4 sK A6).bind λl2=>(some (l2.length:Int)).bind λBr=>(cm (λ(vF:Int×(List (List Qr)))=>match vF with|⟨yB,kz⟩=>(show Option ((Int×(List (List Qr)))⊕((List (List Qr))))from(some (decide ((yB:Int)<Br))).bind λLw=>(bif Lw then(qK kz yB).bind λAo=>(kz[Ao]?).bind λLs=>(some (decide ((yB:Int)≠x1))).bind λSc=>cX (λ(Cc:(List (List Qr)))=>(some (IntKind.i64.wrap (yB+1))).bind λx70=>some (.inl (x70,Cc))) λK15=>(bif Sc then(oW o0 o1 o2 o3 kz Ls x2 x1).bind λSd=>(qK kz yB).bind λXL=>(stM kz XL Sd).bind λl17=>K15 l17 else K15 kz)else some (.inr kz)))) (0,l2)).bind λzZ=>some (o2,o3,zZ)
noncomputable def cg(o0:Bool)(o1:Int)(o2:List (List Qr))(o3:List Int)(o4:List (List Qr))(x1:Int)(x2:Int):Option (Int×(List (List Qr))×(List Int)×(List (List Qr))):=(di (⟨o0,o1,o2,o3,o4⟩:Tb)).bind λdN=>(bif dN then some (2,o2,o3,o4)else cX (λ(YV:Bool)=>(bif YV then some (1,o2,o3,o4)else(some (o3.length:Int)).bind λmF=>(cm (λ(NV:Int)=>(show Option ((Int)⊕((Unit)⊕(Int×(List (List Qr))×(List Int)×(List (List Qr)))))from(some (decide ((NV:Int)<mF))).bind λwA=>(bif wA then(qK o3 NV).bind λvI=>(o3[vI]?).bind λmI=>(some (decide ((mI:Int)=x2))).bind λA6=>(bif A6 then some (.inr (.inr (1,o2,o3,o4)))else(some (IntKind.i64.wrap (NV+1))).bind λsK=>some (.inl sK))else some (.inr (.inl ()))))) 0).bind λCd=>match Cd with|.inr jY=>some jY|.inl _=>(qK o4 x1).bind λyU=>(o4[yU]?).bind λBr=>(cV Br x2).bind λ⟨⟨aeJ,aeK⟩,⟨aeL,aeM⟩⟩=>(kT ⟨⟨aeJ,aeK⟩,⟨aeL,aeM⟩⟩).bind λAo=>(some (decide ((Ao:Int)=0))).bind λLs=>(bif Ls then some (7,o2,o3,o4)else(fB o0 o1 o2 o3 o4 x1 x2).bind λ⟨l20,l21,l22⟩=>(qK l21 x1).bind λWN=>(stM l21 WN x2).bind λl24=>some (0,l20,l24,l22)))) λV1=>(some (decide ((x1:Int)<0))).bind λdr=>(bif dr then some true else(some (o4.length:Int)).bind λkI=>(some (decide ((kI:Int)<=x1))).bind λiz=>some iz).bind λYW=>(bif YW then some true else(some (decide ((x2:Int)<0))).bind λiv=>some iv).bind λahy=>(bif ahy then some true else(gI (⟨o0,o1,o2,o3,o4⟩:Tb)).bind λjd=>(some (decide ((jd:Int)<=x2))).bind λvY=>some vY).bind λahz=>V1 ahz)
end
section
open Go.Fw Go.Fw.Z Go.RowKit
instance:Yy af 30:=⟨by kernel_rfl⟩
theorem dX{x0:Tb}{r:Bool}(h:di x0=some r):Pure af 57 [ref (zj x0)] (ay r):=by
 obtain⟨bt,bu,bD,bG,cD⟩:=x0;refine bp Tryz.func57 Y (ae Y) (λdA M vs hvs=>?_);unfold di at h;refine sr<|ag Y<|dn<|qq<|bU h (λj3=>AS.cz 12 [(2,ai j3)] [] []) (λh=>?_) (λalp h=>?_);refine aZ<|mv Y<|RT.YI .none Y Y T<|mv Y<|bE h λaeB sM h=>gm Y<|RT.cE (.some Y Y) Y T<|RT.bW (.some Y Y) Y T Y<|gr Y Y<|lE (F sM) λdN gL sM=>WL Y _ gL ?_;obtain rfl:=O sM;exact pF Y<|ag Y<|dn<|⟨dN,h,wR []⟩;refine aY.n<|bj ?_;cases O h;exact R1 Y
theorem oX{x0:Tb}{r:Int}(h:gI x0=some r):Pure af 58 [ref (zj x0)] (ax r):=by
 obtain⟨bt,bu,bD,bG,cD⟩:=x0;refine bp Tryz.func58 Y (ae Y) (λdA M vs hvs=>?_);unfold gI at h;refine sr<|ag Y<|dn<|qq<|bh mixed<|mv Y<|RT.cE .none Y T<|RT.bW .none Y T Y<|lr Y Y<|mv Y<|RT.cE .none Y T<|RT.bW .none Y T Y<|lr Y Y<|lE h λfy kR h=>ln Y kR<|lE h λdr fO h=>ad _ Y Y fO<|ag Y<|RT.done ⟨by kernel_rfl,?_⟩;refine aY.n<|bj ?_;cases O h;exact R1 Y
theorem Dp{x0:Tb}{x1:Int}(N:Nat){r:List Qr}(h:oV x0 x1=some r):dB af 64 N [ref (zj x0),ax x1] (nw N (aM 4 (fQ N) r)):=by
 obtain⟨bt,bu,bD,bG,cD⟩:=x0;refine bX Tryz.func64 Y (ae Y) (λdA M vs hN hvs=>?_);unfold oV at h;refine sr<|aI Y (bw (N:=N) (n:=4) (e:=(fQ N)))<|dn<|sr<|mv Y<|RT.cE .none Y T<|RT.bW .none Y T Y<|lr Y Y<|lE h λdr fO h=>ln Y fO<|bE h λeP jg h=>RT.vX (n:=4) (e:=(fQ N)) .none Y Y T Y T aK η (by exact⟨aq,bw,aq,bw,ak⟩) jg<|an (s:=.row _) Y<|dn<|qq<|sr<|mv Y<|RT.cE .none Y T<|RT.bW .none Y T Y<|lr Y Y<|lE h λfe jB h=>ln Y jB<|mv Y<|dn<|bE h λe8 Nu C3=>?_;refine bM (λ(J2:(List Qr))=>AS.cz 34 [(5,.row 13)] [] [(13,TR 43 4 (fQ N) J2)]) (λJ2=>J2=e8) ?_ (λJ2 Nv=>?_);refine bf<|bN Nu (λs8=>AS.cz 34 [(1,ah x1),(5,.row 13),(17,.sv (aM 1 (eS 4 eQ) cD)),(18,ah fe),(19,ah s8.1)] [] [(13,TR 43 4 (fQ N) s8.2)]) (wR []) (λs8 y8 G8 h Nw Nx=>?_);obtain⟨QE,QF⟩:=s8;refine sr<|lE h λiz pA h=>ls _ Y Y pA<|dn<|qq ?_;cases iz;refine aO ?_;cases O (F h);exact⟨QF,Nx _ Y,wR []⟩;refine aP<|qq<|bf<|sr<|mv Y<|bE (V h) λiE oc h=>ix Y Y oc<|lr Y Y<|ag Y<|ag Y<|dn<|aZ<|mo (s:=.row _) Y<|mv Y<|mv Y<|mv Y ?_;obtain⟨⟨⟨aeC,aeD⟩,⟨aeE,aeF⟩⟩,wB,h⟩:=bS h;refine ix Y Y wB<|RT.gV (cs:=[_,_,_,_]) .none Y T Y Y ?_;obtain⟨⟨⟨sQ,sS⟩,⟨Hw,Hx⟩⟩,Ar,h⟩:=bS h;refine RT.cf .none (jt N Ar) hN Y ⟨Y,ak⟩ T<|bE h λmP ya h=>iR Y Y Y ya<|bE h λEE zG h=>sA ⟨⟨sQ,sS⟩,⟨Hw,Hx⟩⟩ Y Y Y zG<|RT.done<|bJ.n<|aY.n<|aZ<|lE h λkN sL h=>ad _ Y Y sL<|mv Y<|RT.done ?_;cases O h;exact aY.n ⟨(kN,EE),Nw _ Y,wR []⟩;subst Nv;refine aY.n<|sr<|mo (s:=.row _) Y<|an (s:=.row _) Y<|dn<|jD (i:=13) (E1:=43) (n:=4) (e:=(fQ N)) (l:=J2) hN (λ_ h=>h) Y<|bj ?_;cases O C3;exact R1 Y
theorem Ce{x0:Tb}{x1:Int}{r:List Qr}(h:nD x0 x1=some r):Pure af 78 [ref (zj x0),ax x1] (aM 4 eQ r):=by
 obtain⟨bt,bu,bD,bG,cD⟩:=x0;refine bp Tryz.func78 Y (ae Y) (λdA M vs hvs=>?_);unfold nD at h;refine sr<|aI Y (aD (n:=4) (e:=eQ))<|dn<|qq<|bh mixed<|mv Y<|RT.cE .none Y T<|RT.bW .none Y T Y<|lr Y Y<|lE h λdr fO h=>ln Y fO<|mv Y<|RT.cE .none Y T<|RT.bW .none Y T Y<|lr Y Y<|lE h λdZ jE h=>ad _ Y Y jE<|bE h λfe jB h=>RT.vX (n:=4) (e:=eQ) .none Y Y T Y T aK η (by exact⟨aq,aD,aq,aD,ak⟩) jB<|an (s:=.row _) Y<|RT.done ⟨by kernel_rfl,?_⟩;refine aY.n<|qq<|sr<|mv Y<|mv Y<|RT.cE .none Y T<|RT.bW .none Y T Y<|lr Y Y<|lE h λiv oO h=>ls _ Y Y oO<|dn<|bU h (λSf=>AS.cz 54 [(5,.row 18)] [] [(18,TR 43 4 eQ Sf)]) (λh=>?_) (λYJ h=>?_);cases iv;exact fs<|⟨fe,(F h),wR []⟩;refine cT<|qq<|sr<|mv Y<|RT.cE .none Y T<|RT.bW .none Y T Y<|lr Y Y<|lE (V h) λjd nW h=>ln Y nW<|mv Y<|dn<|bE h λe18 ahA Cf=>?_;refine bM (λ(DW:(List Qr))=>AS.cz 54 [(0,.sv (ref [ay bt,ax bu,aM 1 (eS 4 eQ) bD,aM 1 bO bG,aM 1 (eS 4 eQ) cD])),(1,ah x1),(5,.row 18)] [] [(18,TR 43 4 eQ DW)]) (λDW=>DW=e18) ?_ (λDW ahB=>?_);refine bf ?_
 refine bN ahA (λUC=>AS.cz 54 [(0,.sv (ref [ay bt,ax bu,aM 1 (eS 4 eQ) bD,aM 1 bO bG,aM 1 (eS 4 eQ) cD])),(1,ah x1),(5,.row 18),(28,.sv (aM 1 (eS 4 eQ) bD)),(29,ah jd),(30,ah UC.1)] [] [(18,TR 43 4 eQ UC.2)]) (wR []) (λUC y18 G18 h ahC ahD=>?_);obtain⟨J3,J4⟩:=UC;refine sr<|lE h λmP ya h=>ls _ Y Y ya<|dn<|qq ?_;cases mP;refine aO ?_;cases O (F h);exact⟨J4,ahD _ Y,wR []⟩;refine aP<|qq<|bf<|sr<|mv Y<|bE (V h) λpz yc h=>ix Y Y yc<|lr Y Y<|ag Y<|ag Y<|dn<|aZ<|mo (s:=.row _) Y<|mv Y<|mv Y<|mv Y ?_;obtain⟨⟨⟨Fe,Ff⟩,⟨MI,MJ⟩⟩,DO,h⟩:=bS h;refine ix Y Y DO<|RT.gV (cs:=[_,_,_,_]) .none Y T Y Y<|bE h λyj Gl h=>iR Y Y Y Gl<|bE h λl20 YX h=>sA ⟨⟨Fe,Ff⟩,⟨MI,MJ⟩⟩ Y Y Y YX<|RT.done<|bJ.n<|aY.n<|aZ<|lE h λry BR h=>ad _ Y Y BR<|mv Y<|RT.done ?_;cases O h;exact aY.n ⟨(ry,l20),ahC _ Y,wR []⟩;subst ahB;refine aY.n<|bh mixed<|mo (s:=.row _) Y<|mv Y<|RT.cE .none Y T<|RT.bW .none Y T Y<|lr Y Y<|lE Cf λtD h48 Cf=>ln Y h48<|mv Y<|lE Cf λyU HY Cf=>ad _ Y Y HY ?_;obtain⟨⟨⟨My,Mz⟩,⟨YK,YL⟩⟩,HZ,Cf⟩:=bS Cf;refine cl (nP HZ) ⟨Y,ak⟩<|bE Cf λzm EO Cf=>iR Y Y Y EO<|bE Cf λl22 alu Cf=>sA ⟨⟨My,Mz⟩,⟨YK,YL⟩⟩ Y Y Y alu<|RT.done ⟨by kernel_rfl,?_⟩;exact aY.n<|⟨l22,Cf,wR []⟩;refine aY.n<|sr<|mo (s:=.row _) Y<|an (s:=.row _) Y<|dn<|bP (cH (i:=18) (E1:=43) (n:=4) (e:=eQ) (l:=YJ) Y)<|bj ?_;cases O h;exact R1 Y
theorem Bc{x0:Tb}{x1:List Qr}(N:Nat){r:List Qr}(h:mz x0 x1=some r):dB af 77 N [ref (zj x0),aM 4 eQ x1] (nw N (aM 4 (fQ N) r)):=by
 obtain⟨bt,bu,bD,bG,cD⟩:=x0;refine bX Tryz.func77 Y (ae Y) (λdA M vs hN hvs=>?_);unfold mz at h;refine sr<|aI Y (bw (N:=N) (n:=4) (e:=(fQ N)))<|dn<|qq<|bh mixed<|mv Y<|RT.cE .none Y T<|RT.bW .none Y T Y<|lr Y Y<|lE h λdr fO h=>ln Y fO<|mv Y<|RT.cE .none Y T<|RT.bW .none Y T Y<|lr Y Y<|lE h λdZ jE h=>ad _ Y Y jE<|bE h λfe jB h=>RT.vX (n:=4) (e:=(fQ N)) .none Y Y T Y T aK η (by exact⟨aq,bw,aq,bw,ak⟩) jB<|an (s:=.row _) Y<|RT.done ⟨by kernel_rfl,?_⟩;refine aY.n<|qq<|sr<|mv Y<|lE h λiz pA h=>ln Y pA<|mv Y<|dn<|jD (i:=18) (E1:=43) (n:=4) (e:=(fQ N)) (l:=fe) hN (λ_ h=>h) Y<|bE h λCd tX fT=>?_;refine bM (λ(zY:(List Qr))=>AS.cz 57 [(5,.sv (nw N (aM 4 (fQ N) zY)))] [] []) (λzY=>zY=Cd) ?_ (λzY rS=>?_);refine bf<|bN tX (λnR=>AS.cz 57 [(0,.sv (ref [ay bt,ax bu,aM 1 (eS 4 eQ) bD,aM 1 bO bG,aM 1 (eS 4 eQ) cD])),(5,.sv (nw N (aM 4 (fQ N) nR.1))),(19,.sv (aM 4 eQ x1)),(20,ah iz),(21,ah nR.2)] [] []) (wR []) (λnR WT WU h vO rT=>?_);obtain⟨J5,Ay⟩:=nR;refine sr<|lE h λiE oc h=>ls _ Y Y oc<|dn<|qq ?_;cases iE;refine aO ?_;cases O (F h);exact⟨J5,rT _ Y,wR []⟩;refine aP<|qq<|bf<|sr<|mv Y ?_;obtain⟨⟨⟨wh,wj⟩,⟨zN,zO⟩⟩,oO,h⟩:=bS (V h);refine ix Y Y oO<|RT.gV (cs:=[_,_,_,_]) .none Y T Y Y<|al (cs:=[ay false,nw N au,ay false,nw N au]) (by exact⟨aq,bw,aq,bw,ak⟩) Y<|ag Y<|so Y Y Y<|dn<|qq<|bU h (λj19=>AS.cz 57 [(0,.sv (ref [ay bt,ax bu,aM 1 (eS 4 eQ) bD,aM 1 bO bG,aM 1 (eS 4 eQ) cD])),(5,.sv (nw N (aM 4 (fQ N) J5))),(6,ah Ay),(7,.ptr 7 0),(19,.sv (aM 4 eQ x1)),(20,ah iz),(21,ah Ay),(42,ai j19)] [(7,⟨43,[ai wh,.sv (aM 1 bk wj),ai zN,.sv (aM 1 bk zO)]⟩)] []) (λh=>?_) (λTd h=>?_);refine bh mixed<|mv Y<|RT.cE .none Y T<|RT.bW .none Y T Y<|lr Y Y<|mv Y<|bE h λmP ya h=>ix Y Y ya<|lr Y Y<|mv Y<|RT.cE .none Y T<|RT.bW .none Y T Y<|lr Y Y<|lE h λqk BS h=>ls _ Y Y BS<|mv Y<|bE h λYN Ie h=>?_;cases qk;cases O (F Ie);refine ww<|ww<|ww<|pF Y<|RT.done ⟨by kernel_rfl,?_⟩;exact aY.n<|⟨false,h,wR []⟩
 refine gl Y Y (.k4 Y Y Y Y)<|bE (V Ie) λmI vH Ie=>gc (rQ vH) ⟨Y,ak⟩<|lE Ie λyj Gl Ie=>gq _ Y Y (Nh (p:=mI) (q:=0) Gl) ?_;obtain rfl:=O Ie;refine pT Y<|RT.done ⟨by kernel_rfl,?_⟩;exact aY.n<|⟨yj,h,wR []⟩;refine aY.n<|bU h (λj21=>AS.cz 57 [(0,.sv (ref [ay bt,ax bu,aM 1 (eS 4 eQ) bD,aM 1 bO bG,aM 1 (eS 4 eQ) cD])),(5,.sv (nw N (aM 4 (fQ N) j21))),(19,.sv (aM 4 eQ x1)),(20,ah iz),(21,ah Ay)] [] []) (λh=>?_) (λYM h=>?_);cases Td;exact fs<|⟨J5,(F h),wR []⟩;refine cT<|bh mixed<|ld Y Y (.k4 Y Y Y Y)<|mv Y<|mv Y<|RT.cE .none Y T<|RT.bW .none Y T Y<|lr Y Y<|mv Y<|bE (V h) λyU HY h=>ix Y Y HY<|lr Y Y<|bE h λzm EO h=>cl (Ce EO) ⟨Y,Y,ak⟩<|mv Y<|bE h λHW Pa h=>RT.cf .none ((zR N Pa).w (args':=[_,_,_]) ⟨aq,aq,PF,ak⟩) hN Y ⟨Y,Y,Y,ak⟩ T<|ag Y<|RT.done ⟨by kernel_rfl,?_⟩;exact aY.n<|⟨HW,h,wR []⟩;refine bJ.n<|aY.n<|aZ<|lE h λAo Ny h=>ad _ Y Y Ny<|mv Y<|RT.done ?_;cases O h;exact aY.n ⟨(YM,Ao),vO _ Y,wR []⟩;subst rS;refine aY.n<|sr<|mv Y<|ag Y<|dn<|bj ?_;cases O fT;exact R1 Y
theorem Fh{x0:Tb}(N:Nat){r:List Int}(h:jO x0=some r):dB af 17 N [ref (zj x0)] (nw N (aM 1 bO r)):=by
 obtain⟨bt,bu,bD,bG,cD⟩:=x0;refine bX Tryz.func17 Y (ae Y) (λdA M vs hN hvs=>?_);unfold jO at h;refine sr<|aI Y (bw (N:=N) (n:=1) (e:=bO))<|dn<|qq<|sr<|mv Y<|bE h λx5 h5 h=>cl (dX h5) ⟨Y,ak⟩<|dn ?_;cases x5;refine fs<|sr<|mv Y<|RT.cE .none Y T<|RT.bW .none Y T Y<|lr Y Y<|lE (F h) λdN gL h=>ln Y gL<|bE h λfy kR h=>RT.vX (n:=1) (e:=bO) .none Y Y T Y T aK η (by exact⟨aq,ak⟩) kR<|an (s:=.row _) Y<|dn<|sr<|mo (s:=.row _) Y<|mv Y<|RT.cE .none Y T<|RT.bW .none Y T Y<|lr Y Y<|RT.aeA (l:=fy) (k:=bG) (e:=bO) .none Y Y Y T Y<|dn<|sr<|mo (s:=.row _) Y<|an (s:=.row _) Y<|dn<|jD (i:=11) (E1:=3) (n:=1) (e:=bO) (l:=(Nj fy bG)) hN (λ_ h=>h) Y<|bj ?_;cases O h;exact R1 Y;refine cT<|sr<|aI Y (bw (N:=N) (n:=1) (e:=bO))<|dn<|bj<|aY.r ?_;cases O (V h);exact R1 Y
theorem NW{x0:Tb}{r:List Int}(h:jO x0=some r):Pure af 17 [ref (zj x0)] (aM 1 bO r):=dK (λN=>Fh N h) (λN=>fG)
theorem xH{x0:Tb}(N:Nat){r:List Qr}(h:ju x0=some r):dB af 19 N [ref (zj x0)] (nw N (aM 4 (fQ N) r)):=by
 obtain⟨bt,bu,bD,bG,cD⟩:=x0;refine bX Tryz.func19 Y (ae Y) (λdA M vs hN hvs=>?_);unfold ju at h;refine sr<|aI Y (bw (N:=N) (n:=4) (e:=(fQ N)))<|dn<|qq<|sr<|mv Y<|bE h λx4 h4 h=>cl (dX h4) ⟨Y,ak⟩<|dn ?_;cases x4;refine fs<|sr<|mv Y<|mv Y<|bE (F h) λx7 h7 h=>cl (oX h7) ⟨Y,ak⟩<|bE h λx8 h8 h=>RT.cf .none (Dp N h8) hN Y ⟨Y,Y,ak⟩ T<|ag Y<|dn<|bj ?_;cases O h;exact R1 Y;refine cT<|sr<|aI Y (bw (N:=N) (n:=4) (e:=(fQ N)))<|dn<|bj<|aY.r ?_;cases O (V h);exact R1 Y
theorem J9{x0:Tb}{r:List Qr}(h:ju x0=some r):Pure af 19 [ref (zj x0)] (aM 4 eQ r):=dK (λN=>xH N h) (λN=>PF)
theorem mX{x0:Tb}{x1:Int}(N:Nat){r:List Qr}(h:ee x0 x1=some r):dB af 28 N [ref (zj x0),ax x1] (nw N (aM 4 (fQ N) r)):=by
 obtain⟨bt,bu,bD,bG,cD⟩:=x0;refine bX Tryz.func28 Y (ae Y) (λdA M vs hN hvs=>?_);unfold ee at h;refine sr<|aI Y (bw (N:=N) (n:=4) (e:=(fQ N)))<|dn<|qq<|qq<|bU h (λj6=>AS.cz 26 [(0,.sv (ref [ay bt,ax bu,aM 1 (eS 4 eQ) bD,aM 1 bO bG,aM 1 (eS 4 eQ) cD])),(1,ah x1),(16,ai j6)] [] []) (λh=>?_) (λYO h=>?_);refine aZ<|mv Y<|bE h λx6 h6 h=>cl (dX h6) ⟨Y,ak⟩<|mv Y<|bE h λaeG hg7 h=>?_;cases x6;refine gm Y<|lE (F hg7) λx9 h9 hg7=>RT.lss (.some Y Y) _ Y Y T h9 ?_;obtain rfl:=O hg7;refine pF Y<|mv Y<|bE h λaus Yn h=>?_;cases x9;refine gm Y<|gm Y<|bE (F Yn) λeL jZ Yn=>gc (oX jZ) ⟨Y,ak⟩<|lE Yn λdO gQ Yn=>RT.geq (.some Y Y) _ Y Y T gQ ?_;obtain rfl:=O Yn;exact pF Y<|dn<|⟨dO,h,wR []⟩;cases O (V Yn);exact ww<|ww<|ww<|ww<|pT Y<|dn<|⟨true,h,wR []⟩;cases O (V hg7);refine ww<|ww<|pT Y<|mv Y<|bE h λaut hg9 h=>?_;cases O (V hg9);exact ww<|ww<|ww<|ww<|pT Y<|dn<|⟨true,h,wR []⟩;refine aY.n ?_;cases YO;refine fs<|sr<|mv Y<|mv Y<|mv Y<|bE (F h) λiz pA h=>RT.cf .none (Dp N pA) hN Y ⟨Y,Y,ak⟩ T<|bE h λfR j0 h=>RT.cf .none ((Bc N j0).w (args':=[_,_]) ⟨aq,PF,ak⟩) hN Y ⟨Y,Y,ak⟩ T<|mv Y<|mv Y<|bE h λiv oO h=>cl (Ce oO) ⟨Y,Y,ak⟩<|bE h λkD oe h=>RT.cf .none ((S0 N oe).w (args':=[_,_]) ⟨PF,aq,ak⟩) hN Y ⟨Y,Y,ak⟩ T<|ag Y<|dn<|bj ?_;cases O h;exact R1 Y;refine cT<|sr<|aI Y (bw (N:=N) (n:=4) (e:=(fQ N)))<|dn<|bj<|aY.r ?_;cases O (V h);exact R1 Y
theorem DY{x0:Tb}{x1:Int}{r:List Qr}(h:ee x0 x1=some r):Pure af 28 [ref (zj x0),ax x1] (aM 4 eQ r):=dK (λN=>mX N h) (λN=>PF)
theorem Fi{x0:Tb}(N:Nat){r:List Qr}(h:kW x0=some r):dB af 38 N [ref (zj x0)] (nw N (aM 4 (fQ N) r)):=by
 obtain⟨bt,bu,bD,bG,cD⟩:=x0;refine bX Tryz.func38 Y (ae Y) (λdA M vs hN hvs=>?_);unfold kW at h;refine sr<|aI Y (bw (N:=N) (n:=4) (e:=(fQ N)))<|dn<|qq<|sr<|mv Y<|bE h λx4 h4 h=>cl (dX h4) ⟨Y,ak⟩<|dn ?_;cases x4;refine fs<|sr<|mv Y<|mv Y<|bE (F h) λx7 h7 h=>RT.cf .none (xH N h7) hN Y ⟨Y,ak⟩ T<|bE h λx8 h8 h=>RT.cf .none ((Bc N h8).w (args':=[_,_]) ⟨aq,PF,ak⟩) hN Y ⟨Y,Y,ak⟩ T<|ag Y<|dn<|bj ?_;cases O h;exact R1 Y;refine cT<|sr<|aI Y (bw (N:=N) (n:=4) (e:=(fQ N)))<|dn<|bj<|aY.r ?_;cases O (V h);exact R1 Y
theorem NX{x0:Tb}{r:List Qr}(h:kW x0=some r):Pure af 38 [ref (zj x0)] (aM 4 eQ r):=dK (λN=>Fi N h) (λN=>PF)
theorem vP{x0:Tb}(N:Nat){r:List Qr}(h:gY x0=some r):dB af 21 N [ref (zj x0)] (nw N (aM 4 (fQ N) r)):=by
 obtain⟨bt,bu,bD,bG,cD⟩:=x0;refine bX Tryz.func21 Y (ae Y) (λdA M vs hN hvs=>?_);unfold gY at h;refine sr<|aI Y (bw (N:=N) (n:=4) (e:=(fQ N)))<|dn<|qq<|sr<|mv Y<|bE h λx7 h7 h=>cl (dX h7) ⟨Y,ak⟩<|dn ?_;cases x7;refine fs<|sr<|mv Y<|RT.cE .none Y T<|RT.bW .none Y T Y<|lr Y Y<|bE (F h) λdr fO h=>RT.vX (n:=4) (e:=(fQ N)) .none Y Y T Y T aK η (by exact⟨aq,bw,aq,bw,ak⟩) fO<|an (s:=.row _) Y<|dn<|qq<|sr<|mv Y<|bE h λeL jZ h=>RT.cf .none (xH N jZ) hN Y ⟨Y,ak⟩ T<|lE h λdO gQ h=>RT.Jt .none Y T gQ<|mv Y<|dn<|bE h λEM xd oT=>?_;refine bM (λ(J8:(List Qr))=>AS.cz 45 [(3,.row 12)] [] [(12,TR 43 4 (fQ N) J8)]) (λJ8=>J8=EM) ?_ (λJ8 xe=>?_);refine bf<|bN xd (λrI=>AS.cz 45 [(0,.sv (ref [ay bt,ax bu,aM 1 (eS 4 eQ) bD,aM 1 bO bG,aM 1 (eS 4 eQ) cD])),(3,.row 12),(14,.sv (nw N (aM 4 (fQ N) eL))),(15,ah dO),(16,ah rI.1)] [] [(12,TR 43 4 (fQ N) rI.2)]) (wR []) (λrI XZ X0 h xg tJ=>?_);obtain⟨J6,J7⟩:=rI;refine sr<|lE h λdZ jE h=>ls _ Y Y jE<|dn<|qq ?_;cases dZ;refine aO ?_;cases O (F h);exact⟨J7,tJ _ Y,wR []⟩;refine aP<|qq<|bf<|sr<|mv Y ?_;obtain⟨⟨⟨kF,kG⟩,⟨sX,sY⟩⟩,nq,h⟩:=bS (V h);refine RT.akC .none Y Y T nq<|RT.gV (cs:=[_,_,_,_]) .none Y T Y Y<|al (cs:=[ay false,nw N au,ay false,nw N au]) (by exact⟨aq,bw,aq,bw,ak⟩) Y<|ag Y<|so Y Y Y<|dn<|qq<|bh mixed<|mv Y<|RT.cE .none Y T<|RT.bW .none Y T Y<|lr Y Y<|mv Y<|bE h λjw pK h=>ix Y Y pK<|lr Y Y<|mv Y<|RT.cE .none Y T<|RT.bW .none Y T Y<|lr Y Y<|lE h λkN sL h=>ls _ Y Y sL<|RT.done ⟨by kernel_rfl,?_⟩;refine aY.n<|bU h (λGk=>AS.cz 45 [(0,.sv (ref [ay bt,ax bu,aM 1 (eS 4 eQ) bD,aM 1 bO bG,aM 1 (eS 4 eQ) cD])),(3,.row 12),(14,.sv (nw N (aM 4 (fQ N) eL))),(15,ah dO),(16,ah J6)] [] [(12,TR 43 4 (fQ N) Gk)]) (λh=>?_) (λTe h=>?_);cases kN;exact fs<|⟨J7,(F h),wR []⟩;refine cT<|bh mixed<|mo (s:=.row _) Y<|mv Y<|RT.cE .none Y T<|RT.bW .none Y T Y<|lr Y Y<|mv Y<|bE (V h) λvI DO h=>ix Y Y DO<|lr Y Y<|ld Y Y (.k4 Y Y Y Y)<|bE h λry BR h=>iR Y Y Y BR<|bE h λUD YY h=>sA ⟨⟨kF,kG⟩,⟨sX,sY⟩⟩ Y Y Y YY<|RT.done ⟨by kernel_rfl,?_⟩
 exact aY.n<|⟨UD,h,wR []⟩;refine bJ.n<|aY.n<|aZ<|lE h λA6 Lu h=>ad _ Y Y Lu<|mv Y<|RT.done ?_;cases O h;exact aY.n ⟨(A6,Te),xg _ Y,wR []⟩;subst xe;refine aY.n<|sr<|mo (s:=.row _) Y<|an (s:=.row _) Y<|dn<|jD (i:=12) (E1:=43) (n:=4) (e:=(fQ N)) (l:=J8) hN (λ_ h=>h) Y<|bj ?_;cases O oT;exact R1 Y;refine cT<|sr<|aI Y (bw (N:=N) (n:=4) (e:=(fQ N)))<|dn<|bj<|aY.r ?_;cases O (V h);exact R1 Y
theorem Ig{x0:Tb}{r:List Qr}(h:gY x0=some r):Pure af 21 [ref (zj x0)] (aM 4 eQ r):=dK (λN=>vP N h) (λN=>PF)
theorem QL{x0:Tb}(N:Nat){r:List (List Qr)}(h:qB x0=some r):dB af 18 N [ref (zj x0)] (nw N (aM 1 (fS N 4 (fQ N)) r)):=by
 obtain⟨bt,bu,bD,bG,cD⟩:=x0;refine bX Tryz.func18 Y (ae Y) (λdA M vs hN hvs=>?_);unfold qB at h;refine sr<|aI Y (bw (N:=N) (n:=1) (e:=(fS N 4 (fQ N))))<|dn<|qq<|sr<|mv Y<|bE h λx7 h7 h=>cl (dX h7) ⟨Y,ak⟩<|dn ?_;cases x7;refine fs<|sr<|ag Y<|dn<|bP (cS 3 304 23 1 Y Y T)<|qq<|sr<|mv Y<|RT.cE .none Y T<|RT.bW .none Y T Y<|lr Y Y<|lE (F h) λdr fO h=>ln Y fO<|mv Y<|dn<|bE h λe6 rJ iI=>?_;refine bM (λ(c7:(List (List Qr)))=>AS.cz 26 [(3,.row 306)] [] [(306,TR 23 1 (fS N 4 (fQ N)) c7)]) (λc7=>c7=e6) ?_ (λc7 rK=>?_);refine bf<|bN rJ (λs6=>AS.cz 26 [(0,.sv (ref [ay bt,ax bu,aM 1 (eS 4 eQ) bD,aM 1 bO bG,aM 1 (eS 4 eQ) cD])),(3,.row 306),(11,.sv (aM 1 (eS 4 eQ) cD)),(12,ah dr),(13,ah s6.1)] [] [(306,TR 23 1 (fS N 4 (fQ N)) s6.2)]) (aN 306 304 Y Y Y Y Y Y ⟨.sv aq,.row Y,.sv aq,.sv aq,.sv aq,ak⟩ trivial ⟨⟨_,Y,cc.refl _⟩,ak⟩) (λs6 y6 G6 h rL nV=>?_);obtain⟨Fg,fJ⟩:=s6;refine sr<|lE h λeL jZ h=>ls _ Y Y jZ<|dn<|qq ?_;cases eL;refine aO ?_;cases O (F h);exact⟨fJ,nV _ Y,wR []⟩;refine aP<|qq<|bf<|sr<|bE (V h) λdO gQ h=>ix Y Y gQ<|lr Y Y<|ag Y<|dn<|aZ<|mo (s:=.row _) Y<|mv Y<|mv Y<|bE h λiz pA h=>cl (oX pA) ⟨Y,ak⟩<|bE h λfR j0 h=>RT.cf .none (ux N j0) hN Y ⟨Y,Y,ak⟩ T<|bl (l:=[fR]) (e:=(fS N 4 (fQ N))) (.one Y (.nil)) Y Y Y Y Y Y<|bE h λiN pJ h=>aR (k:=[fR]) (e:=(fS N 4 (fQ N))) Y Y Y pJ<|an (s:=.row _) Y<|RT.done<|bJ.n<|aY.n<|aZ<|lE h λiv oO h=>ad _ Y Y oO<|mv Y<|RT.done ?_;cases O h;exact aY.n ⟨(iv,iN),rL _ Y,aN 306 23 Y Y Y Y Y Y ⟨.sv aq,.row Y,.sv aq,.sv aq,.sv aq,ak⟩ trivial ⟨⟨_,Y,cc.refl _⟩,ak⟩⟩;subst rK;refine aY.n<|sr<|mo (s:=.row _) Y<|an (s:=.row _) Y<|dn<|jD (i:=306) (E1:=23) (n:=1) (e:=(fS N 4 (fQ N))) (l:=c7) hN (λ_ h=>h) Y<|bj ?_;cases O iI;exact R1 Y;refine cT<|sr<|aI Y (bw (N:=N) (n:=1) (e:=(fS N 4 (fQ N))))<|dn<|bj<|aY.r ?_;cases O (V h);exact R1 Y
theorem QM{x0:Tb}{r:List (List Qr)}(h:qB x0=some r):Pure af 18 [ref (zj x0)] (aM 1 (eS 4 eQ) r):=dK (λN=>QL N h) (λN=>akE)
theorem Bd{x0:Tb}{r:Bool}(h:kj x0=some r):Pure af 35 [ref (zj x0)] (ay r):=by
 obtain⟨bt,bu,bD,bG,cD⟩:=x0;refine bp Tryz.func35 Y (ae Y) (λdA M vs hvs=>?_);unfold kj at h;refine sr<|ag Y<|dn<|qq<|sr<|mv Y<|bE h λx6 h6 h=>cl (dX h6) ⟨Y,ak⟩<|dn ?_;cases x6;refine fs<|qq<|sr<|mv Y<|bE (F h) λx8 h8 h=>cl (J9 h8) ⟨Y,ak⟩<|lE h λx9 h9 h=>ln Y h9<|mv Y<|dn<|bE h λe6 rJ iI=>?_;refine bM (λ(vG:Unit)=>AS.cz 18 [] [] []) (λvG=>.inl vG=e6) ?_ (λvG rK=>?_);refine bf<|bN rJ (λs6=>AS.cz 18 [(8,.sv (aM 4 eQ x8)),(9,ah x9),(10,ah s6)] [] []) (wR []) (λUE y6 G6 h rL nV=>?_);refine sr<|lE h λfy kR h=>ls _ Y Y kR<|dn<|qq ?_;cases fy;refine aO ?_;cases O (F h);exact⟨(),nV _ Y,wR []⟩;refine aP<|qq<|bf<|sr ?_;obtain⟨⟨⟨jC,jr⟩,⟨UF,UG⟩⟩,fO,h⟩:=bS (V h);refine ix Y Y fO<|RT.gV (cs:=[_,_,_,_]) .none Y T Y Y<|al (cs:=[ay false,au,ay false,au]) (by exact⟨aq,aD,aq,aD,ak⟩) Y<|so Y Y Y<|dn<|sr<|ld Y Y (.k4 Y Y Y Y)<|bE h λdO gQ h=>cl (rQ gQ) ⟨Y,ak⟩<|lE h λfD kS h=>ls _ Y Y kS<|dn ?_;cases fD;refine cF<|bC<|bJ.n<|aY.n<|aZ<|lE (F h) λdZ jE h=>ad _ Y Y jE<|mv Y<|RT.done ?_;cases O h;exact aY.n ⟨dZ,rL _ Y,wR []⟩;refine cT<|sr<|ag Y<|dn<|bj<|bJ.r<|aY.r ?_;cases O (V h);have HX:=nV _ Y;subst HX;refine aY.r<|bJ.r<|aY.r<|aY.r ?_;cases O iI;exact R1 Y;subst rK;refine aY.n<|sr<|ag Y<|dn<|bj ?_;cases O iI;exact R1 Y;refine cT<|sr<|ag Y<|dn<|bj<|aY.r ?_;cases O (V h);exact R1 Y
theorem xI(t:Tb):Pure af 65 [ref (zj t)] (oQ 114 [ref [ref (zj t)]]):=by
 refine bp Tryz.func65 Y (ae Y) (λdA M vs hvs=>?_);exact sr<|RT.En .none (s:=.sv _) Y T Y Y<|ag Y<|dn<|sr<|RT.makeFunc .none (.box Y (.nil)) T<|an (s:=.lD _ _) Y<|dn<|bP (kL (i:=1) Y [ref (zj t)] (.cons Y .nil) .any 0 [(2,.lD 114 [.val (ref [ref (zj t)])])] (λ_ _ _=>trivial) (yO.h (l:=[ref (zj t)])) ⟨@FT.lD _ _ _ _ _ 2 114 [.box 1] Y,ak⟩)<|bP (SA 2 (oQ 114 [ref [ref (zj t)]]) (λ_ _ h=>SB h))<|bj<|⟨.inr Y,Sr (.tmp Y (.nil)) Y⟩
theorem acm(n:Int):IntKind.i64.wrap n<=9223372036854775807:=by
 show(if(true&&decide (n%18446744073709551616≥9223372036854775808))=true then n%18446744073709551616-18446744073709551616 else n%18446744073709551616)<=9223372036854775807;by_cases h:n%18446744073709551616≥9223372036854775808
 ·simp only[h,decide_true,Bool.and_self,if_true];omega
 simp only[h,decide_false,Bool.and_false,Bool.false_eq_true,if_false];omega
theorem width_eq(t:Tb):gI t=some (IntKind.i64.wrap (t.vars+(t.rows.length:Int))):=by
 cases t;rfl
theorem xJ(t:Tb):Iter af 114 [ref [ref (zj t)]] (IntKind.i64.wrap (t.vars+(t.rows.length:Int))).toNat (λk=>[ax (k:Int)]):=by
 refine DB Tryz.func114 Y Y (ae Y) (λdA M O l J hJ Lq hr=>?_);have hw:=acm (t.vars+(t.rows.length:Int));have hwd:=width_eq t;generalize (IntKind.i64.wrap (t.vars+(t.rows.length:Int)))=W at hw hwd hr⊢;refine b9<|aZ<|RT.eT .none Y Y (tl Y)<|RT.call .none (oX hwd) Y ⟨Y,ak⟩ (tl Y)<|RT.mv .none Y (tl Y)<|RT.done<|aY.n<|bf ?_
 refine CE (I:=λx:{i:Nat//i<=W.toNat}=>AS.cz 14 [(0,.sv (.v (.func (.yield l) #[] #[]))),(1,.sv (ref [ref (zj t)])),(5,ah W),(6,ah ((x.1:Nat):Int))] [] [] (x.1)) (μ:=λx=>W.toNat-x.1) ⟨0,by omega⟩ (by(try dsimp only);exact cj id Y Y Y Y Y ⟨.sv aq,.sv aq,.sv aq,.sv aq,ak⟩ trivial trivial (λ_ _=>Y)) ?_;rintro⟨i,hi0⟩
 try dsimp only
 rcases Nat.lt_or_eq_of_le hi0 with hi|hi
 ·
  refine b9<|aZ<|RT.lss .none (true) Y Y (tl Y) aH<|RT.done<|aY.n<|b9<|dR Y<|bC<|aY.n<|b9<|bf<|b9<|aZ<|RT.mv .none Y (tl Y)<|RT.BA .none Y (tl Y)<|RT.done<|aY.n<|b9<|aZ<|RT.mv .none Y (tl Y)<|RT.mv .none Y (tl Y)<|RT.yield .none hr Y (λ_ h=>h) Y (i) Y Y ξ (by exact⟨Y,ak⟩) (tl Y) (λyb=>?_);cases yb
  ·
   refine RT.not .none Y (tl Y) true Y<|RT.done<|aY.n<|dR Y<|bj<|bJ.r<|aY.r<|aY.r<|bJ.r ?_;exact⟨.inr rfl,(λh=>by cases h)⟩
  refine RT.not .none Y (tl Y) false Y<|RT.done<|aY.n<|fN Y<|bC<|bJ.n<|aY.n<|aZ<|RT.add .none (((i:Nat):Int)+1) Y Y (tl Y) (rH ξ)<|RT.mv .none Y (tl Y)<|RT.done<|aY.n<|⟨⟨i+1,by omega⟩,aF,?_⟩;exact cj id Y Y Y Y Y ⟨.sv aq,.sv aq,.sv aq,.sv aq,ak⟩ trivial trivial (λ_ _=>Y)
 subst hi;refine b9<|aZ<|RT.lss .none (false) Y Y (tl Y) aH<|RT.done<|aY.n<|b9<|fN Y<|bR<|aY.x<|aY.x<|bJ.x ?_;exact⟨.inl Y,(λ_=>Y)⟩
theorem Cg{x0:Tb}{r:Bool}(h:jP x0=some r):Pure af 42 [ref (zj x0)] (ay r):=by
 obtain⟨bt,bu,bD,bG,cD⟩:=x0;refine bp Tryz.func42 Y (ae Y) (λdA M vs hvs=>?_);unfold jP at h;refine sr<|RT.En .none (s:=.sv _) Y T Y Y<|al (cs:=[ay false]) (by exact⟨aq,ak⟩) Y<|dn<|qq<|sr<|lV Y Y Y<|bE h λx5 h5 h=>cl (dX h5) ⟨Y,ak⟩<|dn ?_;cases x5;refine fs<|qq<|sr<|lV Y Y Y<|cl (xI ⟨bt,bu,bD,bG,cD⟩) ⟨Y,ak⟩<|dn<|bf<|bE (F h) λe3 hl3 ho3=>?_;obtain⟨m3,st3,hs3,ht3,hn3⟩:=Mt hl3;refine yS (xJ ⟨bt,bu,bD,bG,cD⟩) (λ_ _ _ _ _=>trivial) Y (λk=>AS.cz 14 [(1,.ptr 1 0),(2,.ptr 2 0),(7,.sv (oQ 114 [ref [ref [ay bt,ax bu,aM 1 (eS 4 eQ) bD,aM 1 bO bG,aM 1 (eS 4 eQ) cD]]]))] [(2,⟨4,[ai false]⟩),(1,⟨30,[.sv (ref [ay bt,ax bu,aM 1 (eS 4 eQ) bD,aM 1 bO bG,aM 1 (eS 4 eQ) cD])]⟩)] []) [2,1] Y (λ_=>⟨Y,Y⟩) (BC Y) (λ_=>Y) (BD Y) (by(try dsimp only);(try dsimp only);exact cj id Y Y Y Y Y ⟨.ptr,.ptr,.sv aq,ak⟩ ⟨⟨_,Y,⟨.sv aq,ak⟩⟩,⟨_,Y,⟨.sv aq,ak⟩⟩,ak⟩ trivial (λ_ _=>Y)) m3 (λk hk hkm D hD=>?_) (λhdn=>?_);obtain⟨y3,h,hG3,hE3⟩:=ht3 k hk hkm;dsimp only[AS.inR,BB]
 try dsimp only at h
 refine lE h λp8 hp8 h=>?_;rw[hp8];refine aZ<|ag Y<|RT.done<|aY.n ⟨Y,?_⟩;dsimp only[AS.LF];refine bf<|sr<|lV Y Y Y<|mv Y<|bE h λfy kR h=>cl (DY kR) ⟨Y,Y,ak⟩<|bE h λdr fO h=>cl (Qt fO) ⟨Y,ak⟩<|lE h λeP jg h=>ls _ Y Y jg<|dn ?_;cases eP;refine cF<|bC<|bJ.n ?_;cases O (F h);obtain⟨hm3,hq3⟩:=hG3 _ Y;exact⟨hm3,Y,Y,wR []⟩;refine cT<|sr<|RT.yP (cells:=[_]) .none (s:=.sv _) Y Y Y T Y<|dn<|bj<|bJ.r ?_;cases O (V h);have he3:=hE3 _ Y;subst he3;refine⟨Y,Y,?_⟩;refine bJ.r<|aY.r ?_;cases O ho3;exact RZ (.one Y Y Y (.nil));have hd3:=hn3 hdn;subst hd3;obtain⟨ee3,ahl⟩:∃q,st3 ((IntKind.i64.wrap (Tb.vars ⟨bt,bu,bD,bG,cD⟩+((Tb.rows ⟨bt,bu,bD,bG,cD⟩).length:Int))).toNat)=q:=⟨_,Y⟩;rw[ahl]at ho3;refine bJ.n<|aY.n<|sr<|RT.yP (cells:=[_]) .none (s:=.sv _) Y Y Y T Y<|dn<|bj ?_;cases O ho3;exact RZ (.one Y Y Y (.nil));refine cT<|sr<|RT.yP (cells:=[_]) .none (s:=.sv _) Y Y Y T Y<|dn<|bj<|aY.r ?_;cases O (V h);exact RZ (.one Y Y Y (.nil))
theorem C8{x0:Tb}(N:Nat){r:List (List Qr)}(h:gB x0=some r):dB af 20 N [ref (zj x0)] (nw N (aM 1 (fS N 4 (fQ N)) r)):=by
 obtain⟨bt,bu,bD,bG,cD⟩:=x0;refine bX Tryz.func20 Y (ae Y) (λdA M vs hN hvs=>?_);unfold gB at h;refine sr<|RT.En .none (s:=.sv _) Y T Y Y<|aI Y (bw (N:=N) (n:=1) (e:=(fS N 4 (fQ N))))<|dn<|qq<|sr<|lV Y Y Y<|bE h λx6 h6 h=>cl (dX h6) ⟨Y,ak⟩<|dn ?_;cases x6;refine fs<|sr<|RT.alloc .none T Y Y<|dn<|bP (iD 3 0 302 23 1 Y Y Y T)<|qq<|sr<|lV Y Y Y<|cl (xI ⟨bt,bu,bD,bG,cD⟩) ⟨Y,ak⟩<|dn<|bf<|bE (F h) λxG hl5 ho5=>?_;obtain⟨Yt,hs5,ht5,hn5⟩:=tw hl5;refine oR (xJ ⟨bt,bu,bD,bG,cD⟩) (λ_ _ _ _ _=>trivial) Y (λk=>AS.cz 17 [(1,.ptr 1 0),(3,.ptr 3 0),(8,.sv (oQ 114 [ref [ref [ay bt,ax bu,aM 1 (eS 4 eQ) bD,aM 1 bO bG,aM 1 (eS 4 eQ) cD]]]))] [(3,⟨22,[.row 304]⟩),(1,⟨30,[.sv (ref [ay bt,ax bu,aM 1 (eS 4 eQ) bD,aM 1 bO bG,aM 1 (eS 4 eQ) cD])]⟩)] [(304,TR 23 1 (fS N 4 (fQ N)) (Yt k))]) [3,1] Y (λ_=>⟨Y,Y⟩) (BC Y) (λ_=>Y) (BD Y) (by(try dsimp only);rw[hs5];(try dsimp only);exact aN 304 302 Y Y Y Y Y Y ⟨.ptr,.ptr,.sv aq,ak⟩ ⟨⟨_,Y,⟨.row Y,ak⟩⟩,⟨_,Y,⟨.sv aq,ak⟩⟩,ak⟩ ⟨⟨_,Y,cc.refl _⟩,ak⟩) (λk hk D hD=>?_) ?_;have h:=ht5 k hk;obtain⟨xG,X1⟩:∃q,Yt k=q:=⟨_,Y⟩
 rw[X1]at h⊢;dsimp only[AS.inR,BB]
 try dsimp only at h
 refine lE h λp9 hp9 h=>?_;rw[hp9];refine aZ<|ag Y<|RT.done<|aY.n ⟨Y,?_⟩;dsimp only[AS.LF];refine bf<|bh mixed<|RT.iy .none (s:=.row _) Y Y Y T<|lV Y Y Y<|mv Y<|bE h λeP jg h=>RT.cf .none (mX N jg) (Nat.le_trans hN hD) Y ⟨Y,Y,ak⟩ T<|bl (l:=[eP]) (e:=(fS N 4 (fQ N))) (.one Y (.nil)) Y Y Y Y Y Y<|bE h λdO gQ h=>aR (k:=[eP]) (e:=(fS N 4 (fQ N))) Y Y Y gQ<|RT.kH (cells:=[_]) .none Y Y Y Y T Y<|RT.done ⟨by kernel_rfl,?_⟩;refine bJ.n ?_;replace h:=Option.some.inj h;refine⟨ak,Y,Y,?_⟩;rw[<-h];exact aN 304 15 Y Y Y Y Y Y ⟨.ptr,.ptr,.sv aq,ak⟩ ⟨⟨_,Y,⟨.row Y,ak⟩⟩,⟨_,Y,⟨.sv aq,ak⟩⟩,ak⟩ ⟨⟨_,Y,cc.refl _⟩,ak⟩;rw[hn5];refine bJ.n<|aY.n<|sr<|RT.iy .none (s:=.row _) Y Y Y T<|an (s:=.row _) Y<|dn<|jD (i:=304) (E1:=23) (n:=1) (e:=(fS N 4 (fQ N))) (l:=xG) hN (λ_ h=>h) Y<|bj ?_;cases O ho5;exact R1 Y;refine cT<|sr<|aI Y (bw (N:=N) (n:=1) (e:=(fS N 4 (fQ N))))<|dn<|bj<|aY.r ?_;cases O (V h);exact R1 Y
theorem C9{x0:Tb}{r:List (List Qr)}(h:gB x0=some r):Pure af 20 [ref (zj x0)] (aM 1 (eS 4 eQ) r):=dK (λN=>C8 N h) (λN=>akE)
theorem Ka{o0:Bool}{o1:Int}{o2:List (List Qr)}{o3:List Int}{o4:List (List Qr)}{r:Bool}(h:di (⟨o0,o1,o2,o3,o4⟩:Tb)=some r):JY af 57 [.ptr 1000 0] 79 [.s (ay o0),.s (ax o1),.r (TR 23 1 (eS 4 eQ) o2),.r (TR 3 1 bO o3),.r (TR 23 1 (eS 4 eQ) o4)] (ay r):=iW (cells:=zj (⟨o0,o1,o2,o3,o4⟩:Tb)) (r:=λN=>(ay r)) (λN=>by exact uy (dX h) N) Y ⟨⟨aq,λ_ _ q=>One.h _ _ q⟩,⟨aq,λ_ _ q=>One.h _ _ q⟩,fI,fI,fI,ak⟩ UB
theorem NY{o0:Bool}{o1:Int}{o2:List (List Qr)}{o3:List Int}{o4:List (List Qr)}{r:Int}(h:gI (⟨o0,o1,o2,o3,o4⟩:Tb)=some r):JY af 58 [.ptr 1000 0] 79 [.s (ay o0),.s (ax o1),.r (TR 23 1 (eS 4 eQ) o2),.r (TR 3 1 bO o3),.r (TR 23 1 (eS 4 eQ) o4)] (ax r):=iW (cells:=zj (⟨o0,o1,o2,o3,o4⟩:Tb)) (r:=λN=>(ax r)) (λN=>by exact uy (oX h) N) Y ⟨⟨aq,λ_ _ q=>One.h _ _ q⟩,⟨aq,λ_ _ q=>One.h _ _ q⟩,fI,fI,fI,ak⟩ UB
theorem NZ{o0:Bool}{o1:Int}{o2:List (List Qr)}{o3:List Int}{o4:List (List Qr)}{r:List Int}(h:jO (⟨o0,o1,o2,o3,o4⟩:Tb)=some r):JY af 17 [.ptr 1000 0] 79 [.s (ay o0),.s (ax o1),.r (TR 23 1 (eS 4 eQ) o2),.r (TR 3 1 bO o3),.r (TR 23 1 (eS 4 eQ) o4)] (aM 1 bO r):=iW (cells:=zj (⟨o0,o1,o2,o3,o4⟩:Tb)) (r:=λN=>nw N (aM 1 bO r)) (λN=>by exact Fh N h) Y ⟨⟨aq,λ_ _ q=>One.h _ _ q⟩,⟨aq,λ_ _ q=>One.h _ _ q⟩,fI,fI,fI,ak⟩ ahu
theorem DZ{o0:Bool}{o1:Int}{o2:List (List Qr)}{o3:List Int}{o4:List (List Qr)}{r:List Qr}(h:ju (⟨o0,o1,o2,o3,o4⟩:Tb)=some r):JY af 19 [.ptr 1000 0] 79 [.s (ay o0),.s (ax o1),.r (TR 23 1 (eS 4 eQ) o2),.r (TR 3 1 bO o3),.r (TR 23 1 (eS 4 eQ) o4)] (aM 4 eQ r):=iW (cells:=zj (⟨o0,o1,o2,o3,o4⟩:Tb)) (r:=λN=>nw N (aM 4 (fQ N) r)) (λN=>by exact xH N h) Y ⟨⟨aq,λ_ _ q=>One.h _ _ q⟩,⟨aq,λ_ _ q=>One.h _ _ q⟩,fI,fI,fI,ak⟩ IG
theorem D0{o0:Bool}{o1:Int}{o2:List (List Qr)}{o3:List Int}{o4:List (List Qr)}{x1:Int}{r:List Qr}(h:ee (⟨o0,o1,o2,o3,o4⟩:Tb) x1=some r):JY af 28 [.ptr 1000 0,ah x1] 79 [.s (ay o0),.s (ax o1),.r (TR 23 1 (eS 4 eQ) o2),.r (TR 3 1 bO o3),.r (TR 23 1 (eS 4 eQ) o4)] (aM 4 eQ r):=iW (cells:=zj (⟨o0,o1,o2,o3,o4⟩:Tb)) (r:=λN=>nw N (aM 4 (fQ N) r)) (λN=>by exact mX N h) Y ⟨⟨aq,λ_ _ q=>One.h _ _ q⟩,⟨aq,λ_ _ q=>One.h _ _ q⟩,fI,fI,fI,ak⟩ IG
theorem Fj{o0:Bool}{o1:Int}{o2:List (List Qr)}{o3:List Int}{o4:List (List Qr)}{r:List Qr}(h:kW (⟨o0,o1,o2,o3,o4⟩:Tb)=some r):JY af 38 [.ptr 1000 0] 79 [.s (ay o0),.s (ax o1),.r (TR 23 1 (eS 4 eQ) o2),.r (TR 3 1 bO o3),.r (TR 23 1 (eS 4 eQ) o4)] (aM 4 eQ r):=iW (cells:=zj (⟨o0,o1,o2,o3,o4⟩:Tb)) (r:=λN=>nw N (aM 4 (fQ N) r)) (λN=>by exact Fi N h) Y ⟨⟨aq,λ_ _ q=>One.h _ _ q⟩,⟨aq,λ_ _ q=>One.h _ _ q⟩,fI,fI,fI,ak⟩ IG
theorem Ih{o0:Bool}{o1:Int}{o2:List (List Qr)}{o3:List Int}{o4:List (List Qr)}{r:List Qr}(h:gY (⟨o0,o1,o2,o3,o4⟩:Tb)=some r):JY af 21 [.ptr 1000 0] 79 [.s (ay o0),.s (ax o1),.r (TR 23 1 (eS 4 eQ) o2),.r (TR 3 1 bO o3),.r (TR 23 1 (eS 4 eQ) o4)] (aM 4 eQ r):=iW (cells:=zj (⟨o0,o1,o2,o3,o4⟩:Tb)) (r:=λN=>nw N (aM 4 (fQ N) r)) (λN=>by exact vP N h) Y ⟨⟨aq,λ_ _ q=>One.h _ _ q⟩,⟨aq,λ_ _ q=>One.h _ _ q⟩,fI,fI,fI,ak⟩ IG
theorem Ii{o0:Bool}{o1:Int}{o2:List (List Qr)}{o3:List Int}{o4:List (List Qr)}{r:Bool}(h:kj (⟨o0,o1,o2,o3,o4⟩:Tb)=some r):JY af 35 [.ptr 1000 0] 79 [.s (ay o0),.s (ax o1),.r (TR 23 1 (eS 4 eQ) o2),.r (TR 3 1 bO o3),.r (TR 23 1 (eS 4 eQ) o4)] (ay r):=iW (cells:=zj (⟨o0,o1,o2,o3,o4⟩:Tb)) (r:=λN=>(ay r)) (λN=>by exact uy (Bd h) N) Y ⟨⟨aq,λ_ _ q=>One.h _ _ q⟩,⟨aq,λ_ _ q=>One.h _ _ q⟩,fI,fI,fI,ak⟩ UB
theorem Ch{o0:Bool}{o1:Int}{o2:List (List Qr)}{o3:List Int}{o4:List (List Qr)}{r:Bool}(h:jP (⟨o0,o1,o2,o3,o4⟩:Tb)=some r):JY af 42 [.ptr 1000 0] 79 [.s (ay o0),.s (ax o1),.r (TR 23 1 (eS 4 eQ) o2),.r (TR 3 1 bO o3),.r (TR 23 1 (eS 4 eQ) o4)] (ay r):=iW (cells:=zj (⟨o0,o1,o2,o3,o4⟩:Tb)) (r:=λN=>(ay r)) (λN=>by exact uy (Cg h) N) Y ⟨⟨aq,λ_ _ q=>One.h _ _ q⟩,⟨aq,λ_ _ q=>One.h _ _ q⟩,fI,fI,fI,ak⟩ UB
end
section
open Go.Fw Go.Fw.Z Go.RowKit
set_option maxHeartbeats 4000000 in
theorem sZ{x0:Lr}{r:Bool×Int×(List (List Qr))×(List Int)×(List (List Qr))}(h:ek x0=some r):S6 af 56 [.agg (Lo x0)] false [] 79 [.s (ay r.1),.s (ax r.2.1),.r (TR 23 1 (eS 4 eQ) r.2.2.1),.r (TR 3 1 bO r.2.2.2.1),.r (TR 23 1 (eS 4 eQ) r.2.2.2.2)]:=by
 obtain⟨bt,bu,bD,bG⟩:=x0;refine Hv Tryz.func56 Y (ae Y) (λdA M vs hvs=>?_);unfold ek at h;refine sr<|bx Y<|ag Y<|dn<|sr<|fa Y Y<|lV Y Y Y<|bI (cs:=[_,_,_,_,_]) (cs':=[ay true,ax bt,.v (.slice none 0 0),.v (.slice none 0 0),.v (.slice none 0 0)]) (.one Y (.one Y (.nil))) ⟨aq,aq,aq,aq,aq,ak⟩<|bx Y<|an (s:=.ptr _ _) Y<|dn<|bP (iD 12 2 304 23 1 Y Y Y T)<|bP (iD 12 3 305 3 1 Y Y Y T)<|bP (iD 12 4 306 23 1 Y Y Y T)<|qq<|sr<|fa Y Y<|lV Y Y Y<|lE h λdO gQ h=>ln Y gQ<|mv Y<|dn<|bE h λe6 rJ iI=>?_;refine bM (λ(mW:(List (List Qr)))=>AS.cz 105 [(1,.ptr 1 0),(3,.ptr 12 0)] [(12,⟨79,[ai true,ah bt,.row 308,.row 305,.row 306]⟩),(1,⟨25,[ah bt,.sv (aM 1 (eS 4 eQ) bu),.sv (aM 1 (eS 4 eQ) bD),.sv (aM 4 eQ bG)]⟩)] [(308,TR 23 1 (eS 4 eQ) mW),(305,TR 3 1 bO []),(306,TR 23 1 (eS 4 eQ) [])]) (λmW=>mW=e6) ?_ (λmW rK=>?_);refine bf ?_
 refine bN rJ (λs6=>AS.cz 105 [(1,.ptr 1 0),(3,.ptr 12 0),(14,.sv (aM 1 (eS 4 eQ) bu)),(15,ah dO),(16,ah s6.1)] [(12,⟨79,[ai true,ah bt,.row 308,.row 305,.row 306]⟩),(1,⟨25,[ah bt,.sv (aM 1 (eS 4 eQ) bu),.sv (aM 1 (eS 4 eQ) bD),.sv (aM 4 eQ bG)]⟩)] [(308,TR 23 1 (eS 4 eQ) s6.2),(305,TR 3 1 bO []),(306,TR 23 1 (eS 4 eQ) [])]) (aN 308 304 Y Y Y Y Y Y ⟨.ptr,.ptr,.sv aq,.sv aq,.sv aq,ak⟩ ⟨⟨_,Y,⟨.sv aq,.sv aq,.row Y,.row Y,.row Y,ak⟩⟩,⟨_,Y,⟨.sv aq,.sv aq,.sv aq,.sv aq,ak⟩⟩,ak⟩ ⟨⟨_,Y,cc.refl _⟩,⟨_,Y,cc.refl _⟩,⟨_,Y,cc.refl _⟩,ak⟩) (λs6 y6 G6 h rL nV=>?_);obtain⟨QG,GG⟩:=s6;refine sr<|lE h λdZ jE h=>ls _ Y Y jE<|dn<|qq ?_;cases dZ;refine aO ?_;cases O (F h);exact⟨GG,nV _ Y,wR []⟩;refine aP<|qq<|bf<|sr<|bE (V h) λfe jB h=>ix Y Y jB<|lr Y Y<|ag Y<|dn<|bh mixed<|mo (s:=.ptr _ _) Y<|mo (s:=.ptr _ _) Y<|RT.cY .none Y T<|fa Y Y<|RT.iy .none (s:=.row _) Y Y Y T<|mv Y<|fa Y Y<|lV Y Y Y<|bE h λlO wB h=>cl (LR wB) ⟨Y,Y,ak⟩<|bl (l:=[lO]) (e:=(eS 4 eQ)) (.one Y (.nil)) Y Y Y Y Y Y<|bE h λvY Ar h=>aR (k:=[lO]) (e:=(eS 4 eQ)) Y Y Y Ar<|RT.cY .none Y T<|fa Y Y<|RT.kH (cells:=[_,_,_,_,_]) .none Y Y Y Y T Y<|RT.done ⟨by kernel_rfl,?_⟩;refine bJ.n<|aY.n<|aZ<|lE h λpz yc h=>ad _ Y Y yc<|mv Y<|RT.done ?_;cases O h;exact aY.n ⟨(pz,vY),rL _ Y,aN 308 30 Y Y Y Y Y Y ⟨.ptr,.ptr,.sv aq,.sv aq,.sv aq,ak⟩ ⟨⟨_,Y,⟨.sv aq,.sv aq,.row Y,.row Y,.row Y,ak⟩⟩,⟨_,Y,⟨.sv aq,.sv aq,.sv aq,.sv aq,ak⟩⟩,ak⟩ ⟨⟨_,Y,cc.refl _⟩,⟨_,Y,cc.refl _⟩,⟨_,Y,cc.refl _⟩,ak⟩⟩;subst rK;refine aY.n<|qq<|sr<|fa Y Y<|lV Y Y Y<|lE iI λmF vJ iI=>ln Y vJ<|mv Y<|dn<|bE iI λe30 ahE ahF=>?_;refine bM (λ(GM:(List Int)×(List (List Qr)))=>AS.cz 105 [(3,.ptr 12 0)] [(12,⟨79,[ai true,ah bt,.row 308,.row 312,.row 313]⟩)] [(308,TR 23 1 (eS 4 eQ) mW),(312,TR 3 1 bO GM.1),(313,TR 23 1 (eS 4 eQ) GM.2)]) (λGM=>GM=e30) ?_ (λGM ahG=>?_);refine bf<|bN ahE (λV3=>AS.cz 105 [(1,.ptr 1 0),(3,.ptr 12 0),(36,ah mF),(37,ah V3.1)] [(12,⟨79,[ai true,ah bt,.row 308,.row 312,.row 313]⟩),(1,⟨25,[ah bt,.sv (aM 1 (eS 4 eQ) bu),.sv (aM 1 (eS 4 eQ) bD),.sv (aM 4 eQ bG)]⟩)] [(308,TR 23 1 (eS 4 eQ) mW),(312,TR 3 1 bO V3.2.1),(313,TR 23 1 (eS 4 eQ) V3.2.2)]) (cj (λi=>bif Nat.beq i 312 then 305 else bif Nat.beq i 313 then 306 else i) Y Y Y Y Y ⟨.ptr,.ptr,.sv aq,.sv aq,ak⟩ ⟨⟨_,Y,⟨.sv aq,.sv aq,.row Y,.row Y,.row Y,ak⟩⟩,⟨_,Y,⟨.sv aq,.sv aq,.sv aq,.sv aq,ak⟩⟩,ak⟩ ⟨⟨_,Y,cc.refl _⟩,⟨_,Y,cc.refl _⟩,⟨_,Y,cc.refl _⟩,ak⟩ (λi hi=>by rw[bZ (show i≠312 by omega)];rw[bZ (show i≠313 by omega)];rfl)) (λV3 y30 G30 h ahH ahI=>?_);obtain⟨pE,uz,uC⟩:=V3;refine sr<|lE h λwA BQ h=>ls _ Y Y BQ<|dn<|qq ?_;cases wA;refine aO ?_;cases O (F h);exact⟨(uz,uC),ahI _ Y,wR []⟩;refine aP<|qq<|bf<|sr<|mv Y<|ag Y<|dn<|sr<|fa Y Y<|lV Y Y Y<|fa Y Y<|lV Y Y Y<|lE (V h) λsK zH h=>ln Y zH<|lE h λvZ DL h=>ad _ Y Y DL<|lE h λzo h46 h=>ad _ Y Y h46<|bE h λw9 Bm h=>RT.vX (n:=4) (e:=eQ) .none Y Y T Y T aK η (by exact⟨aq,aD,aq,aD,ak⟩) Bm<|an (s:=.row _) Y<|dn<|qq<|sr<|fa Y Y<|lV Y Y Y<|mv Y<|dn<|bE h λe38 X3 fo=>?_;refine bM (λ(vN:(List Qr))=>AS.cz 105 [(1,.ptr 1 0),(3,.ptr 12 0),(6,ah pE),(7,.row 47),(36,ah mF),(37,ah pE)] [(12,⟨79,[ai true,ah bt,.row 308,.row 312,.row 313]⟩),(1,⟨25,[ah bt,.sv (aM 1 (eS 4 eQ) bu),.sv (aM 1 (eS 4 eQ) bD),.sv (aM 4 eQ bG)]⟩)] [(47,TR 43 4 eQ vN),(308,TR 23 1 (eS 4 eQ) mW),(312,TR 3 1 bO uz),(313,TR 23 1 (eS 4 eQ) uC)]) (λvN=>vN=e38) ?_ (λvN X4=>?_);refine bf ?_
 refine bN X3 (λNq=>AS.cz 105 [(1,.ptr 1 0),(3,.ptr 12 0),(6,ah pE),(7,.row 47),(36,ah mF),(37,ah pE),(49,ah bt),(50,ah Nq.1)] [(12,⟨79,[ai true,ah bt,.row 308,.row 312,.row 313]⟩),(1,⟨25,[ah bt,.sv (aM 1 (eS 4 eQ) bu),.sv (aM 1 (eS 4 eQ) bD),.sv (aM 4 eQ bG)]⟩)] [(47,TR 43 4 eQ Nq.2),(308,TR 23 1 (eS 4 eQ) mW),(312,TR 3 1 bO uz),(313,TR 23 1 (eS 4 eQ) uC)]) (wR []) (λNq y38 G38 h X5 X6=>?_);obtain⟨GH,DX⟩:=Nq;refine sr<|lE h λBr HZ h=>ls _ Y Y HZ<|dn<|qq ?_;cases Br;refine aO ?_;cases O (F h);exact⟨DX,X6 _ Y,wR []⟩;refine aP<|qq<|bf<|sr<|mv Y<|ag Y<|dn<|aZ<|mo (s:=.row _) Y<|mv Y<|fa Y Y<|lV Y Y Y<|mv Y<|mv Y ?_;obtain⟨⟨⟨Dn,Cb⟩,⟨Hy,Hz⟩⟩,SL,h⟩:=bS (V h);refine cl (VX SL) ⟨Y,Y,Y,ak⟩<|bE h λPI Ut h=>iR Y Y Y Ut<|bE h λWM YZ h=>sA ⟨⟨Dn,Cb⟩,⟨Hy,Hz⟩⟩ Y Y Y YZ<|RT.done<|bJ.n<|aY.n<|aZ<|lE h λHl PX h=>ad _ Y Y PX<|mv Y<|RT.done ?_;cases O h;exact aY.n ⟨(Hl,WM),X5 _ Y,wR []⟩;subst X4;refine aY.n<|qq<|bh mixed<|mo (s:=.row _) Y<|fa Y Y<|lV Y Y Y<|mv Y<|lE fo λMw VQ fo=>ad _ Y Y VQ ?_;obtain⟨⟨⟨HA,HB⟩,⟨HC,HD⟩⟩,X8,fo⟩:=bS fo;refine cl (nP X8) ⟨Y,ak⟩<|bE fo λSd h68 fo=>iR Y Y Y h68<|bE fo λl42 PW fo=>sA ⟨⟨HA,HB⟩,⟨HC,HD⟩⟩ Y Y Y PW<|RT.done ⟨by kernel_rfl,?_⟩;refine aY.n<|sr<|mo (s:=.row _) Y<|mo (s:=.row _) Y<|lE fo λx71 h71 fo=>lL Y Y h71<|lE fo λO8 X9 fo=>sb _ Y Y X9<|fa Y Y<|lV Y Y Y<|mv Y ?_;obtain⟨⟨⟨YP,YQ⟩,⟨YR,YS⟩⟩,h76,fo⟩:=bS fo;refine ix Y Y h76<|RT.gV (cs:=[_,_,_,_]) .none Y T Y Y ?_;obtain⟨⟨⟨QH,QI⟩,⟨QJ,QK⟩⟩,h78,fo⟩:=bS fo;refine cl (EY h78) ⟨Y,ak⟩<|bE fo λO9 Ya fo=>iR Y Y Y Ya<|bE fo λV4 QN fo=>sA ⟨⟨QH,QI⟩,⟨QJ,QK⟩⟩ Y Y Y QN<|dn<|qq<|bP (cH (i:=47) (E1:=43) (n:=4) (e:=eQ) (l:=V4) Y)<|aZ<|mo (s:=.ptr _ _) Y<|mo (s:=.ptr _ _) Y<|RT.cY .none Y T<|fa Y Y<|RT.iy .none (s:=.row _) Y Y Y T<|mv Y<|bl (l:=[V4]) (e:=(eS 4 eQ)) (.one Y (.nil)) Y Y Y Y Y Y<|bE fo λx87 h87 fo=>aR (k:=[V4]) (e:=(eS 4 eQ)) Y Y Y h87<|RT.cY .none Y T<|fa Y Y<|RT.kH (cells:=[_,_,_,_,_]) .none Y Y Y Y T Y<|dn<|bh mixed<|mo (s:=.ptr _ _) Y<|mo (s:=.ptr _ _) Y<|RT.cY .none Y T<|fa Y Y<|RT.iy .none (s:=.row _) Y Y Y T<|fa Y Y<|lV Y Y Y<|mv Y<|lE fo λV5 h98 fo=>ad _ Y Y h98 ?_
 refine bl (l:=[V5]) (e:=bO) (.one Y (.nil)) Y Y Y Y Y Y<|bE fo λYT ahK fo=>aR (k:=[V5]) (e:=bO) Y Y Y ahK<|RT.cY .none Y T<|fa Y Y<|RT.kH (cells:=[_,_,_,_,_]) .none Y Y Y Y T Y<|RT.done ⟨by kernel_rfl,?_⟩;refine bJ.n<|aY.n<|aZ<|lE fo λHU SM fo=>ad _ Y Y SM<|mv Y<|RT.done ?_;cases O fo;exact aY.n ⟨(HU,YT,x87),ahH _ Y,cj (λi=>bif Nat.beq i 312 then 100 else bif Nat.beq i 313 then 87 else i) Y Y Y Y Y ⟨.ptr,.ptr,.sv aq,.sv aq,ak⟩ ⟨⟨_,Y,⟨.sv aq,.sv aq,.row Y,.row Y,.row Y,ak⟩⟩,⟨_,Y,⟨.sv aq,.sv aq,.sv aq,.sv aq,ak⟩⟩,ak⟩ ⟨⟨_,Y,cc.refl _⟩,⟨_,Y,cc.refl _⟩,⟨_,Y,cc.refl _⟩,ak⟩ (λi hi=>by rw[bZ (show i≠312 by omega)];rw[bZ (show i≠313 by omega)];rfl)⟩;subst ahG;obtain⟨NT,NU⟩:=GM;refine aY.n<|sr<|mo (s:=.ptr _ _) Y<|an (s:=.ptr _ _) Y<|dn<|bj ?_;cases O ahF;exact⟨.inr Y,12,[308,312,313],.tmp Y,Y,⟨Y,Y,Y,ak⟩,by decide⟩
theorem Kb{x0:Lr}{r:Bool×Int×(List (List Qr))×(List Int)×(List (List Qr))}(h:iX x0=some r):S6 af 12 [.agg (Lo x0)] true [ax 0] 79 [.s (ay r.1),.s (ax r.2.1),.r (TR 23 1 (eS 4 eQ) r.2.2.1),.r (TR 3 1 bO r.2.2.2.1),.r (TR 23 1 (eS 4 eQ) r.2.2.2.2)]:=by
 obtain⟨bt,bu,bD,bG⟩:=x0;refine Qw (t1:=2) (t2:=3) Tryz.func12 Y (ae Y) Y (λdA M vs hvs=>?_);unfold iX at h;refine sr<|bx Y<|ag Y<|ag Y<|dn<|qq<|sr<|ld Y Y (.k4 Y Y Y Y)<|bE h λx5 h5 h=>cl (B9 h5) ⟨Y,ak⟩<|lE h λx6 h6 h=>nt Y _ h6<|dn ?_;cases x6;refine fs<|sr<|ld Y Y (.k4 Y Y Y Y) ?_;obtain⟨⟨qw,qx,Bn,Bo,YU⟩,h8,h⟩:=bS (F h);refine RT.S7 .none (sZ h8) [304,305,306] η Y ⟨⟨Y,T⟩,⟨Y,T⟩,⟨Y,T⟩,ak⟩ Y ⟨Y,ak⟩ T Y Y<|an (s:=.ptr _ _) Y<|ag Y<|dn<|bj ?_;cases O h;exact⟨.inr Y,8,[304,305,306],Y,Y,Y,⟨Y,Y,Y,ak⟩,by decide⟩;refine cT<|sr<|ag Y<|ag Y<|dn<|bj<|aY.r ?_;replace h:=V h;cases h
theorem N0{x0:List Qr}{Qh:Qr}{r:List Qr}(h:ve x0 Qh=some r):Pure af 106 [aM 4 eQ x0,ref (eQ Qh)] (aM 4 eQ r):=by
 obtain⟨⟨Qi,Qj⟩,⟨Qk,Ql⟩⟩:=Qh;refine bp Tryz.func106 Y (ae Y) (λdA M vs hvs=>?_);unfold ve at h;refine sr<|aI Y (aD (n:=4) (e:=eQ))<|dn<|sr<|RT.gV (cs:=[_,_,_,_]) .none Y T Y Y<|mv Y<|bE h λx6 h6 h=>cl (NJ h6) ⟨Y,Y,ak⟩<|ag Y<|dn<|bj ?_;cases O h;exact R1 Y
theorem LU{o0:Bool}{o1:Int}{o2:List (List Qr)}{o3:List Int}{o4:List (List Qr)}{x0:List Qr}{Qh:Int}{c_2:Int}{r:List Qr}(h:oW o0 o1 o2 o3 o4 x0 Qh c_2=some r):Uz af 107 (λβ=>[.sv (aM 4 eQ x0),.sv (ref [ax Qh]),.sv (ref [.v (.pointer (some ⟨β,0,none⟩))]),.sv (ref [ax c_2])]) 79 [.s (ay o0),.s (ax o1),.r (TR 23 1 (eS 4 eQ) o2),.r (TR 3 1 bO o3),.r (TR 23 1 (eS 4 eQ) o4)] (λ_ M' _ v=>SV.h (aM 4 eQ r) M' v):=by
 refine NS [1001,1002,1003] Tryz.func107 Y (λ_=>(ae Y)) (λ_=>Y) η Y Y ⟨⟨_,Y⟩,⟨_,Y⟩,ak,ak,ak,ak⟩ (λdA M β us=>?_);unfold oW at h;refine sr<|aI Y (aD (n:=4) (e:=eQ))<|dn<|qq<|sr<|mv Y<|lr Y Y ?_;obtain⟨⟨⟨qw,qx⟩,⟨Bn,Bo⟩⟩,h8,h⟩:=bS h;refine ix Y Y h8<|RT.gV (cs:=[_,_,_,_]) .none Y T Y Y<|bE h λdN gL h=>cl (rQ gL) ⟨Y,ak⟩<|lE h λfy kR h=>eq _ Y Y (yT (p:=dN) (q:=0) kR)<|dn ?_;cases fy;refine fs<|qq<|bh mixed<|mv Y<|lr Y Y ?_;obtain⟨⟨⟨kf,kg⟩,⟨yw,yx⟩⟩,gQ,h⟩:=bS (F h);refine ix Y Y gQ<|RT.gV (cs:=[_,_,_,_]) .none Y T Y Y ?_;obtain⟨⟨⟨rO,rP⟩,⟨Ba,Bb⟩⟩,jE,h⟩:=bS h;refine cl (P7 jE) ⟨Y,ak⟩<|RT.GF (k:=1000) .none Y Y Y T<|RT.cY .none Y T<|fa Y Y<|RT.iy .none (s:=.row _) Y Y Y T<|lr Y Y<|bE h λiN pJ h=>iR Y Y Y pJ<|bE h λiv oO h=>lR (e:=(eS 4 eQ)) Y Y oO Y<|mv Y<|bE h λjw pK h=>cl (Gz pK) ⟨Y,Y,Y,ak⟩<|ag Y<|RT.done ⟨by kernel_rfl,?_⟩;refine aY.n<|bj ?_;cases O h;exact⟨.inr Y,gp (.tmp Y (.nil)) aq,Y,⟨Y,Y,Y,ak⟩⟩;refine cT<|sr<|mv Y<|ag Y<|dn<|bj<|aY.r ?_;cases O (V h);exact⟨.inr Y,gp (.tmp Y (.nil)) aq,Y,⟨Y,Y,Y,ak⟩⟩
set_option maxHeartbeats 4000000 in
theorem wF{o0:Bool}{o1:Int}{o2:List (List Qr)}{o3:List Int}{o4:List (List Qr)}{x1:Int}{x2:Int}{r:(List (List Qr))×(List Int)×(List (List Qr))}(h:fB o0 o1 o2 o3 o4 x1 x2=some r):S4 af 60 [.ptr 1000 0,ah x1,ah x2] 79 [.s (ay o0),.s (ax o1),.r (TR 23 1 (eS 4 eQ) o2),.r (TR 3 1 bO o3),.r (TR 23 1 (eS 4 eQ) o4)] (.any) [.s (ay o0),.s (ax o1),.r (TR 23 1 (eS 4 eQ) r.1),.r (TR 3 1 bO r.2.1),.r (TR 23 1 (eS 4 eQ) r.2.2)]:=by
 refine xF [1001,1002,1003] Tryz.func60 Y (ae Y) Y η Y (λdA M β us=>?_);unfold fB at h;refine sr<|RT.En .none (s:=.ptr _ _) Y T Y Y<|RT.En .none (s:=.sv _) Y T Y Y<|RT.En .none (s:=.sv _) Y T Y Y<|dn<|acg (i:=3) Y Y<|bP (kL (i:=3) Y [.v (.pointer (some ⟨β,0,none⟩))] (.cons Y (.nil)) .any 0 [(3,.sv (ref [.v (.pointer (some ⟨β,0,none⟩))]))] (λ_ _ _=>trivial) (yO.h (l:=[.v (.pointer (some ⟨β,0,none⟩))])) ⟨@FT.ptr _ _ _ _ _ 3 0 Y,ak⟩)<|bP (kL (i:=4) Y [ax x1] (.cons Y (.nil)) .any 0 [(4,.sv (ref [ax x1]))] (λ_ _ _=>trivial) (yO.h (l:=[ax x1])) ⟨@FT.ptr _ _ _ _ _ 4 0 Y,ak⟩)<|bP (kL (i:=5) Y [ax x2] (.cons Y (.nil)) .any 0 [(5,.sv (ref [ax x2]))] (λ_ _ _=>trivial) (yO.h (l:=[ax x2])) ⟨@FT.ptr _ _ _ _ _ 5 0 Y,ak⟩)<|qq<|bh mixed ?_;obtain⟨⟨⟨BJ,BK⟩,⟨aeH,aeI⟩⟩,jg,h⟩:=bS h;refine cl (nP jg) ⟨Y,ak⟩<|RT.GF (k:=1000) .none Y Y Y T<|RT.cY .none Y T<|fa Y Y<|RT.iy .none (s:=.row _) Y Y Y T<|lr Y Y<|bE h λkI nq h=>iR Y Y Y nq<|bE h λiz pA h=>lR (e:=(eS 4 eQ)) Y Y pA Y<|lr Y Y ?_;obtain⟨⟨⟨xq,xu⟩,⟨xw,xx⟩⟩,oc,h⟩:=bS h;refine ix Y Y oc<|RT.gV (cs:=[_,_,_,_]) .none Y T Y Y ?_;obtain⟨⟨⟨⟨GI,GJ⟩,⟨GK,GL⟩⟩,VW⟩,oO,h⟩:=bS h
 refine cl (P5 oO) ⟨Y,Y,ak⟩<|mv Y<|ex Y Y<|ex Y Y<|al (cs:=[ay false,au,ay false,au]) (by exact⟨aq,aD,aq,aD,ak⟩) Y<|so Y Y Y<|ag Y<|RT.done ⟨by kernel_rfl,?_⟩;refine aY.n<|bP (kL (i:=6) Y [ay GI,aM 1 bk GJ,ay GK,aM 1 bk GL] (.k4 Y Y Y Y) .any 0 [(6,.sv (ref [ay GI,aM 1 bk GJ,ay GK,aM 1 bk GL]))] (λ_ _ _=>trivial) (yO.h (l:=[ay GI,aM 1 bk GJ,ay GK,aM 1 bk GL])) ⟨@FT.ptr _ _ _ _ _ 6 0 Y,ak⟩)<|sr<|RT.Gc (caps:=[_]) .none ⟨Y,ak⟩ T<|bI (cs:=[_]) (cs':=[oQ 106 [ref [ay GI,aM 1 bk GJ,ay GK,aM 1 bk GL]]]) (.one Y (.nil)) ⟨aq,ak⟩<|RT.alloc .none T Y Y<|so Y Y Y<|dn<|qq<|bh mixed<|RT.GF (k:=1000) .none Y Y Y T<|RT.cY .none Y T<|fa Y Y<|RT.iy .none (s:=.row _) Y Y Y T<|lr Y Y<|fa Y Y<|lV Y Y Y<|RT.GF (k:=1000) .none Y Y Y T<|RT.cY .none Y T<|fa Y Y<|RT.iy .none (s:=.row _) Y Y Y T<|lr Y Y<|bE h λyj Gl h=>iR Y Y Y Gl<|bE h λry BR h=>lR (e:=(eS 4 eQ)) Y Y BR Y<|bE h λA6 Lu h=>RT.akz (args:=[_]) (caps:=[_]) .none (N0 Lu) Y ⟨Y,ak⟩ T<|bE h λsK zH h=>iR Y Y Y zH<|bE h λl2 aqn h=>sR A6 Y Y Y Y aqn<|RT.done ⟨by kernel_rfl,?_⟩
 refine aY.n<|sr<|RT.Gc (caps:=[_,_,_]) .none ⟨Y,Y,Y,ak⟩ T<|bI (cs:=[_]) (cs':=[oQ 107 [ref [ax x2],ref [.v (.pointer (some ⟨β,0,none⟩))],ref [ax x1]]]) (.one Y (.nil)) ⟨aq,ak⟩<|RT.alloc .none T Y Y<|so Y Y Y<|dn<|sr<|RT.GF (k:=1000) .none Y Y Y T<|RT.cY .none Y T<|fa Y Y<|RT.iy .none (s:=.row _) Y Y Y T<|lE h λBr HZ h=>lL Y Y HZ<|mv Y<|dn<|bE h λPK Gm nu=>?_;refine bM (λ(zZ:(List (List Qr)))=>AS.cz 71 [] [(1000,⟨79,[ai o0,ah o1,.row 1001,.row 1002,.row 1003]⟩)] [(1001,TR 23 1 (eS 4 eQ) o2),(1002,TR 3 1 bO o3),(1003,TR 23 1 (eS 4 eQ) zZ)]) (λzZ=>zZ=PK) ?_ (λzZ Gp=>?_);refine bf<|bN Gm (λvF=>AS.cz 71 [(3,.sv (ref [.v (.pointer (some ⟨β,0,none⟩))])),(4,.sv (ref [ax x1])),(9,.ptr 9 0),(50,.row 1003),(51,ah Br),(52,ah vF.1)] [(1000,⟨79,[ai o0,ah o1,.row 1001,.row 1002,.row 1003]⟩),(9,⟨124,[.sv (oQ 107 [ref [ax x2],ref [.v (.pointer (some ⟨β,0,none⟩))],ref [ax x1]])]⟩)] [(1003,TR 23 1 (eS 4 eQ) vF.2),(1001,TR 23 1 (eS 4 eQ) o2),(1002,TR 3 1 bO o3)]) (wR []) (λvF y12 G12 h Gq Gr=>?_);obtain⟨yB,kz⟩:=vF;refine sr<|lE h λLw VS h=>ls _ Y Y VS<|dn<|qq ?_;cases Lw;refine aO ?_;cases O (F h);exact⟨kz,Gr _ Y,wR []⟩;refine aP<|qq<|bf<|sr<|mv Y<|bE (V h) λAo Ny h=>iR Y Y Y Ny<|bE h λLs VO h=>lR (e:=(eS 4 eQ)) Y Y VO Y<|ag Y<|ag Y<|dn<|sr<|mv Y<|lr Y Y<|lE h λSc SL h=>ne _ Y Y (Nh (p:=yB) (q:=x1) SL)<|dn<|bU h (λj15=>AS.cz 71 [(3,.sv (ref [.v (.pointer (some ⟨β,0,none⟩))])),(4,.sv (ref [ax x1])),(9,.ptr 9 0),(50,.row 1003),(51,ah Br),(52,ah yB)] [(1000,⟨79,[ai o0,ah o1,.row 1001,.row 1002,.row 1003]⟩),(9,⟨124,[.sv (oQ 107 [ref [ax x2],ref [.v (.pointer (some ⟨β,0,none⟩))],ref [ax x1]])]⟩)] [(1003,TR 23 1 (eS 4 eQ) j15),(1001,TR 23 1 (eS 4 eQ) o2),(1002,TR 3 1 bO o3)]) (λh=>?_) (λCc h=>?_);cases Sc;exact fs<|⟨kz,(F h),wR []⟩;refine cT<|bh mixed<|RT.GF (k:=1000) .none Y Y Y T<|RT.cY .none Y T<|fa Y Y<|RT.iy .none (s:=.row _) Y Y Y T<|mv Y<|fa Y Y<|lV Y Y Y<|mv Y<|bE (V h) λSd h68 h=>RT.ach (args:=[.sv (aM 4 eQ Ls)]) (caps:=λβ=>[ref [ax x2],ref [.v (.pointer (some ⟨β,0,none⟩))],ref [ax x1]]) .none (LU h68) 1000 [1001,1002,1003] Y Y ⟨Y,Y,Y,ak⟩ η Y Y (.cons Y (.nil)) T ?_
 refine bE h λXL h69 h=>iR Y Y Y h69<|bE h λl17 alw h=>sR Sd Y Y Y Y alw<|RT.done ⟨by kernel_rfl,?_⟩;exact aY.n<|⟨l17,h,wR []⟩;refine bJ.n<|aY.n<|aZ<|lE h λx70 h70 h=>ad _ Y Y h70<|mv Y<|RT.done ?_;cases O h;exact aY.n ⟨(x70,Cc),Gq _ Y,wR []⟩;subst Gp;cases O nu;exact⟨.inl Y,gp .nil (λ_ _ _=>trivial),[1001,1002,1003],Y,⟨Y,Y,Y,ak⟩,by decide⟩
set_option maxHeartbeats 4000000 in
theorem lG{o0:Bool}{o1:Int}{o2:List (List Qr)}{o3:List Int}{o4:List (List Qr)}{x1:Int}{x2:Int}{r:Int×(List (List Qr))×(List Int)×(List (List Qr))}(h:cg o0 o1 o2 o3 o4 x1 x2=some r):S4 af 14 [.ptr 1000 0,ah x1,ah x2] 79 [.s (ay o0),.s (ax o1),.r (TR 23 1 (eS 4 eQ) o2),.r (TR 3 1 bO o3),.r (TR 23 1 (eS 4 eQ) o4)] (ax r.1) [.s (ay o0),.s (ax o1),.r (TR 23 1 (eS 4 eQ) r.2.1),.r (TR 3 1 bO r.2.2.1),.r (TR 23 1 (eS 4 eQ) r.2.2.2)]:=by
 refine xF [1001,1002,1003] Tryz.func14 Y (ae Y) Y η Y (λdA M β us=>?_);unfold cg at h;refine sr<|ag Y<|dn<|qq<|sr<|mo (s:=.ptr _ _) Y<|bE h λdN gL h=>RT.tW .none (Ka gL) 1000 [1001,1002,1003] Y ⟨Y,Y,Y,ak⟩ η Y Y (.cons Y (.nil)) T<|dn ?_;cases dN;refine fs<|qq<|qq ?_;refine bU (F h) (λSf=>AS.cz 68 [(0,.ptr 1000 0),(1,ah x1),(2,ah x2),(31,ai Sf)] [(1000,⟨79,[ai o0,ah o1,.row 1001,.row 1002,.row 1003]⟩)] [(1001,TR 23 1 (eS 4 eQ) o2),(1002,TR 3 1 bO o3),(1003,TR 23 1 (eS 4 eQ) o4)]) (λh=>?_) (λYV h=>?_);refine aZ<|mv Y<|lE h λdr fO h=>ls _ Y Y fO<|mv Y<|bE h λYW vf h=>?_;cases dr;refine gm Y<|RT.move (.some Y Y) (s:=.ptr _ _) Y T<|RT.cY (.some Y Y) Y T<|RT.fieldAddr (.some Y Y) Y T Y<|RT.iy (.some Y Y) (s:=.row _) Y Y Y T<|lE (F vf) λkI nq vf=>RT.XB (.some Y Y) Y Y T nq<|lE vf λiz pA vf=>RT.geq (.some Y Y) _ Y Y T pA ?_;obtain rfl:=O vf;refine pF Y<|mv Y<|bE h λaqo Kc h=>?_;cases iz;refine gm Y<|lE (F Kc) λiv oO Kc=>RT.lss (.some Y Y) _ Y Y T oO ?_;obtain rfl:=O Kc;refine pF Y<|mv Y<|bE h λaqp zL h=>?_;cases iv
 refine gm Y<|RT.move (.some Y Y) (s:=.ptr _ _) Y T<|bE (F zL) λjd nW zL=>RT.tW (.some Y Y) (NY nW) 1000 [1001,1002,1003] Y ⟨Y,Y,Y,ak⟩ η Y Y (.cons Y (.nil)) T<|lE zL λvY Ar zL=>RT.geq (.some Y Y) _ Y Y T Ar ?_;obtain rfl:=O zL;exact pF Y<|dn<|⟨vY,h,wR []⟩;obtain rfl:=O (V zL);exact ww<|ww<|ww<|ww<|pT Y<|dn<|⟨true,h,wR []⟩;obtain rfl:=O (V Kc);refine ww<|ww<|pT Y<|mv Y<|bE h λaqq DR h=>?_;obtain rfl:=O (V DR);exact ww<|ww<|ww<|ww<|pT Y<|dn<|⟨true,h,wR []⟩;obtain rfl:=O (V vf);refine ww<|ww<|ww<|ww<|ww<|ww<|ww<|pT Y<|mv Y<|bE h λaqr Gy h=>?_;obtain rfl:=O (V Gy);refine ww<|ww<|pT Y<|mv Y<|bE h λaqs ye h=>?_;obtain rfl:=O (V ye);exact ww<|ww<|ww<|ww<|pT Y<|dn<|⟨true,h,wR []⟩;refine aY.n ?_;cases YV;refine fs<|qq<|sr<|mo (s:=.ptr _ _) Y<|RT.cY .none Y T<|fa Y Y<|RT.iy .none (s:=.row _) Y Y Y T<|lE (F h) λmF vJ h=>lL Y Y vJ<|mv Y<|dn<|bE h λCd tX fT=>?_;refine bM (λ(wG:Unit)=>AS.cz 68 [(0,.ptr 1000 0),(1,ah x1),(2,ah x2)] [(1000,⟨79,[ai o0,ah o1,.row 1001,.row 1002,.row 1003]⟩)] [(1001,TR 23 1 (eS 4 eQ) o2),(1002,TR 3 1 bO o3),(1003,TR 23 1 (eS 4 eQ) o4)]) (λwG=>.inl wG=Cd) ?_ (λwG rS=>?_);refine bf ?_;refine bN tX (λnR=>AS.cz 68 [(0,.ptr 1000 0),(1,ah x1),(2,ah x2),(35,.row 1002),(36,ah mF),(37,ah nR)] [(1000,⟨79,[ai o0,ah o1,.row 1001,.row 1002,.row 1003]⟩)] [(1002,TR 3 1 bO o3),(1001,TR 23 1 (eS 4 eQ) o2),(1003,TR 23 1 (eS 4 eQ) o4)]) (wR []) (λNV WT WU h vO rT=>?_);refine sr<|lE h λwA BQ h=>ls _ Y Y BQ<|dn<|qq ?_;cases wA;refine aO ?_;obtain rfl:=O (F h);exact⟨(),rT _ Y,wR []⟩;refine aP<|qq<|bf<|sr<|bE (V h) λvI DO h=>iR Y Y Y DO<|bE h λmI vH h=>lR Y Y vH Y<|ag Y<|dn<|sr<|mv Y<|mv Y<|lE h λA6 Lu h=>eq _ Y Y (yT (p:=mI) (q:=x2) Lu)<|dn ?_;cases A6;refine cF<|bC<|bJ.n<|aY.n<|aZ<|lE (F h) λsK zH h=>ad _ Y Y zH<|mv Y<|RT.done ?_;obtain rfl:=O h;exact aY.n ⟨sK,vO _ Y,wR []⟩;refine cT<|sr<|ag Y<|dn<|bj<|bJ.r<|aY.r ?_;obtain rfl:=O (V h);have Tf:=rT _ Y;subst Tf;refine aY.r<|bJ.r<|aY.r<|aY.r ?_;obtain rfl:=O fT;exact⟨.inr Y,gp (.tmp Y (.nil)) aq,[1001,1002,1003],Y,⟨Y,Y,Y,ak⟩,by decide⟩;subst rS;refine aY.n<|qq<|sr<|mo (s:=.ptr _ _) Y<|RT.cY .none Y T<|fa Y Y<|RT.iy .none (s:=.row _) Y Y Y T<|mv Y<|bE fT λyU HY fT=>iR Y Y Y HY<|bE fT λBr HZ fT=>lR (e:=(eS 4 eQ)) Y Y HZ Y<|mv Y ?_;obtain⟨⟨⟨aeJ,aeK⟩,⟨aeL,aeM⟩⟩,VS,fT⟩:=bS fT;refine ix Y Y VS<|RT.gV (cs:=[_,_,_,_]) .none Y T Y Y<|bE fT λAo Ny fT=>cl (rQ Ny) ⟨Y,ak⟩<|lE fT λLs VO fT=>eq _ Y Y (yT (p:=Ao) (q:=0) VO)<|dn ?_;cases Ls;refine fs<|sr<|mo (s:=.ptr _ _) Y<|mv Y<|mv Y ?_;obtain⟨⟨l20,l21,l22⟩,Ut,fT⟩:=bS (F fT);refine RT.JW .none (wF Ut) 1000 [1001,1002,1003] [304,305,306] Y ⟨Y,Y,Y,ak⟩ η η Y ⟨⟨Y,T⟩,⟨Y,T⟩,⟨Y,T⟩,ak⟩ Y Y (.k3 Y Y Y) T<|dn<|sr<|mo (s:=.ptr _ _) Y<|RT.cY .none Y T<|fa Y Y<|RT.iy .none (s:=.row _) Y Y Y T<|mv Y<|mv Y<|bE fT λWN X8 fT=>iR Y Y Y X8<|bE fT λl24 alx fT=>sR x2 Y Y Y Y alx ?_;refine dn<|sr<|ag Y<|dn<|bj ?_;obtain rfl:=O fT;exact⟨.inr Y,gp (.tmp Y (.nil)) aq,[304,305,306],Y,⟨Y,Y,Y,ak⟩,by decide⟩;refine cT<|sr<|ag Y<|dn<|bj<|aY.r ?_;obtain rfl:=O (V fT);exact⟨.inr Y,gp (.tmp Y (.nil)) aq,[1001,1002,1003],Y,⟨Y,Y,Y,ak⟩,by decide⟩;refine cT<|sr<|ag Y<|dn<|bj<|aY.r ?_;obtain rfl:=O (V h);exact⟨.inr Y,gp (.tmp Y (.nil)) aq,[1001,1002,1003],Y,⟨Y,Y,Y,ak⟩,by decide⟩
 refine cT<|sr<|ag Y<|dn<|bj<|aY.r ?_;obtain rfl:=O (V h);exact⟨.inr Y,gp (.tmp Y (.nil)) aq,[1001,1002,1003],Y,⟨Y,Y,Y,ak⟩,by decide⟩
end
section
open Go.Fw
noncomputable def eG(x0:List Int):Option (List Int):=(some (x0.length:Int)).bind λx5=>(cm (λ(Fk:Int)=>(show Option ((Int)⊕(Int))from cX (λ(Tg:Bool)=>(bif Tg then(some (IntKind.i64.wrap (Fk-1))).bind λdZ=>some (.inl dZ)else some (.inr Fk))) λGe=>(some (decide ((0:Int)<Fk))).bind λx7=>(bif x7 then(some (IntKind.i64.wrap (Fk-1))).bind λfy=>(cV x0 fy).bind λdr=>(some (decide ((dr:Int)=0))).bind λeL=>some eL else some false).bind λY0=>Ge Y0)) x5).bind λTh=>(HR x0 0 Th).bind λiz=>some iz
noncomputable def cZ(x0:List Nat):Option (List Int):=(cm (λ(s6:Int×(List Int))=>match s6 with|⟨kn,fJ⟩=>(show Option ((Int×(List Int))⊕((List Int)))from(some (x0.length:Int)).bind λx7=>(some (decide ((kn:Int)<x7))).bind λx8=>(bif x8 then(cV x0 kn).bind λeL=>(some (eL%65536)).bind λfD=>(some (IntKind.i64.wrap (fD:Int))).bind λdZ=>(cV x0 kn).bind λiz=>(some (iz/65536%4294967296)).bind λiE=>(some (IntKind.i64.wrap (iE:Int))).bind λiN=>(lM 8 fJ [dZ,iN]).bind λkD=>(some (IntKind.i64.wrap (kn+1))).bind λdN=>some (.inl (dN,kD))else some (.inr fJ)))) (0,[])).bind λc7=>(eG c7).bind λjm=>some jm
noncomputable def gC(x0:List Int)(x1:Int):Option (Int):=(some (x0.length:Int)).bind λx7=>(some (decide ((x1:Int)<x7))).bind λx8=>(bif x8 then(cV x0 x1).bind λfy=>some fy else some 0)
noncomputable def dY(x0:Bool)(x1:List Int):Option (Zr):=(eG x1).bind λx8=>(cm (λ(s6:Int×(List Nat))=>match s6 with|⟨mG,fJ⟩=>(show Option ((Int×(List Nat))⊕((List Nat)))from(some (x8.length:Int)).bind λfy=>(some (decide ((mG:Int)<fy))).bind λdr=>(bif dr then(gC x8 mG).bind λfe=>(some ((fe%4294967296).toNat)).bind λkI=>(some (IntKind.i64.wrap (mG+1))).bind λiE=>(gC x8 iE).bind λiN=>(some ((iN%4294967296).toNat)).bind λiv=>(some ((iv*65536)%4294967296)).bind λkD=>(some ((kI+kD)%4294967296)).bind λjw=>(lM 4 fJ [jw]).bind λlO=>(some (IntKind.i64.wrap (mG+2))).bind λeL=>some (.inl (eL,lO))else some (.inr fJ)))) (0,[])).bind λc7=>cX (λ(Y1:Bool)=>some ⟨Y1,c7⟩) λK9=>(bif x0 then(some (c7.length:Int)).bind λkN=>(some (decide ((0:Int)<kN))).bind λpz=>some pz else some false).bind λY2=>K9 Y2
noncomputable def lH(x0:Zr):Option (Zr):=match x0 with|⟨bt,bu⟩=>(cZ bu).bind λx7=>(dY bt x7).bind λ⟨qw,qx⟩=>some ⟨qw,qx⟩
noncomputable def oY(x0:Zr)(x1:Zr):Option (Bool):=match x0 with|⟨bt,bu⟩=>match x1 with|⟨cG,cC⟩=>cX (λ(Y3:Bool)=>(bif Y3 then some false else(cm (λ(HV:Int)=>(show Option ((Int)⊕((Unit)⊕(Bool)))from(some (bu.length:Int)).bind λiN=>(some (decide ((HV:Int)<iN))).bind λiv=>(bif iv then(cV bu HV).bind λvY=>(cV cC HV).bind λqe=>(some (decide ((vY:Nat)≠qe))).bind λqk=>(bif qk then some (.inr (.inr false))else(some (IntKind.i64.wrap (HV+1))).bind λjw=>some (.inl jw))else some (.inr (.inl ()))))) 0).bind λe9=>match e9 with|.inr v9=>some v9|.inl _=>some true)) λK3=>(some (!(bt==cG))).bind λdN=>(bif dN then some true else(some (bu.length:Int)).bind λeL=>(some (cC.length:Int)).bind λdZ=>(some (decide ((eL:Int)≠dZ))).bind λfe=>some fe).bind λY4=>K3 Y4
noncomputable def oZ(x0:Int):Option (Zr):=(some ((x0%18446744073709551616).toNat)).bind λx5=>(some (decide ((x0:Int)<0))).bind λx7=>cX (λ(PN:Nat)=>(some (decide ((x0:Int)<0))).bind λfy=>(some (PN%4294967296)).bind λeP=>(some (eP%4294967296)).bind λeL=>(some (PN/4294967296%18446744073709551616)).bind λfD=>(some (fD%4294967296)).bind λdZ=>(lH ⟨fy,[eL,dZ]⟩).bind λ⟨Dj,Dk⟩=>some ⟨Dj,Dk⟩) λK2=>(bif x7 then(some (w6 18446744073709551616 0 x5)).bind λx9=>K2 x9 else K2 x5)
noncomputable def mJ(x0:List Int)(x1:List Int):Option (Int):=(some (x0.length:Int)).bind λx7=>(some (x1.length:Int)).bind λx9=>(some (max (x7:Int) x9)).bind λdN=>(some (IntKind.i64.wrap (dN-1))).bind λfy=>(cm (λ(jc:Int)=>(show Option ((Int)⊕((Unit)⊕(Int)))from(some (decide ((0:Int)<=jc))).bind λeP=>(bif eP then(gC x0 jc).bind λfe=>(gC x1 jc).bind λfR=>(some (decide ((fe:Int)<fR))).bind λiE=>(bif iE then some (.inr (.inr (-1)))else(gC x0 jc).bind λkD=>(gC x1 jc).bind λlO=>(some (decide ((lO:Int)<kD))).bind λjd=>(bif jd then some (.inr (.inr 1))else(some (IntKind.i64.wrap (jc-1))).bind λdO=>some (.inl dO)))else some (.inr (.inl ()))))) fy).bind λe6=>match e6 with|.inr v6=>some v6|.inl _=>some 0
noncomputable def kX(x0:List Int)(x1:List Int):Option (List Int):=(cm (λ(nR:Int×Int×(List Int))=>match nR with|⟨Ij,Ti,Ke⟩=>(show Option ((Int×Int×(List Int))⊕((List Int)))from cX (λ(Tj:Bool)=>(bif Tj then(gC x0 Ti).bind λjm=>(gC x1 Ti).bind λvY=>(some (IntKind.i64.wrap (jm+vY))).bind λmP=>(some (IntKind.i64.wrap (mP+Ij))).bind λpz=>(some (Int.tmod pz 65536)).bind λmF=>(lM 8 Ke [mF]).bind λwA=>(some (IntKind.i64.wrap (Int.tdiv pz 65536))).bind λmI=>(some (IntKind.i64.wrap (Ti+1))).bind λiv=>some (.inl (mI,iv,wA))else some (.inr Ke))) λK22=>(some (x0.length:Int)).bind λfy=>(some (decide ((Ti:Int)<fy))).bind λdr=>(bif dr then some true else(some (x1.length:Int)).bind λfD=>(some (decide ((Ti:Int)<fD))).bind λdZ=>some dZ).bind λTc=>(bif Tc then some true else(some (decide ((0:Int)<Ij))).bind λfR=>some fR).bind λahM=>K22 ahM)) (0,0,[])).bind λAz=>(eG Az).bind λry=>some ry
noncomputable def jQ(x0:List Int)(x1:List Int):Option (List Int):=(cm (λ(s8:Int×Int×(List Int))=>match s8 with|⟨PJ,V6,yV⟩=>(show Option ((Int×Int×(List Int))⊕((List Int)))from(some (x0.length:Int)).bind λfy=>(some (decide ((V6:Int)<fy))).bind λdr=>(bif dr then(gC x0 V6).bind λdZ=>(gC x1 V6).bind λiz=>(some (IntKind.i64.wrap (dZ-iz))).bind λfR=>(some (IntKind.i64.wrap (fR-PJ))).bind λiN=>(some (decide ((iN:Int)<0))).bind λkD=>cX (λ(Sf:Int×Int)=>match Sf with|⟨ahN,acq⟩=>(lM 8 yV [acq]).bind λmP=>(some (IntKind.i64.wrap (V6+1))).bind λeL=>some (.inl (ahN,eL,mP))) λV1=>(bif kD then(some (IntKind.i64.wrap (iN+65536))).bind λjm=>V1 (1,jm)else V1 (0,iN))else some (.inr yV)))) (0,0,[])).bind λyW=>(eG yW).bind λpz=>some pz
noncomputable def gR(x0:List Int):Option (Int):=(some (x0.length:Int)).bind λx6=>(some (IntKind.i64.wrap (x6-1))).bind λx7=>(cm (λ(s6:Int×Int)=>match s6 with|⟨uZ,kn⟩=>(show Option ((Int×Int)⊕(Int))from(some (decide ((0:Int)<=kn))).bind λx9=>(bif x9 then(some (IntKind.i64.wrap (uZ*65536))).bind λeP=>(cV x0 kn).bind λfD=>(some (IntKind.i64.wrap (eP+fD))).bind λfe=>(some (IntKind.i64.wrap (kn-1))).bind λfy=>some (.inl (fe,fy))else some (.inr uZ)))) (0,x7)).bind λzT=>some zT
noncomputable def mY(x0:Int):Option (List Int):=(some (Int.tmod x0 65536)).bind λx4=>(some (IntKind.i64.wrap (Int.tdiv x0 65536))).bind λx6=>(some (Int.tmod x6 65536)).bind λx7=>(some (IntKind.i64.wrap (Int.tdiv x0 65536))).bind λx9=>(some (IntKind.i64.wrap (Int.tdiv x9 65536))).bind λdN=>(eG [x4,x7,dN]).bind λdr=>some dr
noncomputable def gU(x0:List Int)(x1:Int):Option (List Int):=(cm (λ(rI:Int×Int×(List Int))=>match rI with|⟨Ci,Y5,ko⟩=>(show Option ((Int×Int×(List Int))⊕((List Int)))from cX (λ(D1:Bool)=>(bif D1 then(gC x0 Y5).bind λfR=>(some (IntKind.i64.wrap (fR*x1))).bind λiN=>(some (IntKind.i64.wrap (iN+Ci))).bind λkD=>(some (Int.tmod kD 65536)).bind λlO=>(lM 8 ko [lO]).bind λvY=>(some (IntKind.i64.wrap (Int.tdiv kD 65536))).bind λkN=>(some (IntKind.i64.wrap (Y5+1))).bind λfe=>some (.inl (kN,fe,vY))else some (.inr ko))) λGe=>(some (x0.length:Int)).bind λfy=>(some (decide ((Y5:Int)<fy))).bind λdr=>(bif dr then some true else(some (decide ((0:Int)<Ci))).bind λdO=>some dO).bind λKf=>Ge Kf)) (0,0,[])).bind λgD=>(eG gD).bind λzk=>some zk
noncomputable def vg(x0:List Int)(x1:List Int):Option (List Int):=(some (x0.length:Int)).bind λx9=>(some (x1.length:Int)).bind λfy=>(some (IntKind.i64.wrap (x9+fy))).bind λdr=>(some (decide ((dr:Int)<=3))).bind λeP=>(bif eP then(gR x0).bind λdO=>(gR x1).bind λdZ=>(some (IntKind.i64.wrap (dO*dZ))).bind λfe=>(mY fe).bind λkI=>some kI else(some (x0.length:Int)).bind λfR=>(some (IntKind.i64.wrap (fR-1))).bind λiE=>(cm (λ(nR:(List Int)×Int)=>match nR with|⟨tY,Ij⟩=>(show Option (((List Int)×Int)⊕((List Int)))from(some (decide ((0:Int)<=Ij))).bind λiv=>(bif iv then(lM 8 [0] tY).bind λjd=>(cm (λ(yZ:(List Int)×Int)=>match yZ with|⟨Kg,oz⟩=>(show Option (((List Int)×Int)⊕((List Int)))from(cV x0 Ij).bind λpz=>(some (decide ((oz:Int)<pz))).bind λqe=>(bif qe then(cV x0 Ij).bind λry=>(some (IntKind.i64.wrap (ry-oz))).bind λvZ=>(some (min (1024:Int) vZ)).bind λzo=>(gU x1 zo).bind λw9=>(kX Kg w9).bind λtD=>(some (IntKind.i64.wrap (oz+1024))).bind λqk=>some (.inl (tD,qk))else some (.inr Kg)))) (jd,0)).bind λFl=>(some (IntKind.i64.wrap (Ij-1))).bind λjw=>some (.inl (Fl,jw))else some (.inr tY)))) ([],iE)).bind λzY=>(eG zY).bind λyU=>some yU)
noncomputable def qR(x0:List Int)(x1:List Int):Option ((List Int)×(List Int)):=cX (λ(Y6:Bool)=>(bif Y6 then(gR x0).bind λiN=>(gR x1).bind λkD=>(Bl iN kD).bind λjw=>(mY jw).bind λjm=>(gR x0).bind λjd=>(gR x1).bind λmP=>(LG jd mP).bind λkN=>(mY kN).bind λpz=>some (jm,pz)else(some (x0.length:Int)).bind λqe=>(Ln 8 qe (0:Int)).bind λmF=>(some (x1.length:Int)).bind λwA=>(some (decide ((wA:Int)=1))).bind λvI=>(bif vI then(some (x0.length:Int)).bind λyj=>(some (IntKind.i64.wrap (yj-1))).bind λry=>(cm (λ(UC:Int×Int×(List Int))=>match UC with|⟨UH,QO,Kh⟩=>(show Option ((Int×Int×(List Int))⊕(Int×(List Int)))from(some (decide ((0:Int)<=QO))).bind λsK=>(bif sK then(some (IntKind.i64.wrap (UH*65536))).bind λtD=>(cV x0 QO).bind λBr=>(some (IntKind.i64.wrap (tD+Br))).bind λLw=>(cV x1 0).bind λSe=>(Bl Lw Se).bind λPI=>(cV x1 0).bind λx63=>(LG Lw x63).bind λUq=>(qK Kh QO).bind λMw=>(stM Kh Mw PI).bind λl20=>(some (IntKind.i64.wrap (QO-1))).bind λzo=>some (.inl (Uq,zo,l20))else some (.inr (UH,Kh))))) (0,ry,mF)).bind λe18=>match e18 with|⟨Y7,Tk⟩=>(eG Tk).bind λSd=>(eG [Y7]).bind λx71=>some (Sd,x71)else(some (x0.length:Int)).bind λx73=>(some (IntKind.i64.wrap (x73-1))).bind λXQ=>(cm (λ(s44:(List Int)×Int×(List Int))=>match s44 with|⟨QS,AA,AB⟩=>(show Option (((List Int)×Int×(List Int))⊕((List Int)×(List Int)))from(some (decide ((0:Int)<=AA))).bind λx76=>(bif x76 then(cV x0 AA).bind λY8=>(lM 8 [Y8] QS).bind λWO=>(eG WO).bind λSG=>(some (SG.length:Int)).bind λx88=>(some (x1.length:Int)).bind λWQ=>(some (decide ((x88:Int)<WQ))).bind λXR=>cX (λ(Y9:Int)=>(cm (λ(s54:Int×Int)=>match s54 with|⟨rV,xK⟩=>(show Option ((Int×Int)⊕(Int))from(some (IntKind.i64.wrap (xK-rV))).bind λx94=>(some (decide ((1:Int)<x94))).bind λx95=>(bif x95 then(some (IntKind.i64.wrap (rV+xK))).bind λV5=>(some (IntKind.i64.wrap (Int.tdiv V5 2))).bind λx99=>(gU x1 x99).bind λLM=>(mJ LM SG).bind λLN=>(some (decide ((LN:Int)<=0))).bind λVM=>cX (λ(j56:Int×Int)=>match j56 with|⟨Tl,Tm⟩=>some (.inl (Tl,Tm))) λK56=>(bif VM then K56 (x99,xK)else K56 (rV,x99))else some (.inr rV)))) (0,Y9)).bind λCj=>(gU x1 Cj).bind λSH=>(jQ SG SH).bind λZa=>(qK AB AA).bind λQT=>(stM AB QT Cj).bind λl58=>(some (IntKind.i64.wrap (AA-1))).bind λx78=>some (.inl (Za,x78,l58))) λK46=>(bif XR then K46 1 else K46 65536)else some (.inr (QS,AB))))) ([],XQ,mF)).bind λe44=>match e44 with|⟨aeP,Tn⟩=>(eG Tn).bind λV7=>some (V7,aeP)))) λK3=>(some (x0.length:Int)).bind λdO=>(some (decide ((dO:Int)<=3))).bind λfD=>(bif fD then(some (x1.length:Int)).bind λkI=>(some (decide ((kI:Int)<=3))).bind λiz=>some iz else some false).bind λZb=>K3 Zb
noncomputable def gw(x0:Zr):Option (Int):=match x0 with|⟨bt,bu⟩=>(cZ bu).bind λx5=>(some (x5.length:Int)).bind λx6=>(some (decide ((x6:Int)=0))).bind λx7=>(bif x7 then some 0 else(bif bt then some (-1)else some 1))
noncomputable def vh(x0:Zr)(x1:Zr):Option (Int):=match x0 with|⟨bt,bu⟩=>match x1 with|⟨cG,cC⟩=>(gw ⟨bt,bu⟩).bind λx7=>(gw ⟨cG,cC⟩).bind λx9=>(some (decide ((x7:Int)≠x9))).bind λdN=>(bif dN then(gw ⟨bt,bu⟩).bind λdr=>(gw ⟨cG,cC⟩).bind λeL=>(some (decide ((dr:Int)<eL))).bind λdO=>(bif dO then some (-1)else some 1)else(cZ bu).bind λfe=>(cZ cC).bind λfR=>(mJ fe fR).bind λiE=>(gw ⟨bt,bu⟩).bind λiv=>(some (decide ((iv:Int)<0))).bind λkD=>(bif kD then(some (IntKind.i64.wrap (0-iE))).bind λjm=>some jm else some iE))
noncomputable def qS(x0:Zr):Option (Zr):=match x0 with|⟨bt,bu⟩=>(some (!bt)).bind λx5=>(cZ bu).bind λx8=>(dY x5 x8).bind λ⟨QU,QV⟩=>some ⟨QU,QV⟩
noncomputable def vi(x0:Zr):Option (Zr):=match x0 with|⟨bt,bu⟩=>(cZ bu).bind λx5=>(dY false x5).bind λ⟨Ki,Kj⟩=>some ⟨Ki,Kj⟩
noncomputable def vm(x0:Zr)(x1:Zr):Option (Zr):=match x0 with|⟨bt,bu⟩=>match x1 with|⟨cG,cC⟩=>(cZ bu).bind λx9=>(cZ cC).bind λdr=>(some (bt==cG)).bind λdZ=>(bif dZ then(kX x9 dr).bind λiE=>(dY bt iE).bind λ⟨Be,Bf⟩=>some ⟨Be,Bf⟩else(mJ x9 dr).bind λjw=>(some (decide ((0:Int)<=jw))).bind λjm=>(bif jm then(jQ x9 dr).bind λkN=>(dY bt kN).bind λ⟨Dl,Dm⟩=>some ⟨Dl,Dm⟩else(jQ dr x9).bind λwA=>(dY cG wA).bind λ⟨Fe,Ff⟩=>some ⟨Fe,Ff⟩))
noncomputable def kY(x0:Zr)(x1:Zr):Option (Zr):=match x0 with|⟨bt,bu⟩=>match x1 with|⟨cG,cC⟩=>(some (!(bt==cG))).bind λx9=>(cZ bu).bind λdr=>(cZ cC).bind λdO=>(vg dr dO).bind λfD=>(dY x9 fD).bind λ⟨rO,rP⟩=>some ⟨rO,rP⟩
noncomputable def qT(x0:Zr)(x1:Zr):Option (Zr×Zr×Int):=match x0 with|⟨bt,bu⟩=>match x1 with|⟨cG,cC⟩=>(cZ bu).bind λeP=>(cZ cC).bind λfD=>(some (fD.length:Int)).bind λfe=>(some (decide ((fe:Int)=0))).bind λkI=>(bif kI then some (⟨false,[]⟩,⟨false,[]⟩,7)else(qR eP fD).bind λ⟨Jz,Nt⟩=>cX (λ(j3:Bool×Bool)=>match j3 with|⟨Zc,DK⟩=>cX (λ(j5:(List Int)×(List Int))=>match j5 with|⟨XU,PT⟩=>(some (!(DK==cG))).bind λvZ=>(dY vZ XU).bind λ⟨Ho,Hp⟩=>(dY false PT).bind λ⟨PU,PV⟩=>some (⟨Ho,Hp⟩,⟨PU,PV⟩,0)) λK5=>(bif Zc then(kX Jz [1]).bind λqk=>(jQ fD Nt).bind λmI=>K5 (qk,mI)else K5 (Jz,Nt))) λK3=>(bif bt then(some (Nt.length:Int)).bind λkN=>(some (decide ((0:Int)<kN))).bind λpz=>some pz else some false).bind λaeQ=>K3 (aeQ,bt))
noncomputable def vn(x0:Zr)(x1:Zr):Option (Zr):=match x0 with|⟨bt,bu⟩=>match x1 with|⟨cG,cC⟩=>(cZ bu).bind λfy=>(cZ cC).bind λeL=>(cm (λ(s6:(List Int)×(List Int))=>match s6 with|⟨jc,mG⟩=>(show Option (((List Int)×(List Int))⊕((List Int)))from(some (mG.length:Int)).bind λfD=>(some (decide ((0:Int)<fD))).bind λdZ=>(bif dZ then(qR jc mG).bind λ⟨aqv,ahP⟩=>some (.inl (mG,ahP))else some (.inr jc)))) (fy,eL)).bind λxl=>(dY false xl).bind λ⟨Ur,PM⟩=>some ⟨Ur,PM⟩
end
section
open Go.Fw Go.Fw.Z Go.RowKit
theorem gh{x0:List Int}{r:List Int}(h:eG x0=some r):Pure af 176 [aM 1 bO x0] (aM 1 bO r):=by
 refine bp Tryz.func176 Y (ae Y) (λdA M vs hvs=>?_);unfold eG at h;refine sr<|aI Y (aD (n:=1) (e:=bO))<|dn<|sr<|mv Y<|lE h λx5 h5 h=>ln Y h5<|ag Y<|dn<|qq<|bE h λEM xd oT=>?_;refine bM (λ(Th:Int)=>AS.cz 21 [(0,.sv (aM 1 bO x0)),(3,ah Th)] [] []) (λTh=>Th=EM) ?_ (λTh xe=>?_);refine bf<|bN xd (λrI=>AS.cz 21 [(0,.sv (aM 1 bO x0)),(3,ah rI)] [] []) (wR []) (λFk XZ X0 h xg tJ=>?_);refine qq<|qq<|bU h (λGk=>AS.cz 21 [(0,.sv (aM 1 bO x0)),(3,ah Fk),(15,ai Gk)] [] []) (λh=>?_) (λTg h=>?_);refine aZ<|mv Y<|lE h λx7 h7 h=>gt _ Y Y h7<|mv Y<|bE h λY0 dI h=>?_;cases x7;cases O (F dI);exact ww<|ww<|ww<|ww<|ww<|ww<|pF Y<|dn<|⟨false,h,wR []⟩;refine gm Y<|gm Y<|lE (V dI) λfy kR dI=>RT.sub (.some Y Y) _ Y Y T kR<|bE dI λdr fO dI=>RT.Sb (.some Y Y) Y Y T fO<|gr Y Y<|lE dI λeL jZ dI=>ge_ _ Y Y (yT (p:=dr) (q:=0) jZ) ?_;obtain rfl:=O dI;exact pT Y<|dn<|⟨eL,h,wR []⟩;refine aY.n ?_;cases Tg;refine aO ?_;cases O (F h);exact⟨Fk,tJ _ Y,wR []⟩;refine aP<|bf<|aZ<|mv Y<|lE (V h) λdZ jE h=>sb _ Y Y jE<|ag Y<|RT.done<|bJ.n ?_;cases O h;exact aY.n ⟨dZ,xg _ Y,wR []⟩;subst xe;refine aY.n<|sr<|mv Y<|mv Y<|bE oT λiz pA oT=>RT.Jp .none 0 Th Y Y ⟨_,Y⟩ T pA<|ag Y<|dn<|bj ?_;cases O oT;exact R1 Y
theorem dJ{x0:List Nat}{r:List Int}(h:cZ x0=some r):Pure af 146 [aM 1 bk x0] (aM 1 bO r):=by
 refine bp Tryz.func146 Y (ae Y) (λdA M vs hvs=>?_);unfold cZ at h;refine sr<|aI Y (aD (n:=1) (e:=bO))<|dn<|sr<|ag Y<|dn<|bP (cS 3 304 3 1 Y Y T)<|qq<|sr<|ag Y<|dn<|bE h λe6 rJ iI=>?_;refine bM (λ(c7:(List Int))=>AS.cz 28 [(3,.row 306)] [] [(306,TR 3 1 bO c7)]) (λc7=>c7=e6) ?_ (λc7 rK=>?_);refine bf<|bN rJ (λs6=>AS.cz 28 [(0,.sv (aM 1 bk x0)),(3,.row 306),(4,ah s6.1)] [] [(306,TR 3 1 bO s6.2)]) (aN 306 304 Y Y Y Y Y Y ⟨.sv aq,.row Y,.sv aq,ak⟩ trivial ⟨⟨_,Y,cc.refl _⟩,ak⟩) (λs6 y6 G6 h rL nV=>?_);obtain⟨kn,fJ⟩:=s6;refine qq<|sr<|mv Y<|mv Y<|lE h λx7 h7 h=>ln Y h7<|lE h λx8 h8 h=>ls _ Y Y h8<|dn ?_;cases x8;refine aO ?_;cases O (F h);exact⟨fJ,nV _ Y,wR []⟩;refine aP<|qq<|bf<|bh mixed<|mo (s:=.row _) Y<|mv Y<|mv Y<|bE (V h) λeL jZ h=>ix Y Y jZ<|lr Y Y<|lE h λfD kS h=>RT.rem .none _ Y Y T η (adW (a:=eL) (b:=65536) kS)<|lE h λdZ jE h=>cv _ Y jE<|mv Y<|mv Y<|bE h λiz pA h=>ix Y Y pA<|lr Y Y<|lE h λiE oc h=>RT.quo .none _ Y Y T η (UK.akq (a:=iz) (b:=65536) oc)<|lE h λiN pJ h=>cv _ Y pJ<|bl (l:=[dZ,iN]) (e:=bO) (.one Y (.one Y (.nil))) Y Y Y Y Y Y<|bE h λkD oe h=>aR (k:=[dZ,iN]) (e:=bO) Y Y Y oe<|an (s:=.row _) Y<|RT.done ⟨by kernel_rfl,?_⟩;refine bJ.n<|aY.n<|aZ<|mv Y<|lE h λdN gL h=>ad _ Y Y gL<|ag Y<|RT.done ?_;cases O h;exact aY.n ⟨(dN,kD),rL _ Y,aN 306 25 Y Y Y Y Y Y ⟨.sv aq,.row Y,.sv aq,ak⟩ trivial ⟨⟨_,Y,cc.refl _⟩,ak⟩⟩;subst rK;refine aY.n<|qq<|bP (cH (i:=306) (E1:=3) (n:=1) (e:=bO) (l:=c7) Y)<|aZ<|mv Y<|bE iI λjm qf iI=>cl (gh qf) ⟨Y,ak⟩<|ag Y<|dn<|bj ?_;cases O iI;exact R1 Y
theorem ji{x0:List Int}{x1:Int}{r:Int}(h:gC x0 x1=some r):Pure af 179 [aM 1 bO x0,ax x1] (ax r):=by
 refine bp Tryz.func179 Y (ae Y) (λdA M vs hvs=>?_);unfold gC at h;refine sr<|ag Y<|dn<|qq<|sr<|mv Y<|mv Y<|lE h λx7 h7 h=>ln Y h7<|lE h λx8 h8 h=>ls _ Y Y h8<|dn ?_;cases x8;refine fs<|sr<|ag Y<|dn<|bj ?_;cases O (F h);exact R1 Y;refine cT<|sr<|mv Y<|mv Y<|bE (V h) λfy kR h=>ix Y Y kR<|lr Y Y<|ag Y<|dn<|bj<|aY.r ?_;cases O h;exact R1 Y
theorem Ck{x0:Bool}{x1:List Int}(N:Nat){r:Zr}(h:dY x0 x1=some r):dB af 152 N [ay x0,aM 1 bO x1] (.agg ((fZ N) r)):=by
 refine bX Tryz.func152 Y (ae Y) (λdA M vs hN hvs=>?_);unfold dY at h;refine sr<|al (cs:=[ay false,nw N au]) (by exact⟨aq,bw,ak⟩) Y<|dn<|sr<|mv Y<|bE h λx8 h8 h=>cl (gh h8) ⟨Y,ak⟩<|ag Y<|dn<|sr<|ag Y<|dn<|bP (cS 5 304 130 1 Y Y T)<|qq<|sr<|ag Y<|dn<|bE h λe6 rJ iI=>?_;refine bM (λ(c7:(List Nat))=>AS.cz 37 [(0,ai x0),(4,.ptr 4 0),(5,.row 306)] [(4,⟨41,[ai false,.sv (nw N au)]⟩)] [(306,TR 130 1 bk c7)]) (λc7=>c7=e6) ?_ (λc7 rK=>?_);refine bf<|bN rJ (λs6=>AS.cz 37 [(0,ai x0),(1,.sv (aM 1 bO x8)),(4,.ptr 4 0),(5,.row 306),(6,ah s6.1)] [(4,⟨41,[ai false,.sv (nw N au)]⟩)] [(306,TR 130 1 bk s6.2)]) (aN 306 304 Y Y Y Y Y Y ⟨.sv aq,.sv aq,.ptr,.row Y,.sv aq,ak⟩ ⟨⟨_,Y,⟨.sv aq,.sv aq,ak⟩⟩,ak⟩ ⟨⟨_,Y,cc.refl _⟩,ak⟩) (λs6 y6 G6 h rL nV=>?_);obtain⟨mG,fJ⟩:=s6;refine qq<|sr<|mv Y<|mv Y<|lE h λfy kR h=>ln Y kR<|lE h λdr fO h=>ls _ Y Y fO<|dn ?_;cases dr;refine aO ?_;cases O (F h);exact⟨fJ,nV _ Y,wR []⟩;refine aP<|qq<|bf<|aZ<|mo (s:=.row _) Y<|mv Y<|mv Y<|bE (V h) λfe jB h=>cl (ji jB) ⟨Y,Y,ak⟩<|lE h λkI nq h=>cv _ Y (UK.conv nq)<|mv Y<|mv Y<|lE h λiE oc h=>ad _ Y Y oc<|bE h λiN pJ h=>cl (ji pJ) ⟨Y,Y,ak⟩<|lE h λiv oO h=>cv _ Y (UK.conv oO)<|lE h λkD oe h=>RT.mul .none _ Y Y T (UK.mul (a:=iv) (b:=65536) oe)<|lE h λjw pK h=>ad _ Y Y (UK.add (a:=kI) (b:=kD) pK)<|bl (l:=[jw]) (e:=bk) (.one Y (.nil)) Y Y Y Y Y Y<|bE h λlO wB h=>aR (k:=[jw]) (e:=bk) Y Y Y wB<|an (s:=.row _) Y<|RT.done<|bJ.n<|aY.n<|aZ<|mv Y<|lE h λeL jZ h=>ad _ Y Y jZ<|ag Y<|RT.done ?_;cases O h;exact aY.n ⟨(eL,lO),rL _ Y,aN 306 28 Y Y Y Y Y Y ⟨.sv aq,.sv aq,.ptr,.row Y,.sv aq,ak⟩ ⟨⟨_,Y,⟨.sv aq,.sv aq,ak⟩⟩,ak⟩ ⟨⟨_,Y,cc.refl _⟩,ak⟩⟩;subst rK;refine aY.n<|qq<|bU iI (λj9=>AS.cz 37 [(4,.ptr 4 0)] [(4,⟨41,[ai j9,.sv (nw N (aM 1 bk c7))]⟩)] []) (λiI=>?_) (λY1 iI=>?_);refine jD (i:=306) (E1:=130) (n:=1) (e:=bk) (l:=c7) hN (λ_ h=>h) Y<|aZ<|mv Y<|mv Y<|bE iI λY2 D2 iI=>?_;cases x0;cases O (F D2);exact ww<|ww<|ww<|pF Y<|mv Y<|bI (cs:=[_,_]) (cs':=[ay false,nw N (aM 1 bk c7)]) (.one Y (.one Y (.nil))) ⟨aq,aq,ak⟩<|so Y Y Y<|dn<|⟨false,iI,wR []⟩;refine gm Y<|lE (V D2) λkN sL D2=>RT.Jt (.some Y Y) Y T sL<|lE D2 λpz yc D2=>gg _ Y Y yc ?_;obtain rfl:=O D2;exact pT Y<|mv Y<|bI (cs:=[_,_]) (cs':=[ay pz,nw N (aM 1 bk c7)]) (.one Y (.one Y (.nil))) ⟨aq,aq,ak⟩<|so Y Y Y<|dn<|⟨pz,iI,wR []⟩;refine aY.n<|bj ?_;cases O iI;exact RZ (.agg Y Y (.k2 Y Y) Y (.nil))
theorem mK{x0:Bool}{x1:List Int}{r:Zr}(h:dY x0 x1=some r):Pure af 152 [ay x0,aM 1 bO x1] (.agg (eZ r)):=dK (λN=>Ck N h) (λN=>(SV.eA (zI _ _)))
theorem Cm{x0:Zr}{r:Zr}(h:lH x0=some r):Pure af 113 [.agg (eZ x0)] (.agg (eZ r)):=by
 obtain⟨bt,bu⟩:=x0;refine bp Tryz.func113 Y (ae Y) (λdA M vs hvs=>?_);unfold lH at h;refine sr<|bx Y<|al (cs:=[ay false,au]) (by exact⟨aq,aD,ak⟩) Y<|dn<|qq<|bh mixed<|fa Y Y<|lV Y Y Y<|fa Y Y<|lV Y Y Y<|bE h λx7 h7 h=>cl (dJ h7) ⟨Y,ak⟩ ?_;obtain⟨⟨qw,qx⟩,h8,h⟩:=bS h;refine cl (mK h8) ⟨Y,Y,ak⟩<|so Y Y Y<|RT.done ⟨by kernel_rfl,?_⟩;refine aY.n<|bj ?_;cases O h;exact RZ (.agg Y Y (.k2 Y Y) Y (.nil))
theorem Dq{x0:Zr}{x1:Zr}{r:Bool}(h:oY x0 x1=some r):Pure af 122 [.agg (eZ x0),.agg (eZ x1)] (ay r):=by
 obtain⟨bt,bu⟩:=x0;obtain⟨cG,cC⟩:=x1;refine bp Tryz.func122 Y (ae Y) (λdA M vs hvs=>?_);unfold oY at h;refine sr<|bx Y<|bx Y<|ag Y<|dn<|qq<|qq<|bU h (λj3=>AS.cz 38 [(2,.ptr 2 0),(3,.ptr 3 0),(19,ai j3)] [(3,⟨41,[ai cG,.sv (aM 1 bk cC)]⟩),(2,⟨41,[ai bt,.sv (aM 1 bk bu)]⟩)] []) (λh=>?_) (λY3 h=>?_);refine aZ<|fa Y Y<|lV Y Y Y<|fa Y Y<|lV Y Y Y<|lE h λdN gL h=>RT.Vz .none _ Y Y T gL<|mv Y<|bE h λY4 D2 h=>?_;cases dN;refine RT.fieldAddr (.some Y Y) Y T Y<|RT.zh (.some Y Y) Y Y Y T<|lE (F D2) λeL jZ D2=>gn Y jZ<|RT.fieldAddr (.some Y Y) Y T Y<|RT.zh (.some Y Y) Y Y Y T<|lE D2 λdZ jE D2=>gn Y jE<|lE D2 λfe jB D2=>gq _ Y Y (Nh (p:=eL) (q:=dZ) jB) ?_;obtain rfl:=O D2;exact pF Y<|dn<|⟨fe,h,wR []⟩;cases O (V D2);exact ww<|ww<|ww<|ww<|ww<|ww<|ww<|pT Y<|dn<|⟨true,h,wR []⟩;refine aY.n ?_;cases Y3;refine fs<|qq<|sr<|ag Y<|dn<|bE (F h) λe9 hl9 ho9=>?_;refine bM (λ(xe9:Unit)=>AS.cz 38 [] [] []) (λxe9=>.inl xe9=e9) ?_ (λxe9 hx9=>?_);refine bf<|bN hl9 (λs9=>AS.cz 38 [(2,.ptr 2 0),(3,.ptr 3 0),(5,ah s9)] [(3,⟨41,[ai cG,.sv (aM 1 bk cC)]⟩),(2,⟨41,[ai bt,.sv (aM 1 bk bu)]⟩)] []) (wR []) (λHV y9 G9 h hG9 hE9=>?_);refine qq<|sr<|mv Y<|fa Y Y<|lV Y Y Y<|lE h λiN pJ h=>ln Y pJ<|lE h λiv oO h=>ls _ Y Y oO<|dn ?_;cases iv;refine aO ?_;cases O (F h);exact⟨(),hE9 _ Y,wR []⟩;refine aP<|qq<|bf<|qq<|bh mixed<|fa Y Y<|lV Y Y Y<|mv Y<|bE (V h) λvY Ar h=>ix Y Y Ar<|lr Y Y<|fa Y Y<|lV Y Y Y<|mv Y<|bE h λqe zE h=>ix Y Y zE<|lr Y Y<|lE h λqk BS h=>ne _ Y Y (neN (p:=vY) (q:=qe) BS)<|RT.done ⟨by kernel_rfl,?_⟩;refine aY.n ?_;cases qk;refine cF<|bC<|bJ.n<|aY.n<|aZ<|mv Y<|lE (F h) λjw pK h=>ad _ Y Y pK<|ag Y<|RT.done ?_;cases O h;exact aY.n ⟨jw,hG9 _ Y,wR []⟩;refine cT<|sr<|ag Y<|dn<|bj<|bJ.r<|aY.r ?_;cases O (V h);have he9:=hE9 _ Y;subst he9;refine aY.r<|bJ.r<|aY.r<|aY.r ?_;cases O ho9;exact R1 Y;subst hx9;refine aY.n<|sr<|ag Y<|dn<|bj ?_;cases O ho9;exact R1 Y;refine cT<|sr<|ag Y<|dn<|bj<|aY.r ?_;cases O (V h);exact R1 Y
theorem Dr{x0:Int}{r:Zr}(h:oZ x0=some r):Pure af 63 [ax x0] (.agg (eZ r)):=by
 refine bp Tryz.func63 Y (ae Y) (λdA M vs hvs=>?_);unfold oZ at h;refine sr<|al (cs:=[ay false,au]) (by exact⟨aq,aD,ak⟩) Y<|dn<|sr<|mv Y<|lE h λx5 h5 h=>cv _ Y (UK.conv h5)<|ag Y<|dn<|qq<|sr<|mv Y<|lE h λx7 h7 h=>ls _ Y Y h7<|dn<|bU h (λj2=>AS.cz 21 [(0,ah x0),(2,.ptr 2 0),(3,.sv (.v (.int .u64 ((j2:Nat):Int))))] [(2,⟨41,[ai false,.sv au]⟩)] []) (λh=>?_) (λPN h=>?_);cases x7;exact fs<|⟨x5,(F h),wR []⟩;exact cT<|aZ<|mv Y<|lE (V h) λx9 h9 h=>RT.neg .none _ Y T (UK.neg h9)<|ag Y<|dn<|⟨x9,h,wR []⟩;refine aY.n<|sr<|mv Y<|lE h λfy kR h=>ls _ Y Y kR<|mv Y<|lE h λeP jg h=>RT.rem .none _ Y Y T η (adW (a:=PN) (b:=4294967296) jg)<|lE h λeL jZ h=>cv _ Y (UK.nat jZ)<|mv Y<|lE h λfD kS h=>RT.quo .none _ Y Y T η (UK.akq (a:=PN) (b:=4294967296) kS)<|lE h λdZ jE h=>cv _ Y (UK.nat jE)<|bl (l:=[eL,dZ]) (e:=bk) (.one Y (.one Y (.nil))) Y Y Y Y Y Y<|bI (cs:=[_,_]) (cs':=[ay fy,aM 1 bk [eL,dZ]]) (.one Y (.one Y (.nil))) ⟨aq,aq,ak⟩ ?_;obtain⟨⟨Dj,Dk⟩,pA,h⟩:=bS h;refine cl (Cm pA) ⟨Y,ak⟩<|so Y Y Y<|dn<|bj ?_;cases O h;exact RZ (.agg Y Y (.k2 Y Y) Y (.nil))
end
end Go.Proofs.YtningmnklfpfjaaGreat
