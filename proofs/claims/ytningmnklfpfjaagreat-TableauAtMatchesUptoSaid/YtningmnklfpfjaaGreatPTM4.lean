/- A part of the proof: the framework, the plain functions, the followed functions, the plain laws. -/
import Derived.Test.YtningmnklfpfjaaGreatPTM3
set_option linter.unusedVariables false
set_option linter.unusedSimpArgs false
namespace Go.Proofs.YtningmnklfpfjaaGreat
section
open Go.Fw Go.Fw.Z Go.RowKit
theorem zR{x0:List Int}{x1:List Int}{r:Int}(h:mD x0 x1=some r):Pure af 199 [slc 1 (List.map bD x0),slc 1 (List.map bD x1)] (ax r):=by
 refine bj Tryz.func199 Y (ae Y) (λdw M vs hvs=>?_)
 unfold mD at h
 refine sr<|ag Y<|dn<|qq<|sr<|mv Y<|lE h λx7 h7 h=>ln Y h7<|mv Y<|lE h λx9 h9 h=>ln Y h9<|lE h λdI gC h=>RT.max .none _ Y Y T (Oo (p:=x7) (q:=x9) gC)<|lE h λfz lp h=>sb _ Y Y lp<|ag Y<|dn<|bE h λe6 vA jo=>?_
 refine bK (λ(uI:Unit)=>AS.cj 30 [] [] []) (λuI=>.inl uI=e6) ?_ (λuI vB=>?_)
 refine aY ?_
 refine bL vA (λs6=>AS.cj 30 [(0,.sv (slc 1 (List.map bD x0))),(1,.sv (slc 1 (List.map bD x1))),(5,ah s6)] [] []) (wR []) (λiD y6 G6 h vC qy=>?_)
 try dsimp only
 refine qq<|sr<|mv Y<|lE h λeD iF h=>ge _ Y Y iF<|dn ?_
 cases eD
 refine cF<|bN<|aW.x<|aW.x<|bF.x<|aW.n ?_
 obtain rfl:=O (F h)
 exact⟨(),qy _ Y,wR []⟩
 refine cT<|bw<|aW.n<|qq<|aY<|qq<|sr<|mv Y<|mv Y<|bE (V h) λeX jK h=>cl (iK jK) ⟨Y,Y,ak⟩<|mv Y<|mv Y<|bE h λfL ke h=>cl (iK ke) ⟨Y,Y,ak⟩<|lE h λiA oH h=>ls _ Y Y oH<|dn ?_
 cases iA
 refine fs<|sr<|mv Y<|mv Y<|bE (F h) λjG nO h=>cl (iK nO) ⟨Y,Y,ak⟩<|mv Y<|mv Y<|bE h λkT uO h=>cl (iK uO) ⟨Y,Y,ak⟩<|lE h λgI mZ h=>gt _ Y Y mZ<|dn ?_
 cases gI
 refine cF<|bw<|bF.n<|aW.n<|aX<|mv Y<|lE (F h) λdH gD h=>sb _ Y Y gD<|ag Y<|RT.done ?_
 obtain rfl:=O h
 exact aW.n ⟨dH,vC _ Y,wR []⟩
 refine cT<|sr<|ag Y<|dn<|bf<|bF.r<|aW.r ?_
 obtain rfl:=O (V h)
 have GJ:=qy _ Y
 subst GJ
 refine aW.r<|bF.r<|aW.r<|aW.r ?_
 obtain rfl:=O jo
 exact R1 Y
 refine cT<|sr<|ag Y<|dn<|bf<|aW.r<|bF.r<|aW.r ?_
 obtain rfl:=O (V h)
 have GJ:=qy _ Y
 subst GJ
 refine aW.r<|bF.r<|aW.r<|aW.r ?_
 obtain rfl:=O jo
 exact R1 Y
 subst vB
 try dsimp only
 refine aW.n<|sr<|ag Y<|dn<|bf ?_
 obtain rfl:=O jo
 exact R1 Y
theorem zS{x0:List Int}{x1:List Int}{r:List Int}(h:kD x0 x1=some r):Pure af 197 [slc 1 (List.map bD x0),slc 1 (List.map bD x1)] (slc 1 (List.map bD r)):=by
 refine bj Tryz.func197 Y (ae Y) (λdw M vs hvs=>?_)
 unfold kD at h
 refine sr<|aI Y (aB (n:=1) (e:=bD))<|dn<|sr<|ag Y<|dn<|bR (c8 5 304 3 1 Y Y T)<|sr<|ag Y<|dn<|qq<|sr<|ag Y<|dn<|bE h λEc wW ko=>?_
 refine bK (λ(zO:(List Int))=>AS.cj 43 [(5,.row 306)] [] [(306,TR 3 1 bD zO)]) (λzO=>zO=Ec) ?_ (λzO uS=>?_)
 refine aY ?_
 refine bL wW (λpA=>AS.cj 43 [(0,.sv (slc 1 (List.map bD x0))),(1,.sv (slc 1 (List.map bD x1))),(5,.row 306),(6,ah pA.1),(7,ah pA.2.1)] [] [(306,TR 3 1 bD pA.2.2)]) (cD (λi=>bif Nat.beq i 306 then 304 else i) Y Y Y Y Y ⟨.sv aq,.sv aq,.row Y,.sv aq,.sv aq,ak⟩ trivial ⟨⟨_,Y,cg.refl _⟩,ak⟩ (λi hi=>by rw[bV (show i≠306 by omega)];rfl)) (λpA ZK ZL h yp vI=>?_)
 obtain⟨GW,RM,I3⟩:=pA
 try dsimp only
 refine qq<|qq ?_
 refine bJ h (λj22=>AS.cj 43 [(0,.sv (slc 1 (List.map bD x0))),(1,.sv (slc 1 (List.map bD x1))),(5,.row 306),(6,ah GW),(7,ah RM),(22,ai j22)] [] [(306,TR 3 1 bD I3)]) (λh=>?_) (λRN h=>?_)
 refine aX<|mv Y<|mv Y<|lE h λfz lp h=>ln Y lp<|lE h λc9 fC h=>ls _ Y Y fC<|mv Y<|bE h λRG jq h=>?_
 cases c9
 refine gm Y<|gm Y<|lE (F jq) λfB lq jq=>gn Y lq<|lE jq λdX jO jq=>RT.lss (.some Y Y) _ Y Y T jO ?_
 obtain rfl:=O jq
 refine pF Y<|mv Y<|bE h λXz kn h=>?_
 cases dX
 refine gm Y<|lE (F kn) λfL ke kn=>gg _ Y Y ke ?_
 obtain rfl:=O kn
 exact pF Y<|dn<|⟨fL,h,wR []⟩
 obtain rfl:=O (V kn)
 exact ww<|ww<|pT Y<|dn<|⟨true,h,wR []⟩
 obtain rfl:=O (V jq)
 refine ww<|ww<|ww<|ww<|pT Y<|mv Y<|bE h λaoA ue h=>?_
 obtain rfl:=O (V ue)
 exact ww<|ww<|pT Y<|dn<|⟨true,h,wR []⟩
 try dsimp only
 refine aW.n ?_
 cases RN
 refine cF<|bN<|aW.x<|aW.x<|bF.x<|aW.n ?_
 obtain rfl:=O (F h)
 exact⟨I3,vI _ Y,wR []⟩
 refine cT<|bw<|aW.n<|qq<|aY<|sr<|mv Y<|mv Y<|bE (V h) λiO pN h=>cl (iK pN) ⟨Y,Y,ak⟩<|mv Y<|mv Y<|bE h λoF vD h=>cl (iK vD) ⟨Y,Y,ak⟩<|lE h λnU yz h=>ad _ Y Y yz<|mv Y<|lE h λoD xp h=>ad _ Y Y xp<|ag Y<|dn<|sr<|mo (s:=.row _) Y<|mv Y<|lE h λpg yJ h=>?_
 refine RT.rem .none _ Y Y T (by decide) yJ<|bl (l:=[pg]) (e:=bD) (.one Y (.nil)) Y Y Y Y Y Y<|bE h λqX Ay h=>aR (k:=[pg]) (e:=bD) Y Y Y Ay<|an (s:=.row _) Y<|dn<|aX<|mv Y<|lE h λnj vm h=>RT.quo .none _ Y Y T (by decide) vm<|ag Y<|RT.done<|bF.n<|aW.n<|aX<|mv Y<|lE h λgX oY h=>ad _ Y Y oY<|ag Y<|RT.done ?_
 obtain rfl:=O h
 exact aW.n ⟨(nj,gX,qX),yp _ Y,cD (λi=>bif Nat.beq i 306 then 38 else i) Y Y Y Y Y ⟨.sv aq,.sv aq,.row Y,.sv aq,.sv aq,ak⟩ trivial ⟨⟨_,Y,cg.refl _⟩,ak⟩ (λi hi=>by rw[bV (show i≠306 by omega)];rfl)⟩
 subst uS
 try dsimp only
 refine aW.n<|qq<|bR (cV (i:=306) (E1:=3) (n:=1) (e:=bD) (l:=zO) Y)<|aX<|mv Y<|bE ko λnE ym ko=>cl (fR ym) ⟨Y,ak⟩<|ag Y<|dn<|bf ?_
 obtain rfl:=O ko
 exact R1 Y
theorem vJ{x0:List Int}{x1:List Int}{r:List Int}(h:jz x0 x1=some r):Pure af 198 [slc 1 (List.map bD x0),slc 1 (List.map bD x1)] (slc 1 (List.map bD r)):=by
 refine bj Tryz.func198 Y (ae Y) (λdw M vs hvs=>?_)
 unfold jz at h
 refine sr<|aI Y (aB (n:=1) (e:=bD))<|dn<|sr<|ag Y<|dn<|bR (c8 5 304 3 1 Y Y T)<|sr<|ag Y<|dn<|qq<|sr<|ag Y<|dn<|bE h λe8 Ko Ch=>?_
 refine bK (λ(yg:(List Int))=>AS.cj 34 [(5,.row 306)] [] [(306,TR 3 1 bD yg)]) (λyg=>yg=e8) ?_ (λyg Mv=>?_)
 refine aY ?_
 refine bL Ko (λs8=>AS.cj 34 [(0,.sv (slc 1 (List.map bD x0))),(1,.sv (slc 1 (List.map bD x1))),(5,.row 306),(6,ah s8.1),(7,ah s8.2.1)] [] [(306,TR 3 1 bD s8.2.2)]) (cD (λi=>bif Nat.beq i 306 then 304 else i) Y Y Y Y Y ⟨.sv aq,.sv aq,.row Y,.sv aq,.sv aq,ak⟩ trivial ⟨⟨_,Y,cg.refl _⟩,ak⟩ (λi hi=>by rw[bV (show i≠306 by omega)];rfl)) (λs8 y8 G8 h Mw Mx=>?_)
 obtain⟨OD,UI,yf⟩:=s8
 try dsimp only
 refine qq<|sr<|mv Y<|mv Y<|lE h λfz lp h=>ln Y lp<|lE h λc9 fC h=>ls _ Y Y fC<|dn ?_
 cases c9
 refine cF<|bN<|aW.x<|aW.x<|bF.x<|aW.n ?_
 obtain rfl:=O (F h)
 exact⟨yf,Mx _ Y,wR []⟩
 refine cT<|bw<|aW.n<|qq<|aY<|sr<|mv Y<|mv Y<|bE (V h) λdX jO h=>cl (iK jO) ⟨Y,Y,ak⟩<|mv Y<|mv Y<|bE h λij oG h=>cl (iK oG) ⟨Y,Y,ak⟩<|lE h λfL ke h=>sb _ Y Y ke<|mv Y<|lE h λjg qP h=>sb _ Y Y qP<|ag Y<|dn<|sr<|ag Y<|dn<|qq<|sr<|mv Y<|lE h λjG nO h=>?_
 refine ls _ Y Y nO<|dn ?_
 refine bJ h (λTd=>AS.cj 34 [(0,.sv (slc 1 (List.map bD x0))),(1,.sv (slc 1 (List.map bD x1))),(5,.row 306),(6,ah Td.1),(7,ah UI),(8,ah Td.2)] [] [(306,TR 3 1 bD yf)]) (λh=>?_) (λTd h=>?_)
 cases jG
 exact fs<|⟨(0,jg),(F h),wR []⟩
 exact cT<|sr<|mv Y<|lE (V h) λiO pN h=>ad _ Y Y pN<|ag Y<|dn<|aX<|ag Y<|dn<|⟨(1,iO),h,wR []⟩
 obtain⟨af2,aaK⟩:=Td
 try dsimp only
 refine aW.n<|aX<|mo (s:=.row _) Y<|mv Y<|bl (l:=[aaK]) (e:=bD) (.one Y (.nil)) Y Y Y Y Y Y<|bE h λnU yz h=>aR (k:=[aaK]) (e:=bD) Y Y Y yz<|an (s:=.row _) Y<|RT.done<|bF.n<|aW.n<|aX<|mv Y<|lE h λei jx h=>ad _ Y Y jx<|ag Y<|RT.done ?_
 obtain rfl:=O h
 exact aW.n ⟨(af2,ei,nU),Mw _ Y,cD (λi=>bif Nat.beq i 306 then 31 else i) Y Y Y Y Y ⟨.sv aq,.sv aq,.row Y,.sv aq,.sv aq,ak⟩ trivial ⟨⟨_,Y,cg.refl _⟩,ak⟩ (λi hi=>by rw[bV (show i≠306 by omega)];rfl)⟩
 subst Mv
 try dsimp only
 refine aW.n<|qq<|bR (cV (i:=306) (E1:=3) (n:=1) (e:=bD) (l:=yg) Y)<|aX<|mv Y<|bE Ch λoD xp Ch=>cl (fR xp) ⟨Y,ak⟩<|ag Y<|dn<|bf ?_
 obtain rfl:=O Ch
 exact R1 Y
theorem lZ{x0:List Int}{r:Int}(h:gE x0=some r):Pure af 208 [slc 1 (List.map bD x0)] (ax r):=by
 refine bj Tryz.func208 Y (ae Y) (λdw M vs hvs=>?_)
 unfold gE at h
 refine sr<|ag Y<|dn<|sr<|ag Y<|dn<|qq<|sr<|mv Y<|lE h λx6 h6 h=>ln Y h6<|lE h λx7 h7 h=>sb _ Y Y h7<|ag Y<|dn<|bE h λe6 vA jo=>?_
 refine bK (λ(yT:Int)=>AS.cj 20 [(3,ah yT)] [] []) (λyT=>yT=e6) ?_ (λyT vB=>?_)
 refine aY ?_
 refine bL vA (λs6=>AS.cj 20 [(0,.sv (slc 1 (List.map bD x0))),(3,ah s6.1),(4,ah s6.2)] [] []) (wR []) (λs6 y6 G6 h vC qy=>?_)
 obtain⟨ua,qQ⟩:=s6
 try dsimp only
 refine qq<|sr<|mv Y<|lE h λx9 h9 h=>ge _ Y Y h9<|dn ?_
 cases x9
 refine cF<|bN<|aW.x<|aW.x<|bF.x<|aW.n ?_
 obtain rfl:=O (F h)
 exact⟨ua,qy _ Y,wR []⟩
 refine cT<|bw<|aW.n<|qq<|aY<|aX<|mv Y<|lE (V h) λeD iF h=>RT.mul .none _ Y Y T iF<|mv Y<|mv Y<|bE h λfB lq h=>ix Y Y lq<|lr Y Y<|lE h λeX jK h=>ad _ Y Y jK<|ag Y<|RT.done<|bF.n<|aW.n<|aX<|mv Y<|lE h λfz lp h=>sb _ Y Y lp<|ag Y<|RT.done ?_
 obtain rfl:=O h
 exact aW.n ⟨(eX,fz),vC _ Y,wR []⟩
 subst vB
 try dsimp only
 refine aW.n<|sr<|mv Y<|ag Y<|dn<|bf ?_
 obtain rfl:=O jo
 exact R1 Y
theorem yq{x0:Int}{r:List Int}(h:mQ x0=some r):Pure af 207 [ax x0] (slc 1 (List.map bD r)):=by
 refine bj Tryz.func207 Y (ae Y) (λdw M vs hvs=>?_)
 unfold mQ at h
 refine sr<|aI Y (aB (n:=1) (e:=bD))<|dn<|sr<|mv Y<|lE h λx4 h4 h=>RT.rem .none _ Y Y T (by decide) h4<|mv Y<|lE h λx6 h6 h=>RT.quo .none _ Y Y T (by decide) h6<|lE h λx7 h7 h=>RT.rem .none _ Y Y T (by decide) h7<|mv Y<|lE h λx9 h9 h=>RT.quo .none _ Y Y T (by decide) h9<|lE h λdI gC h=>RT.quo .none _ Y Y T (by decide) gC<|bl (l:=[x4,x7,dI]) (e:=bD) (.one Y (.one Y (.one Y (.nil)))) Y Y Y Y Y Y ?_
 refine bE h λc9 fC h=>cl (fR fC) ⟨Y,ak⟩<|ag Y<|dn<|bf ?_
 obtain rfl:=O h
 exact R1 Y
theorem wY{x0:List Int}{x1:Int}{r:List Int}(h:gG x0 x1=some r):Pure af 209 [slc 1 (List.map bD x0),ax x1] (slc 1 (List.map bD r)):=by
 refine bj Tryz.func209 Y (ae Y) (λdw M vs hvs=>?_)
 unfold gG at h
 refine sr<|aI Y (aB (n:=1) (e:=bD))<|dn<|sr<|ag Y<|dn<|bR (c8 5 304 3 1 Y Y T)<|sr<|ag Y<|dn<|qq<|sr<|ag Y<|dn<|bE h λFm yh pq=>?_
 refine bK (λ(jU:(List Int))=>AS.cj 35 [(5,.row 306)] [] [(306,TR 3 1 bD jU)]) (λjU=>jU=Fm) ?_ (λjU yj=>?_)
 refine aY ?_
 refine bL yh (λuH=>AS.cj 35 [(0,.sv (slc 1 (List.map bD x0))),(1,ah x1),(5,.row 306),(6,ah uH.1),(7,ah uH.2.1)] [] [(306,TR 3 1 bD uH.2.2)]) (cD (λi=>bif Nat.beq i 306 then 304 else i) Y Y Y Y Y ⟨.sv aq,.sv aq,.row Y,.sv aq,.sv aq,ak⟩ trivial ⟨⟨_,Y,cg.refl _⟩,ak⟩ (λi hi=>by rw[bV (show i≠306 by omega)];rfl)) (λuH ZD ZE h yl uN=>?_)
 obtain⟨KA,Xs,og⟩:=uH
 try dsimp only
 refine qq<|qq ?_
 refine bJ h (λGI=>AS.cj 35 [(0,.sv (slc 1 (List.map bD x0))),(1,ah x1),(5,.row 306),(6,ah KA),(7,ah Xs),(16,ai GI)] [] [(306,TR 3 1 bD og)]) (λh=>?_) (λDi h=>?_)
 refine aX<|mv Y<|mv Y<|lE h λfz lp h=>ln Y lp<|lE h λc9 fC h=>ls _ Y Y fC<|mv Y<|bE h λI4 dD h=>?_
 cases c9
 refine gm Y<|lE (F dD) λdH gD dD=>gg _ Y Y gD ?_
 obtain rfl:=O dD
 exact pF Y<|dn<|⟨dH,h,wR []⟩
 obtain rfl:=O (V dD)
 exact ww<|ww<|pT Y<|dn<|⟨true,h,wR []⟩
 try dsimp only
 refine aW.n ?_
 cases Di
 refine cF<|bN<|aW.x<|aW.x<|bF.x<|aW.n ?_
 obtain rfl:=O (F h)
 exact⟨og,uN _ Y,wR []⟩
 refine cT<|bw<|aW.n<|qq<|aY<|sr<|mv Y<|mv Y<|bE (V h) λfL ke h=>cl (iK ke) ⟨Y,Y,ak⟩<|mv Y<|lE h λjg qP h=>RT.mul .none _ Y Y T qP<|mv Y<|lE h λjG nO h=>ad _ Y Y nO<|ag Y<|dn<|sr<|mo (s:=.row _) Y<|mv Y<|lE h λkT uO h=>RT.rem .none _ Y Y T (by decide) uO<|bl (l:=[kT]) (e:=bD) (.one Y (.nil)) Y Y Y Y Y Y ?_
 refine bE h λoF vD h=>aR (k:=[kT]) (e:=bD) Y Y Y vD<|an (s:=.row _) Y<|dn<|aX<|mv Y<|lE h λiP pW h=>RT.quo .none _ Y Y T (by decide) pW<|ag Y<|RT.done<|bF.n<|aW.n<|aX<|mv Y<|lE h λeX jK h=>ad _ Y Y jK<|ag Y<|RT.done ?_
 obtain rfl:=O h
 exact aW.n ⟨(iP,eX,oF),yl _ Y,cD (λi=>bif Nat.beq i 306 then 30 else i) Y Y Y Y Y ⟨.sv aq,.sv aq,.row Y,.sv aq,.sv aq,ak⟩ trivial ⟨⟨_,Y,cg.refl _⟩,ak⟩ (λi hi=>by rw[bV (show i≠306 by omega)];rfl)⟩
 subst yj
 try dsimp only
 refine aW.n<|qq<|bR (cV (i:=306) (E1:=3) (n:=1) (e:=bD) (l:=jU) Y)<|aX<|mv Y<|bE pq λsX xu pq=>cl (fR xu) ⟨Y,ak⟩<|ag Y<|dn<|bf ?_
 obtain rfl:=O pq
 exact R1 Y
theorem M4{x0:List Int}{x1:List Int}{r:List Int}(h:uf x0 x1=some r):Pure af 200 [slc 1 (List.map bD x0),slc 1 (List.map bD x1)] (slc 1 (List.map bD r)):=by
 refine bj Tryz.func200 Y (ae Y) (λdw M vs hvs=>?_)
 unfold uf at h
 refine sr<|aI Y (aB (n:=1) (e:=bD))<|dn<|qq<|sr<|mv Y<|lE h λx9 h9 h=>ln Y h9<|mv Y<|lE h λfz lp h=>ln Y lp<|lE h λc9 fC h=>ad _ Y Y fC<|lE h λeD iF h=>RT.leq .none _ Y Y T iF<|dn ?_
 cases eD
 refine fs<|sr<|aI Y (aB (n:=1) (e:=bD))<|dn<|qq<|sr<|mv Y<|lE (F h) λfL ke h=>ln Y ke<|lE h λiA oH h=>sb _ Y Y oH<|ag Y<|dn<|bE h λEc wW ko=>?_
 refine bK (λ(yW:(List Int))=>AS.cj 51 [(5,.sv (slc 1 (List.map bD yW)))] [] []) (λyW=>yW=Ec) ?_ (λyW uS=>?_)
 refine aY ?_
 refine bL wW (λpA=>AS.cj 51 [(0,.sv (slc 1 (List.map bD x0))),(1,.sv (slc 1 (List.map bD x1))),(5,.sv (slc 1 (List.map bD pA.1))),(6,ah pA.2)] [] []) (wR []) (λpA ZK ZL h yp vI=>?_)
 obtain⟨qh,GW⟩:=pA
 try dsimp only
 refine qq<|sr<|mv Y<|lE h λgX oY h=>ge _ Y Y oY<|dn ?_
 cases gX
 refine cF<|bN<|aW.x<|aW.x<|bF.x<|aW.n ?_
 obtain rfl:=O (F h)
 exact⟨qh,vI _ Y,wR []⟩
 refine cT<|bw<|aW.n<|qq<|aY<|sr<|RT.Mj (l:=[0]) (e:=bD) .none (.one Y (.nil)) T Y T Y Y Y Y Y Y<|mv Y<|bE (V h) λgI mZ h=>RT.Z9 (k:=qh) (e:=bD) .none Y Y Y T Y T mZ<|ag Y<|dn<|sr<|ag Y<|dn<|bE h λe22 M5 o8=>?_
 refine bK (λ(Eh:(List Int))=>AS.cj 51 [(0,.sv (slc 1 (List.map bD x0))),(1,.sv (slc 1 (List.map bD x1))),(5,.sv (slc 1 (List.map bD Eh))),(6,ah GW)] [] []) (λEh=>Eh=e22) ?_ (λEh M6=>?_)
 refine aY ?_
 refine bL M5 (λAF=>AS.cj 51 [(0,.sv (slc 1 (List.map bD x0))),(1,.sv (slc 1 (List.map bD x1))),(5,.sv (slc 1 (List.map bD AF.1))),(6,ah GW),(7,ah AF.2)] [] []) (wR []) (λAF y22 G22 h M7 M8=>?_)
 obtain⟨I5,su⟩:=AF
 try dsimp only
 refine qq<|sr<|mv Y<|mv Y<|mv Y<|bE h λoD xp h=>ix Y Y xp<|lr Y Y<|lE h λku vE h=>ls _ Y Y vE<|dn ?_
 cases ku
 refine cF<|bN<|aW.x<|aW.x<|bF.x<|aW.n ?_
 obtain rfl:=O (F h)
 exact⟨I5,M8 _ Y,wR []⟩
 refine cT<|bw<|aW.n<|qq<|aY<|aX<|mv Y<|mv Y<|mv Y<|mv Y<|bE (V h) λnE ym h=>ix Y Y ym<|lr Y Y<|mv Y<|lE h λzu Io h=>sb _ Y Y Io<|lE h λvg h46 h=>RT.min .none _ Y Y T (V5 (p:=1024) (q:=zu) h46)<|bE h λsE zH h=>cl (wY zH) ⟨Y,Y,ak⟩<|bE h λr9 h48 h=>cl (zS h48) ⟨Y,Y,ak⟩<|ag Y ?_
 refine RT.done<|bF.n<|aW.n<|aX<|mv Y<|lE h λuG DW h=>ad _ Y Y DW<|ag Y<|RT.done ?_
 obtain rfl:=O h
 exact aW.n ⟨(r9,uG),M7 _ Y,wR []⟩
 subst M6
 try dsimp only
 refine bF.n<|aW.n<|aX<|mv Y<|lE o8 λjH rV o8=>sb _ Y Y rV<|ag Y<|RT.done ?_
 obtain rfl:=O o8
 exact aW.n ⟨(Eh,jH),yp _ Y,wR []⟩
 subst uS
 try dsimp only
 refine aW.n<|sr<|mv Y<|bE ko λAB Kn ko=>cl (fR Kn) ⟨Y,ak⟩<|ag Y<|dn<|bf ?_
 obtain rfl:=O ko
 exact R1 Y
 refine cT<|sr<|mv Y<|bE (V h) λdH gD h=>cl (lZ gD) ⟨Y,ak⟩<|mv Y<|bE h λdX jO h=>cl (lZ jO) ⟨Y,ak⟩<|lE h λeX jK h=>RT.mul .none _ Y Y T jK<|bE h λjl mw h=>cl (yq mw) ⟨Y,ak⟩<|ag Y<|dn<|bf<|aW.r ?_
 obtain rfl:=O h
 exact R1 Y
set_option maxHeartbeats 4000000 in
theorem Ei{x0:List Int}{x1:List Int}{r:(List Int)×(List Int)}(h:qD x0 x1=some r):Pure af 196 [slc 1 (List.map bD x0),slc 1 (List.map bD x1)] (.Ce [slc 1 (List.map bD r.1),slc 1 (List.map bD r.2)]):=by
 refine bj Tryz.func196 Y (ae Y) (λdw M vs hvs=>?_)
 unfold qD at h
 refine sr<|aI Y (aB (n:=1) (e:=bD))<|aI Y (aB (n:=1) (e:=bD))<|dn<|qq<|qq ?_
 refine bJ h (λj3=>AS.cj 120 [(0,.sv (slc 1 (List.map bD x0))),(1,.sv (slc 1 (List.map bD x1))),(21,ai j3)] [] []) (λh=>?_) (λXt h=>?_)
 refine aX<|mv Y<|lE h λdH gD h=>ln Y gD<|lE h λfB lq h=>RT.leq .none _ Y Y T lq<|mv Y<|bE h λXx PI h=>?_
 cases fB
 obtain rfl:=O (F PI)
 exact ww<|ww<|ww<|pF Y<|dn<|⟨false,h,wR []⟩
 refine gm Y<|lE (V PI) λjl mw PI=>gn Y mw<|lE PI λij oG PI=>RT.leq (.some Y Y) _ Y Y T oG ?_
 obtain rfl:=O PI
 exact pT Y<|dn<|⟨ij,h,wR []⟩
 try dsimp only
 refine aW.n ?_
 cases Xt
 refine fs<|sr<|mv Y<|lE (F h) λku vE h=>ln Y vE<|bE h λpg yJ h=>RT.tK (n:=1) (e:=bD) .none Y Y T Y T (by rfl) (by decide) (by exact⟨aq,ak⟩) yJ<|an (s:=.row _) Y<|dn<|qq<|sr<|mv Y<|lE h λqX Ay h=>ln Y Ay<|lE h λvY DX h=>eq _ Y Y (ve (p:=qX) (q:=1) DX)<|dn ?_
 cases vY
 refine fs<|sr<|aI Y (aB (n:=1) (e:=bD))<|dn<|qq<|sr<|mv Y<|lE (F h) λx73 h73 h=>ln Y h73<|lE h λx74 h74 h=>sb _ Y Y h74<|ag Y<|dn<|bE h λe44 aoC af7=>?_
 refine bK (λ(UJ:(List Int)×(List Int))=>AS.cj 120 [(6,.row 36),(9,.sv (slc 1 (List.map bD UJ.1)))] [] [(36,TR 3 1 bD UJ.2)]) (λUJ=>UJ=e44) ?_ (λUJ aoD=>?_)
 refine aY ?_
 refine bL aoC (λs44=>AS.cj 120 [(0,.sv (slc 1 (List.map bD x0))),(1,.sv (slc 1 (List.map bD x1))),(6,.row 36),(9,.sv (slc 1 (List.map bD s44.1))),(10,ah s44.2.1)] [] [(36,TR 3 1 bD s44.2.2)]) (wR []) (λs44 y44 G44 h aoE aoF=>?_)
 obtain⟨PE,zP,zQ⟩:=s44
 try dsimp only
 refine qq<|sr<|mv Y<|lE h λx76 h76 h=>ge _ Y Y h76<|dn ?_
 cases x76
 refine cF<|bN<|aW.x<|aW.x<|bF.x<|aW.n ?_
 obtain rfl:=O (F h)
 exact⟨(PE,zQ),aoF _ Y,wR []⟩
 refine cT<|bw<|aW.n<|qq<|aY<|sr<|mv Y<|mv Y<|bE (V h) λx81 h81 h=>ix Y Y h81<|lr Y Y<|RT.Mj (l:=[x81]) (e:=bD) .none (.one Y (.nil)) T Y T Y Y Y Y Y Y<|mv Y<|bE h λx85 h85 h=>RT.Z9 (k:=PE) (e:=bD) .none Y Y Y T Y T h85<|bE h λRa h86 h=>cl (fR h86) ⟨Y,ak⟩<|ag Y<|dn<|sr<|ag Y<|ag Y ?_
 refine dn<|qq<|sr<|mv Y<|lE h λx88 h88 h=>ln Y h88<|mv Y<|lE h λVr h90 h=>ln Y h90<|lE h λx91 h91 h=>ls _ Y Y h91<|dn ?_
 refine bJ h (λj46=>AS.cj 120 [(0,.sv (slc 1 (List.map bD x0))),(1,.sv (slc 1 (List.map bD x1))),(6,.row 36),(9,.sv (slc 1 (List.map bD Ra))),(10,ah zP),(11,ah 0),(12,ah j46)] [] [(36,TR 3 1 bD zQ)]) (λh=>?_) (λXv h=>?_)
 cases x91
 exact fs<|⟨65536,(F h),wR []⟩
 exact cT<|aX<|ag Y<|dn<|⟨1,(V h),wR []⟩
 try dsimp only
 refine aW.n<|qq<|bE h λe54 aoG I9=>?_
 refine bK (λ(Br:Int)=>AS.cj 120 [(0,.sv (slc 1 (List.map bD x0))),(1,.sv (slc 1 (List.map bD x1))),(6,.row 36),(9,.sv (slc 1 (List.map bD Ra))),(10,ah zP),(11,ah Br)] [] [(36,TR 3 1 bD zQ)]) (λBr=>Br=e54) ?_ (λBr aoH=>?_)
 refine aY ?_
 refine bL aoG (λs54=>AS.cj 120 [(0,.sv (slc 1 (List.map bD x0))),(1,.sv (slc 1 (List.map bD x1))),(6,.row 36),(9,.sv (slc 1 (List.map bD Ra))),(10,ah zP),(11,ah s54.1),(12,ah s54.2)] [] [(36,TR 3 1 bD zQ)]) (wR []) (λs54 y54 G54 h aoI aoJ=>?_)
 obtain⟨rz,wX⟩:=s54
 try dsimp only
 refine qq<|sr<|mv Y<|mv Y<|lE h λLH XA h=>sb _ Y Y XA<|lE h λx95 h95 h=>gt _ Y Y h95<|dn ?_
 cases x95
 refine cF<|bN<|aW.x<|aW.x<|bF.x<|aW.n ?_
 obtain rfl:=O (F h)
 exact⟨rz,aoJ _ Y,wR []⟩
 refine cT<|bw<|aW.n<|aY<|sr<|mv Y<|mv Y<|lE (V h) λZJ h98 h=>ad _ Y Y h98<|lE h λx99 h99 h=>RT.quo .none _ Y Y T (by decide) h99<|ag Y<|dn<|sr<|mv Y<|mv Y<|bE h λKk Wy h=>cl (wY Wy) ⟨Y,Y,ak⟩<|mv Y<|bE h λKm WA h=>cl (zR WA) ⟨Y,Y,ak⟩<|lE h λUt afm h=>RT.leq .none _ Y Y T afm<|dn ?_
 refine bJ h (λj56=>AS.cj 120 [(0,.sv (slc 1 (List.map bD x0))),(1,.sv (slc 1 (List.map bD x1))),(6,.row 36),(9,.sv (slc 1 (List.map bD Ra))),(10,ah zP),(11,ah j56.1),(12,ah j56.2)] [] [(36,TR 3 1 bD zQ)]) (λh=>?_) (λj56 h=>?_)
 cases Ut
 exact cF<|aX<|mv Y<|ag Y<|dn<|⟨(rz,x99),(F h),wR []⟩
 exact cT<|aX<|mv Y<|ag Y<|dn<|⟨(x99,wX),(V h),wR []⟩
 obtain⟨RQ,RR⟩:=j56
 try dsimp only
 refine bF.n ?_
 obtain rfl:=O h
 exact aW.n ⟨(RQ,RR),aoI _ Y,wR []⟩
 subst aoH
 try dsimp only
 refine aW.n<|aX<|mo (s:=.row _) Y<|mv Y<|mv Y<|mv Y<|mv Y<|mv Y<|bE I9 λRb afn I9=>cl (wY afn) ⟨Y,Y,ak⟩<|bE I9 λXw aoK I9=>cl (vJ aoK) ⟨Y,Y,ak⟩<|bE I9 λaaL aoL I9=>iR Y Y Y aoL<|bE I9 λl58 ajQ I9=>sR Br Y Y Y Y ajQ<|ag Y<|RT.done<|bF.n<|aW.n<|aX<|mv Y<|lE I9 λJ5 UH I9=>?_
 refine sb _ Y Y UH<|ag Y<|RT.done ?_
 obtain rfl:=O I9
 exact aW.n ⟨(Xw,J5,l58),aoE _ Y,wR []⟩
 subst aoD
 obtain⟨adf,RU⟩:=UJ
 try dsimp only
 refine aW.n<|qq<|bR (cV (i:=36) (E1:=3) (n:=1) (e:=bD) (l:=RU) Y)<|aX<|mv Y<|bE af7 λCo RV af7=>cl (fR RV) ⟨Y,ak⟩<|mv Y<|ag Y<|ag Y<|dn<|bf ?_
 obtain rfl:=O af7
 exact R2 Y Y
 refine cT<|sr<|ag Y<|dn<|qq<|sr<|mv Y<|lE (V h) λyF GK h=>ln Y GK<|lE h λnE ym h=>sb _ Y Y ym<|ag Y<|dn<|bE h λe18 Xg sM=>?_
 refine bK (λ(KB:Int×(List Int))=>AS.cj 120 [(6,.row 36),(7,ah KB.1)] [] [(36,TR 3 1 bD KB.2)]) (λKB=>KB=e18) ?_ (λKB Xh=>?_)
 refine aY ?_
 refine bL Xg (λQE=>AS.cj 120 [(0,.sv (slc 1 (List.map bD x0))),(1,.sv (slc 1 (List.map bD x1))),(6,.row 36),(7,ah QE.1),(8,ah QE.2.1)] [] [(36,TR 3 1 bD QE.2.2)]) (wR []) (λQE y18 G18 h Xi RJ=>?_)
 obtain⟨Tp,PD,I6⟩:=QE
 try dsimp only
 refine qq<|sr<|mv Y<|lE h λsj Az h=>ge _ Y Y Az<|dn ?_
 cases sj
 refine cF<|bN<|aW.x<|aW.x<|bF.x<|aW.n ?_
 obtain rfl:=O (F h)
 exact⟨(Tp,I6),RJ _ Y,wR []⟩
 refine cT<|bw<|aW.n<|qq<|aY<|sr<|mv Y<|lE (V h) λr9 h48 h=>RT.mul .none _ Y Y T h48<|mv Y<|mv Y<|bE h λBT Ip h=>ix Y Y Ip<|lr Y Y<|lE h λKy Rh h=>ad _ Y Y Rh<|ag Y<|dn<|aZ mixed<|mo (s:=.row _) Y<|mv Y<|mv Y<|mv Y<|bE h λAx Rg h=>ix Y Y Rg<|lr Y Y<|bE h λDx N5 h=>?_
 refine RT.quo .none _ Y Y T (nzI N5) (V6 N5)<|mv Y<|mv Y<|bE h λx63 h63 h=>ix Y Y h63<|lr Y Y<|bE h λN4 Vs h=>RT.rem .none _ Y Y T (aeJ Vs) (aeK Vs)<|bE h λQ7 h66 h=>iR Y Y Y h66<|bE h λZI Xj h=>sR Dx Y Y Y Y Xj<|ag Y ?_
 refine RT.done ⟨by kernel_rfl,?_⟩
 refine bF.n<|aW.n<|aX<|mv Y<|lE h λvg h46 h=>sb _ Y Y h46<|ag Y<|RT.done ?_
 obtain rfl:=O h
 exact aW.n ⟨(N4,vg,ZI),Xi _ Y,wR []⟩
 subst Xh
 obtain⟨Xu,RO⟩:=KB
 try dsimp only
 refine aW.n<|qq<|bR (cV (i:=36) (E1:=3) (n:=1) (e:=bD) (l:=RO) Y)<|aX<|mv Y<|bE sM λQ8 h68 sM=>cl (fR h68) ⟨Y,ak⟩<|mv Y<|bl (l:=[Xu]) (e:=bD) (.one Y (.nil)) Y Y Y Y Y Y<|bE sM λHr Xl sM=>cl (fR Xl) ⟨Y,ak⟩<|ag Y<|ag Y<|dn<|bf<|aW.r ?_
 obtain rfl:=O sM
 exact R2 Y Y
 refine cT<|sr<|mv Y<|bE (V h) λjg qP h=>cl (lZ qP) ⟨Y,ak⟩<|mv Y<|bE h λjG nO h=>cl (lZ nO) ⟨Y,ak⟩<|bE h λjH rV h=>RT.quo .none _ Y Y T (nzI rV) (V6 rV)<|bE h λiO pN h=>cl (yq pN) ⟨Y,ak⟩<|mv Y<|bE h λgI mZ h=>cl (lZ mZ) ⟨Y,ak⟩<|mv Y<|bE h λnU yz h=>cl (lZ yz) ⟨Y,ak⟩ ?_
 refine bE h λiP pW h=>RT.rem .none _ Y Y T (aeJ pW) (aeK pW)<|bE h λoD xp h=>cl (yq xp) ⟨Y,ak⟩<|ag Y<|ag Y<|dn<|bf<|aW.r ?_
 obtain rfl:=O h
 exact R2 Y Y
end
section
open Go.Fw Go.Fw.Z Go.RowKit
theorem jB{x0:Zr}{r:Int}(h:fV x0=some r):Pure af 109 [.agg (eZ x0)] (ax r):=by
 obtain⟨bk,bn⟩:=x0
 refine bj Tryz.func109 Y (ae Y) (λdw M vs hvs=>?_)
 unfold fV at h
 refine sr<|bx Y<|ag Y<|dn<|qq<|sr<|fa Y Y<|lV Y Y Y<|bE h λx5 h5 h=>cl (dz h5) ⟨Y,ak⟩<|lE h λx6 h6 h=>ln Y h6<|lE h λx7 h7 h=>eq _ Y Y (ve (p:=x6) (q:=0) h7)<|dn ?_
 cases x7
 refine fs<|qq<|sr<|fa Y Y<|lV Y Y Y<|dn ?_
 replace h:=F h
 cases bk
 refine fs<|sr<|ag Y<|dn<|bf ?_
 obtain rfl:=O (F h)
 exact R1 Y
 refine cT<|sr<|ag Y<|dn<|bf<|aW.r ?_
 obtain rfl:=O (V h)
 exact R1 Y
 refine cT<|sr<|ag Y<|dn<|bf<|aW.r ?_
 obtain rfl:=O (V h)
 exact R1 Y
theorem M9{x0:Zr}{x1:Zr}{r:Int}(h:ug x0 x1=some r):Pure af 172 [.agg (eZ x0),.agg (eZ x1)] (ax r):=by
 obtain⟨bk,bn⟩:=x0
 obtain⟨cu,cm⟩:=x1
 refine bj Tryz.func172 Y (ae Y) (λdw M vs hvs=>?_)
 unfold ug at h
 refine sr<|bx Y<|bx Y<|ag Y<|dn<|qq<|qq<|aZ mixed<|ld Y Y (.k2 Y Y)<|bE h λx7 h7 h=>cl (jB h7) ⟨Y,ak⟩<|ld Y Y (.k2 Y Y)<|bE h λx9 h9 h=>cl (jB h9) ⟨Y,ak⟩<|lE h λdI gC h=>ne _ Y Y (JY (p:=x7) (q:=x9) gC) ?_
 refine RT.done ⟨by kernel_rfl,?_⟩
 refine aW.n ?_
 cases dI
 refine fs<|qq<|aZ mixed<|fa Y Y<|lV Y Y Y<|bE (F h) λeX jK h=>cl (dz jK) ⟨Y,ak⟩<|fa Y Y<|lV Y Y Y<|bE h λfL ke h=>cl (dz ke) ⟨Y,ak⟩<|bE h λiA oH h=>cl (zR oH) ⟨Y,Y,ak⟩<|ag Y ?_
 refine RT.done ⟨by kernel_rfl,?_⟩
 refine aW.n<|qq<|sr<|ld Y Y (.k2 Y Y)<|bE h λgX oY h=>cl (jB oY) ⟨Y,ak⟩<|lE h λjG nO h=>ls _ Y Y nO<|dn ?_
 cases jG
 refine fs<|sr<|mv Y<|ag Y<|dn<|bf ?_
 obtain rfl:=O (F h)
 exact R1 Y
 refine cT<|sr<|mv Y<|lE (V h) λiO pN h=>RT.neg .none _ Y T pN<|ag Y<|dn<|bf<|aW.r ?_
 obtain rfl:=O h
 exact R1 Y
 refine cT<|qq<|qq<|aZ mixed<|ld Y Y (.k2 Y Y)<|bE (V h) λc9 fC h=>cl (jB fC) ⟨Y,ak⟩<|ld Y Y (.k2 Y Y)<|bE h λei jx h=>cl (jB jx) ⟨Y,ak⟩<|lE h λdH gD h=>ls _ Y Y gD ?_
 refine RT.done ⟨by kernel_rfl,?_⟩
 refine aW.n ?_
 cases dH
 refine fs<|sr<|ag Y<|dn<|bf<|aW.r ?_
 obtain rfl:=O (F h)
 exact R1 Y
 refine cT<|sr<|ag Y<|dn<|bf<|aW.r<|aW.r ?_
 obtain rfl:=O (V h)
 exact R1 Y
theorem Ej{x0:Zr}{r:Zr}(h:qE x0=some r):Pure af 147 [.agg (eZ x0)] (.agg (eZ r)):=by
 obtain⟨bk,bn⟩:=x0
 refine bj Tryz.func147 Y (ae Y) (λdw M vs hvs=>?_)
 unfold qE at h
 refine sr<|bx Y<|al (cs:=[ay false,au]) (by exact⟨aq,aB,ak⟩) Y<|dn<|qq<|aZ mixed<|fa Y Y<|lV Y Y Y<|lE h λx5 h5 h=>nt Y _ h5<|fa Y Y<|lV Y Y Y<|bE h λx8 h8 h=>cl (dz h8) ⟨Y,ak⟩ ?_
 obtain⟨⟨PF,PG⟩,h9,h⟩:=bS h
 refine cl (jA h9) ⟨Y,Y,ak⟩<|so Y Y Y ?_
 refine RT.done ⟨by kernel_rfl,?_⟩
 refine aW.n<|bf ?_
 obtain rfl:=O h
 exact RZ (.agg Y Y (.k2 Y Y) Y (.nil))
theorem Na{x0:Zr}{r:Zr}(h:uh x0=some r):Pure af 174 [.agg (eZ x0)] (.agg (eZ r)):=by
 obtain⟨bk,bn⟩:=x0
 refine bj Tryz.func174 Y (ae Y) (λdw M vs hvs=>?_)
 unfold uh at h
 refine sr<|bx Y<|al (cs:=[ay false,au]) (by exact⟨aq,aB,ak⟩) Y<|dn<|sr<|fa Y Y<|lV Y Y Y<|bE h λx5 h5 h=>cl (dz h5) ⟨Y,ak⟩ ?_
 obtain⟨⟨I7,I8⟩,h6,h⟩:=bS h
 refine cl (jA h6) ⟨Y,Y,ak⟩<|so Y Y Y<|dn<|bf ?_
 obtain rfl:=O h
 exact RZ (.agg Y Y (.k2 Y Y) Y (.nil))
theorem Nb{x0:Zr}{x1:Zr}{r:Zr}(h:uj x0 x1=some r):Pure af 182 [.agg (eZ x0),.agg (eZ x1)] (.agg (eZ r)):=by
 obtain⟨bk,bn⟩:=x0
 obtain⟨cu,cm⟩:=x1
 refine bj Tryz.func182 Y (ae Y) (λdw M vs hvs=>?_)
 unfold uj at h
 refine sr<|bx Y<|bx Y<|al (cs:=[ay false,au]) (by exact⟨aq,aB,ak⟩) Y<|dn<|qq<|aZ mixed<|fa Y Y<|lV Y Y Y<|bE h λx9 h9 h=>cl (dz h9) ⟨Y,ak⟩<|fa Y Y<|lV Y Y Y<|bE h λc9 fC h=>cl (dz fC) ⟨Y,ak⟩<|ag Y<|ag Y ?_
 refine RT.done ⟨by kernel_rfl,?_⟩
 refine aW.n<|qq<|sr<|fa Y Y<|lV Y Y Y<|fa Y Y<|lV Y Y Y<|lE h λdX jO h=>RT.ZT .none _ Y Y T jO<|dn ?_
 cases dX
 refine fs<|qq<|sr<|mv Y<|mv Y<|bE (F h) λjH rV h=>cl (zR rV) ⟨Y,Y,ak⟩<|lE h λiO pN h=>ge _ Y Y pN<|dn ?_
 cases iO
 refine fs<|qq<|aZ mixed<|fa Y Y<|lV Y Y Y<|mv Y<|mv Y<|bE (F h) λqX Ay h=>cl (vJ Ay) ⟨Y,Y,ak⟩ ?_
 obtain⟨⟨Ea,Eb⟩,DX,h⟩:=bS h
 refine cl (jA DX) ⟨Y,Y,ak⟩<|so Y Y Y ?_
 refine RT.done ⟨by kernel_rfl,?_⟩
 refine aW.n<|bf ?_
 obtain rfl:=O h
 exact RZ (.agg Y Y (.k2 Y Y) Y (.nil))
 refine cT<|qq<|aZ mixed<|fa Y Y<|lV Y Y Y<|mv Y<|mv Y<|bE (V h) λiP pW h=>cl (vJ pW) ⟨Y,Y,ak⟩ ?_
 obtain⟨⟨CB,CC⟩,xp,h⟩:=bS h
 refine cl (jA xp) ⟨Y,Y,ak⟩<|so Y Y Y ?_
 refine RT.done ⟨by kernel_rfl,?_⟩
 refine aW.n<|bf<|aW.r ?_
 obtain rfl:=O h
 exact RZ (.agg Y Y (.k2 Y Y) Y (.nil))
 refine cT<|qq<|aZ mixed<|fa Y Y<|lV Y Y Y<|mv Y<|mv Y<|bE (V h) λiA oH h=>cl (zS oH) ⟨Y,Y,ak⟩ ?_
 obtain⟨⟨Ap,Aq⟩,qP,h⟩:=bS h
 refine cl (jA qP) ⟨Y,Y,ak⟩<|so Y Y Y ?_
 refine RT.done ⟨by kernel_rfl,?_⟩
 refine aW.n<|bf<|aW.r ?_
 obtain rfl:=O h
 exact RZ (.agg Y Y (.k2 Y Y) Y (.nil))
theorem rB{x0:Zr}{x1:Zr}{r:Zr}(h:kE x0 x1=some r):Pure af 181 [.agg (eZ x0),.agg (eZ x1)] (.agg (eZ r)):=by
 obtain⟨bk,bn⟩:=x0
 obtain⟨cu,cm⟩:=x1
 refine bj Tryz.func181 Y (ae Y) (λdw M vs hvs=>?_)
 unfold kE at h
 refine sr<|bx Y<|bx Y<|al (cs:=[ay false,au]) (by exact⟨aq,aB,ak⟩) Y<|dn<|qq<|aZ mixed<|fa Y Y<|lV Y Y Y<|fa Y Y<|lV Y Y Y<|lE h λx9 h9 h=>RT.T9 .none _ Y Y T h9<|fa Y Y<|lV Y Y Y<|bE h λc9 fC h=>cl (dz fC) ⟨Y,ak⟩<|fa Y Y ?_
 refine lV Y Y Y<|bE h λdH gD h=>cl (dz gD) ⟨Y,ak⟩<|bE h λfB lq h=>cl (M4 lq) ⟨Y,Y,ak⟩ ?_
 obtain⟨⟨q9,rf⟩,jO,h⟩:=bS h
 refine cl (jA jO) ⟨Y,Y,ak⟩<|so Y Y Y ?_
 refine RT.done ⟨by kernel_rfl,?_⟩
 refine aW.n<|bf ?_
 obtain rfl:=O h
 exact RZ (.agg Y Y (.k2 Y Y) Y (.nil))
theorem Ek{x0:Zr}{x1:Zr}{r:Zr×Zr×Int}(h:qF x0 x1=some r):Pure af 171 [.agg (eZ x0),.agg (eZ x1)] (.Ce [.agg (eZ r.1),.agg (eZ r.2.1),ax r.2.2]):=by
 obtain⟨bk,bn⟩:=x0
 obtain⟨cu,cm⟩:=x1
 refine bj Tryz.func171 Y (ae Y) (λdw M vs hvs=>?_)
 unfold qF at h
 refine sr<|bx Y<|bx Y<|al (cs:=[ay false,au]) (by exact⟨aq,aB,ak⟩) Y<|al (cs:=[ay false,au]) (by exact⟨aq,aB,ak⟩) Y<|ag Y<|dn<|qq<|aZ mixed<|fa Y Y<|lV Y Y Y<|bE h λeD iF h=>cl (dz iF) ⟨Y,ak⟩<|fa Y Y ?_
 refine lV Y Y Y<|bE h λfB lq h=>cl (dz lq) ⟨Y,ak⟩<|ag Y<|ag Y ?_
 refine RT.done ⟨by kernel_rfl,?_⟩
 refine aW.n<|qq<|sr<|mv Y<|lE h λeX jK h=>ln Y jK<|lE h λjl mw h=>eq _ Y Y (ve (p:=eX) (q:=0) mw)<|dn ?_
 cases jl
 refine fs<|sr<|mv Y<|mv Y ?_
 obtain⟨⟨Im,Mt⟩,nO,h⟩:=bS (F h)
 refine cl (Ei nO) ⟨Y,Y,ak⟩<|mv Y<|ex Y Y<|ex Y Y<|ag Y<|ag Y<|dn<|qq<|qq ?_
 refine bJ h (λj3=>AS.cj 50 [(2,.ptr 2 0),(3,.ptr 3 0),(4,.ptr 4 0),(5,.ptr 5 0),(8,.sv (slc 1 (List.map bD fB))),(9,.sv (slc 1 (List.map bD Im))),(10,.sv (slc 1 (List.map bD Mt))),(34,ai j3.1)] [(5,⟨41,[ai false,.sv au]⟩),(4,⟨41,[ai false,.sv au]⟩),(3,⟨41,[ai cu,.sv (slc 1 (List.map bh cm))]⟩),(2,⟨41,[ai j3.2,.sv (slc 1 (List.map bh bn))]⟩)] []) (λh=>?_) (λj3 h=>?_)
 refine aX<|fa Y Y<|lV Y Y Y<|mv Y<|bE h λadg MD h=>?_
 cases bk
 obtain rfl:=O (F MD)
 exact ww<|ww<|ww<|pF Y<|dn<|⟨(false,false),h,wR []⟩
 refine gm Y<|lE (V MD) λiP pW MD=>gn Y pW<|lE MD λoD xp MD=>gg _ Y Y xp ?_
 obtain rfl:=O MD
 exact pT Y<|dn<|⟨(oD,true),h,wR []⟩
 obtain⟨Xy,C0⟩:=j3
 try dsimp only
 refine aW.n ?_
 refine bJ h (λj5=>AS.cj 50 [(2,.ptr 2 0),(3,.ptr 3 0),(4,.ptr 4 0),(5,.ptr 5 0),(9,.sv (slc 1 (List.map bD j5.1))),(10,.sv (slc 1 (List.map bD j5.2)))] [(5,⟨41,[ai false,.sv au]⟩),(4,⟨41,[ai false,.sv au]⟩),(3,⟨41,[ai cu,.sv (slc 1 (List.map bh cm))]⟩),(2,⟨41,[ai C0,.sv (slc 1 (List.map bh bn))]⟩)] []) (λh=>?_) (λj5 h=>?_)
 cases Xy
 exact fs<|⟨(Im,Mt),(F h),wR []⟩
 exact cT<|sr<|mv Y<|bl (l:=[1]) (e:=bD) (.one Y (.nil)) Y Y Y Y Y Y<|bE (V h) λuG DW h=>cl (zS DW) ⟨Y,Y,ak⟩<|ag Y<|dn<|aX<|mv Y<|mv Y<|bE h λnj vm h=>cl (vJ vm) ⟨Y,Y,ak⟩<|ag Y<|dn<|⟨(uG,nj),h,wR []⟩
 obtain⟨Wp,OL⟩:=j5
 try dsimp only
 refine aW.n<|sr<|fa Y Y<|lV Y Y Y<|fa Y Y<|lV Y Y Y<|lE h λzu Io h=>RT.T9 .none _ Y Y T Io<|mv Y ?_
 obtain⟨⟨F8,F9⟩,zH,h⟩:=bS h
 refine cl (jA zH) ⟨Y,Y,ak⟩<|mv Y ?_
 obtain⟨⟨OM,ON⟩,Rf,h⟩:=bS h
 refine cl (jA Rf) ⟨Y,Y,ak⟩<|so Y Y Y<|so Y Y Y<|ag Y<|dn<|bf ?_
 obtain rfl:=O h
 exact RZ (.agg Y Y (.k2 Y Y) Y (.agg Y Y (.k2 Y Y) Y (.tmp Y (.nil))))
 refine cT<|sr<|bI (cs:=[_,_]) (cs':=[ay false,au]) (.nil) ⟨aq,aB,ak⟩<|bI (cs:=[_,_]) (cs':=[ay false,au]) (.nil) ⟨aq,aB,ak⟩<|so Y Y Y<|so Y Y Y<|ag Y<|dn<|bf<|aW.r ?_
 obtain rfl:=O (V h)
 exact RZ (.agg Y Y (.k2 Y Y) Y (.agg Y Y (.k2 Y Y) Y (.tmp Y (.nil))))
theorem Nc{x0:Zr}{x1:Zr}{r:Zr}(h:uo x0 x1=some r):Pure af 170 [.agg (eZ x0),.agg (eZ x1)] (.agg (eZ r)):=by
 obtain⟨bk,bn⟩:=x0
 obtain⟨cu,cm⟩:=x1
 refine bj Tryz.func170 Y (ae Y) (λdw M vs hvs=>?_)
 unfold uo at h
 refine sr<|bx Y<|bx Y<|al (cs:=[ay false,au]) (by exact⟨aq,aB,ak⟩) Y<|dn<|qq<|aZ mixed<|fa Y Y<|lV Y Y Y<|bE h λfz lp h=>cl (dz lp) ⟨Y,ak⟩<|fa Y Y<|lV Y Y Y<|bE h λei jx h=>cl (dz jx) ⟨Y,ak⟩<|ag Y<|ag Y ?_
 refine RT.done ⟨by kernel_rfl,?_⟩
 refine aW.n<|qq<|bE h λe6 vA jo=>?_
 refine bK (λ(wE:(List Int))=>AS.cj 28 [(4,.ptr 4 0),(5,.sv (slc 1 (List.map bD wE)))] [(4,⟨41,[ai false,.sv au]⟩)] []) (λwE=>wE=e6) ?_ (λwE vB=>?_)
 refine aY ?_
 refine bL vA (λs6=>AS.cj 28 [(4,.ptr 4 0),(5,.sv (slc 1 (List.map bD s6.1))),(6,.sv (slc 1 (List.map bD s6.2)))] [(4,⟨41,[ai false,.sv au]⟩)] []) (wR []) (λs6 y6 G6 h vC qy=>?_)
 obtain⟨iD,mz⟩:=s6
 try dsimp only
 refine qq<|sr<|mv Y<|lE h λfB lq h=>ln Y lq<|lE h λdX jO h=>gt _ Y Y jO<|dn ?_
 cases dX
 refine cF<|bN<|aW.x<|aW.x<|bF.x<|aW.n ?_
 obtain rfl:=O (F h)
 exact⟨iD,qy _ Y,wR []⟩
 refine cT<|bw<|aW.n<|aY<|sr<|mv Y<|mv Y ?_
 obtain⟨⟨aoy,af5⟩,ke,h⟩:=bS (V h)
 refine cl (Ei ke) ⟨Y,Y,ak⟩<|mv Y<|ex Y Y<|ex Y Y<|ag Y<|ag Y<|dn<|aX<|mv Y<|mv Y<|ag Y<|ag Y<|RT.done<|bF.n ?_
 obtain rfl:=O h
 exact aW.n ⟨(mz,af5),vC _ Y,wR []⟩
 subst vB
 try dsimp only
 refine aW.n<|sr<|mv Y ?_
 obtain⟨⟨S3,OG⟩,pN,jo⟩:=bS jo
 refine cl (jA pN) ⟨Y,Y,ak⟩<|so Y Y Y<|dn<|bf ?_
 obtain rfl:=O jo
 exact RZ (.agg Y Y (.k2 Y Y) Y (.nil))
end
section
open Go.Fw
noncomputable def qG:Option (Zr):=(oM 1).bind λ⟨cu,cm⟩=>some ⟨cu,cm⟩
noncomputable def gh(x0:Qr):Option (Zr):=match x0 with|⟨⟨bk,bn⟩,⟨bt,bB⟩⟩=>(fV ⟨bt,bB⟩).bind λx5=>(some (decide ((x5:Int)=0))).bind λx6=>(bif x6 then(qG).bind λ⟨qi,qj⟩=>some ⟨qi,qj⟩else(uh ⟨bt,bB⟩).bind λ⟨A3,A4⟩=>some ⟨A3,A4⟩)
noncomputable def gQ(x0:Qr):Option (Zr):=match x0 with|⟨⟨bk,bn⟩,⟨bt,bB⟩⟩=>(fV ⟨bt,bB⟩).bind λx5=>(some (decide ((x5:Int)<0))).bind λx6=>(bif x6 then(qE ⟨bk,bn⟩).bind λ⟨PF,PG⟩=>some ⟨PF,PG⟩else(kZ ⟨bk,bn⟩).bind λ⟨jh,iX⟩=>some ⟨jh,iX⟩)
noncomputable def kF(x0:Zr)(x1:Zr):Option (Qr):=match x0 with|⟨bk,bn⟩=>match x1 with|⟨cu,cm⟩=>(uo ⟨bk,bn⟩ ⟨cu,cm⟩).bind λ⟨xH,xI⟩=>(qF ⟨bk,bn⟩ ⟨xH,xI⟩).bind λ⟨⟨kg,kj⟩,⟨nZ,n7⟩,WK⟩=>(qF ⟨cu,cm⟩ ⟨xH,xI⟩).bind λ⟨⟨Nd,Nf⟩,⟨af8,af9⟩,aoM⟩=>(qG).bind λ⟨sn,sq⟩=>(ug ⟨Nd,Nf⟩ ⟨sn,sq⟩).bind λnU=>(some (decide ((nU:Int)=0))).bind λiP=>(bif iP then some ⟨⟨kg,kj⟩,⟨false,[]⟩⟩else some ⟨⟨kg,kj⟩,⟨Nd,Nf⟩⟩)
noncomputable def nq(x0:Qr):Option (Qr):=match x0 with|⟨⟨bk,bn⟩,⟨bt,bB⟩⟩=>(gQ ⟨⟨bk,bn⟩,⟨bt,bB⟩⟩).bind λ⟨Cj,Ck⟩=>(gh ⟨⟨bk,bn⟩,⟨bt,bB⟩⟩).bind λ⟨I7,I8⟩=>(kF ⟨Cj,Ck⟩ ⟨I7,I8⟩).bind λ⟨⟨qi,qj⟩,⟨Dk,Dl⟩⟩=>some ⟨⟨qi,qj⟩,⟨Dk,Dl⟩⟩
noncomputable def wZ(x0:Qr)(x1:Qr):Option (Bool):=match x0 with|⟨⟨bk,bn⟩,⟨bt,bB⟩⟩=>match x1 with|⟨⟨cu,cm⟩,⟨eE,eG⟩⟩=>cE (λ(ajR:Bool)=>some ajR) λK3=>(oL ⟨bk,bn⟩ ⟨cu,cm⟩).bind λx9=>(bif x9 then(oL ⟨bt,bB⟩ ⟨eE,eG⟩).bind λdH=>some dH else some false).bind λadh=>K3 adh
noncomputable def iL(x0:Int):Option (Qr):=(oM x0).bind λ⟨Cj,Ck⟩=>some ⟨⟨Cj,Ck⟩,⟨false,[]⟩⟩
noncomputable def mE(x0:Qr)(x1:Qr):Option (Qr):=match x0 with|⟨⟨bk,bn⟩,⟨bt,bB⟩⟩=>match x1 with|⟨⟨cu,cm⟩,⟨eE,eG⟩⟩=>(gQ ⟨⟨bk,bn⟩,⟨bt,bB⟩⟩).bind λ⟨rZ,r5⟩=>(gh ⟨⟨cu,cm⟩,⟨eE,eG⟩⟩).bind λ⟨A3,A4⟩=>(kE ⟨rZ,r5⟩ ⟨A3,A4⟩).bind λ⟨xF,xG⟩=>(gQ ⟨⟨cu,cm⟩,⟨eE,eG⟩⟩).bind λ⟨AY,AZ⟩=>(gh ⟨⟨bk,bn⟩,⟨bt,bB⟩⟩).bind λ⟨jQ,jR⟩=>(kE ⟨AY,AZ⟩ ⟨jQ,jR⟩).bind λ⟨qu,qw⟩=>(uj ⟨xF,xG⟩ ⟨qu,qw⟩).bind λ⟨lS,lT⟩=>(gh ⟨⟨bk,bn⟩,⟨bt,bB⟩⟩).bind λ⟨l7,l8⟩=>(gh ⟨⟨cu,cm⟩,⟨eE,eG⟩⟩).bind λ⟨Ap,Aq⟩=>(kE ⟨l7,l8⟩ ⟨Ap,Aq⟩).bind λ⟨vn,vo⟩=>(kF ⟨lS,lT⟩ ⟨vn,vo⟩).bind λ⟨⟨nF,m8⟩,⟨tX,tY⟩⟩=>some ⟨⟨nF,m8⟩,⟨tX,tY⟩⟩
noncomputable def oh(x0:Qr):Option (Qr):=match x0 with|⟨⟨bk,bn⟩,⟨bt,bB⟩⟩=>(gQ ⟨⟨bk,bn⟩,⟨bt,bB⟩⟩).bind λ⟨Cj,Ck⟩=>(qE ⟨Cj,Ck⟩).bind λ⟨Bb,C4⟩=>(gh ⟨⟨bk,bn⟩,⟨bt,bB⟩⟩).bind λ⟨qi,qj⟩=>(kF ⟨Bb,C4⟩ ⟨qi,qj⟩).bind λ⟨⟨rZ,r5⟩,⟨C6,C7⟩⟩=>some ⟨⟨rZ,r5⟩,⟨C6,C7⟩⟩
noncomputable def ur(x0:Qr)(x1:Qr):Option (Qr):=match x0 with|⟨⟨bk,bn⟩,⟨bt,bB⟩⟩=>match x1 with|⟨⟨cu,cm⟩,⟨eE,eG⟩⟩=>(oh ⟨⟨cu,cm⟩,⟨eE,eG⟩⟩).bind λ⟨⟨qi,qj⟩,⟨Dk,Dl⟩⟩=>(mE ⟨⟨bk,bn⟩,⟨bt,bB⟩⟩ ⟨⟨qi,qj⟩,⟨Dk,Dl⟩⟩).bind λ⟨⟨rZ,r5⟩,⟨C6,C7⟩⟩=>some ⟨⟨rZ,r5⟩,⟨C6,C7⟩⟩
noncomputable def kG(x0:Qr)(x1:Qr):Option (Qr):=match x0 with|⟨⟨bk,bn⟩,⟨bt,bB⟩⟩=>match x1 with|⟨⟨cu,cm⟩,⟨eE,eG⟩⟩=>(gQ ⟨⟨bk,bn⟩,⟨bt,bB⟩⟩).bind λ⟨I7,I8⟩=>(gQ ⟨⟨cu,cm⟩,⟨eE,eG⟩⟩).bind λ⟨rZ,r5⟩=>(kE ⟨I7,I8⟩ ⟨rZ,r5⟩).bind λ⟨PF,PG⟩=>(gh ⟨⟨bk,bn⟩,⟨bt,bB⟩⟩).bind λ⟨xF,xG⟩=>(gh ⟨⟨cu,cm⟩,⟨eE,eG⟩⟩).bind λ⟨AY,AZ⟩=>(kE ⟨xF,xG⟩ ⟨AY,AZ⟩).bind λ⟨xH,xI⟩=>(kF ⟨PF,PG⟩ ⟨xH,xI⟩).bind λ⟨⟨jQ,jR⟩,⟨xK,xL⟩⟩=>some ⟨⟨jQ,jR⟩,⟨xK,xL⟩⟩
noncomputable def kH(x0:Qr):Option (Int):=match x0 with|⟨⟨bk,bn⟩,⟨bt,bB⟩⟩=>(gQ ⟨⟨bk,bn⟩,⟨bt,bB⟩⟩).bind λ⟨Cj,Ck⟩=>(fV ⟨Cj,Ck⟩).bind λx5=>some x5
noncomputable def uu(x0:Qr)(x1:Qr):Option (Qr×Int):=match x0 with|⟨⟨bk,bn⟩,⟨bt,bB⟩⟩=>match x1 with|⟨⟨cu,cm⟩,⟨eE,eG⟩⟩=>(kH ⟨⟨cu,cm⟩,⟨eE,eG⟩⟩).bind λx7=>(some (decide ((x7:Int)=0))).bind λx8=>(bif x8 then some (⟨⟨false,[]⟩,⟨false,[]⟩⟩,7)else(gh ⟨⟨cu,cm⟩,⟨eE,eG⟩⟩).bind λ⟨jh,iX⟩=>(gQ ⟨⟨cu,cm⟩,⟨eE,eG⟩⟩).bind λ⟨xH,xI⟩=>(nq ⟨⟨jh,iX⟩,⟨xH,xI⟩⟩).bind λ⟨⟨qu,qw⟩,⟨Ph,Pj⟩⟩=>(kG ⟨⟨bk,bn⟩,⟨bt,bB⟩⟩ ⟨⟨qu,qw⟩,⟨Ph,Pj⟩⟩).bind λ⟨⟨q9,rf⟩,⟨Ak,Al⟩⟩=>some (⟨⟨q9,rf⟩,⟨Ak,Al⟩⟩,0))
noncomputable def uw(x0:Qr)(x1:Qr):Option (Int):=match x0 with|⟨⟨bk,bn⟩,⟨bt,bB⟩⟩=>match x1 with|⟨⟨cu,cm⟩,⟨eE,eG⟩⟩=>(ur ⟨⟨bk,bn⟩,⟨bt,bB⟩⟩ ⟨⟨cu,cm⟩,⟨eE,eG⟩⟩).bind λ⟨⟨qi,qj⟩,⟨Dk,Dl⟩⟩=>(kH ⟨⟨qi,qj⟩,⟨Dk,Dl⟩⟩).bind λx8=>some x8
end
section
open Go.Fw Go.Fw.Z Go.RowKit
theorem El{r:Zr}(h:qG=some r):Pure af 173 [] (.agg (eZ r)):=by
 refine bj Tryz.func173 Y (ae Y) (λdw M vs hvs=>?_)
 unfold qG at h
 refine sr<|al (cs:=[ay false,au]) (by exact⟨aq,aB,ak⟩) Y<|dn<|sr ?_
 obtain⟨⟨cu,cm⟩,h1,h⟩:=bS h
 refine cl (CH h1) ⟨Y,ak⟩<|so Y Y Y<|dn<|bf ?_
 obtain rfl:=O h
 exact RZ (.agg Y Y (.k2 Y Y) Y (.nil))
theorem jr{x0:Qr}{r:Zr}(h:gh x0=some r):Pure af 143 [.agg (eQ x0)] (.agg (eZ r)):=by
 obtain⟨⟨bk,bn⟩,⟨bt,bB⟩⟩:=x0
 refine bj Tryz.func143 Y (ae Y) (λdw M vs hvs=>?_)
 unfold gh at h
 refine sr<|bx Y<|al (cs:=[ay false,au]) (by exact⟨aq,aB,ak⟩) Y<|dn<|qq<|sr<|fa Y Y<|ld Y Y (.k2 Y Y)<|bE h λx5 h5 h=>cl (jB h5) ⟨Y,ak⟩<|lE h λx6 h6 h=>eq _ Y Y (ve (p:=x5) (q:=0) h6)<|dn ?_
 cases x6
 refine fs<|sr<|fa Y Y<|ld Y Y (.k2 Y Y) ?_
 obtain⟨⟨A3,A4⟩,gC,h⟩:=bS (F h)
 refine cl (Na gC) ⟨Y,ak⟩<|so Y Y Y<|dn<|bf ?_
 obtain rfl:=O h
 exact RZ (.agg Y Y (.k2 Y Y) Y (.nil))
 refine cT<|sr ?_
 obtain⟨⟨qi,qj⟩,h7,h⟩:=bS (V h)
 refine cl (El h7) trivial<|so Y Y Y<|dn<|bf<|aW.r ?_
 obtain rfl:=O h
 exact RZ (.agg Y Y (.k2 Y Y) Y (.nil))
theorem kI{x0:Qr}{r:Zr}(h:gQ x0=some r):Pure af 110 [.agg (eQ x0)] (.agg (eZ r)):=by
 obtain⟨⟨bk,bn⟩,⟨bt,bB⟩⟩:=x0
 refine bj Tryz.func110 Y (ae Y) (λdw M vs hvs=>?_)
 unfold gQ at h
 refine sr<|bx Y<|al (cs:=[ay false,au]) (by exact⟨aq,aB,ak⟩) Y<|dn<|qq<|sr<|fa Y Y<|ld Y Y (.k2 Y Y)<|bE h λx5 h5 h=>cl (jB h5) ⟨Y,ak⟩<|lE h λx6 h6 h=>ls _ Y Y h6<|dn ?_
 cases x6
 refine fs<|sr<|fa Y Y<|ld Y Y (.k2 Y Y) ?_
 obtain⟨⟨jh,iX⟩,fC,h⟩:=bS (F h)
 refine cl (Bs fC) ⟨Y,ak⟩<|so Y Y Y<|dn<|bf ?_
 obtain rfl:=O h
 exact RZ (.agg Y Y (.k2 Y Y) Y (.nil))
 refine cT<|sr<|fa Y Y<|ld Y Y (.k2 Y Y) ?_
 obtain⟨⟨PF,PG⟩,h9,h⟩:=bS (V h)
 refine cl (Ej h9) ⟨Y,ak⟩<|so Y Y Y<|dn<|bf<|aW.r ?_
 obtain rfl:=O h
 exact RZ (.agg Y Y (.k2 Y Y) Y (.nil))
theorem tc{x0:Zr}{x1:Zr}{r:Qr}(h:kF x0 x1=some r):Pure af 142 [.agg (eZ x0),.agg (eZ x1)] (.agg (eQ r)):=by
 obtain⟨bk,bn⟩:=x0
 obtain⟨cu,cm⟩:=x1
 refine bj Tryz.func142 Y (ae Y) (λdw M vs hvs=>?_)
 unfold kF at h
 refine sr<|bx Y<|bx Y<|al (cs:=[ay false,au,ay false,au]) (by exact⟨aq,aB,aq,aB,ak⟩) Y<|dn<|sr<|ld Y Y (.k2 Y Y)<|ld Y Y (.k2 Y Y) ?_
 obtain⟨⟨xH,xI⟩,jx,h⟩:=bS h
 refine cl (Nc jx) ⟨Y,Y,ak⟩<|al (cs:=[ay false,au]) (by exact⟨aq,aB,ak⟩) Y<|so Y Y Y<|dn<|sr<|ld Y Y (.k2 Y Y)<|ld Y Y (.k2 Y Y) ?_
 obtain⟨⟨⟨kg,kj⟩,⟨nZ,n7⟩,WK⟩,jK,h⟩:=bS h
 refine cl (Ek jK) ⟨Y,Y,ak⟩<|mv Y<|ex Y Y<|ex Y Y<|ex Y Y<|al (cs:=[ay false,au]) (by exact⟨aq,aB,ak⟩) Y<|al (cs:=[ay false,au]) (by exact⟨aq,aB,ak⟩) Y<|so Y Y Y<|so Y Y Y<|ag Y<|dn<|sr<|ld Y Y (.k2 Y Y) ?_
 refine ld Y Y (.k2 Y Y) ?_
 obtain⟨⟨⟨Nd,Nf⟩,⟨af8,af9⟩,aoM⟩,nO,h⟩:=bS h
 refine cl (Ek nO) ⟨Y,Y,ak⟩<|mv Y<|ex Y Y<|ex Y Y<|ex Y Y<|al (cs:=[ay false,au]) (by exact⟨aq,aB,ak⟩) Y<|al (cs:=[ay false,au]) (by exact⟨aq,aB,ak⟩) Y<|so Y Y Y<|so Y Y Y<|ag Y<|dn<|qq<|qq<|aZ mixed<|ld Y Y (.k2 Y Y) ?_
 obtain⟨⟨sn,sq⟩,vD,h⟩:=bS h
 refine cl (El vD) trivial<|bE h λnU yz h=>cl (M9 yz) ⟨Y,Y,ak⟩<|lE h λiP pW h=>eq _ Y Y (ve (p:=nU) (q:=0) pW) ?_
 refine RT.done ⟨by kernel_rfl,?_⟩
 refine aW.n ?_
 cases iP
 refine fs<|sr<|ld Y Y (.k2 Y Y)<|ld Y Y (.k2 Y Y)<|bI (cs:=[_,_,_,_]) (cs':=[ay kg,slc 1 (List.map bh kj),ay Nd,slc 1 (List.map bh Nf)]) (.agg Y (.agg Y (.nil))) ⟨aq,aq,aq,aq,ak⟩<|so Y Y Y<|dn<|bf ?_
 obtain rfl:=O (F h)
 exact RZ (.agg Y Y (.k4 Y Y Y Y) Y (.nil))
 refine cT<|sr<|ld Y Y (.k2 Y Y)<|bI (cs:=[_,_,_,_]) (cs':=[ay kg,slc 1 (List.map bh kj),ay false,au]) (.agg Y (.nil)) ⟨aq,aq,aq,aB,ak⟩<|so Y Y Y<|dn<|bf<|aW.r ?_
 obtain rfl:=O (V h)
 exact RZ (.agg Y Y (.k4 Y Y Y Y) Y (.nil))
theorem Bt{x0:Qr}{r:Qr}(h:nq x0=some r):Pure af 101 [.agg (eQ x0)] (.agg (eQ r)):=by
 obtain⟨⟨bk,bn⟩,⟨bt,bB⟩⟩:=x0
 refine bj Tryz.func101 Y (ae Y) (λdw M vs hvs=>?_)
 unfold nq at h
 refine sr<|bx Y<|al (cs:=[ay false,au,ay false,au]) (by exact⟨aq,aB,aq,aB,ak⟩) Y<|dn<|qq<|aZ mixed<|ld Y Y (.k4 Y Y Y Y) ?_
 obtain⟨⟨Cj,Ck⟩,h4,h⟩:=bS h
 refine cl (kI h4) ⟨Y,ak⟩<|ld Y Y (.k4 Y Y Y Y) ?_
 obtain⟨⟨I7,I8⟩,h6,h⟩:=bS h
 refine cl (jr h6) ⟨Y,ak⟩ ?_
 obtain⟨⟨⟨qi,qj⟩,⟨Dk,Dl⟩⟩,h7,h⟩:=bS h
 refine cl (tc h7) ⟨Y,Y,ak⟩<|so Y Y Y ?_
 refine RT.done ⟨by kernel_rfl,?_⟩
 refine aW.n<|bf ?_
 obtain rfl:=O h
 exact RZ (.agg Y Y (.k4 Y Y Y Y) Y (.nil))
theorem PJ{x0:Qr}{x1:Qr}{r:Bool}(h:wZ x0 x1=some r):Pure af 79 [.agg (eQ x0),.agg (eQ x1)] (ay r):=by
 obtain⟨⟨bk,bn⟩,⟨bt,bB⟩⟩:=x0
 obtain⟨⟨cu,cm⟩,⟨eE,eG⟩⟩:=x1
 refine bj Tryz.func79 Y (ae Y) (λdw M vs hvs=>?_)
 unfold wZ at h
 refine sr<|bx Y<|bx Y<|ag Y<|dn<|qq ?_
 refine bJ h (λj3=>AS.cj 17 [(4,ai j3)] [] []) (λh=>?_) (λajR h=>?_)
 refine aX<|fa Y Y<|ld Y Y (.k2 Y Y)<|fa Y Y<|ld Y Y (.k2 Y Y)<|bE h λx9 h9 h=>cl (CG h9) ⟨Y,Y,ak⟩<|mv Y<|bE h λadh rW h=>?_
 cases x9
 obtain rfl:=O (F rW)
 exact ww<|ww<|ww<|ww<|ww<|pF Y<|ag Y<|dn<|⟨false,h,wR []⟩
 refine RT.fieldAddr (.some Y Y) Y T Y<|gl Y Y (.k2 Y Y)<|RT.fieldAddr (.some Y Y) Y T Y<|gl Y Y (.k2 Y Y)<|bE (V rW) λdH gD rW=>gc (CG gD) ⟨Y,Y,ak⟩ ?_
 obtain rfl:=O rW
 exact pT Y<|ag Y<|dn<|⟨dH,h,wR []⟩
 try dsimp only
 refine aW.n<|bf ?_
 obtain rfl:=O h
 exact R1 Y
theorem mR{x0:Int}{r:Qr}(h:iL x0=some r):Pure af 16 [ax x0] (.agg (eQ r)):=by
 refine bj Tryz.func16 Y (ae Y) (λdw M vs hvs=>?_)
 unfold iL at h
 refine sr<|al (cs:=[ay false,au,ay false,au]) (by exact⟨aq,aB,aq,aB,ak⟩) Y<|dn<|sr<|mv Y ?_
 obtain⟨⟨Cj,Ck⟩,h4,h⟩:=bS h
 refine cl (CH h4) ⟨Y,ak⟩<|bI (cs:=[_,_,_,_]) (cs':=[ay Cj,slc 1 (List.map bh Ck),ay false,au]) (.agg Y (.nil)) ⟨aq,aq,aq,aB,ak⟩<|so Y Y Y<|dn<|bf ?_
 obtain rfl:=O h
 exact RZ (.agg Y Y (.k4 Y Y Y Y) Y (.nil))
theorem vK{x0:Qr}{x1:Qr}{r:Qr}(h:mE x0 x1=some r):Pure af 155 [.agg (eQ x0),.agg (eQ x1)] (.agg (eQ r)):=by
 obtain⟨⟨bk,bn⟩,⟨bt,bB⟩⟩:=x0
 obtain⟨⟨cu,cm⟩,⟨eE,eG⟩⟩:=x1
 refine bj Tryz.func155 Y (ae Y) (λdw M vs hvs=>?_)
 unfold mE at h
 refine sr<|bx Y<|bx Y<|al (cs:=[ay false,au,ay false,au]) (by exact⟨aq,aB,aq,aB,ak⟩) Y<|dn<|qq<|aZ mixed<|ld Y Y (.k4 Y Y Y Y) ?_
 obtain⟨⟨rZ,r5⟩,h8,h⟩:=bS h
 refine cl (kI h8) ⟨Y,ak⟩<|ld Y Y (.k4 Y Y Y Y) ?_
 obtain⟨⟨A3,A4⟩,gC,h⟩:=bS h
 refine cl (jr gC) ⟨Y,ak⟩ ?_
 obtain⟨⟨xF,xG⟩,lp,h⟩:=bS h
 refine cl (rB lp) ⟨Y,Y,ak⟩<|ld Y Y (.k4 Y Y Y Y) ?_
 obtain⟨⟨AY,AZ⟩,iF,h⟩:=bS h
 refine cl (kI iF) ⟨Y,ak⟩<|ld Y Y (.k4 Y Y Y Y) ?_
 obtain⟨⟨jQ,jR⟩,gD,h⟩:=bS h
 refine cl (jr gD) ⟨Y,ak⟩ ?_
 obtain⟨⟨qu,qw⟩,lq,h⟩:=bS h
 refine cl (rB lq) ⟨Y,Y,ak⟩<|al (cs:=[ay false,au]) (by exact⟨aq,aB,ak⟩) Y<|al (cs:=[ay false,au]) (by exact⟨aq,aB,ak⟩) Y<|so Y Y Y<|so Y Y Y ?_
 refine RT.done ⟨by kernel_rfl,?_⟩
 refine aW.n<|qq<|aZ mixed<|ld Y Y (.k2 Y Y)<|ld Y Y (.k2 Y Y) ?_
 obtain⟨⟨lS,lT⟩,mw,h⟩:=bS h
 refine cl (Nb mw) ⟨Y,Y,ak⟩<|ld Y Y (.k4 Y Y Y Y) ?_
 obtain⟨⟨l7,l8⟩,ke,h⟩:=bS h
 refine cl (jr ke) ⟨Y,ak⟩<|ld Y Y (.k4 Y Y Y Y) ?_
 obtain⟨⟨Ap,Aq⟩,qP,h⟩:=bS h
 refine cl (jr qP) ⟨Y,ak⟩ ?_
 obtain⟨⟨vn,vo⟩,oY,h⟩:=bS h
 refine cl (rB oY) ⟨Y,Y,ak⟩ ?_
 obtain⟨⟨⟨nF,m8⟩,⟨tX,tY⟩⟩,nO,h⟩:=bS h
 refine cl (tc nO) ⟨Y,Y,ak⟩<|so Y Y Y ?_
 refine RT.done ⟨by kernel_rfl,?_⟩
 refine aW.n<|bf ?_
 obtain rfl:=O h
 exact RZ (.agg Y Y (.k4 Y Y Y Y) Y (.nil))
theorem zT{x0:Qr}{r:Qr}(h:oh x0=some r):Pure af 185 [.agg (eQ x0)] (.agg (eQ r)):=by
 obtain⟨⟨bk,bn⟩,⟨bt,bB⟩⟩:=x0
 refine bj Tryz.func185 Y (ae Y) (λdw M vs hvs=>?_)
 unfold oh at h
 refine sr<|bx Y<|al (cs:=[ay false,au,ay false,au]) (by exact⟨aq,aB,aq,aB,ak⟩) Y<|dn<|qq<|aZ mixed<|ld Y Y (.k4 Y Y Y Y) ?_
 obtain⟨⟨Cj,Ck⟩,h4,h⟩:=bS h
 refine cl (kI h4) ⟨Y,ak⟩ ?_
 obtain⟨⟨Bb,C4⟩,h5,h⟩:=bS h
 refine cl (Ej h5) ⟨Y,ak⟩<|ld Y Y (.k4 Y Y Y Y) ?_
 obtain⟨⟨qi,qj⟩,h7,h⟩:=bS h
 refine cl (jr h7) ⟨Y,ak⟩ ?_
 obtain⟨⟨⟨rZ,r5⟩,⟨C6,C7⟩⟩,h8,h⟩:=bS h
 refine cl (tc h8) ⟨Y,Y,ak⟩<|so Y Y Y ?_
 refine RT.done ⟨by kernel_rfl,?_⟩
 refine aW.n<|bf ?_
 obtain rfl:=O h
 exact RZ (.agg Y Y (.k4 Y Y Y Y) Y (.nil))
theorem Ng{x0:Qr}{x1:Qr}{r:Qr}(h:ur x0 x1=some r):Pure af 180 [.agg (eQ x0),.agg (eQ x1)] (.agg (eQ r)):=by
 obtain⟨⟨bk,bn⟩,⟨bt,bB⟩⟩:=x0
 obtain⟨⟨cu,cm⟩,⟨eE,eG⟩⟩:=x1
 refine bj Tryz.func180 Y (ae Y) (λdw M vs hvs=>?_)
 unfold ur at h
 refine sr<|bx Y<|bx Y<|al (cs:=[ay false,au,ay false,au]) (by exact⟨aq,aB,aq,aB,ak⟩) Y<|dn<|qq<|aZ mixed<|ld Y Y (.k4 Y Y Y Y)<|ld Y Y (.k4 Y Y Y Y) ?_
 obtain⟨⟨⟨qi,qj⟩,⟨Dk,Dl⟩⟩,h7,h⟩:=bS h
 refine cl (zT h7) ⟨Y,ak⟩ ?_
 obtain⟨⟨⟨rZ,r5⟩,⟨C6,C7⟩⟩,h8,h⟩:=bS h
 refine cl (vK h8) ⟨Y,Y,ak⟩<|so Y Y Y ?_
 refine RT.done ⟨by kernel_rfl,?_⟩
 refine aW.n<|bf ?_
 obtain rfl:=O h
 exact RZ (.agg Y Y (.k4 Y Y Y Y) Y (.nil))
theorem rC{x0:Qr}{x1:Qr}{r:Qr}(h:kG x0 x1=some r):Pure af 156 [.agg (eQ x0),.agg (eQ x1)] (.agg (eQ r)):=by
 obtain⟨⟨bk,bn⟩,⟨bt,bB⟩⟩:=x0
 obtain⟨⟨cu,cm⟩,⟨eE,eG⟩⟩:=x1
 refine bj Tryz.func156 Y (ae Y) (λdw M vs hvs=>?_)
 unfold kG at h
 refine sr<|bx Y<|bx Y<|al (cs:=[ay false,au,ay false,au]) (by exact⟨aq,aB,aq,aB,ak⟩) Y<|dn<|qq<|aZ mixed<|ld Y Y (.k4 Y Y Y Y) ?_
 obtain⟨⟨I7,I8⟩,h6,h⟩:=bS h
 refine cl (kI h6) ⟨Y,ak⟩<|ld Y Y (.k4 Y Y Y Y) ?_
 obtain⟨⟨rZ,r5⟩,h8,h⟩:=bS h
 refine cl (kI h8) ⟨Y,ak⟩ ?_
 obtain⟨⟨PF,PG⟩,h9,h⟩:=bS h
 refine cl (rB h9) ⟨Y,Y,ak⟩<|ld Y Y (.k4 Y Y Y Y) ?_
 obtain⟨⟨xF,xG⟩,lp,h⟩:=bS h
 refine cl (jr lp) ⟨Y,ak⟩<|ld Y Y (.k4 Y Y Y Y) ?_
 obtain⟨⟨AY,AZ⟩,iF,h⟩:=bS h
 refine cl (jr iF) ⟨Y,ak⟩ ?_
 obtain⟨⟨xH,xI⟩,jx,h⟩:=bS h
 refine cl (rB jx) ⟨Y,Y,ak⟩ ?_
 obtain⟨⟨⟨jQ,jR⟩,⟨xK,xL⟩⟩,gD,h⟩:=bS h
 refine cl (tc gD) ⟨Y,Y,ak⟩<|so Y Y Y ?_
 refine RT.done ⟨by kernel_rfl,?_⟩
 refine aW.n<|bf ?_
 obtain rfl:=O h
 exact RZ (.agg Y Y (.k4 Y Y Y Y) Y (.nil))
theorem tf{x0:Qr}{r:Int}(h:kH x0=some r):Pure af 61 [.agg (eQ x0)] (ax r):=by
 obtain⟨⟨bk,bn⟩,⟨bt,bB⟩⟩:=x0
 refine bj Tryz.func61 Y (ae Y) (λdw M vs hvs=>?_)
 unfold kH at h
 refine sr<|bx Y<|ag Y<|dn<|sr<|ld Y Y (.k4 Y Y Y Y) ?_
 obtain⟨⟨Cj,Ck⟩,h4,h⟩:=bS h
 refine cl (kI h4) ⟨Y,ak⟩<|bE h λx5 h5 h=>cl (jB h5) ⟨Y,ak⟩<|ag Y<|dn<|bf ?_
 obtain rfl:=O h
 exact R1 Y
theorem Nh{x0:Qr}{x1:Qr}{r:Qr×Int}(h:uu x0 x1=some r):Pure af 201 [.agg (eQ x0),.agg (eQ x1)] (.Ce [.agg (eQ r.1),ax r.2]):=by
 obtain⟨⟨bk,bn⟩,⟨bt,bB⟩⟩:=x0
 obtain⟨⟨cu,cm⟩,⟨eE,eG⟩⟩:=x1
 refine bj Tryz.func201 Y (ae Y) (λdw M vs hvs=>?_)
 unfold uu at h
 refine sr<|bx Y<|bx Y<|al (cs:=[ay false,au,ay false,au]) (by exact⟨aq,aB,aq,aB,ak⟩) Y<|ag Y<|dn<|qq<|sr<|ld Y Y (.k4 Y Y Y Y)<|bE h λx7 h7 h=>cl (tf h7) ⟨Y,ak⟩<|lE h λx8 h8 h=>eq _ Y Y (ve (p:=x7) (q:=0) h8)<|dn ?_
 cases x8
 refine fs<|qq<|aZ mixed<|ld Y Y (.k4 Y Y Y Y)<|ld Y Y (.k4 Y Y Y Y) ?_
 obtain⟨⟨jh,iX⟩,fC,h⟩:=bS (F h)
 refine cl (jr fC) ⟨Y,ak⟩<|ld Y Y (.k4 Y Y Y Y) ?_
 obtain⟨⟨xH,xI⟩,jx,h⟩:=bS h
 refine cl (kI jx) ⟨Y,ak⟩<|bI (cs:=[_,_,_,_]) (cs':=[ay jh,slc 1 (List.map bh iX),ay xH,slc 1 (List.map bh xI)]) (.agg Y (.agg Y (.nil))) ⟨aq,aq,aq,aq,ak⟩ ?_
 obtain⟨⟨⟨qu,qw⟩,⟨Ph,Pj⟩⟩,lq,h⟩:=bS h
 refine cl (Bt lq) ⟨Y,ak⟩ ?_
 obtain⟨⟨⟨q9,rf⟩,⟨Ak,Al⟩⟩,jO,h⟩:=bS h
 refine cl (rC jO) ⟨Y,Y,ak⟩<|so Y Y Y<|ag Y ?_
 refine RT.done ⟨by kernel_rfl,?_⟩
 refine aW.n<|bf ?_
 obtain rfl:=O h
 exact RZ (.agg Y Y (.k4 Y Y Y Y) Y (.tmp Y (.nil)))
 refine cT<|sr<|bI (cs:=[_,_,_,_]) (cs':=[ay false,au,ay false,au]) (.nil) ⟨aq,aB,aq,aB,ak⟩<|so Y Y Y<|ag Y<|dn<|bf<|aW.r ?_
 obtain rfl:=O (V h)
 exact RZ (.agg Y Y (.k4 Y Y Y Y) Y (.tmp Y (.nil)))
theorem Ni{x0:Qr}{x1:Qr}{r:Int}(h:uw x0 x1=some r):Pure af 154 [.agg (eQ x0),.agg (eQ x1)] (ax r):=by
 obtain⟨⟨bk,bn⟩,⟨bt,bB⟩⟩:=x0
 obtain⟨⟨cu,cm⟩,⟨eE,eG⟩⟩:=x1
 refine bj Tryz.func154 Y (ae Y) (λdw M vs hvs=>?_)
 unfold uw at h
 refine sr<|bx Y<|bx Y<|ag Y<|dn<|sr<|ld Y Y (.k4 Y Y Y Y)<|ld Y Y (.k4 Y Y Y Y) ?_
 obtain⟨⟨⟨qi,qj⟩,⟨Dk,Dl⟩⟩,h7,h⟩:=bS h
 refine cl (Ng h7) ⟨Y,Y,ak⟩<|bE h λx8 h8 h=>cl (tf h8) ⟨Y,ak⟩<|ag Y<|dn<|bf ?_
 obtain rfl:=O h
 exact R1 Y
end
section
open Go.Fw
noncomputable def g9(x0:List Qr)(x1:Int):Option (Qr):=cE (λ(IG:Bool)=>(bif IG then(cL x0 x1).bind λ⟨⟨jQ,jR⟩,⟨xK,xL⟩⟩=>some ⟨⟨jQ,jR⟩,⟨xK,xL⟩⟩else some ⟨⟨false,[]⟩,⟨false,[]⟩⟩)) λK3=>(some (decide ((0:Int)≤x1))).bind λx6=>(bif x6 then(some (x0.length:Int)).bind λdI=>(some (decide ((x1:Int)<dI))).bind λfz=>some fz else some false).bind λPo=>K3 Po
noncomputable def k7(x0:List Qr)(x1:List Qr):Option (Bool):=(some (x0.length:Int)).bind λx7=>(some (x1.length:Int)).bind λx9=>(some (decide ((x7:Int)≠x9))).bind λdI=>(bif dI then some false else(bX (λ(iD:Int)=>(show Option ((Int)⊕((Unit)⊕(Bool)))from(some (x0.length:Int)).bind λeD=>(some (decide ((iD:Int)<eD))).bind λei=>(bif ei then(cL x0 iD).bind λ⟨⟨lS,lT⟩,⟨wO,wP⟩⟩=>(cL x1 iD).bind λ⟨⟨Ap,Aq⟩,⟨LI,LJ⟩⟩=>(wZ ⟨⟨lS,lT⟩,⟨wO,wP⟩⟩ ⟨⟨Ap,Aq⟩,⟨LI,LJ⟩⟩).bind λjG=>(some (!jG)).bind λjH=>(bif jH then some (.inr (.inr false))else(some (IntKind.i64.wrap (iD+1))).bind λfB=>some (.inl fB))else some (.inr (.inl ()))))) 0).bind λe6=>match e6 with|.inr v6=>some v6|.inl _=>some true)
noncomputable def gR(x0:Qr)(x1:List Qr)(x2:List Qr):Option (List Qr):=match x0 with|⟨⟨bk,bn⟩,⟨bt,bB⟩⟩=>(bX (λ(uH:Int×(List Qr))=>match uH with|⟨RW,og⟩=>(show Option ((Int×(List Qr))⊕((List Qr)))from cE (λ(RX:Bool)=>(bif RX then(g9 x1 RW).bind λ⟨⟨nF,m8⟩,⟨tX,tY⟩⟩=>(kG ⟨⟨bk,bn⟩,⟨bt,bB⟩⟩ ⟨⟨nF,m8⟩,⟨tX,tY⟩⟩).bind λ⟨⟨Lo,Lp⟩,⟨Lq,Ls⟩⟩=>(g9 x2 RW).bind λ⟨⟨adi,adj⟩,⟨adk,adl⟩⟩=>(mE ⟨⟨Lo,Lp⟩,⟨Lq,Ls⟩⟩ ⟨⟨adi,adj⟩,⟨adk,adl⟩⟩).bind λ⟨⟨sn,sq⟩,⟨Gj,Gk⟩⟩=>(nC 64 og [⟨⟨sn,sq⟩,⟨Gj,Gk⟩⟩]).bind λiP=>(some (IntKind.i64.wrap (RW+1))).bind λij=>some (.inl (ij,iP))else some (.inr og))) λGG=>(some (x1.length:Int)).bind λfz=>(some (decide ((RW:Int)<fz))).bind λc9=>(bif c9 then some true else(some (x2.length:Int)).bind λfB=>(some (decide ((RW:Int)<fB))).bind λdX=>some dX).bind λXB=>GG XB)) (0,[])).bind λjU=>some jU
noncomputable def qH(x0:List Qr)(x1:List Qr):Option (List Qr):=(iL (-1)).bind λ⟨⟨Bb,C4⟩,⟨Fv,GM⟩⟩=>(gR ⟨⟨Bb,C4⟩,⟨Fv,GM⟩⟩ x1 x0).bind λx8=>some x8
noncomputable def pC(x0:Qr)(x1:List Qr):Option (List Qr):=match x0 with|⟨⟨bk,bn⟩,⟨bt,bB⟩⟩=>(gR ⟨⟨bk,bn⟩,⟨bt,bB⟩⟩ x1 []).bind λx7=>some x7
noncomputable def qJ(x0:List Qr)(x1:List Qr):Option (Qr):=(bX (λ(s6:Int×Bool×(List Nat)×Bool×(List Nat))=>match s6 with|⟨mz,Nj,Nk,Nl,Nm⟩=>(show Option ((Int×Bool×(List Nat)×Bool×(List Nat))⊕(Bool×(List Nat)×Bool×(List Nat)))from(some (x0.length:Int)).bind λdI=>(some (decide ((mz:Int)<dI))).bind λfz=>(bif fz then(cL x0 mz).bind λ⟨⟨q9,rf⟩,⟨Ak,Al⟩⟩=>(g9 x1 mz).bind λ⟨⟨l7,l8⟩,⟨nJ,nK⟩⟩=>(kG ⟨⟨q9,rf⟩,⟨Ak,Al⟩⟩ ⟨⟨l7,l8⟩,⟨nJ,nK⟩⟩).bind λ⟨⟨wJ,wK⟩,⟨wL,wM⟩⟩=>(mE ⟨⟨Nj,Nk⟩,⟨Nl,Nm⟩⟩ ⟨⟨wJ,wK⟩,⟨wL,wM⟩⟩).bind λ⟨⟨Ap,Aq⟩,⟨LI,LJ⟩⟩=>(some (IntKind.i64.wrap (mz+1))).bind λeD=>some (.inl (eD,Ap,Aq,LI,LJ))else some (.inr (Nj,Nk,Nl,Nm))))) (0,false,[],false,[])).bind λe6=>match e6 with|⟨XC,XD,XE,XF⟩=>some ⟨⟨XC,XD⟩,⟨XE,XF⟩⟩
noncomputable def qK(x0:List Qr)(x1:List Qr):Option (Int):=(bX (λ(Dm:Int)=>(show Option ((Int)⊕((Unit)⊕(Int)))from cE (λ(Di:Bool)=>(bif Di then(g9 x0 Dm).bind λ⟨⟨l7,l8⟩,⟨nJ,nK⟩⟩=>(g9 x1 Dm).bind λ⟨⟨vn,vo⟩,⟨yP,yQ⟩⟩=>(uw ⟨⟨l7,l8⟩,⟨nJ,nK⟩⟩ ⟨⟨vn,vo⟩,⟨yP,yQ⟩⟩).bind λjG=>(some (decide ((jG:Int)≠0))).bind λiO=>(bif iO then some (.inr (.inr jG))else(some (IntKind.i64.wrap (Dm+1))).bind λeX=>some (.inl eX))else some (.inr (.inl ())))) λGG=>(some (x0.length:Int)).bind λx9=>(some (decide ((Dm:Int)<x9))).bind λdI=>(bif dI then some true else(some (x1.length:Int)).bind λei=>(some (decide ((Dm:Int)<ei))).bind λdH=>some dH).bind λI4=>GG I4)) 0).bind λFm=>match Fm with|.inr v10=>some v10|.inl _=>some 0
noncomputable def jt(x0:Int)(x1:Int):Option (List Qr):=(bX (λ(Ad:Int×(List Qr))=>match Ad with|⟨sF,FG⟩=>(show Option ((Int×(List Qr))⊕((List Qr)))from cE (λ(Dn:Bool)=>(bif Dn then(some (decide ((sF:Int)=x1))).bind λij=>cE (λ(PK:Bool×(List Nat)×Bool×(List Nat))=>match PK with|⟨vL,vM,vN,vO⟩=>(nC 64 FG [⟨⟨vL,vM⟩,⟨vN,vO⟩⟩]).bind λjG=>(some (IntKind.i64.wrap (sF+1))).bind λfB=>some (.inl (fB,jG))) λK17=>(bif ij then(iL 1).bind λ⟨⟨l7,l8⟩,⟨nJ,nK⟩⟩=>K17 (l7,l8,nJ,nK)else K17 (false,[],false,[]))else some (.inr FG))) λXd=>(some (decide ((sF:Int)<x0))).bind λdI=>(bif dI then(some (decide ((sF:Int)<65536))).bind λeD=>some eD else some false).bind λJa=>Xd Ja)) (0,[])).bind λzU=>some zU
end
section
open Go.Fw Go.Fw.Z Go.RowKit
theorem mF{x0:List Qr}{x1:Int}{r:Qr}(h:g9 x0 x1=some r):Pure af 102 [slc 4 (List.map eQ x0),ax x1] (.agg (eQ r)):=by
 refine bj Tryz.func102 Y (ae Y) (λdw M vs hvs=>?_)
 unfold g9 at h
 refine sr<|al (cs:=[ay false,au,ay false,au]) (by exact⟨aq,aB,aq,aB,ak⟩) Y<|dn<|qq<|qq ?_
 refine bJ h (λj3=>AS.cj 18 [(0,.sv (slc 4 (List.map eQ x0))),(1,ah x1),(4,.ptr 4 0),(12,ai j3)] [(4,⟨43,[ai false,.sv au,ai false,.sv au]⟩)] []) (λh=>?_) (λIG h=>?_)
 refine aX<|mv Y<|lE h λx6 h6 h=>ge _ Y Y h6<|mv Y<|bE h λPo rW h=>?_
 cases x6
 obtain rfl:=O (F rW)
 exact ww<|ww<|ww<|ww<|pF Y<|dn<|⟨false,h,wR []⟩
 refine gm Y<|gm Y<|lE (V rW) λdI gC rW=>gn Y gC<|lE rW λfz lp rW=>RT.lss (.some Y Y) _ Y Y T lp ?_
 obtain rfl:=O rW
 exact pT Y<|dn<|⟨fz,h,wR []⟩
 try dsimp only
 refine aW.n ?_
 cases IG
 refine fs<|sr<|bI (cs:=[_,_,_,_]) (cs':=[ay false,au,ay false,au]) (.nil) ⟨aq,aB,aq,aB,ak⟩<|so Y Y Y<|dn<|bf ?_
 obtain rfl:=O (F h)
 exact RZ (.agg Y Y (.k4 Y Y Y Y) Y (.nil))
 refine cT<|sr<|mv Y<|mv Y ?_
 obtain⟨⟨⟨jQ,jR⟩,⟨xK,xL⟩⟩,gD,h⟩:=bS (V h)
 refine ix Y Y gD<|RT.gy (cs:=[_,_,_,_]) .none Y T Y Y<|so Y Y Y<|dn<|bf<|aW.r ?_
 obtain rfl:=O h
 exact RZ (.agg Y Y (.k4 Y Y Y Y) Y (.nil))
theorem xR{x0:List Qr}{x1:List Qr}{r:Bool}(h:k7 x0 x1=some r):Pure af 29 [slc 4 (List.map eQ x0),slc 4 (List.map eQ x1)] (ay r):=by
 refine bj Tryz.func29 Y (ae Y) (λdw M vs hvs=>?_)
 unfold k7 at h
 refine sr<|ag Y<|dn<|qq<|sr<|mv Y<|lE h λx7 h7 h=>ln Y h7<|mv Y<|lE h λx9 h9 h=>ln Y h9<|lE h λdI gC h=>ne _ Y Y (JY (p:=x7) (q:=x9) gC)<|dn ?_
 cases dI
 refine fs<|qq<|sr<|ag Y<|dn<|bE (F h) λe6 vA jo=>?_
 refine bK (λ(uI:Unit)=>AS.cj 27 [] [] []) (λuI=>.inl uI=e6) ?_ (λuI vB=>?_)
 refine aY ?_
 refine bL vA (λs6=>AS.cj 27 [(0,.sv (slc 4 (List.map eQ x0))),(1,.sv (slc 4 (List.map eQ x1))),(5,ah s6)] [] []) (wR []) (λiD y6 G6 h vC qy=>?_)
 try dsimp only
 refine qq<|sr<|mv Y<|mv Y<|lE h λeD iF h=>ln Y iF<|lE h λei jx h=>ls _ Y Y jx<|dn ?_
 cases ei
 refine cF<|bN<|aW.x<|aW.x<|bF.x<|aW.n ?_
 obtain rfl:=O (F h)
 exact⟨(),qy _ Y,wR []⟩
 refine cT<|bw<|aW.n<|qq<|aY<|qq<|aZ mixed<|mv Y<|mv Y ?_
 obtain⟨⟨⟨lS,lT⟩,⟨wO,wP⟩⟩,mw,h⟩:=bS (V h)
 refine ix Y Y mw<|RT.gy (cs:=[_,_,_,_]) .none Y T Y Y<|mv Y<|mv Y ?_
 obtain⟨⟨⟨Ap,Aq⟩,⟨LI,LJ⟩⟩,qP,h⟩:=bS h
 refine ix Y Y qP<|RT.gy (cs:=[_,_,_,_]) .none Y T Y Y<|bE h λjG nO h=>cl (PJ nO) ⟨Y,Y,ak⟩<|lE h λjH rV h=>nt Y _ rV ?_
 refine RT.done ⟨by kernel_rfl,?_⟩
 refine aW.n ?_
 cases jH
 refine cF<|bw<|bF.n<|aW.n<|aX<|mv Y<|lE (F h) λfB lq h=>ad _ Y Y lq<|ag Y<|RT.done ?_
 obtain rfl:=O h
 exact aW.n ⟨fB,vC _ Y,wR []⟩
 refine cT<|sr<|ag Y<|dn<|bf<|bF.r<|aW.r ?_
 obtain rfl:=O (V h)
 have GJ:=qy _ Y
 subst GJ
 refine aW.r<|bF.r<|aW.r<|aW.r ?_
 obtain rfl:=O jo
 exact R1 Y
 subst vB
 try dsimp only
 refine aW.n<|sr<|ag Y<|dn<|bf ?_
 obtain rfl:=O jo
 exact R1 Y
 refine cT<|sr<|ag Y<|dn<|bf<|aW.r ?_
 obtain rfl:=O (V h)
 exact R1 Y
theorem oN{x0:Qr}{x1:List Qr}{x2:List Qr}{r:List Qr}(h:gR x0 x1 x2=some r):Pure af 120 [.agg (eQ x0),slc 4 (List.map eQ x1),slc 4 (List.map eQ x2)] (slc 4 (List.map eQ r)):=by
 obtain⟨⟨bk,bn⟩,⟨bt,bB⟩⟩:=x0
 refine bj Tryz.func120 Y (ae Y) (λdw M vs hvs=>?_)
 unfold gR at h
 refine sr<|bx Y<|aI Y (aB (n:=4) (e:=eQ))<|dn<|sr<|ag Y<|dn<|bR (c8 7 304 43 4 Y Y T)<|qq<|sr<|ag Y<|dn<|bE h λFm yh pq=>?_
 refine bK (λ(jU:(List Qr))=>AS.cj 34 [(7,.row 306)] [] [(306,TR 43 4 eQ jU)]) (λjU=>jU=Fm) ?_ (λjU yj=>?_)
 refine aY ?_
 refine bL yh (λuH=>AS.cj 34 [(1,.sv (slc 4 (List.map eQ x1))),(2,.sv (slc 4 (List.map eQ x2))),(3,.ptr 3 0),(7,.row 306),(8,ah uH.1)] [(3,⟨43,[ai bk,.sv (slc 1 (List.map bh bn)),ai bt,.sv (slc 1 (List.map bh bB))]⟩)] [(306,TR 43 4 eQ uH.2)]) (cD (λi=>bif Nat.beq i 306 then 304 else i) Y Y Y Y Y ⟨.sv aq,.sv aq,.ptr,.row Y,.sv aq,ak⟩ ⟨⟨_,Y,⟨.sv aq,.sv aq,.sv aq,.sv aq,ak⟩⟩,ak⟩ ⟨⟨_,Y,cg.refl _⟩,ak⟩ (λi hi=>by rw[bV (show i≠306 by omega)];rfl)) (λuH ZD ZE h yl uN=>?_)
 obtain⟨RW,og⟩:=uH
 try dsimp only
 refine qq<|qq ?_
 refine bJ h (λGI=>AS.cj 34 [(1,.sv (slc 4 (List.map eQ x1))),(2,.sv (slc 4 (List.map eQ x2))),(3,.ptr 3 0),(7,.row 306),(8,ah RW),(18,ai GI)] [(3,⟨43,[ai bk,.sv (slc 1 (List.map bh bn)),ai bt,.sv (slc 1 (List.map bh bB))]⟩)] [(306,TR 43 4 eQ og)]) (λh=>?_) (λRX h=>?_)
 refine aX<|mv Y<|mv Y<|lE h λfz lp h=>ln Y lp<|lE h λc9 fC h=>ls _ Y Y fC<|mv Y<|bE h λXB dD h=>?_
 cases c9
 refine gm Y<|gm Y<|lE (F dD) λfB lq dD=>gn Y lq<|lE dD λdX jO dD=>RT.lss (.some Y Y) _ Y Y T jO ?_
 obtain rfl:=O dD
 exact pF Y<|dn<|⟨dX,h,wR []⟩
 obtain rfl:=O (V dD)
 exact ww<|ww<|ww<|ww<|pT Y<|dn<|⟨true,h,wR []⟩
 try dsimp only
 refine aW.n ?_
 cases RX
 refine cF<|bN<|aW.x<|aW.x<|bF.x<|aW.n ?_
 obtain rfl:=O (F h)
 exact⟨og,uN _ Y,wR []⟩
 refine cT<|bw<|aW.n<|qq<|aY<|aZ mixed<|mo (s:=.row _) Y<|ld Y Y (.k4 Y Y Y Y)<|mv Y<|mv Y ?_
 obtain⟨⟨⟨nF,m8⟩,⟨tX,tY⟩⟩,nO,h⟩:=bS (V h)
 refine cl (mF nO) ⟨Y,Y,ak⟩ ?_
 obtain⟨⟨⟨Lo,Lp⟩,⟨Lq,Ls⟩⟩,rV,h⟩:=bS h
 refine cl (rC rV) ⟨Y,Y,ak⟩<|mv Y<|mv Y ?_
 obtain⟨⟨⟨adi,adj⟩,⟨adk,adl⟩⟩,mZ,h⟩:=bS h
 refine cl (mF mZ) ⟨Y,Y,ak⟩ ?_
 obtain⟨⟨⟨sn,sq⟩,⟨Gj,Gk⟩⟩,vD,h⟩:=bS h
 refine cl (vK vD) ⟨Y,Y,ak⟩<|bl (l:=[⟨⟨sn,sq⟩,⟨Gj,Gk⟩⟩]) (e:=eQ) (.agg Y (.nil)) Y Y Y Y Y Y<|bE h λiP pW h=>aR (k:=[⟨⟨sn,sq⟩,⟨Gj,Gk⟩⟩]) (e:=eQ) Y Y Y pW<|an (s:=.row _) Y ?_
 refine RT.done ⟨by kernel_rfl,?_⟩
 refine bF.n<|aW.n<|aX<|mv Y<|lE h λij oG h=>ad _ Y Y oG<|ag Y<|RT.done ?_
 obtain rfl:=O h
 exact aW.n ⟨(ij,iP),yl _ Y,cD (λi=>bif Nat.beq i 306 then 32 else i) Y Y Y Y Y ⟨.sv aq,.sv aq,.ptr,.row Y,.sv aq,ak⟩ ⟨⟨_,Y,⟨.sv aq,.sv aq,.sv aq,.sv aq,ak⟩⟩,ak⟩ ⟨⟨_,Y,cg.refl _⟩,ak⟩ (λi hi=>by rw[bV (show i≠306 by omega)];rfl)⟩
 subst yj
 try dsimp only
 refine aW.n<|sr<|mo (s:=.row _) Y<|an (s:=.row _) Y<|dn<|bR (cV (i:=306) (E1:=43) (n:=4) (e:=eQ) (l:=jU) Y)<|bf ?_
 obtain rfl:=O pq
 exact R1 Y
theorem Nn{x0:List Qr}{x1:List Qr}{r:List Qr}(h:qH x0 x1=some r):Pure af 74 [slc 4 (List.map eQ x0),slc 4 (List.map eQ x1)] (slc 4 (List.map eQ r)):=by
 refine bj Tryz.func74 Y (ae Y) (λdw M vs hvs=>?_)
 unfold qH at h
 refine sr<|aI Y (aB (n:=4) (e:=eQ))<|dn<|sr ?_
 obtain⟨⟨⟨Bb,C4⟩,⟨Fv,GM⟩⟩,h5,h⟩:=bS h
 refine cl (mR h5) ⟨Y,ak⟩<|mv Y<|mv Y<|bE h λx8 h8 h=>cl (oN h8) ⟨Y,Y,Y,ak⟩<|ag Y<|dn<|bf ?_
 obtain rfl:=O h
 exact R1 Y
theorem Jb{x0:Qr}{x1:List Qr}{r:List Qr}(h:pC x0 x1=some r):Pure af 183 [.agg (eQ x0),slc 4 (List.map eQ x1)] (slc 4 (List.map eQ r)):=by
 obtain⟨⟨bk,bn⟩,⟨bt,bB⟩⟩:=x0
 refine bj Tryz.func183 Y (ae Y) (λdw M vs hvs=>?_)
 unfold pC at h
 refine sr<|bx Y<|aI Y (aB (n:=4) (e:=eQ))<|dn<|sr<|ld Y Y (.k4 Y Y Y Y)<|mv Y<|bE h λx7 h7 h=>cl ((oN h7).w (args':=[_,_,_]) ⟨aq,aq,aB,ak⟩) ⟨Y,Y,Y,ak⟩<|ag Y<|dn<|bf ?_
 obtain rfl:=O h
 exact R1 Y
theorem No{x0:List Qr}{x1:List Qr}{r:Qr}(h:qJ x0 x1=some r):Pure af 153 [slc 4 (List.map eQ x0),slc 4 (List.map eQ x1)] (.agg (eQ r)):=by
 refine bj Tryz.func153 Y (ae Y) (λdw M vs hvs=>?_)
 unfold qJ at h
 refine sr<|al (cs:=[ay false,au,ay false,au]) (by exact⟨aq,aB,aq,aB,ak⟩) Y<|dn<|sr<|bI (cs:=[_,_,_,_]) (cs':=[ay false,au,ay false,au]) (.nil) ⟨aq,aB,aq,aB,ak⟩<|al (cs:=[ay false,au,ay false,au]) (by exact⟨aq,aB,aq,aB,ak⟩) Y ?_
 refine so Y Y Y<|dn<|qq<|sr<|ag Y<|dn<|bE h λe6 vA jo=>?_
 refine bK (λ(uI:Bool×(List Nat)×Bool×(List Nat))=>AS.cj 25 [(4,.ptr 4 0),(5,.ptr 5 0)] [(5,⟨43,[ai uI.1,.sv (slc 1 (List.map bh uI.2.1)),ai uI.2.2.1,.sv (slc 1 (List.map bh uI.2.2.2))]⟩),(4,⟨43,[ai false,.sv au,ai false,.sv au]⟩)] []) (λuI=>uI=e6) ?_ (λuI vB=>?_)
 refine aY ?_
 refine bL vA (λs6=>AS.cj 25 [(0,.sv (slc 4 (List.map eQ x0))),(1,.sv (slc 4 (List.map eQ x1))),(4,.ptr 4 0),(5,.ptr 5 0),(6,ah s6.1)] [(5,⟨43,[ai s6.2.1,.sv (slc 1 (List.map bh s6.2.2.1)),ai s6.2.2.2.1,.sv (slc 1 (List.map bh s6.2.2.2.2))]⟩),(4,⟨43,[ai false,.sv au,ai false,.sv au]⟩)] []) (wR []) (λs6 y6 G6 h vC qy=>?_)
 obtain⟨mz,Nj,Nk,Nl,Nm⟩:=s6
 try dsimp only
 refine qq<|sr<|mv Y<|mv Y<|lE h λdI gC h=>ln Y gC<|lE h λfz lp h=>ls _ Y Y lp<|dn ?_
 cases fz
 refine cF<|bN<|aW.x<|aW.x<|bF.x<|aW.n ?_
 obtain rfl:=O (F h)
 exact⟨(Nj,Nk,Nl,Nm),qy _ Y,wR []⟩
 refine cT<|bw<|aW.n<|qq<|aY<|aZ mixed<|ld Y Y (.k4 Y Y Y Y)<|mv Y<|mv Y ?_
 obtain⟨⟨⟨q9,rf⟩,⟨Ak,Al⟩⟩,jO,h⟩:=bS (V h)
 refine ix Y Y jO<|RT.gy (cs:=[_,_,_,_]) .none Y T Y Y<|mv Y<|mv Y ?_
 obtain⟨⟨⟨l7,l8⟩,⟨nJ,nK⟩⟩,ke,h⟩:=bS h
 refine cl (mF ke) ⟨Y,Y,ak⟩ ?_
 obtain⟨⟨⟨wJ,wK⟩,⟨wL,wM⟩⟩,oH,h⟩:=bS h
 refine cl (rC oH) ⟨Y,Y,ak⟩ ?_
 obtain⟨⟨⟨Ap,Aq⟩,⟨LI,LJ⟩⟩,qP,h⟩:=bS h
 refine cl (vK qP) ⟨Y,Y,ak⟩<|so Y Y Y ?_
 refine RT.done ⟨by kernel_rfl,?_⟩
 refine bF.n<|aW.n<|aX<|mv Y<|lE h λeD iF h=>ad _ Y Y iF<|ag Y<|RT.done ?_
 obtain rfl:=O h
 exact aW.n ⟨(eD,Ap,Aq,LI,LJ),vC _ Y,wR []⟩
 subst vB
 obtain⟨XC,XD,XE,XF⟩:=uI
 try dsimp only
 refine aW.n<|sr<|ld Y Y (.k4 Y Y Y Y)<|so Y Y Y<|dn<|bf ?_
 obtain rfl:=O jo
 exact RZ (.agg Y Y (.k4 Y Y Y Y) Y (.nil))
theorem Np{x0:List Qr}{x1:List Qr}{r:Int}(h:qK x0 x1=some r):Pure af 117 [slc 4 (List.map eQ x0),slc 4 (List.map eQ x1)] (ax r):=by
 refine bj Tryz.func117 Y (ae Y) (λdw M vs hvs=>?_)
 unfold qK at h
 refine sr<|ag Y<|dn<|qq<|sr<|ag Y<|dn<|bE h λFm yh pq=>?_
 refine bK (λ(RY:Unit)=>AS.cj 29 [] [] []) (λRY=>.inl RY=Fm) ?_ (λRY yj=>?_)
 refine aY ?_
 refine bL yh (λuH=>AS.cj 29 [(0,.sv (slc 4 (List.map eQ x0))),(1,.sv (slc 4 (List.map eQ x1))),(5,ah uH)] [] []) (wR []) (λDm ZD ZE h yl uN=>?_)
 try dsimp only
 refine qq<|qq ?_
 refine bJ h (λGI=>AS.cj 29 [(0,.sv (slc 4 (List.map eQ x0))),(1,.sv (slc 4 (List.map eQ x1))),(5,ah Dm),(16,ai GI)] [] []) (λh=>?_) (λDi h=>?_)
 refine aX<|mv Y<|mv Y<|lE h λx9 h9 h=>ln Y h9<|lE h λdI gC h=>ls _ Y Y gC<|mv Y<|bE h λI4 dD h=>?_
 cases dI
 refine gm Y<|gm Y<|lE (F dD) λei jx dD=>gn Y jx<|lE dD λdH gD dD=>RT.lss (.some Y Y) _ Y Y T gD ?_
 obtain rfl:=O dD
 exact pF Y<|dn<|⟨dH,h,wR []⟩
 obtain rfl:=O (V dD)
 exact ww<|ww<|ww<|ww<|pT Y<|dn<|⟨true,h,wR []⟩
 try dsimp only
 refine aW.n ?_
 cases Di
 refine cF<|bN<|aW.x<|aW.x<|bF.x<|aW.n ?_
 obtain rfl:=O (F h)
 exact⟨(),uN _ Y,wR []⟩
 refine cT<|bw<|aW.n<|qq<|aY<|sr<|mv Y<|mv Y ?_
 obtain⟨⟨⟨l7,l8⟩,⟨nJ,nK⟩⟩,ke,h⟩:=bS (V h)
 refine cl (mF ke) ⟨Y,Y,ak⟩<|mv Y<|mv Y ?_
 obtain⟨⟨⟨vn,vo⟩,⟨yP,yQ⟩⟩,oY,h⟩:=bS h
 refine cl (mF oY) ⟨Y,Y,ak⟩<|bE h λjG nO h=>cl (Ni nO) ⟨Y,Y,ak⟩<|ag Y<|dn<|sr<|mv Y<|lE h λiO pN h=>ne _ Y Y (JY (p:=jG) (q:=0) pN)<|dn ?_
 cases iO
 refine cF<|bw<|bF.n<|aW.n<|aX<|mv Y<|lE (F h) λeX jK h=>ad _ Y Y jK<|ag Y<|RT.done ?_
 obtain rfl:=O h
 exact aW.n ⟨eX,yl _ Y,wR []⟩
 refine cT<|sr<|mv Y<|ag Y<|dn<|bf<|bF.r<|aW.r ?_
 obtain rfl:=O (V h)
 have XG:=uN _ Y
 subst XG
 refine aW.r<|bF.r<|aW.r<|aW.r ?_
 obtain rfl:=O pq
 exact R1 Y
 subst yj
 try dsimp only
 refine aW.n<|sr<|ag Y<|dn<|bf ?_
 obtain rfl:=O pq
 exact R1 Y
theorem tg{x0:Int}{x1:Int}{r:List Qr}(h:jt x0 x1=some r):Pure af 116 [ax x0,ax x1] (slc 4 (List.map eQ r)):=by
 refine bj Tryz.func116 Y (ae Y) (λdw M vs hvs=>?_)
 unfold jt at h
 refine sr<|aI Y (aB (n:=4) (e:=eQ))<|dn<|sr<|ag Y<|dn<|bR (c8 5 304 43 4 Y Y T)<|qq<|sr<|ag Y<|dn<|bE h λUr My tW=>?_
 refine bK (λ(zU:(List Qr))=>AS.cj 27 [(5,.row 306)] [] [(306,TR 43 4 eQ zU)]) (λzU=>zU=Ur) ?_ (λzU Mz=>?_)
 refine aY ?_
 refine bL My (λAd=>AS.cj 27 [(0,ah x0),(1,ah x1),(5,.row 306),(6,ah Ad.1)] [] [(306,TR 43 4 eQ Ad.2)]) (cD (λi=>bif Nat.beq i 306 then 304 else i) Y Y Y Y Y ⟨.sv aq,.sv aq,.row Y,.sv aq,ak⟩ trivial ⟨⟨_,Y,cg.refl _⟩,ak⟩ (λi hi=>by rw[bV (show i≠306 by omega)];rfl)) (λAd y12 G12 h MA MB=>?_)
 obtain⟨sF,FG⟩:=Ad
 try dsimp only
 refine qq<|qq ?_
 refine bJ h (λj15=>AS.cj 27 [(0,ah x0),(1,ah x1),(5,.row 306),(6,ah sF),(14,ai j15)] [] [(306,TR 43 4 eQ FG)]) (λh=>?_) (λDn h=>?_)
 refine aX<|mv Y<|mv Y<|lE h λdI gC h=>ls _ Y Y gC<|mv Y<|bE h λJa rY h=>?_
 cases dI
 obtain rfl:=O (F rY)
 exact ww<|ww<|pF Y<|dn<|⟨false,h,wR []⟩
 refine gm Y<|lE (V rY) λeD iF rY=>RT.lss (.some Y Y) _ Y Y T iF ?_
 obtain rfl:=O rY
 exact pT Y<|dn<|⟨eD,h,wR []⟩
 try dsimp only
 refine aW.n ?_
 cases Dn
 refine cF<|bN<|aW.x<|aW.x<|bF.x<|aW.n ?_
 obtain rfl:=O (F h)
 exact⟨FG,MB _ Y,wR []⟩
 refine cT<|bw<|aW.n<|qq<|aY<|sr<|bI (cs:=[_,_,_,_]) (cs':=[ay false,au,ay false,au]) (.nil) ⟨aq,aB,aq,aB,ak⟩<|al (cs:=[ay false,au,ay false,au]) (by exact⟨aq,aB,aq,aB,ak⟩) Y<|so Y Y Y<|dn<|qq<|sr<|mv Y<|mv Y<|lE (V h) λij oG h=>?_
 refine eq _ Y Y (ve (p:=sF) (q:=x1) oG)<|dn ?_
 refine bJ h (λPK=>AS.cj 27 [(0,ah x0),(1,ah x1),(5,.row 306),(6,ah sF),(7,.ptr 7 0)] [(7,⟨43,[ai PK.1,.sv (slc 1 (List.map bh PK.2.1)),ai PK.2.2.1,.sv (slc 1 (List.map bh PK.2.2.2))]⟩)] [(306,TR 43 4 eQ FG)]) (λh=>?_) (λPK h=>?_)
 cases ij
 exact fs<|⟨(false,[],false,[]),(F h),wR []⟩
 refine cT<|aX ?_
 obtain⟨⟨⟨l7,l8⟩,⟨nJ,nK⟩⟩,ke,h⟩:=bS (V h)
 exact cl (mR ke) ⟨Y,ak⟩<|so Y Y Y<|dn<|⟨(l7,l8,nJ,nK),h,wR []⟩
 obtain⟨vL,vM,vN,vO⟩:=PK
 try dsimp only
 refine aW.n<|aX<|mo (s:=.row _) Y<|ld Y Y (.k4 Y Y Y Y)<|bl (l:=[⟨⟨vL,vM⟩,⟨vN,vO⟩⟩]) (e:=eQ) (.agg Y (.nil)) Y Y Y Y Y Y<|bE h λjG nO h=>aR (k:=[⟨⟨vL,vM⟩,⟨vN,vO⟩⟩]) (e:=eQ) Y Y Y nO<|an (s:=.row _) Y<|RT.done<|bF.n<|aW.n<|aX<|mv Y<|lE h λfB lq h=>ad _ Y Y lq<|ag Y<|RT.done ?_
 obtain rfl:=O h
 exact aW.n ⟨(fB,jG),MA _ Y,cD (λi=>bif Nat.beq i 306 then 25 else i) Y Y Y Y Y ⟨.sv aq,.sv aq,.row Y,.sv aq,ak⟩ trivial ⟨⟨_,Y,cg.refl _⟩,ak⟩ (λi hi=>by rw[bV (show i≠306 by omega)];rfl)⟩
 subst Mz
 try dsimp only
 refine aW.n<|sr<|mo (s:=.row _) Y<|an (s:=.row _) Y<|dn<|bR (cV (i:=306) (E1:=43) (n:=4) (e:=eQ) (l:=zU) Y)<|bf ?_
 obtain rfl:=O tW
 exact R1 Y
end
section
open Go.Fw
noncomputable def cS(x0:List (List Qr)):Option (Int):=(bX (λ(s6:Int×Int)=>match s6 with|⟨ua,qQ⟩=>(show Option ((Int×Int)⊕(Int))from(some (x0.length:Int)).bind λx7=>(some (decide ((qQ:Int)<x7))).bind λx8=>(bif x8 then(cL x0 qQ).bind λei=>(some (ei.length:Int)).bind λfB=>(some (max (ua:Int) fB)).bind λdX=>(some (IntKind.i64.wrap (qQ+1))).bind λdI=>some (.inl (dX,dI))else some (.inr ua)))) (0,0)).bind λyT=>some yT
noncomputable def fD(x0:List (List Qr))(x1:Int)(x2:Int):Option (Qr):=cE (λ(w5:Bool)=>(bif w5 then some ⟨⟨false,[]⟩,⟨false,[]⟩⟩else(cL x0 x1).bind λeX=>(g9 eX x2).bind λ⟨⟨l7,l8⟩,⟨nJ,nK⟩⟩=>(nq ⟨⟨l7,l8⟩,⟨nJ,nK⟩⟩).bind λ⟨⟨wJ,wK⟩,⟨wL,wM⟩⟩=>some ⟨⟨wJ,wK⟩,⟨wL,wM⟩⟩)) λK3=>(some (decide ((x1:Int)<0))).bind λx8=>(bif x8 then some true else(some (x0.length:Int)).bind λc9=>(some (decide ((c9:Int)≤x1))).bind λeD=>some eD).bind λadm=>K3 adm
noncomputable def eL(x0:Nat)(x1:Qr)(x2:List (List Qr))(x3:List (List Qr))(x4:Int)(x5:Int):Option (Qr):=match x1 with|⟨⟨cu,cm⟩,⟨eE,eG⟩⟩=>(some (decide ((x0:Nat)=1))).bind λdX=>(bif dX then(fD x2 x5 x4).bind λ⟨⟨l7,l8⟩,⟨nJ,nK⟩⟩=>some ⟨⟨l7,l8⟩,⟨nJ,nK⟩⟩else(some (decide ((x0:Nat)=2))).bind λjg=>(bif jg then(bX (λ(pA:Int×Bool×(List Nat)×Bool×(List Nat))=>match pA with|⟨Jc,Em,En,Eo,Ep⟩=>(show Option ((Int×Bool×(List Nat)×Bool×(List Nat))⊕(Bool×(List Nat)×Bool×(List Nat)))from(cS x2).bind λiO=>(some (decide ((Jc:Int)<iO))).bind λkT=>(bif kT then(fD x2 x4 Jc).bind λ⟨⟨Tq,Tr⟩,⟨Ts,PL⟩⟩=>(fD x3 Jc x5).bind λ⟨⟨Ea,Eb⟩,⟨Lw,Lx⟩⟩=>(kG ⟨⟨Tq,Tr⟩,⟨Ts,PL⟩⟩ ⟨⟨Ea,Eb⟩,⟨Lw,Lx⟩⟩).bind λ⟨⟨vh,vi⟩,⟨yK,yL⟩⟩=>(mE ⟨⟨Em,En⟩,⟨Eo,Ep⟩⟩ ⟨⟨vh,vi⟩,⟨yK,yL⟩⟩).bind λ⟨⟨Lm,Ln⟩,⟨XH,XI⟩⟩=>(some (IntKind.i64.wrap (Jc+1))).bind λoF=>some (.inl (oF,Lm,Ln,XH,XI))else some (.inr (Em,En,Eo,Ep))))) (0,false,[],false,[])).bind λEc=>match Ec with|⟨PM,PN,PO,PR⟩=>some ⟨⟨PM,PN⟩,⟨PO,PR⟩⟩else(some (decide ((x0:Nat)=3))).bind λsj=>(bif sj then(cS x2).bind λsE=>(some (decide ((x5:Int)<sE))).bind λr9=>(bif r9 then(fD x2 x4 x5).bind λ⟨⟨adn,ado⟩,⟨adp,adq⟩⟩=>some ⟨⟨adn,ado⟩,⟨adp,adq⟩⟩else(cS x2).bind λN3=>(some (IntKind.i64.wrap (x5-N3))).bind λAx=>(fD x3 x4 Ax).bind λ⟨⟨Ly,Lz⟩,⟨LA,LB⟩⟩=>some ⟨⟨Ly,Lz⟩,⟨LA,LB⟩⟩)else(fD x2 x4 x5).bind λ⟨⟨adr,ads⟩,⟨adt,adu⟩⟩=>(kG ⟨⟨cu,cm⟩,⟨eE,eG⟩⟩ ⟨⟨adr,ads⟩,⟨adt,adu⟩⟩).bind λ⟨⟨adv,adw⟩,⟨adx,ady⟩⟩=>some ⟨⟨adv,adw⟩,⟨adx,ady⟩⟩)))
noncomputable def kJ(x0:Int)(x1:Int)(x2:Nat)(x3:Qr)(x4:List (List Qr))(x5:List (List Qr)):Option (List (List Qr)):=match x3 with|⟨⟨uQ,uR⟩,⟨Jd,Je⟩⟩=>(bX (λ(pA:Int×(List (List Qr)))=>match pA with|⟨yZ,l9⟩=>(show Option ((Int×(List (List Qr)))⊕((List (List Qr))))from(some (decide ((yZ:Int)<x0))).bind λjl=>(bif jl then(bX (λ(AF:Int×(List Qr))=>match AF with|⟨zV,nL⟩=>(show Option ((Int×(List Qr))⊕((List Qr)))from(some (decide ((zV:Int)<x1))).bind λgX=>(bif gX then(eL x2 ⟨⟨uQ,uR⟩,⟨Jd,Je⟩⟩ x4 x5 yZ zV).bind λ⟨⟨qA,qB⟩,⟨vp,vr⟩⟩=>(nC 64 nL [⟨⟨qA,qB⟩,⟨vp,vr⟩⟩]).bind λpg=>(some (IntKind.i64.wrap (zV+1))).bind λjH=>some (.inl (jH,pg))else some (.inr nL)))) (0,[])).bind λfo=>(nC 24 l9 [fo]).bind λnj=>(some (IntKind.i64.wrap (yZ+1))).bind λfL=>some (.inl (fL,nj))else some (.inr l9)))) (0,[])).bind λgM=>some gM
noncomputable def jC(x0:Int):Option (Int):=(some (max (x0:Int) 0)).bind λx4=>(some (min (x4:Int) 1024)).bind λx5=>some x5
noncomputable def qL(x0:List (List Qr))(x1:Int)(x2:Int):Option (List (List Qr)):=(jC x1).bind λx8=>(jC x2).bind λdI=>(iL 1).bind λ⟨⟨xF,xG⟩,⟨PS,PT⟩⟩=>(kJ x8 dI 0 ⟨⟨xF,xG⟩,⟨PS,PT⟩⟩ x0 []).bind λeD=>some eD
noncomputable def nu(x0:List (List Qr))(x1:Int):Option (Bool):=(cS x0).bind λx6=>(some (decide ((x6:Int)≤x1))).bind λx8=>some x8
noncomputable def kK(x0:Lr):Option (Bool):=match x0 with|⟨bk,bn,bt,bB⟩=>cE (λ(R3:Bool)=>(bif R3 then some false else cE (λ(OP:Bool)=>some OP) λK24=>(nu bn bk).bind λnE=>(bif nE then(nu bt bk).bind λr9=>some r9 else some false).bind λXJ=>K24 XJ)) λK21=>(some (decide ((bk:Int)<0))).bind λx5=>(bif x5 then some true else(some (decide ((64:Int)<bk))).bind λx9=>some x9).bind λXK=>(bif XK then some true else(some (bn.length:Int)).bind λei=>(some (decide ((ei:Int)<1))).bind λdH=>some dH).bind λaga=>(bif aga then some true else(some (bn.length:Int)).bind λij=>(some (decide ((4:Int)<ij))).bind λfL=>some fL).bind λagb=>(bif agb then some true else(some (bt.length:Int)).bind λjH=>(some (decide ((128:Int)<jH))).bind λiO=>some iO).bind λagc=>(bif agc then some true else(some (bB.length:Int)).bind λiP=>(some (bt.length:Int)).bind λku=>(some (decide ((iP:Int)≠ku))).bind λpg=>some pg).bind λagd=>K21 agd
end
section
open Go.Fw Go.Fw.Z Go.RowKit
theorem eM{x0:List (List Qr)}{r:Int}(h:cS x0=some r):Pure af 118 [slc 1 (List.map (eS 4 eQ) x0)] (ax r):=by
 refine bj Tryz.func118 Y (ae Y) (λdw M vs hvs=>?_)
 unfold cS at h
 refine sr<|ag Y<|dn<|sr<|ag Y<|dn<|qq<|sr<|ag Y<|dn<|bE h λe6 vA jo=>?_
 refine bK (λ(yT:Int)=>AS.cj 19 [(3,ah yT)] [] []) (λyT=>yT=e6) ?_ (λyT vB=>?_)
 refine aY ?_
 refine bL vA (λs6=>AS.cj 19 [(0,.sv (slc 1 (List.map (eS 4 eQ) x0))),(3,ah s6.1),(4,ah s6.2)] [] []) (wR []) (λs6 y6 G6 h vC qy=>?_)
 obtain⟨ua,qQ⟩:=s6
 try dsimp only
 refine qq<|sr<|mv Y<|mv Y<|lE h λx7 h7 h=>ln Y h7<|lE h λx8 h8 h=>ls _ Y Y h8<|dn ?_
 cases x8
 refine cF<|bN<|aW.x<|aW.x<|bF.x<|aW.n ?_
 obtain rfl:=O (F h)
 exact⟨ua,qy _ Y,wR []⟩
 refine cT<|bw<|aW.n<|qq<|aY<|aX<|mv Y<|mv Y<|mv Y<|bE (V h) λei jx h=>ix Y Y jx<|lr Y Y<|lE h λfB lq h=>ln Y lq<|lE h λdX jO h=>RT.max .none _ Y Y T (Oo (p:=ua) (q:=fB) jO)<|ag Y<|RT.done<|bF.n<|aW.n<|aX<|mv Y<|lE h λdI gC h=>ad _ Y Y gC<|ag Y<|RT.done ?_
 obtain rfl:=O h
 exact aW.n ⟨(dX,dI),vC _ Y,wR []⟩
 subst vB
 try dsimp only
 refine aW.n<|sr<|mv Y<|ag Y<|dn<|bf ?_
 obtain rfl:=O jo
 exact R1 Y
theorem kL{x0:List (List Qr)}{x1:Int}{x2:Int}{r:Qr}(h:fD x0 x1 x2=some r):Pure af 121 [slc 1 (List.map (eS 4 eQ) x0),ax x1,ax x2] (.agg (eQ r)):=by
 refine bj Tryz.func121 Y (ae Y) (λdw M vs hvs=>?_)
 unfold fD at h
 refine sr<|al (cs:=[ay false,au,ay false,au]) (by exact⟨aq,aB,aq,aB,ak⟩) Y<|dn<|qq<|qq ?_
 refine bJ h (λj3=>AS.cj 23 [(0,.sv (slc 1 (List.map (eS 4 eQ) x0))),(1,ah x1),(2,ah x2),(6,.ptr 6 0),(14,ai j3)] [(6,⟨43,[ai false,.sv au,ai false,.sv au]⟩)] []) (λh=>?_) (λw5 h=>?_)
 refine aX<|mv Y<|lE h λx8 h8 h=>ls _ Y Y h8<|mv Y<|bE h λadm rW h=>?_
 cases x8
 refine gm Y<|gm Y<|lE (F rW) λc9 fC rW=>gn Y fC<|lE rW λeD iF rW=>RT.geq (.some Y Y) _ Y Y T iF ?_
 obtain rfl:=O rW
 exact pF Y<|dn<|⟨eD,h,wR []⟩
 obtain rfl:=O (V rW)
 exact ww<|ww<|ww<|ww<|pT Y<|dn<|⟨true,h,wR []⟩
 try dsimp only
 refine aW.n ?_
 cases w5
 refine fs<|sr<|mv Y<|mv Y<|bE (F h) λeX jK h=>ix Y Y jK<|lr Y Y<|mv Y ?_
 obtain⟨⟨⟨l7,l8⟩,⟨nJ,nK⟩⟩,ke,h⟩:=bS h
 refine cl (mF ke) ⟨Y,Y,ak⟩ ?_
 obtain⟨⟨⟨wJ,wK⟩,⟨wL,wM⟩⟩,oH,h⟩:=bS h
 refine cl (Bt oH) ⟨Y,ak⟩<|so Y Y Y<|dn<|bf ?_
 obtain rfl:=O h
 exact RZ (.agg Y Y (.k4 Y Y Y Y) Y (.nil))
 refine cT<|sr<|bI (cs:=[_,_,_,_]) (cs':=[ay false,au,ay false,au]) (.nil) ⟨aq,aB,aq,aB,ak⟩<|so Y Y Y<|dn<|bf<|aW.r ?_
 obtain rfl:=O (V h)
 exact RZ (.agg Y Y (.k4 Y Y Y Y) Y (.nil))
theorem Bu{x0:Nat}{x1:Qr}{x2:List (List Qr)}{x3:List (List Qr)}{x4:Int}{x5:Int}{r:Qr}(h:eL x0 x1 x2 x3 x4 x5=some r):Pure af 177 [.v (.int .u8 ((x0:Nat):Int)),.agg (eQ x1),slc 1 (List.map (eS 4 eQ) x2),slc 1 (List.map (eS 4 eQ) x3),ax x4,ax x5] (.agg (eQ r)):=by
 obtain⟨⟨cu,cm⟩,⟨eE,eG⟩⟩:=x1
 refine bj Tryz.func177 Y (ae Y) (λdw M vs hvs=>?_)
 unfold eL at h
 refine sr<|bx Y<|al (cs:=[ay false,au,ay false,au]) (by exact⟨aq,aB,aq,aB,ak⟩) Y<|dn<|qq<|sr<|mv Y<|dn<|aY<|sr<|lE h λdX jO h=>eq _ Y Y (eqN (p:=x0) (q:=1) jO)<|ag Y<|dn ?_
 cases dX
 refine cF<|sr<|lE (F h) λjg qP h=>eq _ Y Y (eqN (p:=x0) (q:=2) qP)<|ag Y<|dn ?_
 cases jg
 refine cF<|sr<|lE (F h) λsj Az h=>eq _ Y Y (eqN (p:=x0) (q:=3) Az)<|ag Y<|dn ?_
 cases sj
 refine cF<|bw<|bF.n<|aW.n<|qq<|aZ mixed<|ld Y Y (.k4 Y Y Y Y)<|mv Y<|mv Y<|mv Y ?_
 obtain⟨⟨⟨adr,ads⟩,⟨adt,adu⟩⟩,h64,h⟩:=bS (F h)
 refine cl (kL h64) ⟨Y,Y,Y,ak⟩ ?_
 obtain⟨⟨⟨adv,adw⟩,⟨adx,ady⟩⟩,Vs,h⟩:=bS h
 refine cl (rC Vs) ⟨Y,Y,ak⟩<|so Y Y Y ?_
 refine RT.done ⟨by kernel_rfl,?_⟩
 refine aW.n<|bf ?_
 obtain rfl:=O h
 exact RZ (.agg Y Y (.k4 Y Y Y Y) Y (.nil))
 refine cT<|qq<|sr<|mv Y<|mv Y<|bE (V h) λsE zH h=>cl (eM zH) ⟨Y,ak⟩<|lE h λr9 h48 h=>ls _ Y Y h48<|dn ?_
 cases r9
 refine fs<|sr<|mv Y<|mv Y<|mv Y<|mv Y<|bE (F h) λN3 Ww h=>cl (eM Ww) ⟨Y,ak⟩<|lE h λAx Rg h=>sb _ Y Y Rg ?_
 obtain⟨⟨⟨Ly,Lz⟩,⟨LA,LB⟩⟩,h59,h⟩:=bS h
 refine cl (kL h59) ⟨Y,Y,Y,ak⟩<|so Y Y Y<|dn<|bf<|bF.r<|aW.r ?_
 obtain rfl:=O h
 exact RZ (.agg Y Y (.k4 Y Y Y Y) Y (.nil))
 refine cT<|sr<|mv Y<|mv Y<|mv Y ?_
 obtain⟨⟨⟨adn,ado⟩,⟨adp,adq⟩⟩,GL,h⟩:=bS (V h)
 refine cl (kL GL) ⟨Y,Y,Y,ak⟩<|so Y Y Y<|dn<|bf<|aW.r<|bF.r<|aW.r ?_
 obtain rfl:=O h
 exact RZ (.agg Y Y (.k4 Y Y Y Y) Y (.nil))
 refine cT<|sr<|bI (cs:=[_,_,_,_]) (cs':=[ay false,au,ay false,au]) (.nil) ⟨aq,aB,aq,aB,ak⟩<|al (cs:=[ay false,au,ay false,au]) (by exact⟨aq,aB,aq,aB,ak⟩) Y<|so Y Y Y<|dn<|qq<|sr<|ag Y<|dn<|bE (V h) λEc wW ko=>?_
 refine bK (λ(yY:Bool×(List Nat)×Bool×(List Nat))=>AS.cj 66 [(12,.ptr 12 0),(13,.ptr 13 0)] [(13,⟨43,[ai yY.1,.sv (slc 1 (List.map bh yY.2.1)),ai yY.2.2.1,.sv (slc 1 (List.map bh yY.2.2.2))]⟩),(12,⟨43,[ai false,.sv au,ai false,.sv au]⟩)] []) (λyY=>yY=Ec) ?_ (λyY uS=>?_)
 refine aY ?_
 refine bL wW (λpA=>AS.cj 66 [(2,.sv (slc 1 (List.map (eS 4 eQ) x2))),(3,.sv (slc 1 (List.map (eS 4 eQ) x3))),(4,ah x4),(5,ah x5),(12,.ptr 12 0),(13,.ptr 13 0),(14,ah pA.1)] [(13,⟨43,[ai pA.2.1,.sv (slc 1 (List.map bh pA.2.2.1)),ai pA.2.2.2.1,.sv (slc 1 (List.map bh pA.2.2.2.2))]⟩),(12,⟨43,[ai false,.sv au,ai false,.sv au]⟩)] []) (wR []) (λpA ZK ZL h yp vI=>?_)
 obtain⟨Jc,Em,En,Eo,Ep⟩:=pA
 try dsimp only
 refine qq<|sr<|mv Y<|mv Y<|bE h λiO pN h=>cl (eM pN) ⟨Y,ak⟩<|lE h λkT uO h=>ls _ Y Y uO<|dn ?_
 cases kT
 refine cF<|bN<|aW.x<|aW.x<|bF.x<|aW.n ?_
 obtain rfl:=O (F h)
 exact⟨(Em,En,Eo,Ep),vI _ Y,wR []⟩
 refine cT<|bw<|aW.n<|qq<|aY<|aZ mixed<|ld Y Y (.k4 Y Y Y Y)<|mv Y<|mv Y<|mv Y ?_
 obtain⟨⟨⟨Tq,Tr⟩,⟨Ts,PL⟩⟩,vE,h⟩:=bS (V h)
 refine cl (kL vE) ⟨Y,Y,Y,ak⟩<|mv Y<|mv Y<|mv Y ?_
 obtain⟨⟨⟨Ea,Eb⟩,⟨Lw,Lx⟩⟩,DX,h⟩:=bS h
 refine cl (kL DX) ⟨Y,Y,Y,ak⟩ ?_
 obtain⟨⟨⟨vh,vi⟩,⟨yK,yL⟩⟩,vm,h⟩:=bS h
 refine cl (rC vm) ⟨Y,Y,ak⟩ ?_
 obtain⟨⟨⟨Lm,Ln⟩,⟨XH,XI⟩⟩,GK,h⟩:=bS h
 refine cl (vK GK) ⟨Y,Y,ak⟩<|so Y Y Y ?_
 refine RT.done ⟨by kernel_rfl,?_⟩
 refine bF.n<|aW.n<|aX<|mv Y<|lE h λoF vD h=>ad _ Y Y vD<|ag Y<|RT.done ?_
 obtain rfl:=O h
 exact aW.n ⟨(oF,Lm,Ln,XH,XI),yp _ Y,wR []⟩
 subst uS
 obtain⟨PM,PN,PO,PR⟩:=yY
 try dsimp only
 refine aW.n<|sr<|ld Y Y (.k4 Y Y Y Y)<|so Y Y Y<|dn<|bf<|bF.r<|aW.r ?_
 obtain rfl:=O ko
 exact RZ (.agg Y Y (.k4 Y Y Y Y) Y (.nil))
 refine cT<|sr<|mv Y<|mv Y<|mv Y ?_
 obtain⟨⟨⟨l7,l8⟩,⟨nJ,nK⟩⟩,ke,h⟩:=bS (V h)
 refine cl (kL ke) ⟨Y,Y,Y,ak⟩<|so Y Y Y<|dn<|bf<|bF.r<|aW.r ?_
 obtain rfl:=O h
 exact RZ (.agg Y Y (.k4 Y Y Y Y) Y (.nil))
theorem th{x0:Int}{x1:Int}{x2:Nat}{x3:Qr}{x4:List (List Qr)}{x5:List (List Qr)}{r:List (List Qr)}(h:kJ x0 x1 x2 x3 x4 x5=some r):Pure af 148 [ax x0,ax x1,.v (.int .u8 ((x2:Nat):Int)),.agg (eQ x3),slc 1 (List.map (eS 4 eQ) x4),slc 1 (List.map (eS 4 eQ) x5)] (slc 1 (List.map (eS 4 eQ) r)):=by
 obtain⟨⟨uQ,uR⟩,⟨Jd,Je⟩⟩:=x3
 refine bj Tryz.func148 Y (ae Y) (λdw M vs hvs=>?_)
 unfold kJ at h
 refine sr<|bx Y<|aI Y (aB (n:=1) (e:=(eS 4 eQ)))<|dn<|sr<|ag Y<|dn<|bR (c8 13 304 23 1 Y Y T)<|qq<|sr<|ag Y<|dn<|bE h λEc wW ko=>?_
 refine bK (λ(gM:(List (List Qr)))=>AS.cj 42 [(13,.row 311)] [] [(311,TR 23 1 (eS 4 eQ) gM)]) (λgM=>gM=Ec) ?_ (λgM uS=>?_)
 refine aY ?_
 refine bL wW (λpA=>AS.cj 42 [(0,ah x0),(1,ah x1),(2,.sv (.v (.int .u8 ((x2:Nat):Int)))),(4,.sv (slc 1 (List.map (eS 4 eQ) x4))),(5,.sv (slc 1 (List.map (eS 4 eQ) x5))),(9,.ptr 9 0),(13,.row 311),(14,ah pA.1)] [(9,⟨43,[ai uQ,.sv (slc 1 (List.map bh uR)),ai Jd,.sv (slc 1 (List.map bh Je))]⟩)] [(311,TR 23 1 (eS 4 eQ) pA.2)]) (cD (λi=>bif Nat.beq i 311 then 304 else i) Y Y Y Y Y ⟨.sv aq,.sv aq,.sv aq,.sv aq,.sv aq,.ptr,.row Y,.sv aq,ak⟩ ⟨⟨_,Y,⟨.sv aq,.sv aq,.sv aq,.sv aq,ak⟩⟩,ak⟩ ⟨⟨_,Y,cg.refl _⟩,ak⟩ (λi hi=>by rw[bV (show i≠311 by omega)];rfl)) (λpA ZK ZL h yp vI=>?_)
 obtain⟨yZ,l9⟩:=pA
 try dsimp only
 refine qq<|sr<|mv Y<|mv Y<|lE h λjl mw h=>ls _ Y Y mw<|dn ?_
 cases jl
 refine cF<|bN<|aW.x<|aW.x<|bF.x<|aW.n ?_
 obtain rfl:=O (F h)
 exact⟨l9,vI _ Y,wR []⟩
 refine cT<|bw<|aW.n<|qq<|aY<|sr<|ag Y<|dn<|bR (c8 15 321 43 4 Y Y T)<|qq<|sr<|ag Y<|dn<|bE (V h) λe22 M5 o8=>?_
 refine bK (λ(fo:(List Qr))=>AS.cj 42 [(0,ah x0),(1,ah x1),(2,.sv (.v (.int .u8 ((x2:Nat):Int)))),(4,.sv (slc 1 (List.map (eS 4 eQ) x4))),(5,.sv (slc 1 (List.map (eS 4 eQ) x5))),(9,.ptr 9 0),(13,.row 311),(14,ah yZ),(15,.row 323)] [(9,⟨43,[ai uQ,.sv (slc 1 (List.map bh uR)),ai Jd,.sv (slc 1 (List.map bh Je))]⟩)] [(311,TR 23 1 (eS 4 eQ) l9),(323,TR 43 4 eQ fo)]) (λfo=>fo=e22) ?_ (λfo M6=>?_)
 refine aY ?_
 refine bL M5 (λAF=>AS.cj 42 [(0,ah x0),(1,ah x1),(2,.sv (.v (.int .u8 ((x2:Nat):Int)))),(4,.sv (slc 1 (List.map (eS 4 eQ) x4))),(5,.sv (slc 1 (List.map (eS 4 eQ) x5))),(9,.ptr 9 0),(13,.row 311),(14,ah yZ),(15,.row 323),(16,ah AF.1)] [(9,⟨43,[ai uQ,.sv (slc 1 (List.map bh uR)),ai Jd,.sv (slc 1 (List.map bh Je))]⟩)] [(311,TR 23 1 (eS 4 eQ) l9),(323,TR 43 4 eQ AF.2)]) (cD (λi=>bif Nat.beq i 323 then 321 else i) Y Y Y Y Y ⟨.sv aq,.sv aq,.sv aq,.sv aq,.sv aq,.ptr,.row Y,.sv aq,.row Y,.sv aq,ak⟩ ⟨⟨_,Y,⟨.sv aq,.sv aq,.sv aq,.sv aq,ak⟩⟩,ak⟩ ⟨⟨_,Y,cg.refl _⟩,⟨_,Y,cg.refl _⟩,ak⟩ (λi hi=>by rw[bV (show i≠323 by omega)];rfl)) (λAF y22 G22 h M7 M8=>?_)
 obtain⟨zV,nL⟩:=AF
 try dsimp only
 refine qq<|sr<|mv Y<|mv Y<|lE h λgX oY h=>ls _ Y Y oY<|dn ?_
 cases gX
 refine cF<|bN<|aW.x<|aW.x<|bF.x<|aW.n ?_
 obtain rfl:=O (F h)
 exact⟨nL,M8 _ Y,wR []⟩
 refine cT<|bw<|aW.n<|qq<|aY<|aX<|mo (s:=.row _) Y<|mv Y<|ld Y Y (.k4 Y Y Y Y)<|mv Y<|mv Y<|mv Y<|mv Y ?_
 obtain⟨⟨⟨qA,qB⟩,⟨vp,vr⟩⟩,xu,h⟩:=bS (V h)
 refine cl (Bu xu) ⟨Y,Y,Y,Y,Y,Y,ak⟩<|bl (l:=[⟨⟨qA,qB⟩,⟨vp,vr⟩⟩]) (e:=eQ) (.agg Y (.nil)) Y Y Y Y Y Y<|bE h λpg yJ h=>aR (k:=[⟨⟨qA,qB⟩,⟨vp,vr⟩⟩]) (e:=eQ) Y Y Y yJ<|an (s:=.row _) Y<|RT.done<|bF.n<|aW.n<|aX<|mv Y<|lE h λjH rV h=>ad _ Y Y rV<|ag Y<|RT.done ?_
 obtain rfl:=O h
 exact aW.n ⟨(jH,pg),M7 _ Y,cD (λi=>bif Nat.beq i 323 then 36 else i) Y Y Y Y Y ⟨.sv aq,.sv aq,.sv aq,.sv aq,.sv aq,.ptr,.row Y,.sv aq,.row Y,.sv aq,ak⟩ ⟨⟨_,Y,⟨.sv aq,.sv aq,.sv aq,.sv aq,ak⟩⟩,ak⟩ ⟨⟨_,Y,cg.refl _⟩,⟨_,Y,cg.refl _⟩,ak⟩ (λi hi=>by rw[bV (show i≠323 by omega)];rfl)⟩
 subst M6
 try dsimp only
 refine aW.n<|bR (cV (i:=323) (E1:=43) (n:=4) (e:=eQ) (l:=fo) Y)<|aX<|mo (s:=.row _) Y<|mv Y<|bl (l:=[fo]) (e:=(eS 4 eQ)) (.one Y (.nil)) Y Y Y Y Y Y<|bE o8 λnj vm o8=>aR (k:=[fo]) (e:=(eS 4 eQ)) Y Y Y vm<|an (s:=.row _) Y<|RT.done<|bF.n<|aW.n<|aX<|mv Y<|lE o8 λfL ke o8=>ad _ Y Y ke<|ag Y<|RT.done ?_
 obtain rfl:=O o8
 exact aW.n ⟨(fL,nj),yp _ Y,cD (λi=>bif Nat.beq i 311 then 40 else i) Y Y Y Y Y ⟨.sv aq,.sv aq,.sv aq,.sv aq,.sv aq,.ptr,.row Y,.sv aq,ak⟩ ⟨⟨_,Y,⟨.sv aq,.sv aq,.sv aq,.sv aq,ak⟩⟩,ak⟩ ⟨⟨_,Y,cg.refl _⟩,ak⟩ (λi hi=>by rw[bV (show i≠311 by omega)];rfl)⟩
 subst uS
 try dsimp only
 refine aW.n<|sr<|mo (s:=.row _) Y<|an (s:=.row _) Y<|dn<|bR (cV (i:=311) (E1:=23) (n:=1) (e:=(eS 4 eQ)) (l:=gM) Y)<|bf ?_
 obtain rfl:=O ko
 exact R1 Y
theorem oO{x0:Int}{r:Int}(h:jC x0=some r):Pure af 178 [ax x0] (ax r):=by
 refine bj Tryz.func178 Y (ae Y) (λdw M vs hvs=>?_)
 unfold jC at h
 refine sr<|ag Y<|dn<|sr<|mv Y<|lE h λx4 h4 h=>RT.max .none _ Y Y T (Oo (p:=x0) (q:=0) h4)<|lE h λx5 h5 h=>RT.min .none _ Y Y T (V5 (p:=x4) (q:=1024) h5)<|ag Y<|dn<|bf ?_
 obtain rfl:=O h
 exact R1 Y
theorem Nq{x0:List (List Qr)}{x1:Int}{x2:Int}{r:List (List Qr)}(h:qL x0 x1 x2=some r):Pure af 150 [slc 1 (List.map (eS 4 eQ) x0),ax x1,ax x2] (slc 1 (List.map (eS 4 eQ) r)):=by
 refine bj Tryz.func150 Y (ae Y) (λdw M vs hvs=>?_)
 unfold qL at h
 refine sr<|aI Y (aB (n:=1) (e:=(eS 4 eQ)))<|dn<|sr<|mv Y<|bE h λx8 h8 h=>cl (oO h8) ⟨Y,ak⟩<|mv Y<|bE h λdI gC h=>cl (oO gC) ⟨Y,ak⟩ ?_
 obtain⟨⟨⟨xF,xG⟩,⟨PS,PT⟩⟩,lp,h⟩:=bS h
 refine cl (mR lp) ⟨Y,ak⟩<|mv Y<|bE h λeD iF h=>cl ((th iF).w (args':=[_,_,_,_,_,_]) ⟨aq,aq,aq,aq,aq,aB,ak⟩) ⟨Y,Y,Y,Y,Y,Y,ak⟩<|ag Y<|dn<|bf ?_
 obtain rfl:=O h
 exact R1 Y
theorem Bv{x0:List (List Qr)}{x1:Int}{r:Bool}(h:nu x0 x1=some r):Pure af 72 [slc 1 (List.map (eS 4 eQ) x0),ax x1] (ay r):=by
 refine bj Tryz.func72 Y (ae Y) (λdw M vs hvs=>?_)
 unfold nu at h
 refine sr<|ag Y<|dn<|sr<|mv Y<|bE h λx6 h6 h=>cl (eM h6) ⟨Y,ak⟩<|mv Y<|lE h λx8 h8 h=>RT.leq .none _ Y Y T h8<|ag Y<|dn<|bf ?_
 obtain rfl:=O h
 exact R1 Y
theorem oP{x0:Lr}{r:Bool}(h:kK x0=some r):Pure af 24 [.agg (K0 x0)] (ay r):=by
 obtain⟨bk,bn,bt,bB⟩:=x0
 refine bj Tryz.func24 Y (ae Y) (λdw M vs hvs=>?_)
 unfold kK at h
 refine sr<|bx Y<|ag Y<|dn<|qq<|qq ?_
 refine bJ h (λj21=>AS.cj 50 [(1,.ptr 1 0),(37,ai j21)] [(1,⟨25,[ah bk,.sv (slc 1 (List.map (eS 4 eQ) bn)),.sv (slc 1 (List.map (eS 4 eQ) bt)),.sv (slc 4 (List.map eQ bB))]⟩)] []) (λh=>?_) (λR3 h=>?_)
 refine aX<|fa Y Y<|lV Y Y Y<|lE h λx5 h5 h=>ls _ Y Y h5<|mv Y<|bE h λXK I2 h=>?_
 cases x5
 refine RT.fieldAddr (.some Y Y) Y T Y<|RT.yy (.some Y Y) Y Y Y T<|lE (F I2) λx9 h9 I2=>gg _ Y Y h9 ?_
 obtain rfl:=O I2
 refine pF Y<|mv Y<|bE h λaoN yM h=>?_
 cases x9
 refine RT.fieldAddr (.some Y Y) Y T Y<|RT.yy (.some Y Y) Y Y Y T<|lE (F yM) λei jx yM=>gn Y jx<|lE yM λdH gD yM=>RT.lss (.some Y Y) _ Y Y T gD ?_
 obtain rfl:=O yM
 refine pF Y<|mv Y<|bE h λaoO r6 h=>?_
 cases dH
 refine RT.fieldAddr (.some Y Y) Y T Y<|RT.yy (.some Y Y) Y Y Y T<|lE (F r6) λij oG r6=>gn Y oG<|lE r6 λfL ke r6=>gg _ Y Y ke ?_
 obtain rfl:=O r6
 refine pF Y<|mv Y<|bE h λaoP C5 h=>?_
 cases fL
 refine RT.fieldAddr (.some Y Y) Y T Y<|RT.yy (.some Y Y) Y Y Y T<|lE (F C5) λjH rV C5=>gn Y rV<|lE C5 λiO pN C5=>gg _ Y Y pN ?_
 obtain rfl:=O C5
 refine pF Y<|mv Y<|bE h λaoQ kY h=>?_
 cases iO
 refine RT.fieldAddr (.some Y Y) Y T Y<|RT.yy (.some Y Y) Y Y Y T<|lE (F kY) λiP pW kY=>gn Y pW<|RT.fieldAddr (.some Y Y) Y T Y<|RT.yy (.some Y Y) Y Y Y T<|lE kY λku vE kY=>gn Y vE<|lE kY λpg yJ kY=>gq _ Y Y (JY (p:=iP) (q:=ku) yJ) ?_
 obtain rfl:=O kY
 exact pF Y<|dn<|⟨pg,h,wR []⟩
 obtain rfl:=O (V kY)
 exact ww<|ww<|ww<|ww<|ww<|ww<|ww<|pT Y<|dn<|⟨true,h,wR []⟩
 obtain rfl:=O (V C5)
 refine ww<|ww<|ww<|ww<|pT Y<|mv Y<|bE h λaoR oc h=>?_
 obtain rfl:=O (V oc)
 exact ww<|ww<|ww<|ww<|ww<|ww<|ww<|pT Y<|dn<|⟨true,h,wR []⟩
 obtain rfl:=O (V r6)
 refine ww<|ww<|ww<|ww<|pT Y<|mv Y<|bE h λaoS yN h=>?_
 obtain rfl:=O (V yN)
 refine ww<|ww<|ww<|ww<|pT Y<|mv Y<|bE h λaoT D0 h=>?_
 obtain rfl:=O (V D0)
 exact ww<|ww<|ww<|ww<|ww<|ww<|ww<|pT Y<|dn<|⟨true,h,wR []⟩
 obtain rfl:=O (V yM)
 refine ww<|ww<|ww<|ww<|pT Y<|mv Y<|bE h λaoU D1 h=>?_
 obtain rfl:=O (V D1)
 refine ww<|ww<|ww<|ww<|pT Y<|mv Y<|bE h λaoV WN h=>?_
 obtain rfl:=O (V WN)
 refine ww<|ww<|ww<|ww<|pT Y<|mv Y<|bE h λaoW MJ h=>?_
 obtain rfl:=O (V MJ)
 exact ww<|ww<|ww<|ww<|ww<|ww<|ww<|pT Y<|dn<|⟨true,h,wR []⟩
 obtain rfl:=O (V I2)
 refine ww<|ww<|ww<|pT Y<|mv Y<|bE h λaoX Kr h=>?_
 obtain rfl:=O (V Kr)
 refine ww<|ww<|ww<|ww<|pT Y<|mv Y<|bE h λaoY afE h=>?_
 obtain rfl:=O (V afE)
 refine ww<|ww<|ww<|ww<|pT Y<|mv Y<|bE h λaoZ Ks h=>?_
 obtain rfl:=O (V Ks)
 refine ww<|ww<|ww<|ww<|pT Y<|mv Y<|bE h λao0 Kt h=>?_
 obtain rfl:=O (V Kt)
 exact ww<|ww<|ww<|ww<|ww<|ww<|ww<|pT Y<|dn<|⟨true,h,wR []⟩
 try dsimp only
 refine aW.n ?_
 cases R3
 refine fs<|qq ?_
 refine bJ (F h) (λj24=>AS.cj 50 [(2,ai j24)] [] []) (λh=>?_) (λOP h=>?_)
 refine aX<|fa Y Y<|lV Y Y Y<|fa Y Y<|lV Y Y Y<|bE h λnE ym h=>cl (Bv ym) ⟨Y,Y,ak⟩<|mv Y<|bE h λXJ ue h=>?_
 cases nE
 obtain rfl:=O (F ue)
 exact ww<|ww<|ww<|ww<|ww<|pF Y<|ag Y<|dn<|⟨false,h,wR []⟩
 refine RT.fieldAddr (.some Y Y) Y T Y<|RT.yy (.some Y Y) Y Y Y T<|RT.fieldAddr (.some Y Y) Y T Y<|RT.yy (.some Y Y) Y Y Y T<|bE (V ue) λr9 h48 ue=>gc (Bv h48) ⟨Y,Y,ak⟩ ?_
 obtain rfl:=O ue
 exact pT Y<|ag Y<|dn<|⟨r9,h,wR []⟩
 try dsimp only
 refine aW.n<|bf ?_
 obtain rfl:=O h
 exact R1 Y
 refine cT<|sr<|ag Y<|dn<|bf<|aW.r ?_
 obtain rfl:=O (V h)
 exact R1 Y
end
section
open Go.Fw
noncomputable def rD(x0:List Zr):Option (Bool):=(bX (λ(ua:Int)=>(show Option ((Int)⊕((Unit)⊕(Bool)))from(some (x0.length:Int)).bind λx6=>(some (decide ((ua:Int)<x6))).bind λx7=>(bif x7 then(cL x0 ua).bind λ⟨jh,iX⟩=>(some (iX.length:Int)).bind λdH=>(some (decide ((12:Int)<dH))).bind λfB=>(bif fB then some (.inr (.inr true))else(some (IntKind.i64.wrap (ua+1))).bind λx9=>some (.inl x9))else some (.inr (.inl ()))))) 0).bind λe6=>match e6 with|.inr v6=>some v6|.inl _=>some false
end
section
open Go.Fw Go.Fw.Z Go.RowKit
theorem KC{x0:List Zr}{r:Bool}(h:rD x0=some r):Pure af 125 [slc 2 (List.map eZ x0)] (ay r):=by
 refine bj Tryz.func125 Y (ae Y) (λdw M vs hvs=>?_)
 unfold rD at h
 refine sr<|ag Y<|dn<|qq<|sr<|ag Y<|dn<|bE h λe6 vA jo=>?_
 refine bK (λ(uI:Unit)=>AS.cj 17 [] [] []) (λuI=>.inl uI=e6) ?_ (λuI vB=>?_)
 refine aY ?_
 refine bL vA (λs6=>AS.cj 17 [(0,.sv (slc 2 (List.map eZ x0))),(3,ah s6)] [] []) (wR []) (λua y6 G6 h vC qy=>?_)
 try dsimp only
 refine qq<|sr<|mv Y<|mv Y<|lE h λx6 h6 h=>ln Y h6<|lE h λx7 h7 h=>ls _ Y Y h7<|dn ?_
 cases x7
 refine cF<|bN<|aW.x<|aW.x<|bF.x<|aW.n ?_
 obtain rfl:=O (F h)
 exact⟨(),qy _ Y,wR []⟩
 refine cT<|bw<|aW.n<|qq<|aY<|sr<|mv Y<|mv Y ?_
 obtain⟨⟨jh,iX⟩,fC,h⟩:=bS (V h)
 refine ix Y Y fC<|RT.bT .none Y T Y<|lr Y Y<|lE h λdH gD h=>ln Y gD<|lE h λfB lq h=>gt _ Y Y lq<|dn ?_
 cases fB
 refine cF<|bw<|bF.n<|aW.n<|aX<|mv Y<|lE (F h) λx9 h9 h=>ad _ Y Y h9<|ag Y<|RT.done ?_
 obtain rfl:=O h
 exact aW.n ⟨x9,vC _ Y,wR []⟩
 refine cT<|sr<|ag Y<|dn<|bf<|bF.r<|aW.r ?_
 obtain rfl:=O (V h)
 have GJ:=qy _ Y
 subst GJ
 refine aW.r<|bF.r<|aW.r<|aW.r ?_
 obtain rfl:=O jo
 exact R1 Y
 subst vB
 try dsimp only
 refine aW.n<|sr<|ag Y<|dn<|bf ?_
 obtain rfl:=O jo
 exact R1 Y
end
section
open Go.Fw
noncomputable def rE(x0:List Qr):Option (Bool):=(bX (λ(Cp:Int)=>(show Option ((Int)⊕((Unit)⊕(Bool)))from(some (x0.length:Int)).bind λx6=>(some (decide ((Cp:Int)<x6))).bind λx7=>(bif x7 then cE (λ(R4:Bool)=>(bif R4 then some (.inr (.inr true))else(some (IntKind.i64.wrap (Cp+1))).bind λx9=>some (.inl x9))) λK22=>(cL x0 Cp).bind λ⟨⟨jh,iX⟩,⟨Tk,Tl⟩⟩=>(cL x0 Cp).bind λ⟨⟨q9,rf⟩,⟨Ak,Al⟩⟩=>(rD [⟨jh,iX⟩,⟨Ak,Al⟩]).bind λfL=>(bif fL then some true else(cL x0 Cp).bind λ⟨⟨nF,m8⟩,⟨tX,tY⟩⟩=>(some (m8.length:Int)).bind λgI=>(some (decide ((6:Int)<gI))).bind λoF=>some oF).bind λBw=>(bif Bw then some true else(cL x0 Cp).bind λ⟨⟨Tq,Tr⟩,⟨Ts,PL⟩⟩=>(some (PL.length:Int)).bind λvY=>(some (decide ((6:Int)<vY))).bind λnj=>some nj).bind λagf=>K22 agf else some (.inr (.inl ()))))) 0).bind λEc=>match Ec with|.inr jT=>some jT|.inl _=>some false
end
section
open Go.Fw Go.Fw.Z Go.RowKit
theorem KD{x0:List Qr}{r:Bool}(h:rE x0=some r):Pure af 82 [slc 4 (List.map eQ x0)] (ay r):=by
 refine bj Tryz.func82 Y (ae Y) (λdw M vs hvs=>?_)
 unfold rE at h
 refine sr<|ag Y<|dn<|qq<|sr<|ag Y<|dn<|bE h λEc wW ko=>?_
 refine bK (λ(yY:Unit)=>AS.cj 42 [] [] []) (λyY=>.inl yY=Ec) ?_ (λyY uS=>?_)
 refine aY ?_
 refine bL wW (λpA=>AS.cj 42 [(0,.sv (slc 4 (List.map eQ x0))),(3,ah pA)] [] []) (wR []) (λCp ZK ZL h yp vI=>?_)
 try dsimp only
 refine qq<|sr<|mv Y<|mv Y<|lE h λx6 h6 h=>ln Y h6<|lE h λx7 h7 h=>ls _ Y Y h7<|dn ?_
 cases x7
 refine cF<|bN<|aW.x<|aW.x<|bF.x<|aW.n ?_
 obtain rfl:=O (F h)
 exact⟨(),vI _ Y,wR []⟩
 refine cT<|bw<|aW.n<|qq<|aY<|qq ?_
 refine bJ (V h) (λj22=>AS.cj 42 [(0,.sv (slc 4 (List.map eQ x0))),(3,ah Cp),(41,ai j22)] [] []) (λh=>?_) (λR4 h=>?_)
 refine aZ mixed<|mv Y<|mv Y ?_
 obtain⟨⟨⟨jh,iX⟩,⟨Tk,Tl⟩⟩,fC,h⟩:=bS h
 refine ix Y Y fC<|RT.bT .none Y T Y<|RT.gy (cs:=[_,_]) .none Y T Y Y<|mv Y<|mv Y ?_
 obtain⟨⟨⟨q9,rf⟩,⟨Ak,Al⟩⟩,jO,h⟩:=bS h
 refine ix Y Y jO<|RT.bT .none Y T Y<|RT.gy (cs:=[_,_]) .none Y T Y Y<|bl (l:=[⟨jh,iX⟩,⟨Ak,Al⟩]) (e:=eZ) (.agg Y (.agg Y (.nil))) Y Y Y Y Y Y<|bE h λfL ke h=>cl (KC ke) ⟨Y,ak⟩<|mv Y<|bE h λBw jq h=>?_
 cases fL
 refine gm Y<|gm Y ?_
 obtain⟨⟨⟨nF,m8⟩,⟨tX,tY⟩⟩,nO,jq⟩:=bS (F jq)
 refine RT.Uj (.some Y Y) Y Y T nO<|RT.bT (.some Y Y) Y T Y<|RT.bT (.some Y Y) Y T Y<|gr Y Y<|lE jq λgI mZ jq=>gn Y mZ<|lE jq λoF vD jq=>gg _ Y Y vD ?_
 obtain rfl:=O jq
 refine pF Y<|mv Y<|bE h λao1 kn h=>?_
 cases oF
 refine gm Y<|gm Y ?_
 obtain⟨⟨⟨Tq,Tr⟩,⟨Ts,PL⟩⟩,vE,kn⟩:=bS (F kn)
 refine RT.Uj (.some Y Y) Y Y T vE<|RT.bT (.some Y Y) Y T Y<|RT.bT (.some Y Y) Y T Y<|gr Y Y<|lE kn λvY DX kn=>gn Y DX<|lE kn λnj vm kn=>gg _ Y Y vm ?_
 obtain rfl:=O kn
 refine pF Y ?_
 refine RT.done ⟨by kernel_rfl,?_⟩
 exact aW.n<|⟨nj,h,wR []⟩
 obtain rfl:=O (V kn)
 refine ww<|ww<|ww<|ww<|ww<|ww<|ww<|ww<|pT Y ?_
 refine RT.done ⟨by kernel_rfl,?_⟩
 exact aW.n<|⟨true,h,wR []⟩
 obtain rfl:=O (V jq)
 refine ww<|ww<|ww<|ww<|ww<|ww<|ww<|ww<|pT Y<|mv Y<|bE h λao2 ue h=>?_
 obtain rfl:=O (V ue)
 refine ww<|ww<|ww<|ww<|ww<|ww<|ww<|ww<|pT Y ?_
 refine RT.done ⟨by kernel_rfl,?_⟩
 exact aW.n<|⟨true,h,wR []⟩
 try dsimp only
 refine aW.n ?_
 cases R4
 refine cF<|bw<|bF.n<|aW.n<|aX<|mv Y<|lE (F h) λx9 h9 h=>ad _ Y Y h9<|ag Y<|RT.done ?_
 obtain rfl:=O h
 exact aW.n ⟨x9,yp _ Y,wR []⟩
 refine cT<|sr<|ag Y<|dn<|bf<|bF.r<|aW.r ?_
 obtain rfl:=O (V h)
 have Xm:=vI _ Y
 subst Xm
 refine aW.r<|bF.r<|aW.r<|aW.r ?_
 obtain rfl:=O ko
 exact R1 Y
 subst uS
 try dsimp only
 refine aW.n<|sr<|ag Y<|dn<|bf ?_
 obtain rfl:=O ko
 exact R1 Y
end
section
open Go.Fw
noncomputable def oQ(x0:List (List Qr)):Option (Bool):=(bX (λ(Eg:Int)=>(show Option ((Int)⊕((Unit)⊕(Bool)))from(some (x0.length:Int)).bind λx6=>(some (decide ((Eg:Int)<x6))).bind λx7=>(bif x7 then cE (λ(R5:Bool)=>(bif R5 then some (.inr (.inr true))else(some (IntKind.i64.wrap (Eg+1))).bind λx9=>some (.inl x9))) λGG=>(cL x0 Eg).bind λc9=>(some (c9.length:Int)).bind λei=>(some (decide ((20:Int)<ei))).bind λdH=>(bif dH then some true else(cL x0 Eg).bind λjl=>(rE jl).bind λfL=>some fL).bind λXL=>GG XL else some (.inr (.inl ()))))) 0).bind λFm=>match Fm with|.inr v10=>some v10|.inl _=>some false
noncomputable def oR(x0:List (List (List Qr))):Option (Bool):=(bX (λ(Cp:Int)=>(show Option ((Int)⊕((Unit)⊕(Bool)))from(some (x0.length:Int)).bind λx6=>(some (decide ((Cp:Int)<x6))).bind λx7=>(bif x7 then cE (λ(R6:Bool)=>(bif R6 then some (.inr (.inr true))else(some (IntKind.i64.wrap (Cp+1))).bind λx9=>some (.inl x9))) λK22=>(cL x0 Cp).bind λc9=>(some (c9.length:Int)).bind λei=>(some (decide ((8:Int)<ei))).bind λdH=>(bif dH then some true else(cL x0 Cp).bind λjl=>(cS jl).bind λfL=>(some (decide ((8:Int)<fL))).bind λiA=>some iA).bind λNr=>(bif Nr then some true else(cL x0 Cp).bind λiO=>(oQ iO).bind λgI=>some gI).bind λagh=>K22 agh else some (.inr (.inl ()))))) 0).bind λEc=>match Ec with|.inr jT=>some jT|.inl _=>some false
noncomputable def tj:Option (Lr):=(lX [[3,5]]).bind λx3=>(lX [[1,0],[0,2],[3,2]]).bind λx8=>(dR [4,12,18]).bind λdI=>some ⟨2,x3,x8,dI⟩
noncomputable def rF(x0:List (List Qr)):Option (Bool):=(bX (λ(ua:Int)=>(show Option ((Int)⊕((Unit)⊕(Bool)))from(some (x0.length:Int)).bind λx6=>(some (decide ((ua:Int)<x6))).bind λx7=>(bif x7 then(cL x0 ua).bind λc9=>(some (c9.length:Int)).bind λei=>(some (decide ((0:Int)<ei))).bind λdH=>(bif dH then some (.inr (.inr false))else(some (IntKind.i64.wrap (ua+1))).bind λx9=>some (.inl x9))else some (.inr (.inl ()))))) 0).bind λe6=>match e6 with|.inr v6=>some v6|.inl _=>some true
noncomputable def ux(x0:List Qr):Option (List Qr):=(some (x0.length:Int)).bind λx5=>(some (min (x5:Int) 20)).bind λx6=>(GD x0 0 x6).bind λx7=>some x7
noncomputable def rG(x0:Lr):Option (Bool):=match x0 with|⟨bk,bn,bt,bB⟩=>cE (λ(adz:Bool)=>some adz) λK59=>(some (bn.length:Int)).bind λx5=>(some (decide ((6:Int)<x5))).bind λx6=>(bif x6 then some true else(some (bt.length:Int)).bind λdI=>(some (decide ((140:Int)<dI))).bind λfz=>some fz).bind λXM=>(bif XM then some true else(some (bB.length:Int)).bind λfB=>(some (decide ((140:Int)<fB))).bind λdX=>some dX).bind λaaO=>(bif aaO then some true else(some (bt.length:Int)).bind λiA=>(some (decide ((8:Int)<iA))).bind λjg=>(bif jg then(rF bt).bind λiO=>(some (!iO)).bind λkT=>some kT else some false).bind λaaP=>some aaP).bind λaaQ=>(bif aaQ then some true else(some (bt.length:Int)).bind λsX=>(some (decide ((sX:Int)≤8))).bind λku=>(bif ku then(oR [bt]).bind λnj=>some nj else some false).bind λaaR=>some aaR).bind λaaS=>(bif aaS then some true else(oR [bn]).bind λsE=>some sE).bind λaaT=>(bif aaT then some true else(ux bB).bind λAD=>(oQ [AD]).bind λCg=>some Cg).bind λaaU=>K59 aaU
end
section
open Go.Fw Go.Fw.Z Go.RowKit
theorem pD{x0:List (List Qr)}{r:Bool}(h:oQ x0=some r):Pure af 33 [slc 1 (List.map (eS 4 eQ) x0)] (ay r):=by
 refine bj Tryz.func33 Y (ae Y) (λdw M vs hvs=>?_)
 unfold oQ at h
 refine sr<|ag Y<|dn<|qq<|sr<|ag Y<|dn<|bE h λFm yh pq=>?_
 refine bK (λ(RY:Unit)=>AS.cj 23 [] [] []) (λRY=>.inl RY=Fm) ?_ (λRY yj=>?_)
 refine aY ?_
 refine bL yh (λuH=>AS.cj 23 [(0,.sv (slc 1 (List.map (eS 4 eQ) x0))),(3,ah uH)] [] []) (wR []) (λEg ZD ZE h yl uN=>?_)
 try dsimp only
 refine qq<|sr<|mv Y<|mv Y<|lE h λx6 h6 h=>ln Y h6<|lE h λx7 h7 h=>ls _ Y Y h7<|dn ?_
 cases x7
 refine cF<|bN<|aW.x<|aW.x<|bF.x<|aW.n ?_
 obtain rfl:=O (F h)
 exact⟨(),uN _ Y,wR []⟩
 refine cT<|bw<|aW.n<|qq<|aY<|qq ?_
 refine bJ (V h) (λGI=>AS.cj 23 [(0,.sv (slc 1 (List.map (eS 4 eQ) x0))),(3,ah Eg),(22,ai GI)] [] []) (λh=>?_) (λR5 h=>?_)
 refine aX<|mv Y<|mv Y<|bE h λc9 fC h=>ix Y Y fC<|lr Y Y<|lE h λei jx h=>ln Y jx<|lE h λdH gD h=>gt _ Y Y gD<|mv Y<|bE h λXL dD h=>?_
 cases dH
 refine gm Y<|gm Y<|bE (F dD) λjl mw dD=>RT.Uj (.some Y Y) Y Y T mw<|gr Y Y<|bE dD λfL ke dD=>gc (KD ke) ⟨Y,ak⟩ ?_
 obtain rfl:=O dD
 exact pF Y<|dn<|⟨fL,h,wR []⟩
 obtain rfl:=O (V dD)
 exact ww<|ww<|ww<|ww<|ww<|pT Y<|dn<|⟨true,h,wR []⟩
 try dsimp only
 refine aW.n ?_
 cases R5
 refine cF<|bw<|bF.n<|aW.n<|aX<|mv Y<|lE (F h) λx9 h9 h=>ad _ Y Y h9<|ag Y<|RT.done ?_
 obtain rfl:=O h
 exact aW.n ⟨x9,yl _ Y,wR []⟩
 refine cT<|sr<|ag Y<|dn<|bf<|bF.r<|aW.r ?_
 obtain rfl:=O (V h)
 have XG:=uN _ Y
 subst XG
 refine aW.r<|bF.r<|aW.r<|aW.r ?_
 obtain rfl:=O pq
 exact R1 Y
 subst yj
 try dsimp only
 refine aW.n<|sr<|ag Y<|dn<|bf ?_
 obtain rfl:=O pq
 exact R1 Y
theorem nv{x0:List (List (List Qr))}{r:Bool}(h:oR x0=some r):Pure af 98 [slc 1 (List.map (eS 1 (eS 4 eQ)) x0)] (ay r):=by
 refine bj Tryz.func98 Y (ae Y) (λdw M vs hvs=>?_)
 unfold oR at h
 refine sr<|ag Y<|dn<|qq<|sr<|ag Y<|dn<|bE h λEc wW ko=>?_
 refine bK (λ(yY:Unit)=>AS.cj 31 [] [] []) (λyY=>.inl yY=Ec) ?_ (λyY uS=>?_)
 refine aY ?_
 refine bL wW (λpA=>AS.cj 31 [(0,.sv (slc 1 (List.map (eS 1 (eS 4 eQ)) x0))),(3,ah pA)] [] []) (wR []) (λCp ZK ZL h yp vI=>?_)
 try dsimp only
 refine qq<|sr<|mv Y<|mv Y<|lE h λx6 h6 h=>ln Y h6<|lE h λx7 h7 h=>ls _ Y Y h7<|dn ?_
 cases x7
 refine cF<|bN<|aW.x<|aW.x<|bF.x<|aW.n ?_
 obtain rfl:=O (F h)
 exact⟨(),vI _ Y,wR []⟩
 refine cT<|bw<|aW.n<|qq<|aY<|qq ?_
 refine bJ (V h) (λj22=>AS.cj 31 [(0,.sv (slc 1 (List.map (eS 1 (eS 4 eQ)) x0))),(3,ah Cp),(30,ai j22)] [] []) (λh=>?_) (λR6 h=>?_)
 refine aX<|mv Y<|mv Y<|bE h λc9 fC h=>ix Y Y fC<|lr Y Y<|lE h λei jx h=>ln Y jx<|lE h λdH gD h=>gt _ Y Y gD<|mv Y<|bE h λNr jq h=>?_
 cases dH
 refine gm Y<|gm Y<|bE (F jq) λjl mw jq=>RT.Uj (.some Y Y) Y Y T mw<|gr Y Y<|bE jq λfL ke jq=>gc (eM ke) ⟨Y,ak⟩<|lE jq λiA oH jq=>gg _ Y Y oH ?_
 obtain rfl:=O jq
 refine pF Y<|mv Y<|bE h λao3 kn h=>?_
 cases iA
 refine gm Y<|gm Y<|bE (F kn) λiO pN kn=>RT.Uj (.some Y Y) Y Y T pN<|gr Y Y<|bE kn λgI mZ kn=>gc (pD mZ) ⟨Y,ak⟩ ?_
 obtain rfl:=O kn
 exact pF Y<|dn<|⟨gI,h,wR []⟩
 obtain rfl:=O (V kn)
 exact ww<|ww<|ww<|ww<|ww<|pT Y<|dn<|⟨true,h,wR []⟩
 obtain rfl:=O (V jq)
 refine ww<|ww<|ww<|ww<|ww<|ww<|pT Y<|mv Y<|bE h λao4 ue h=>?_
 obtain rfl:=O (V ue)
 exact ww<|ww<|ww<|ww<|ww<|pT Y<|dn<|⟨true,h,wR []⟩
 try dsimp only
 refine aW.n ?_
 cases R6
 refine cF<|bw<|bF.n<|aW.n<|aX<|mv Y<|lE (F h) λx9 h9 h=>ad _ Y Y h9<|ag Y<|RT.done ?_
 obtain rfl:=O h
 exact aW.n ⟨x9,yp _ Y,wR []⟩
 refine cT<|sr<|ag Y<|dn<|bf<|bF.r<|aW.r ?_
 obtain rfl:=O (V h)
 have Xm:=vI _ Y
 subst Xm
 refine aW.r<|bF.r<|aW.r<|aW.r ?_
 obtain rfl:=O ko
 exact R1 Y
 subst uS
 try dsimp only
 refine aW.n<|sr<|ag Y<|dn<|bf ?_
 obtain rfl:=O ko
 exact R1 Y
theorem Jf{r:Lr}(h:tj=some r):Pure af 53 [] (.agg (K0 r)):=by
 refine bj Tryz.func53 Y (ae Y) (λdw M vs hvs=>?_)
 unfold tj at h
 refine sr<|al (cs:=[ax 0,slc 1 (List.map (eS 4 eQ) []),slc 1 (List.map (eS 4 eQ) []),slc 4 (List.map eQ [])]) (by exact⟨aq,aB,aB,aB,ak⟩) Y<|dn<|sr<|bl (l:=[3,5]) (e:=bD) (.one Y (.one Y (.nil))) Y Y Y Y Y Y<|bl (l:=[[3,5]]) (e:=(eS 1 bD)) (.one Y (.nil)) Y Y Y Y Y Y<|bE h λx3 h3 h=>cl (Aj h3) ⟨Y,ak⟩<|bl (l:=[1,0]) (e:=bD) (.one Y (.one Y (.nil))) Y Y Y Y Y Y ?_
 refine bl (l:=[0,2]) (e:=bD) (.one Y (.one Y (.nil))) Y Y Y Y Y Y<|bl (l:=[3,2]) (e:=bD) (.one Y (.one Y (.nil))) Y Y Y Y Y Y<|bl (l:=[[1,0],[0,2],[3,2]]) (e:=(eS 1 bD)) (.one Y (.one Y (.one Y (.nil)))) Y Y Y Y Y Y<|bE h λx8 h8 h=>cl (Aj h8) ⟨Y,ak⟩<|bl (l:=[4,12,18]) (e:=bD) (.one Y (.one Y (.one Y (.nil)))) Y Y Y Y Y Y<|bE h λdI gC h=>cl (fU gC) ⟨Y,ak⟩ ?_
 refine bI (cs:=[_,_,_,_]) (cs':=[ax 2,slc 1 (List.map (eS 4 eQ) x3),slc 1 (List.map (eS 4 eQ) x8),slc 4 (List.map eQ dI)]) (.one Y (.one Y (.one Y (.one Y (.nil))))) ⟨aq,aq,aq,aq,ak⟩<|so Y Y Y<|dn<|bf ?_
 obtain rfl:=O h
 exact RZ (.agg Y Y (.k4 Y Y Y Y) Y (.nil))
theorem KE{x0:List (List Qr)}{r:Bool}(h:rF x0=some r):Pure af 97 [slc 1 (List.map (eS 4 eQ) x0)] (ay r):=by
 refine bj Tryz.func97 Y (ae Y) (λdw M vs hvs=>?_)
 unfold rF at h
 refine sr<|ag Y<|dn<|qq<|sr<|ag Y<|dn<|bE h λe6 vA jo=>?_
 refine bK (λ(uI:Unit)=>AS.cj 16 [] [] []) (λuI=>.inl uI=e6) ?_ (λuI vB=>?_)
 refine aY ?_
 refine bL vA (λs6=>AS.cj 16 [(0,.sv (slc 1 (List.map (eS 4 eQ) x0))),(3,ah s6)] [] []) (wR []) (λua y6 G6 h vC qy=>?_)
 try dsimp only
 refine qq<|sr<|mv Y<|mv Y<|lE h λx6 h6 h=>ln Y h6<|lE h λx7 h7 h=>ls _ Y Y h7<|dn ?_
 cases x7
 refine cF<|bN<|aW.x<|aW.x<|bF.x<|aW.n ?_
 obtain rfl:=O (F h)
 exact⟨(),qy _ Y,wR []⟩
 refine cT<|bw<|aW.n<|qq<|aY<|sr<|mv Y<|mv Y<|bE (V h) λc9 fC h=>ix Y Y fC<|lr Y Y<|lE h λei jx h=>ln Y jx<|lE h λdH gD h=>gt _ Y Y gD<|dn ?_
 cases dH
 refine cF<|bw<|bF.n<|aW.n<|aX<|mv Y<|lE (F h) λx9 h9 h=>ad _ Y Y h9<|ag Y<|RT.done ?_
 obtain rfl:=O h
 exact aW.n ⟨x9,vC _ Y,wR []⟩
 refine cT<|sr<|ag Y<|dn<|bf<|bF.r<|aW.r ?_
 obtain rfl:=O (V h)
 have GJ:=qy _ Y
 subst GJ
 refine aW.r<|bF.r<|aW.r<|aW.r ?_
 obtain rfl:=O jo
 exact R1 Y
 subst vB
 try dsimp only
 refine aW.n<|sr<|ag Y<|dn<|bf ?_
 obtain rfl:=O jo
 exact R1 Y
theorem vP{x0:List Qr}{r:List Qr}(h:ux x0=some r):Pure af 99 [slc 4 (List.map eQ x0)] (slc 4 (List.map eQ r)):=by
 refine bj Tryz.func99 Y (ae Y) (λdw M vs hvs=>?_)
 unfold ux at h
 refine sr<|aI Y (aB (n:=4) (e:=eQ))<|dn<|sr<|mv Y<|mv Y<|lE h λx5 h5 h=>ln Y h5<|lE h λx6 h6 h=>RT.min .none _ Y Y T (V5 (p:=x5) (q:=20) h6)<|bE h λx7 h7 h=>RT.Ic .none 0 x6 Y Y ⟨_,Y⟩ T h7<|ag Y<|dn<|bf ?_
 obtain rfl:=O h
 exact R1 Y
set_option maxHeartbeats 4000000 in
theorem KF{x0:Lr}{r:Bool}(h:rG x0=some r):Pure af 52 [.agg (K0 x0)] (ay r):=by
 obtain⟨bk,bn,bt,bB⟩:=x0
 refine bj Tryz.func52 Y (ae Y) (λdw M vs hvs=>?_)
 unfold rG at h
 refine sr<|bx Y<|ag Y<|dn<|qq ?_
 refine bJ h (λj59=>AS.cj 56 [(2,ai j59)] [] []) (λh=>?_) (λadz h=>?_)
 refine aX<|fa Y Y<|lV Y Y Y<|lE h λx5 h5 h=>ln Y h5<|lE h λx6 h6 h=>gt _ Y Y h6<|mv Y<|bE h λXM PU h=>?_
 cases x6
 refine RT.fieldAddr (.some Y Y) Y T Y<|RT.yy (.some Y Y) Y Y Y T<|lE (F PU) λdI gC PU=>gn Y gC<|lE PU λfz lp PU=>gg _ Y Y lp ?_
 obtain rfl:=O PU
 refine pF Y<|mv Y<|bE h λao5 PV h=>?_
 cases fz
 refine RT.fieldAddr (.some Y Y) Y T Y<|RT.yy (.some Y Y) Y Y Y T<|lE (F PV) λfB lq PV=>gn Y lq<|lE PV λdX jO PV=>gg _ Y Y jO ?_
 obtain rfl:=O PV
 refine pF Y<|mv Y<|bE h λao6 Jg h=>?_
 cases dX
 refine RT.fieldAddr (.some Y Y) Y T Y<|RT.yy (.some Y Y) Y Y Y T<|lE (F Jg) λiA oH Jg=>gn Y oH<|lE Jg λjg qP Jg=>gg _ Y Y qP<|gm Y<|bE Jg λao7 PW Jg=>?_
 cases jg
 obtain rfl:=O (F PW)
 refine ww<|ww<|ww<|ww<|gF Y ?_
 obtain rfl:=O Jg
 refine pF Y<|mv Y<|bE h λao8 KG h=>RT.fieldAddr (.some Y Y) Y T Y<|RT.yy (.some Y Y) Y Y Y T<|lE (F KG) λsX xu KG=>gn Y xu<|lE KG λku vE KG=>RT.leq (.some Y Y) _ Y Y T vE<|gm Y<|bE KG λao9 UL KG=>?_
 cases ku
 obtain rfl:=O (F UL)
 refine ww<|ww<|ww<|ww<|gF Y ?_
 obtain rfl:=O KG
 refine pF Y<|mv Y<|bE h λapa kM h=>RT.fieldAddr (.some Y Y) Y T Y<|RT.yy (.some Y Y) Y Y Y T<|RT.jn (l:=[bn]) (e:=(eS 1 (eS 4 eQ))) (.some Y Y) (.one Y (.nil)) T Y Y Y Y Y Y<|bE (F kM) λsE zH kM=>gc (nv zH) ⟨Y,ak⟩ ?_
 obtain rfl:=O kM
 refine pF Y<|mv Y<|bE h λapb Er h=>?_
 cases sE
 refine RT.fieldAddr (.some Y Y) Y T Y<|RT.yy (.some Y Y) Y Y Y T<|bE (F Er) λAD GL Er=>gc (vP GL) ⟨Y,ak⟩<|RT.jn (l:=[AD]) (e:=(eS 4 eQ)) (.some Y Y) (.one Y (.nil)) T Y Y Y Y Y Y<|bE Er λCg Ll Er=>gc (pD Ll) ⟨Y,ak⟩ ?_
 obtain rfl:=O Er
 exact pF Y<|ag Y<|dn<|⟨Cg,h,wR []⟩
 obtain rfl:=O (V Er)
 exact ww<|ww<|ww<|ww<|ww<|pT Y<|ag Y<|dn<|⟨true,h,wR []⟩
 refine RT.fieldAddr (.some Y Y) Y T Y<|RT.yy (.some Y Y) Y Y Y T<|RT.jn (l:=[bt]) (e:=(eS 1 (eS 4 eQ))) (.some Y Y) (.one Y (.nil)) T Y Y Y Y Y Y<|bE (V UL) λnj vm UL=>gc (nv vm) ⟨Y,ak⟩ ?_
 obtain rfl:=O UL
 refine gT Y ?_
 obtain rfl:=O KG
 refine pF Y<|mv Y<|bE h λapc UM h=>?_
 cases nj
 refine RT.fieldAddr (.some Y Y) Y T Y<|RT.yy (.some Y Y) Y Y Y T<|RT.jn (l:=[bn]) (e:=(eS 1 (eS 4 eQ))) (.some Y Y) (.one Y (.nil)) T Y Y Y Y Y Y<|bE (F UM) λsE zH UM=>gc (nv zH) ⟨Y,ak⟩ ?_
 obtain rfl:=O UM
 refine pF Y<|mv Y<|bE h λapd UN h=>?_
 cases sE
 refine RT.fieldAddr (.some Y Y) Y T Y<|RT.yy (.some Y Y) Y Y Y T<|bE (F UN) λAD GL UN=>gc (vP GL) ⟨Y,ak⟩<|RT.jn (l:=[AD]) (e:=(eS 4 eQ)) (.some Y Y) (.one Y (.nil)) T Y Y Y Y Y Y<|bE UN λCg Ll UN=>gc (pD Ll) ⟨Y,ak⟩ ?_
 obtain rfl:=O UN
 exact pF Y<|ag Y<|dn<|⟨Cg,h,wR []⟩
 obtain rfl:=O (V UN)
 exact ww<|ww<|ww<|ww<|ww<|pT Y<|ag Y<|dn<|⟨true,h,wR []⟩
 obtain rfl:=O (V UM)
 refine ww<|ww<|ww<|ww<|pT Y<|mv Y<|bE h λape apf h=>?_
 obtain rfl:=O (V apf)
 exact ww<|ww<|ww<|ww<|ww<|pT Y<|ag Y<|dn<|⟨true,h,wR []⟩
 refine RT.fieldAddr (.some Y Y) Y T Y<|RT.yy (.some Y Y) Y Y Y T<|bE (V PW) λiO pN PW=>gc (KE pN) ⟨Y,ak⟩<|lE PW λkT uO PW=>Q2 Y _ uO ?_
 obtain rfl:=O PW
 refine gT Y ?_
 obtain rfl:=O Jg
 refine pF Y<|mv Y<|bE h λapg vQ h=>?_
 cases kT
 refine RT.fieldAddr (.some Y Y) Y T Y<|RT.yy (.some Y Y) Y Y Y T<|lE (F vQ) λsX xu vQ=>gn Y xu<|lE vQ λku vE vQ=>RT.leq (.some Y Y) _ Y Y T vE<|gm Y<|bE vQ λaph UO vQ=>?_
 cases ku
 obtain rfl:=O (F UO)
 refine ww<|ww<|ww<|ww<|gF Y ?_
 obtain rfl:=O vQ
 refine pF Y<|mv Y<|bE h λapi agi h=>RT.fieldAddr (.some Y Y) Y T Y<|RT.yy (.some Y Y) Y Y Y T<|RT.jn (l:=[bn]) (e:=(eS 1 (eS 4 eQ))) (.some Y Y) (.one Y (.nil)) T Y Y Y Y Y Y<|bE (F agi) λsE zH agi=>gc (nv zH) ⟨Y,ak⟩ ?_
 obtain rfl:=O agi
 refine pF Y<|mv Y<|bE h λapj UP h=>?_
 cases sE
 refine RT.fieldAddr (.some Y Y) Y T Y<|RT.yy (.some Y Y) Y Y Y T<|bE (F UP) λAD GL UP=>gc (vP GL) ⟨Y,ak⟩<|RT.jn (l:=[AD]) (e:=(eS 4 eQ)) (.some Y Y) (.one Y (.nil)) T Y Y Y Y Y Y<|bE UP λCg Ll UP=>gc (pD Ll) ⟨Y,ak⟩ ?_
 obtain rfl:=O UP
 exact pF Y<|ag Y<|dn<|⟨Cg,h,wR []⟩
 obtain rfl:=O (V UP)
 exact ww<|ww<|ww<|ww<|ww<|pT Y<|ag Y<|dn<|⟨true,h,wR []⟩
 refine RT.fieldAddr (.some Y Y) Y T Y<|RT.yy (.some Y Y) Y Y Y T<|RT.jn (l:=[bt]) (e:=(eS 1 (eS 4 eQ))) (.some Y Y) (.one Y (.nil)) T Y Y Y Y Y Y<|bE (V UO) λnj vm UO=>gc (nv vm) ⟨Y,ak⟩ ?_
 obtain rfl:=O UO
 refine gT Y ?_
 obtain rfl:=O vQ
 refine pF Y<|mv Y<|bE h λapl UQ h=>?_
 cases nj
 refine RT.fieldAddr (.some Y Y) Y T Y<|RT.yy (.some Y Y) Y Y Y T<|RT.jn (l:=[bn]) (e:=(eS 1 (eS 4 eQ))) (.some Y Y) (.one Y (.nil)) T Y Y Y Y Y Y<|bE (F UQ) λsE zH UQ=>gc (nv zH) ⟨Y,ak⟩ ?_
 obtain rfl:=O UQ
 refine pF Y<|mv Y<|bE h λapm PX h=>?_
 cases sE
 refine RT.fieldAddr (.some Y Y) Y T Y<|RT.yy (.some Y Y) Y Y Y T<|bE (F PX) λAD GL PX=>gc (vP GL) ⟨Y,ak⟩<|RT.jn (l:=[AD]) (e:=(eS 4 eQ)) (.some Y Y) (.one Y (.nil)) T Y Y Y Y Y Y<|bE PX λCg Ll PX=>gc (pD Ll) ⟨Y,ak⟩ ?_
 obtain rfl:=O PX
 exact pF Y<|ag Y<|dn<|⟨Cg,h,wR []⟩
 obtain rfl:=O (V PX)
 exact ww<|ww<|ww<|ww<|ww<|pT Y<|ag Y<|dn<|⟨true,h,wR []⟩
 obtain rfl:=O (V UQ)
 refine ww<|ww<|ww<|ww<|pT Y<|mv Y<|bE h λapn agj h=>?_
 obtain rfl:=O (V agj)
 exact ww<|ww<|ww<|ww<|ww<|pT Y<|ag Y<|dn<|⟨true,h,wR []⟩
 obtain rfl:=O (V vQ)
 refine ww<|ww<|ww<|ww<|ww<|wu<|wu<|wu<|wu<|ww<|pT Y<|mv Y<|bE h λapo GX h=>?_
 obtain rfl:=O (V GX)
 refine ww<|ww<|ww<|ww<|pT Y<|mv Y<|bE h λapq UR h=>?_
 obtain rfl:=O (V UR)
 exact ww<|ww<|ww<|ww<|ww<|pT Y<|ag Y<|dn<|⟨true,h,wR []⟩
 obtain rfl:=O (V Jg)
 refine ww<|ww<|ww<|ww<|ww<|wu<|wu<|wu<|wu<|ww<|pT Y<|mv Y<|bE h λapr aps h=>?_
 obtain rfl:=O (V aps)
 refine ww<|ww<|ww<|ww<|ww<|wu<|wu<|wu<|wu<|ww<|pT Y<|mv Y<|bE h λapt apu h=>?_
 obtain rfl:=O (V apu)
 refine ww<|ww<|ww<|ww<|pT Y<|mv Y<|bE h λalq ajT h=>?_
 obtain rfl:=O (V ajT)
 exact ww<|ww<|ww<|ww<|ww<|pT Y<|ag Y<|dn<|⟨true,h,wR []⟩
 obtain rfl:=O (V PV)
 refine ww<|ww<|ww<|ww<|pT Y<|mv Y<|bE h λalr ajU h=>?_
 obtain rfl:=O (V ajU)
 refine ww<|ww<|ww<|ww<|ww<|wu<|wu<|wu<|wu<|ww<|pT Y<|mv Y<|bE h λals ajV h=>?_
 obtain rfl:=O (V ajV)
 refine ww<|ww<|ww<|ww<|ww<|wu<|wu<|wu<|wu<|ww<|pT Y<|mv Y<|bE h λalu ajW h=>?_
 obtain rfl:=O (V ajW)
 refine ww<|ww<|ww<|ww<|pT Y<|mv Y<|bE h λalv ajX h=>?_
 obtain rfl:=O (V ajX)
 exact ww<|ww<|ww<|ww<|ww<|pT Y<|ag Y<|dn<|⟨true,h,wR []⟩
 obtain rfl:=O (V PU)
 refine ww<|ww<|ww<|ww<|pT Y<|mv Y<|bE h λalw ajY h=>?_
 obtain rfl:=O (V ajY)
 refine ww<|ww<|ww<|ww<|pT Y<|mv Y<|bE h λalx ajZ h=>?_
 obtain rfl:=O (V ajZ)
 refine ww<|ww<|ww<|ww<|ww<|wu<|wu<|wu<|wu<|ww<|pT Y<|mv Y<|bE h λaly aj0 h=>?_
 obtain rfl:=O (V aj0)
 refine ww<|ww<|ww<|ww<|ww<|wu<|wu<|wu<|wu<|ww<|pT Y<|mv Y<|bE h λalz aj1 h=>?_
 obtain rfl:=O (V aj1)
 refine ww<|ww<|ww<|ww<|pT Y<|mv Y<|bE h λalA aj2 h=>?_
 obtain rfl:=O (V aj2)
 exact ww<|ww<|ww<|ww<|ww<|pT Y<|ag Y<|dn<|⟨true,h,wR []⟩
 try dsimp only
 refine aW.n<|bf ?_
 obtain rfl:=O h
 exact R1 Y
end
section
open Go.Fw
noncomputable def oS(x0:List Int)(x1:List Int):Option (Bool):=(some (x0.length:Int)).bind λx7=>(some (x1.length:Int)).bind λx9=>(some (decide ((x7:Int)≠x9))).bind λdI=>(bif dI then some false else(bX (λ(iD:Int)=>(show Option ((Int)⊕((Unit)⊕(Bool)))from(some (x0.length:Int)).bind λeD=>(some (decide ((iD:Int)<eD))).bind λei=>(bif ei then(cL x0 iD).bind λjl=>(cL x1 iD).bind λjg=>(some (decide ((jl:Int)≠jg))).bind λjG=>(bif jG then some (.inr (.inr false))else(some (IntKind.i64.wrap (iD+1))).bind λfB=>some (.inl fB))else some (.inr (.inl ()))))) 0).bind λe6=>match e6 with|.inr v6=>some v6|.inl _=>some true)
noncomputable def eP:Option (Bool):=(tj).bind λ⟨I7,I8,aj3,aj4⟩=>(nn ⟨I7,I8,aj3,aj4⟩).bind λ⟨qi,qj,Dk,Dl,US⟩=>cE (λ(XN:Bool)=>(bif XN then some false else(dA qi qj Dk Dl US 1 1).bind λ⟨nj,l14,Th,l16⟩=>cE (λ(R7:Bool)=>(bif R7 then some false else(dA qi qj l14 Th l16 2 0).bind λ⟨x64,ZM,l31,l32⟩=>cE (λ(adA:Bool)=>some adA) λK53=>(some (decide ((x64:Int)=0))).bind λQ7=>(bif Q7 then(jL (⟨qi,qj,ZM,l31,l32⟩:Tb)).bind λWh=>(dR [2,6,2]).bind λHr=>(gP Wh Hr).bind λUs=>some Us else some false).bind λXO=>(bif XO then(iJ (⟨qi,qj,ZM,l31,l32⟩:Tb)).bind λx76=>(dR [2,6]).bind λJ5=>(gP x76 J5).bind λF7=>some F7 else some false).bind λagk=>(bif agk then(kC (⟨qi,qj,ZM,l31,l32⟩:Tb)).bind λN6=>(dR [36,(-2),(-6)]).bind λx85=>(gP N6 x85).bind λRa=>some Ra else some false).bind λagl=>(bif agl then(jy (⟨qi,qj,ZM,l31,l32⟩:Tb)).bind λVr=>some Vr else some false).bind λagm=>(bif agm then(jS (⟨qi,qj,ZM,l31,l32⟩:Tb)).bind λLH=>some LH else some false).bind λagn=>K53 agn)) λK26=>(some (decide ((nj:Int)≠0))).bind λnE=>(bif nE then some true else(jL (⟨qi,qj,l14,Th,l16⟩:Tb)).bind λzu=>(dR [4,6,6]).bind λsE=>(gP zu sE).bind λr9=>(some (!r9)).bind λJ1=>some J1).bind λXP=>(bif XP then some true else(kC (⟨qi,qj,l14,Th,l16⟩:Tb)).bind λKy=>(dR [30,0,(-6)]).bind λAE=>(gP Ky AE).bind λJ2=>(some (!J2)).bind λN3=>some N3).bind λago=>(bif ago then some true else(jy (⟨qi,qj,l14,Th,l16⟩:Tb)).bind λQ4=>some Q4).bind λagp=>K26 agp)) λWX=>(bif false then none else some false).bind λXQ=>(bif XQ then some true else(kA (⟨qi,qj,Dk,Dl,US⟩:Tb)).bind λeX=>(oS eX [2,3,4]).bind λij=>(some (!ij)).bind λfL=>some fL).bind λagq=>(bif agq then some true else(jL (⟨qi,qj,Dk,Dl,US⟩:Tb)).bind λjG=>(dR [4,12,18]).bind λiO=>(gP jG iO).bind λkT=>(some (!kT)).bind λgI=>some gI).bind λagr=>(bif agr then some true else(e5 (⟨qi,qj,Dk,Dl,US⟩:Tb) 0).bind λoD=>(dR [(-3),1,0]).bind λku=>(gP oD ku).bind λpg=>(some (!pg)).bind λuG=>some uG).bind λags=>WX ags
end
section
open Go.Fw Go.Fw.Z Go.RowKit
theorem CI{x0:List Int}{x1:List Int}{r:Bool}(h:oS x0 x1=some r):Pure af 45 [slc 1 (List.map bD x0),slc 1 (List.map bD x1)] (ay r):=by
 refine bj Tryz.func45 Y (ae Y) (λdw M vs hvs=>?_)
 unfold oS at h
 refine sr<|ag Y<|dn<|qq<|sr<|mv Y<|lE h λx7 h7 h=>ln Y h7<|mv Y<|lE h λx9 h9 h=>ln Y h9<|lE h λdI gC h=>ne _ Y Y (JY (p:=x7) (q:=x9) gC)<|dn ?_
 cases dI
 refine fs<|qq<|sr<|ag Y<|dn<|bE (F h) λe6 vA jo=>?_
 refine bK (λ(uI:Unit)=>AS.cj 26 [] [] []) (λuI=>.inl uI=e6) ?_ (λuI vB=>?_)
 refine aY ?_
 refine bL vA (λs6=>AS.cj 26 [(0,.sv (slc 1 (List.map bD x0))),(1,.sv (slc 1 (List.map bD x1))),(5,ah s6)] [] []) (wR []) (λiD y6 G6 h vC qy=>?_)
 try dsimp only
 refine qq<|sr<|mv Y<|mv Y<|lE h λeD iF h=>ln Y iF<|lE h λei jx h=>ls _ Y Y jx<|dn ?_
 cases ei
 refine cF<|bN<|aW.x<|aW.x<|bF.x<|aW.n ?_
 obtain rfl:=O (F h)
 exact⟨(),qy _ Y,wR []⟩
 refine cT<|bw<|aW.n<|qq<|aY<|qq<|aZ mixed<|mv Y<|mv Y<|bE (V h) λjl mw h=>ix Y Y mw<|lr Y Y<|mv Y<|mv Y<|bE h λjg qP h=>ix Y Y qP<|lr Y Y<|lE h λjG nO h=>ne _ Y Y (JY (p:=jl) (q:=jg) nO) ?_
 refine RT.done ⟨by kernel_rfl,?_⟩
 refine aW.n ?_
 cases jG
 refine cF<|bw<|bF.n<|aW.n<|aX<|mv Y<|lE (F h) λfB lq h=>ad _ Y Y lq<|ag Y<|RT.done ?_
 obtain rfl:=O h
 exact aW.n ⟨fB,vC _ Y,wR []⟩
 refine cT<|sr<|ag Y<|dn<|bf<|bF.r<|aW.r ?_
 obtain rfl:=O (V h)
 have GJ:=qy _ Y
 subst GJ
 refine aW.r<|bF.r<|aW.r<|aW.r ?_
 obtain rfl:=O jo
 exact R1 Y
 subst vB
 try dsimp only
 refine aW.n<|sr<|ag Y<|dn<|bf ?_
 obtain rfl:=O jo
 exact R1 Y
 refine cT<|sr<|ag Y<|dn<|bf<|aW.r ?_
 obtain rfl:=O (V h)
 exact R1 Y
set_option maxHeartbeats 4000000 in
theorem mc{r:Bool}(h:eP=some r):Pure af 10 [] (ay r):=by
 refine bj Tryz.func10 Y (ae Y) (λdw M vs hvs=>?_)
 unfold eP at h
 refine sr<|ag Y<|dn<|sr ?_
 obtain⟨⟨I7,I8,aj3,aj4⟩,h6,h⟩:=bS h
 refine cl (Jf h6) trivial ?_
 obtain⟨⟨qi,qj,Dk,Dl,US⟩,h7,h⟩:=bS h
 refine RT.Ta .none (I1 h7) [304,305,306] (by decide) Y ⟨⟨Y,T⟩,⟨Y,T⟩,⟨Y,T⟩,ak⟩ Y ⟨Y,ak⟩ T Y Y<|mo (s:=.cmp _ _) Y<|RT.D7 .none Y Y T<|RT.D7 .none Y Y T<|an (s:=.ptr _ _) Y<|ag Y<|dn<|qq<|qq ?_
 refine bJ h (λTd=>AS.cj 96 [(1,.ptr 7 0),(38,ai Td)] [(7,⟨79,[ai qi,ah qj,.row 304,.row 305,.row 306]⟩)] [(304,TR 23 1 (eS 4 eQ) Dk),(305,TR 3 1 bD Dl),(306,TR 23 1 (eS 4 eQ) US)]) (λh=>?_) (λXN h=>?_)
 refine aX<|mv Y<|ne false Y Y (by decide)<|mv Y<|bE h λXQ kM h=>RT.move (.some Y Y) (s:=.ptr _ _) Y T<|RT.RC (.some Y Y) Y Y T ?_
 obtain rfl:=O (F kM)
 refine pF Y<|mv Y<|bE h λapv Er h=>RT.move (.some Y Y) (s:=.ptr _ _) Y T<|bE (F Er) λeX jK Er=>RT.sK (.some Y Y) (M1 jK) 7 [304,305,306] Y ⟨Y,Y,Y,ak⟩ (by decide) Y Y (.cons Y (.nil)) T<|RT.jn (l:=[2,3,4]) (e:=bD) (.some Y Y) (.one Y (.one Y (.one Y (.nil)))) T Y Y Y Y Y Y<|bE Er λij oG Er=>gc (CI oG) ⟨Y,Y,ak⟩<|lE Er λfL ke Er=>Q2 Y _ ke ?_
 obtain rfl:=O Er
 refine pF Y<|mv Y<|bE h λapw KH h=>?_
 cases fL
 refine RT.move (.some Y Y) (s:=.ptr _ _) Y T<|bE (F KH) λjG nO KH=>RT.sK (.some Y Y) (Dg nO) 7 [304,305,306] Y ⟨Y,Y,Y,ak⟩ (by decide) Y Y (.cons Y (.nil)) T<|RT.jn (l:=[4,12,18]) (e:=bD) (.some Y Y) (.one Y (.one Y (.one Y (.nil)))) T Y Y Y Y Y Y<|bE KH λiO pN KH=>gc (fU pN) ⟨Y,ak⟩<|bE KH λkT uO KH=>gc (mP uO) ⟨Y,Y,ak⟩<|lE KH λgI mZ KH=>Q2 Y _ mZ ?_
 obtain rfl:=O KH
 refine pF Y<|mv Y<|bE h λapx KI h=>?_
 cases gI
 refine RT.move (.some Y Y) (s:=.ptr _ _) Y T<|bE (F KI) λoD xp KI=>RT.sK (.some Y Y) (Dh xp) 7 [304,305,306] Y ⟨Y,Y,Y,ak⟩ (by decide) Y Y (.k2 Y Y) T<|RT.jn (l:=[(-3),1,0]) (e:=bD) (.some Y Y) (.one Y (.one Y (.one Y (.nil)))) T Y Y Y Y Y Y<|bE KI λku vE KI=>gc (fU vE) ⟨Y,ak⟩<|bE KI λpg yJ KI=>gc (mP yJ) ⟨Y,Y,ak⟩<|lE KI λuG DW KI=>?_
 refine Q2 Y _ DW ?_
 obtain rfl:=O KI
 exact pF Y<|dn<|⟨uG,h,wR []⟩
 obtain rfl:=O (V KI)
 exact ww<|ww<|ww<|ww<|ww<|ww<|pT Y<|dn<|⟨true,h,wR []⟩
 obtain rfl:=O (V KH)
 refine ww<|ww<|ww<|ww<|ww<|ww<|pT Y<|mv Y<|bE h λapy apz h=>?_
 obtain rfl:=O (V apz)
 exact ww<|ww<|ww<|ww<|ww<|ww<|pT Y<|dn<|⟨true,h,wR []⟩
 try dsimp only
 refine aW.n ?_
 cases XN
 refine fs<|sr<|mo (s:=.ptr _ _) Y ?_
 obtain⟨⟨nj,l14,Th,l16⟩,vm,h⟩:=bS (F h)
 refine RT.Lt .none (pB vm) 7 [304,305,306] [310,311,312] Y ⟨Y,Y,Y,ak⟩ (by decide) (by decide) Y ⟨⟨Y,T⟩,⟨Y,T⟩,⟨Y,T⟩,ak⟩ Y Y (.k3 Y Y Y) T<|ag Y<|dn<|qq<|qq ?_
 refine bJ h (λj26=>AS.cj 96 [(1,.ptr 7 0),(62,ai j26)] [(7,⟨79,[ai qi,ah qj,.row 310,.row 311,.row 312]⟩)] [(310,TR 23 1 (eS 4 eQ) l14),(311,TR 3 1 bD Th),(312,TR 23 1 (eS 4 eQ) l16)]) (λh=>?_) (λR7 h=>?_)
 refine aX<|mv Y<|lE h λnE ym h=>ne _ Y Y (JY (p:=nj) (q:=0) ym)<|mv Y<|bE h λXP KJ h=>?_
 cases nE
 refine RT.move (.some Y Y) (s:=.ptr _ _) Y T<|bE (F KJ) λzu Io KJ=>RT.sK (.some Y Y) (Dg Io) 7 [310,311,312] Y ⟨Y,Y,Y,ak⟩ (by decide) Y Y (.cons Y (.nil)) T<|RT.jn (l:=[4,6,6]) (e:=bD) (.some Y Y) (.one Y (.one Y (.one Y (.nil)))) T Y Y Y Y Y Y<|bE KJ λsE zH KJ=>gc (fU zH) ⟨Y,ak⟩<|bE KJ λr9 h48 KJ=>gc (mP h48) ⟨Y,Y,ak⟩<|lE KJ λJ1 Rf KJ=>Q2 Y _ Rf ?_
 obtain rfl:=O KJ
 refine pF Y<|mv Y<|bE h λapA GX h=>?_
 cases J1
 refine RT.move (.some Y Y) (s:=.ptr _ _) Y T<|bE (F GX) λKy Rh GX=>RT.sK (.some Y Y) (Ef Rh) 7 [310,311,312] Y ⟨Y,Y,Y,ak⟩ (by decide) Y Y (.cons Y (.nil)) T<|RT.jn (l:=[30,0,(-6)]) (e:=bD) (.some Y Y) (.one Y (.one Y (.one Y (.nil)))) T Y Y Y Y Y Y<|bE GX λAE OO GX=>gc (fU OO) ⟨Y,ak⟩<|bE GX λJ2 Mu GX=>gc (mP Mu) ⟨Y,Y,ak⟩<|lE GX λN3 Ww GX=>Q2 Y _ Ww ?_
 obtain rfl:=O GX
 refine pF Y<|mv Y<|bE h λapB UR h=>?_
 cases N3
 refine RT.move (.some Y Y) (s:=.ptr _ _) Y T<|bE (F UR) λQ4 h61 UR=>RT.sK (.some Y Y) (Bq h61) 7 [310,311,312] Y ⟨Y,Y,Y,ak⟩ (by decide) Y Y (.cons Y (.nil)) T ?_
 obtain rfl:=O UR
 exact pF Y<|dn<|⟨Q4,h,wR []⟩
 obtain rfl:=O (V UR)
 exact ww<|ww<|pT Y<|dn<|⟨true,h,wR []⟩
 obtain rfl:=O (V GX)
 refine ww<|ww<|ww<|ww<|ww<|ww<|pT Y<|mv Y<|bE h λapC KG h=>?_
 obtain rfl:=O (V KG)
 exact ww<|ww<|pT Y<|dn<|⟨true,h,wR []⟩
 obtain rfl:=O (V KJ)
 refine ww<|ww<|ww<|ww<|ww<|ww<|pT Y<|mv Y<|bE h λapD UL h=>?_
 obtain rfl:=O (V UL)
 refine ww<|ww<|ww<|ww<|ww<|ww<|pT Y<|mv Y<|bE h λapE UM h=>?_
 obtain rfl:=O (V UM)
 exact ww<|ww<|pT Y<|dn<|⟨true,h,wR []⟩
 try dsimp only
 refine aW.n ?_
 cases R7
 refine fs<|sr<|mo (s:=.ptr _ _) Y ?_
 obtain⟨⟨x64,ZM,l31,l32⟩,h64,h⟩:=bS (F h)
 refine RT.Lt .none (pB h64) 7 [310,311,312] [316,317,318] Y ⟨Y,Y,Y,ak⟩ (by decide) (by decide) Y ⟨⟨Y,T⟩,⟨Y,T⟩,⟨Y,T⟩,ak⟩ Y Y (.k3 Y Y Y) T<|ag Y<|dn<|qq ?_
 refine bJ h (λj53=>AS.cj 96 [(0,ai j53)] [] []) (λh=>?_) (λadA h=>?_)
 refine aX<|mv Y<|lE h λQ7 h66 h=>eq _ Y Y (ve (p:=x64) (q:=0) h66)<|mv Y<|bE h λXO PY h=>?_
 cases Q7
 obtain rfl:=O (F PY)
 refine ww<|ww<|ww<|ww<|ww<|pF Y<|mv Y<|bE h λapF UO h=>?_
 obtain rfl:=O (F UO)
 refine ww<|ww<|ww<|ww<|ww<|pF Y<|mv Y<|bE h λapG UQ h=>?_
 obtain rfl:=O (F UQ)
 refine ww<|ww<|ww<|ww<|ww<|pF Y<|mv Y<|bE h λapH PX h=>?_
 obtain rfl:=O (F PX)
 refine ww<|ww<|pF Y<|mv Y<|bE h λapI agj h=>?_
 obtain rfl:=O (F agj)
 exact ww<|ww<|pF Y<|ag Y<|dn<|⟨false,h,wR []⟩
 refine RT.move (.some Y Y) (s:=.ptr _ _) Y T<|bE (V PY) λWh h69 PY=>RT.sK (.some Y Y) (Dg h69) 7 [316,317,318] Y ⟨Y,Y,Y,ak⟩ (by decide) Y Y (.cons Y (.nil)) T<|RT.jn (l:=[2,6,2]) (e:=bD) (.some Y Y) (.one Y (.one Y (.one Y (.nil)))) T Y Y Y Y Y Y<|bE PY λHr Xl PY=>gc (fU Xl) ⟨Y,ak⟩<|bE PY λUs h72 PY=>gc (mP h72) ⟨Y,Y,ak⟩ ?_
 obtain rfl:=O PY
 refine pT Y<|mv Y<|bE h λapJ PZ h=>?_
 cases Us
 obtain rfl:=O (F PZ)
 refine ww<|ww<|ww<|ww<|ww<|pF Y<|mv Y<|bE h λapK Jg h=>?_
 obtain rfl:=O (F Jg)
 refine ww<|ww<|ww<|ww<|ww<|pF Y<|mv Y<|bE h λapL PW h=>?_
 obtain rfl:=O (F PW)
 refine ww<|ww<|pF Y<|mv Y<|bE h λapN vQ h=>?_
 obtain rfl:=O (F vQ)
 exact ww<|ww<|pF Y<|ag Y<|dn<|⟨false,h,wR []⟩
 refine RT.move (.some Y Y) (s:=.ptr _ _) Y T<|bE (V PZ) λx76 h76 PZ=>RT.sK (.some Y Y) (GU h76) 7 [316,317,318] Y ⟨Y,Y,Y,ak⟩ (by decide) Y Y (.cons Y (.nil)) T<|RT.jn (l:=[2,6]) (e:=bD) (.some Y Y) (.one Y (.one Y (.nil))) T Y Y Y Y Y Y<|bE PZ λJ5 UH PZ=>gc (fU UH) ⟨Y,ak⟩<|bE PZ λF7 Ux PZ=>gc (mP Ux) ⟨Y,Y,ak⟩ ?_
 obtain rfl:=O PZ
 refine pT Y<|mv Y<|bE h λapO P0 h=>?_
 cases F7
 obtain rfl:=O (F P0)
 refine ww<|ww<|ww<|ww<|ww<|pF Y<|mv Y<|bE h λapP PU h=>?_
 obtain rfl:=O (F PU)
 refine ww<|ww<|pF Y<|mv Y<|bE h λapQ PV h=>?_
 obtain rfl:=O (F PV)
 exact ww<|ww<|pF Y<|ag Y<|dn<|⟨false,h,wR []⟩
 refine RT.move (.some Y Y) (s:=.ptr _ _) Y T<|bE (V P0) λN6 h83 P0=>RT.sK (.some Y Y) (Ef h83) 7 [316,317,318] Y ⟨Y,Y,Y,ak⟩ (by decide) Y Y (.cons Y (.nil)) T<|RT.jn (l:=[36,(-2),(-6)]) (e:=bD) (.some Y Y) (.one Y (.one Y (.one Y (.nil)))) T Y Y Y Y Y Y<|bE P0 λx85 h85 P0=>gc (fU h85) ⟨Y,ak⟩<|bE P0 λRa h86 P0=>gc (mP h86) ⟨Y,Y,ak⟩ ?_
 obtain rfl:=O P0
 refine pT Y<|mv Y<|bE h λapS aaW h=>?_
 cases Ra
 obtain rfl:=O (F aaW)
 refine ww<|ww<|pF Y<|mv Y<|bE h λapT PI h=>?_
 obtain rfl:=O (F PI)
 exact ww<|ww<|pF Y<|ag Y<|dn<|⟨false,h,wR []⟩
 refine RT.move (.some Y Y) (s:=.ptr _ _) Y T<|bE (V aaW) λVr h90 aaW=>RT.sK (.some Y Y) (Bq h90) 7 [316,317,318] Y ⟨Y,Y,Y,ak⟩ (by decide) Y Y (.cons Y (.nil)) T ?_
 obtain rfl:=O aaW
 refine pT Y<|mv Y<|bE h λapU aaX h=>?_
 cases Vr
 obtain rfl:=O (F aaX)
 exact ww<|ww<|pF Y<|ag Y<|dn<|⟨false,h,wR []⟩
 refine RT.move (.some Y Y) (s:=.ptr _ _) Y T<|bE (V aaX) λLH XA aaX=>RT.sK (.some Y Y) (GV XA) 7 [316,317,318] Y ⟨Y,Y,Y,ak⟩ (by decide) Y Y (.cons Y (.nil)) T ?_
 obtain rfl:=O aaX
 exact pT Y<|ag Y<|dn<|⟨LH,h,wR []⟩
 try dsimp only
 refine aW.n<|bf ?_
 obtain rfl:=O h
 exact R1 Y
 refine cT<|sr<|ag Y<|dn<|bf<|aW.r ?_
 obtain rfl:=O (V h)
 exact R1 Y
 refine cT<|sr<|ag Y<|dn<|bf<|aW.r ?_
 obtain rfl:=O (V h)
 exact R1 Y
end
section
open Go.Fw
noncomputable def mS(x0:Lr):Option (Bool):=match x0 with|⟨bk,bn,bt,bB⟩=>cE (λ(adB:Bool)=>some adB) λGG=>(rG ⟨bk,bn,bt,bB⟩).bind λx4=>(bif x4 then some true else(some (bt.length:Int)).bind λx8=>(some (decide ((5:Int)<x8))).bind λx9=>(bif x9 then(kK ⟨bk,bn,bt,bB⟩).bind λc9=>some c9 else some false).bind λXR=>some XR).bind λFh=>(bif Fh then some true else(some (decide ((6:Int)<bk))).bind λeX=>(bif eX then(kK ⟨bk,bn,bt,bB⟩).bind λfL=>some fL else some false).bind λXz=>some Xz).bind λNr=>GG Nr
end
section
open Go.Fw Go.Fw.Z Go.RowKit
theorem yt{x0:Lr}{r:Bool}(h:mS x0=some r):Pure af 9 [.agg (K0 x0)] (ay r):=by
 obtain⟨bk,bn,bt,bB⟩:=x0
 refine bj Tryz.func9 Y (ae Y) (λdw M vs hvs=>?_)
 unfold mS at h
 refine sr<|bx Y<|ag Y<|dn<|qq ?_
 refine bJ h (λGI=>AS.cj 24 [(2,ai GI)] [] []) (λh=>?_) (λadB h=>?_)
 refine aX<|ld Y Y (.k4 Y Y Y Y)<|bE h λx4 h4 h=>cl (KF h4) ⟨Y,ak⟩<|mv Y<|bE h λFh dD h=>?_
 cases x4
 refine RT.fieldAddr (.some Y Y) Y T Y<|RT.yy (.some Y Y) Y Y Y T<|lE (F dD) λx8 h8 dD=>gn Y h8<|lE dD λx9 h9 dD=>gg _ Y Y h9<|gm Y<|bE dD λXR aaY dD=>?_
 cases x9
 obtain rfl:=O (F aaY)
 refine ww<|ww<|gF Y ?_
 obtain rfl:=O dD
 refine pF Y<|mv Y<|bE h λapV rY h=>RT.fieldAddr (.some Y Y) Y T Y<|RT.yy (.some Y Y) Y Y Y T<|lE (F rY) λeX jK rY=>gg _ Y Y jK<|gm Y<|bE rY λapW MS rY=>?_
 cases eX
 obtain rfl:=O (F MS)
 refine ww<|ww<|gF Y ?_
 obtain rfl:=O rY
 exact pF Y<|ag Y<|dn<|⟨false,h,wR []⟩
 refine gl Y Y (.k4 Y Y Y Y)<|bE (V MS) λfL ke MS=>gc (oP ke) ⟨Y,ak⟩ ?_
 obtain rfl:=O MS
 refine gT Y ?_
 obtain rfl:=O rY
 exact pF Y<|ag Y<|dn<|⟨fL,h,wR []⟩
 refine gl Y Y (.k4 Y Y Y Y)<|bE (V aaY) λc9 fC aaY=>gc (oP fC) ⟨Y,ak⟩ ?_
 obtain rfl:=O aaY
 refine gT Y ?_
 obtain rfl:=O dD
 refine pF Y<|mv Y<|bE h λapX Ns h=>?_
 cases c9
 refine RT.fieldAddr (.some Y Y) Y T Y<|RT.yy (.some Y Y) Y Y Y T<|lE (F Ns) λeX jK Ns=>gg _ Y Y jK<|gm Y<|bE Ns λapY wB Ns=>?_
 cases eX
 obtain rfl:=O (F wB)
 refine ww<|ww<|gF Y ?_
 obtain rfl:=O Ns
 exact pF Y<|ag Y<|dn<|⟨false,h,wR []⟩
 refine gl Y Y (.k4 Y Y Y Y)<|bE (V wB) λfL ke wB=>gc (oP ke) ⟨Y,ak⟩ ?_
 obtain rfl:=O wB
 refine gT Y ?_
 obtain rfl:=O Ns
 exact pF Y<|ag Y<|dn<|⟨fL,h,wR []⟩
 obtain rfl:=O (V Ns)
 exact ww<|ww<|ww<|ww<|wu<|wu<|ww<|pT Y<|ag Y<|dn<|⟨true,h,wR []⟩
 obtain rfl:=O (V dD)
 refine ww<|ww<|ww<|ww<|ww<|wu<|wu<|ww<|pT Y<|mv Y<|bE h λafP Kx h=>?_
 obtain rfl:=O (V Kx)
 exact ww<|ww<|ww<|ww<|wu<|wu<|ww<|pT Y<|ag Y<|dn<|⟨true,h,wR []⟩
 try dsimp only
 refine aW.n<|bf ?_
 obtain rfl:=O h
 exact R1 Y
end
section
open Go.Fw
noncomputable def ji(x0:Lr)(x1:List Int):Option (Bool×Int×(List (List Qr))×(List Int)×(List (List Qr))):=match x0 with|⟨bk,bn,bt,bB⟩=>cE (λ(qY:Bool)=>(bif qY then none else(some (bt.length:Int)).bind λkT=>(some (IntKind.i64.wrap (bk+kT))).bind λgI=>(Hf 1 gI (false:Bool)).bind λoF=>(some (x1.length:Int)).bind λiP=>(bX (λ(LK:Int×(List Bool))=>match LK with|⟨om,jV⟩=>(show Option ((Int×(List Bool))⊕((Unit)⊕(Bool×Int×(List (List Qr))×(List Int)×(List (List Qr)))))from(some (decide ((om:Int)<iP))).bind λsX=>(bif sX then(cL x1 om).bind λku=>cE (λ(w6:Bool)=>(bif w6 then none else(kW jV ku).bind λKy=>(stM jV Ky true).bind λXS=>(some (IntKind.i64.wrap (om+1))).bind λCg=>some (.inl (Cg,XS)))) λK27=>(some (decide ((ku:Int)<0))).bind λqX=>(bif qX then some true else(some (jV.length:Int)).bind λnE=>(some (decide ((nE:Int)≤ku))).bind λvf=>some vf).bind λBx=>(bif Bx then some true else(kW jV ku).bind λr9=>(jV[r9]?).bind λJ1=>some J1).bind λJh=>K27 Jh else some (.inr (.inl ()))))) (0,oF)).bind λXT=>match XT with|.inr v21=>some v21|.inl _=>(dW ⟨bk,bn,bt,bB⟩).bind λ⟨lP,lQ,Gl,Gm,Gn⟩=>(some (x1.length:Int)).bind λAx=>(bX (λ(EY:Int×(List (List Qr))×(List Int)×(List (List Qr)))=>match EY with|⟨c7,fJ,fK,ct⟩=>(show Option ((Int×(List (List Qr))×(List Int)×(List (List Qr)))⊕(((List (List Qr))×(List Int)×(List (List Qr)))⊕(Bool×Int×(List (List Qr))×(List Int)×(List (List Qr)))))from(some (decide ((c7:Int)<Ax))).bind λDx=>(bif Dx then(cL x1 c7).bind λDy=>(bX (λ(fE:Int)=>(show Option ((Int)⊕(Int))from cE (λ(qk:Bool)=>(bif qk then(some (IntKind.i64.wrap (fE+1))).bind λIj=>some (.inl Ij)else some (.inr fE))) λK80=>(some (ct.length:Int)).bind λJ3=>(some (decide ((fE:Int)<J3))).bind λHr=>(bif Hr then(kW ct fE).bind λJ5=>(ct[J5]?).bind λF7=>(cL F7 Dy).bind λ⟨⟨Ar,As⟩,⟨At,Au⟩⟩=>(fg ⟨⟨Ar,As⟩,⟨At,Au⟩⟩).bind λN6=>(some (decide ((N6:Int)=0))).bind λJ4=>some J4 else some false).bind λuT=>K80 uT)) c7).bind λfG=>(some (ct.length:Int)).bind λOE=>(some (decide ((fG:Int)=OE))).bind λLH=>(bif LH then none else(kW ct fG).bind λEs=>(ct[Es]?).bind λAW=>(kW ct c7).bind λDR=>(ct[DR]?).bind λCo=>(kW ct c7).bind λKK=>(stM ct KK AW).bind λTt=>(kW Tt fG).bind λKL=>(stM Tt KL Co).bind λTu=>(cX lP lQ fJ fK Tu c7 Dy).bind λ⟨UT,UU,UW⟩=>(some (IntKind.i64.wrap (c7+1))).bind λAX=>some (.inl (AX,UT,UU,UW)))else some (.inr (.inl (fJ,fK,ct)))))) (0,Gl,Gm,Gn)).bind λXU=>match XU with|.inr v67=>some v67|.inl ⟨BY,vR,BZ⟩=>some (lP,lQ,BY,(JZ vR x1),BZ))) λK3=>(oe ⟨bk,bn,bt,bB⟩).bind λei=>(some (!ei)).bind λdH=>(bif dH then some true else(some (x1.length:Int)).bind λeX=>(some (bt.length:Int)).bind λfL=>(some (decide ((eX:Int)≠fL))).bind λiA=>some iA).bind λBy=>K3 By
end
section
open Go.Fw Go.Fw.Z Go.RowKit
set_option maxHeartbeats 4000000 in
theorem Bz{x0:Lr}{x1:List Int}{r:Bool×Int×(List (List Qr))×(List Int)×(List (List Qr))}(h:ji x0 x1=some r):RE af 30 [.agg (K0 x0),slc 1 (List.map bD x1)] true [ax 0] 79 [.s (ay r.1),.s (ax r.2.1),.r (TR 23 1 (eS 4 eQ) r.2.2.1),.r (TR 3 1 bD r.2.2.2.1),.r (TR 23 1 (eS 4 eQ) r.2.2.2.2)]:=by
 obtain⟨bk,bn,bt,bB⟩:=x0
 refine Gi (t1:=4) (t2:=5) Tryz.func30 Y (ae Y) Y (λdw M vs hvs=>?_)
 unfold ji at h
 refine sr<|bx Y<|ag Y<|ag Y<|dn<|qq<|qq ?_
 refine bJ h (λj3=>AS.cj 133 [(1,.sv (slc 1 (List.map bD x1))),(2,.ptr 2 0),(23,ai j3)] [(2,⟨25,[ah bk,.sv (slc 1 (List.map (eS 4 eQ) bn)),.sv (slc 1 (List.map (eS 4 eQ) bt)),.sv (slc 4 (List.map eQ bB))]⟩)] []) (λh=>?_) (λqY h=>?_)
 refine aX<|ld Y Y (.k4 Y Y Y Y)<|bE h λei jx h=>cl (xP jx) ⟨Y,ak⟩<|lE h λdH gD h=>nt Y _ gD<|mv Y<|bE h λBy uy h=>?_
 cases dH
 refine gm Y<|lE (F uy) λeX jK uy=>gn Y jK<|RT.fieldAddr (.some Y Y) Y T Y<|RT.yy (.some Y Y) Y Y Y T<|lE uy λfL ke uy=>gn Y ke<|lE uy λiA oH uy=>gq _ Y Y (JY (p:=eX) (q:=fL) oH) ?_
 obtain rfl:=O uy
 exact pF Y<|dn<|⟨iA,h,wR []⟩
 obtain rfl:=O (V uy)
 exact ww<|ww<|ww<|ww<|ww<|ww<|pT Y<|dn<|⟨true,h,wR []⟩
 try dsimp only
 refine aW.n ?_
 cases qY
 refine fs<|sr<|fa Y Y<|lV Y Y Y<|fa Y Y<|lV Y Y Y<|lE (F h) λkT uO h=>ln Y uO<|lE h λgI mZ h=>ad _ Y Y mZ<|bE h λoF vD h=>RT.tK (n:=1) (e:=eB) .none Y Y T Y T (by rfl) (by decide) (by exact⟨aq,ak⟩) vD<|an (s:=.row _) Y<|dn<|qq<|sr<|mv Y<|lE h λiP pW h=>ln Y pW<|mv Y ?_
 refine dn<|bE h λXT XV AA=>?_
 refine bK (λ(Ji:Unit)=>AS.cj 133 [(1,.sv (slc 1 (List.map bD x1))),(2,.ptr 2 0)] [(2,⟨25,[ah bk,.sv (slc 1 (List.map (eS 4 eQ) bn)),.sv (slc 1 (List.map (eS 4 eQ) bt)),.sv (slc 4 (List.map eQ bB))]⟩)] []) (λJi=>.inl Ji=XT) ?_ (λJi XW=>?_)
 refine aY ?_
 refine bL XV (λLK=>AS.cj 133 [(1,.sv (slc 1 (List.map bD x1))),(2,.ptr 2 0),(6,.row 30),(31,.sv (slc 1 (List.map bD x1))),(32,ah iP),(33,ah LK.1)] [(2,⟨25,[ah bk,.sv (slc 1 (List.map (eS 4 eQ) bn)),.sv (slc 1 (List.map (eS 4 eQ) bt)),.sv (slc 4 (List.map eQ bB))]⟩)] [(30,TR 4 1 eB LK.2)]) (wR []) (λLK y21 G21 h XX UX=>?_)
 obtain⟨om,jV⟩:=LK
 try dsimp only
 refine sr<|lE h λsX xu h=>ls _ Y Y xu<|dn<|qq ?_
 cases sX
 refine cF<|bN<|aW.x<|aW.x<|bF.x<|aW.n ?_
 obtain rfl:=O (F h)
 exact⟨(),UX _ Y,wR []⟩
 refine cT<|bw<|aW.n<|qq<|aY<|sr<|bE (V h) λku vE h=>ix Y Y vE<|lr Y Y<|ag Y<|dn<|qq<|qq ?_
 refine bJ h (λj27=>AS.cj 133 [(1,.sv (slc 1 (List.map bD x1))),(2,.ptr 2 0),(6,.row 30),(8,ah ku),(31,.sv (slc 1 (List.map bD x1))),(32,ah iP),(33,ah om),(50,ai j27)] [(2,⟨25,[ah bk,.sv (slc 1 (List.map (eS 4 eQ) bn)),.sv (slc 1 (List.map (eS 4 eQ) bt)),.sv (slc 4 (List.map eQ bB))]⟩)] [(30,TR 4 1 eB jV)]) (λh=>?_) (λw6 h=>?_)
 refine aX<|mv Y<|lE h λqX Ay h=>ls _ Y Y Ay<|mv Y<|bE h λBx kY h=>?_
 cases qX
 refine gm Y<|RT.move (.some Y Y) (s:=.row _) Y T<|lE (F kY) λnE ym kY=>RT.Ou (.some Y Y) Y Y T ym<|lE kY λvf EX kY=>RT.geq (.some Y Y) _ Y Y T EX ?_
 obtain rfl:=O kY
 refine pF Y<|mv Y<|bE h λXY oc h=>?_
 cases vf
 refine RT.move (.some Y Y) (s:=.row _) Y T<|gm Y<|bE (F oc) λr9 h48 oc=>RT.Ox (.some Y Y) Y Y Y T h48<|bE oc λJ1 Rf oc=>RT.Mk (.some Y Y) Y Y Rf Y T ?_
 obtain rfl:=O oc
 exact pF Y<|dn<|⟨J1,h,wR []⟩
 obtain rfl:=O (V oc)
 exact ww<|ww<|ww<|ww<|pT Y<|dn<|⟨true,h,wR []⟩
 obtain rfl:=O (V kY)
 refine ww<|ww<|ww<|ww<|pT Y<|mv Y<|bE h λXZ yN h=>?_
 obtain rfl:=O (V yN)
 exact ww<|ww<|ww<|ww<|pT Y<|dn<|⟨true,h,wR []⟩
 try dsimp only
 refine aW.n ?_
 cases w6
 refine fs<|aX<|mo (s:=.row _) Y<|mv Y<|bE (F h) λKy Rh h=>iR Y Y Y Rh<|bE h λXS P1 h=>sR true Y Y Y Y P1<|RT.done<|bF.n<|aW.n<|aX<|lE h λCg Ll h=>ad _ Y Y Ll<|mv Y<|RT.done ?_
 obtain rfl:=O h
 exact aW.n ⟨(Cg,XS),XX _ Y,wR []⟩
 refine cT<|sr<|ag Y<|ag Y<|dn<|bf<|aW.r<|bF.r<|aW.r ?_
 replace h:=V h
 cases h
 subst XW
 try dsimp only
 refine aW.n<|sr<|ld Y Y (.k4 Y Y Y Y) ?_
 obtain⟨⟨lP,lQ,Gl,Gm,Gn⟩,Mu,AA⟩:=bS AA
 refine RT.MO .none (j0 Mu) [304,305,306] (by decide) Y ⟨⟨Y,T⟩,⟨Y,T⟩,⟨Y,T⟩,ak⟩ Y ⟨Y,ak⟩ T Y Y<|an (s:=.ptr _ _) Y<|dn<|qq<|sr<|mv Y<|lE AA λAx Rg AA=>ln Y Rg<|mv Y<|dn<|bE AA λXU X0 UY=>?_
 refine bK (λ(w7:(List (List Qr))×(List Int)×(List (List Qr)))=>AS.cj 133 [(1,.sv (slc 1 (List.map bD x1))),(9,.ptr 56 0)] [(56,⟨79,[ai lP,ah lQ,.row 313,.row 314,.row 315]⟩)] [(313,TR 23 1 (eS 4 eQ) w7.1),(314,TR 3 1 bD w7.2.1),(315,TR 23 1 (eS 4 eQ) w7.2.2)]) (λw7=>.inl w7=XU) ?_ (λw7 X1=>?_)
 refine aY ?_
 refine bL X0 (λEY=>AS.cj 133 [(1,.sv (slc 1 (List.map bD x1))),(9,.ptr 56 0),(57,.sv (slc 1 (List.map bD x1))),(58,ah Ax),(59,ah EY.1)] [(56,⟨79,[ai lP,ah lQ,.row 313,.row 314,.row 315]⟩)] [(313,TR 23 1 (eS 4 eQ) EY.2.1),(314,TR 3 1 bD EY.2.2.1),(315,TR 23 1 (eS 4 eQ) EY.2.2.2)]) (cD (λi=>bif Nat.beq i 313 then 304 else bif Nat.beq i 314 then 305 else bif Nat.beq i 315 then 306 else i) Y Y Y Y Y ⟨.sv aq,.ptr,.sv aq,.sv aq,.sv aq,ak⟩ ⟨⟨_,Y,⟨.sv aq,.sv aq,.row Y,.row Y,.row Y,ak⟩⟩,ak⟩ ⟨⟨_,Y,cg.refl _⟩,⟨_,Y,cg.refl _⟩,⟨_,Y,cg.refl _⟩,ak⟩ (λi hi=>by rw[bV (show i≠313 by omega)];rw[bV (show i≠314 by omega)];rw[bV (show i≠315 by omega)];rfl)) (λEY y67 G67 h X2 UZ=>?_)
 obtain⟨c7,fJ,fK,ct⟩:=EY
 try dsimp only
 refine sr<|lE h λDx N5 h=>ls _ Y Y N5<|dn<|qq ?_
 cases Dx
 refine cF<|bN<|aW.x<|aW.x<|bF.x<|aW.n ?_
 obtain rfl:=O (F h)
 exact⟨(fJ,fK,ct),UZ _ Y,wR []⟩
 refine cT<|bw<|aW.n<|qq<|aY<|sr<|mv Y<|bE (V h) λDy Wx h=>ix Y Y Wx<|lr Y Y<|ag Y<|ag Y<|dn<|sr<|mv Y<|ag Y<|dn<|qq<|bE h λe77 X3 dM=>?_
 refine bK (λ(fG:Int)=>AS.cj 133 [(1,.sv (slc 1 (List.map bD x1))),(9,.ptr 56 0),(10,ah c7),(11,ah Dy),(12,ah fG),(57,.sv (slc 1 (List.map bD x1))),(58,ah Ax),(59,ah c7)] [(56,⟨79,[ai lP,ah lQ,.row 313,.row 314,.row 315]⟩)] [(313,TR 23 1 (eS 4 eQ) fJ),(314,TR 3 1 bD fK),(315,TR 23 1 (eS 4 eQ) ct)]) (λfG=>fG=e77) ?_ (λfG X4=>?_)
 refine aY ?_
 refine bL X3 (λs77=>AS.cj 133 [(1,.sv (slc 1 (List.map bD x1))),(9,.ptr 56 0),(10,ah c7),(11,ah Dy),(12,ah s77),(57,.sv (slc 1 (List.map bD x1))),(58,ah Ax),(59,ah c7)] [(56,⟨79,[ai lP,ah lQ,.row 313,.row 314,.row 315]⟩)] [(313,TR 23 1 (eS 4 eQ) fJ),(314,TR 3 1 bD fK),(315,TR 23 1 (eS 4 eQ) ct)]) (wR []) (λfE y77 G77 h X5 X6=>?_)
 try dsimp only
 refine qq<|qq ?_
 refine bJ h (λj80=>AS.cj 133 [(1,.sv (slc 1 (List.map bD x1))),(9,.ptr 56 0),(10,ah c7),(11,ah Dy),(12,ah fE),(57,.sv (slc 1 (List.map bD x1))),(58,ah Ax),(59,ah c7),(85,ai j80)] [(56,⟨79,[ai lP,ah lQ,.row 313,.row 314,.row 315]⟩)] [(313,TR 23 1 (eS 4 eQ) fJ),(314,TR 3 1 bD fK),(315,TR 23 1 (eS 4 eQ) ct)]) (λh=>?_) (λqk h=>?_)
 refine aX<|mv Y<|mo (s:=.ptr _ _) Y<|RT.cC .none Y T<|fa Y Y<|RT.eA .none (s:=.row _) Y Y Y T<|lE h λJ3 h70 h=>lL Y Y h70<|lE h λHr Xl h=>ls _ Y Y Xl<|mv Y<|bE h λuT kM h=>?_
 cases Hr
 obtain rfl:=O (F kM)
 exact ww<|ww<|ww<|ww<|ww<|ww<|ww<|ww<|ww<|ww<|ww<|ww<|pF Y<|dn<|⟨false,h,wR []⟩
 refine RT.move (.some Y Y) (s:=.ptr _ _) Y T<|RT.cC (.some Y Y) Y T<|RT.fieldAddr (.some Y Y) Y T Y<|RT.eA (.some Y Y) (s:=.row _) Y Y Y T<|gm Y<|bE (V kM) λJ5 UH kM=>RT.Ox (.some Y Y) Y Y Y T UH<|bE kM λF7 Ux kM=>RT.Mk (e:=(eS 4 eQ)) (.some Y Y) Y Y Ux Y T<|gm Y ?_
 obtain⟨⟨⟨Ar,As⟩,⟨At,Au⟩⟩,h81,kM⟩:=bS kM
 refine RT.Uj (.some Y Y) Y Y T h81<|RT.gy (cs:=[_,_,_,_]) (.some Y Y) Y T Y Y<|bE kM λN6 h83 kM=>gc (kz h83) ⟨Y,ak⟩<|lE kM λJ4 h84 kM=>Uk _ Y Y (ve (p:=N6) (q:=0) h84) ?_
 obtain rfl:=O kM
 exact pT Y<|dn<|⟨J4,h,wR []⟩
 try dsimp only
 refine aW.n ?_
 cases qk
 refine cF<|bN<|aW.x<|aW.x<|bF.x<|aW.n ?_
 obtain rfl:=O (F h)
 exact⟨fE,X6 _ Y,wR []⟩
 refine cT<|bw<|aW.n<|aY<|aX<|mv Y<|lE (V h) λIj h87 h=>ad _ Y Y h87<|ag Y<|RT.done<|bF.n ?_
 obtain rfl:=O h
 exact aW.n ⟨Ij,X5 _ Y,wR []⟩
 subst X4
 try dsimp only
 refine aW.n<|qq<|sr<|mv Y<|mo (s:=.ptr _ _) Y<|RT.cC .none Y T<|fa Y Y<|RT.eA .none (s:=.row _) Y Y Y T<|lE dM λOE h93 dM=>lL Y Y h93<|lE dM λLH XA dM=>eq _ Y Y (ve (p:=fG) (q:=OE) XA)<|dn ?_
 cases LH
 refine fs<|qq<|aZ mixed<|mo (s:=.ptr _ _) Y<|RT.cC .none Y T<|fa Y Y<|RT.eA .none (s:=.row _) Y Y Y T<|mv Y<|mo (s:=.ptr _ _) Y<|RT.cC .none Y T<|fa Y Y<|RT.eA .none (s:=.row _) Y Y Y T<|mv Y<|mo (s:=.ptr _ _) Y<|RT.cC .none Y T<|fa Y Y<|RT.eA .none (s:=.row _) Y Y Y T<|mv Y<|bE (F dM) λEs R8 dM=>?_
 refine iR Y Y Y R8<|bE dM λAW Ri dM=>lR (e:=(eS 4 eQ)) Y Y Ri Y<|mo (s:=.ptr _ _) Y<|RT.cC .none Y T<|fa Y Y<|RT.eA .none (s:=.row _) Y Y Y T<|mv Y<|bE dM λDR Rj dM=>iR Y Y Y Rj<|bE dM λCo RV dM=>lR (e:=(eS 4 eQ)) Y Y RV Y<|bE dM λKK X7 dM=>iR Y Y Y X7<|bE dM λTt P2 dM=>sR AW Y Y Y Y P2<|bE dM λKL X8 dM=>?_
 refine iR Y Y Y X8<|bE dM λTu Jj dM=>sR Co Y Y Y Y Jj ?_
 refine RT.done ⟨by kernel_rfl,?_⟩
 refine aW.n<|aX<|mo (s:=.ptr _ _) Y<|mv Y<|mv Y ?_
 obtain⟨⟨UT,UU,UW⟩,Rk,dM⟩:=bS dM
 refine RT.Lt .none (gp Rk) 56 [313,314,315] [325,326,327] Y ⟨Y,Y,Y,ak⟩ (by decide) (by decide) Y ⟨⟨Y,T⟩,⟨Y,T⟩,⟨Y,T⟩,ak⟩ Y Y (.k3 Y Y Y) T<|RT.done<|bF.n<|aW.n<|aX<|lE dM λAX Rl dM=>ad _ Y Y Rl<|mv Y<|RT.done ?_
 obtain rfl:=O dM
 exact aW.n ⟨(AX,UT,UU,UW),X2 _ Y,cD (λi=>bif Nat.beq i 313 then 325 else bif Nat.beq i 314 then 326 else bif Nat.beq i 315 then 327 else i) Y Y Y Y Y ⟨.sv aq,.ptr,.sv aq,.sv aq,.sv aq,ak⟩ ⟨⟨_,Y,⟨.sv aq,.sv aq,.row Y,.row Y,.row Y,ak⟩⟩,ak⟩ ⟨⟨_,Y,cg.refl _⟩,⟨_,Y,cg.refl _⟩,⟨_,Y,cg.refl _⟩,ak⟩ (λi hi=>by rw[bV (show i≠313 by omega)];rw[bV (show i≠314 by omega)];rw[bV (show i≠315 by omega)];rfl)⟩
 refine cT<|sr<|ag Y<|ag Y<|dn<|bf<|aW.r<|bF.r<|aW.r ?_
 replace dM:=V dM
 cases dM
 subst X1
 obtain⟨BY,vR,BZ⟩:=w7
 try dsimp only
 refine aW.n<|sr<|mo (s:=.ptr _ _) Y<|RT.cC .none Y T<|fa Y Y<|RT.eA .none (s:=.row _) Y Y Y T<|mv Y<|RT.Tg (l:=vR) (k:=x1) (e:=bD) .none Y Y Y T Y<|dn<|sr<|mo (s:=.ptr _ _) Y<|an (s:=.ptr _ _) Y<|ag Y<|dn<|bf ?_
 obtain rfl:=O UY
 exact⟨.inr Y,56,[313,314,315],Y,Y,Y,⟨Y,Y,Y,ak⟩,by decide⟩
 refine cT<|sr<|ag Y<|ag Y<|dn<|bf<|aW.r ?_
 replace h:=V h
 cases h
end
end Go.Proofs.YtningmnklfpfjaaGreat
namespace Go.Fw
section
open Go.RowKit
structure Rt where
 p:Lr
 basis:List Int
abbrev X9(x:Rt):List SV:=[.v (.int .i64 x.p.vars),slc 1 (x.p.Ib.map (eS 4 eQ)),slc 1 (x.p.rows.map (eS 4 eQ)),slc 4 (x.p.bounds.map eQ),slc 1 (x.basis.map bD)]
end
end Go.Fw
namespace Go.Proofs.YtningmnklfpfjaaGreat
section
open Go.Fw
noncomputable def sN(x0:List (List Qr))(x1:List (List Qr)):Option (Bool):=(some (x0.length:Int)).bind λx7=>(some (x1.length:Int)).bind λx9=>(some (decide ((x7:Int)≠x9))).bind λdI=>(bif dI then some false else(bX (λ(iD:Int)=>(show Option ((Int)⊕((Unit)⊕(Bool)))from(some (x0.length:Int)).bind λeD=>(some (decide ((iD:Int)<eD))).bind λei=>(bif ei then(cL x0 iD).bind λjl=>(cL x1 iD).bind λjg=>(k7 jl jg).bind λjG=>(some (!jG)).bind λjH=>(bif jH then some (.inr (.inr false))else(some (IntKind.i64.wrap (iD+1))).bind λfB=>some (.inl fB))else some (.inr (.inl ()))))) 0).bind λe6=>match e6 with|.inr v6=>some v6|.inl _=>some true)
noncomputable def rH(x0:Int):Option (List (List Qr)):=(bX (λ(s6:Int×(List (List Qr)))=>match s6 with|⟨qQ,gL⟩=>(show Option ((Int×(List (List Qr)))⊕((List (List Qr))))from(jC x0).bind λx7=>(some (decide ((qQ:Int)<x7))).bind λx8=>(bif x8 then(jC x0).bind λeD=>(jt eD qQ).bind λdH=>(nC 24 gL [dH]).bind λdX=>(some (IntKind.i64.wrap (qQ+1))).bind λdI=>some (.inl (dI,dX))else some (.inr gL)))) (0,[])).bind λdj=>some dj
noncomputable def nx(x0:List (List Qr))(x1:List Qr):Option (List Qr):=(bX (λ(s6:Int×(List Qr))=>match s6 with|⟨mz,gL⟩=>(show Option ((Int×(List Qr))⊕((List Qr)))from(some (x0.length:Int)).bind λx9=>(some (decide ((mz:Int)<x9))).bind λdI=>(bif dI then(cL x0 mz).bind λfB=>(qJ fB x1).bind λ⟨⟨lS,lT⟩,⟨wO,wP⟩⟩=>(nC 64 gL [⟨⟨lS,lT⟩,⟨wO,wP⟩⟩]).bind λfL=>(some (IntKind.i64.wrap (mz+1))).bind λc9=>some (.inl (c9,fL))else some (.inr gL)))) (0,[])).bind λdj=>some dj
noncomputable def mG(x0:List (List Qr))(x1:List (List Qr)):Option (List (List Qr)):=(some (x0.length:Int)).bind λx6=>(cS x1).bind λx8=>(kJ x6 x8 2 ⟨⟨false,[]⟩,⟨false,[]⟩⟩ x0 x1).bind λc9=>some c9
noncomputable def mU(x0:List (List Qr)):Option (List (List Qr)):=(cS x0).bind λx4=>(some (x0.length:Int)).bind λx6=>(kJ x4 x6 1 ⟨⟨false,[]⟩,⟨false,[]⟩⟩ x0 []).bind λx9=>some x9
noncomputable def oq(x0:List (List Qr))(x1:List (List Qr)):Option (List (List Qr)):=(some (x0.length:Int)).bind λx6=>(some (x1.length:Int)).bind λx8=>(some (max (x6:Int) x8)).bind λx9=>(cS x0).bind λfz=>(cS x1).bind λeD=>(some (IntKind.i64.wrap (fz+eD))).bind λei=>(kJ x9 ei 3 ⟨⟨false,[]⟩,⟨false,[]⟩⟩ x0 x1).bind λeX=>some eX
noncomputable def yu(x0:Int)(x1:Int)(x2:Nat)(x3:Qr)(x4:List (List Qr))(x5:List (List Qr)):Option (List (List Qr)):=match x3 with|⟨⟨uQ,uR⟩,⟨Jd,Je⟩⟩=>(bX (λ(pA:Int×(List (List Qr)))=>match pA with|⟨yZ,FH⟩=>(show Option ((Int×(List (List Qr)))⊕((List (List Qr))))from(some (decide ((yZ:Int)<x0))).bind λjl=>(bif jl then(bX (λ(AF:Int×(List Qr))=>match AF with|⟨zV,Hs⟩=>(show Option ((Int×(List Qr))⊕((List Qr)))from(some (decide ((zV:Int)<x1))).bind λgX=>(bif gX then(eL x2 ⟨⟨uQ,uR⟩,⟨Jd,Je⟩⟩ x4 x5 yZ zV).bind λ⟨⟨qA,qB⟩,⟨vp,vr⟩⟩=>(nC 64 Hs [⟨⟨qA,qB⟩,⟨vp,vr⟩⟩]).bind λpg=>(some (IntKind.i64.wrap (zV+1))).bind λjH=>some (.inl (jH,pg))else some (.inr Hs)))) (0,[])).bind λvS=>(nC 24 FH [vS]).bind λnj=>(some (IntKind.i64.wrap (yZ+1))).bind λfL=>some (.inl (fL,nj))else some (.inr FH)))) (0,[])).bind λB0=>some B0
noncomputable def vT(x0:List (List Qr))(x1:Int)(x2:Int):Option (List (List Qr)):=(jC x1).bind λx8=>(jC x2).bind λdI=>(iL 1).bind λ⟨⟨xF,xG⟩,⟨PS,PT⟩⟩=>(yu x8 dI 0 ⟨⟨xF,xG⟩,⟨PS,PT⟩⟩ x0 []).bind λeD=>some eD
noncomputable def ny(x0:Int)(x1:Int):Option (List Qr):=(bX (λ(Ad:Int×(List Qr))=>match Ad with|⟨sF,FI⟩=>(show Option ((Int×(List Qr))⊕((List Qr)))from cE (λ(Dn:Bool)=>(bif Dn then(some (decide ((sF:Int)=x1))).bind λij=>cE (λ(PK:Bool×(List Nat)×Bool×(List Nat))=>match PK with|⟨vL,vM,vN,vO⟩=>(nC 64 FI [⟨⟨vL,vM⟩,⟨vN,vO⟩⟩]).bind λjG=>(some (IntKind.i64.wrap (sF+1))).bind λfB=>some (.inl (fB,jG))) λK17=>(bif ij then(iL 1).bind λ⟨⟨l7,l8⟩,⟨nJ,nK⟩⟩=>K17 (l7,l8,nJ,nK)else K17 (false,[],false,[]))else some (.inr FI))) λXd=>(some (decide ((sF:Int)<x0))).bind λdI=>(bif dI then(some (decide ((sF:Int)<65536))).bind λeD=>some eD else some false).bind λJa=>Xd Ja)) (0,[])).bind λB3=>some B3
noncomputable def w8(x0:Qr)(x1:Qr):Option (Qr):=match x0 with|⟨⟨bk,bn⟩,⟨bt,bB⟩⟩=>match x1 with|⟨⟨cu,cm⟩,⟨eE,eG⟩⟩=>(uu ⟨⟨bk,bn⟩,⟨bt,bB⟩⟩ ⟨⟨cu,cm⟩,⟨eE,eG⟩⟩).bind λ⟨⟨⟨Ya,Yb⟩,⟨Yc,Yd⟩⟩,aav⟩=>some ⟨⟨Ya,Yb⟩,⟨Yc,Yd⟩⟩
noncomputable def jW(x0:List (List Qr)):Option ((List (List Qr))×(List Int)):=(cS x0).bind λc9=>(some (x0.length:Int)).bind λdH=>(vT x0 dH c9).bind λdX=>(bX (λ(s50:Int×Int×(List (List Qr))×(List Int))=>match s50 with|⟨pE,vu,nD,pO⟩=>(show Option ((Int×Int×(List (List Qr))×(List Int))⊕(Int×(List (List Qr))×(List Int)))from(some (decide ((vu:Int)<c9))).bind λij=>(bif ij then(bX (λ(Jk:Int)=>(show Option ((Int)⊕(Int))from cE (λ(R9:Bool)=>(bif R9 then(some (IntKind.i64.wrap (Jk+1))).bind λnj=>some (.inl nj)else some (.inr Jk))) λK63=>(some (nD.length:Int)).bind λjH=>(some (decide ((Jk:Int)<jH))).bind λiO=>(bif iO then(kW nD Jk).bind λnU=>(nD[nU]?).bind λiP=>(cL iP vu).bind λ⟨⟨qA,qB⟩,⟨vp,vr⟩⟩=>(kH ⟨⟨qA,qB⟩,⟨vp,vr⟩⟩).bind λpg=>(some (decide ((pg:Int)=0))).bind λuG=>some uG else some false).bind λYe=>K63 Ye)) pE).bind λEt=>(some (nD.length:Int)).bind λvf=>(some (decide ((Et:Int)=vf))).bind λsj=>(bif sj then(some (IntKind.i64.wrap (vu+1))).bind λiA=>some (.inl (pE,iA,nD,pO))else(kW nD Et).bind λBT=>(nD[BT]?).bind λAD=>(kW nD pE).bind λAE=>(nD[AE]?).bind λJ2=>(kW nD pE).bind λN3=>(stM nD N3 AD).bind λl67=>(kW l67 Et).bind λAx=>(stM l67 Ax J2).bind λl68=>(iL 1).bind λ⟨⟨adD,adE⟩,⟨adF,adG⟩⟩=>(kW l68 pE).bind λx64=>(l68[x64]?).bind λN4=>(cL N4 vu).bind λ⟨⟨LC,LD⟩,⟨LF,LG⟩⟩=>(w8 ⟨⟨adD,adE⟩,⟨adF,adG⟩⟩ ⟨⟨LC,LD⟩,⟨LF,LG⟩⟩).bind λ⟨⟨adH,adI⟩,⟨adJ,adK⟩⟩=>(kW l68 pE).bind λUs=>(l68[Us]?).bind λx73=>(pC ⟨⟨adH,adI⟩,⟨adJ,adK⟩⟩ x73).bind λx74=>(kW l68 pE).bind λx75=>(stM l68 x75 x74).bind λl70=>(bX (λ(s80:Int×(List (List Qr)))=>match s80 with|⟨zW,rI⟩=>(show Option ((Int×(List (List Qr)))⊕((List (List Qr))))from(some (rI.length:Int)).bind λJ5=>(some (decide ((zW:Int)<J5))).bind λF7=>(bif F7 then(some (decide ((zW:Int)≠pE))).bind λJ4=>cE (λ(Sa:(List (List Qr)))=>(some (IntKind.i64.wrap (zW+1))).bind λx81=>some (.inl (x81,Sa))) λK83=>(bif J4 then(kW rI zW).bind λx89=>(rI[x89]?).bind λVr=>(cL Vr vu).bind λ⟨⟨adL,adM⟩,⟨adN,adO⟩⟩=>(oh ⟨⟨adL,adM⟩,⟨adN,adO⟩⟩).bind λ⟨⟨adP,adQ⟩,⟨adR,adS⟩⟩=>(kW rI pE).bind λx97=>(rI[x97]?).bind λZJ=>(kW rI zW).bind λaka=>(rI[aka]?).bind λKk=>(gR ⟨⟨adP,adQ⟩,⟨adR,adS⟩⟩ ZJ Kk).bind λKl=>(kW rI zW).bind λKm=>(stM rI Km Kl).bind λTu=>K83 Tu else K83 rI)else some (.inr rI)))) (0,l70)).bind λDp=>(nC 8 pO [vu]).bind λagx=>(some (IntKind.i64.wrap (pE+1))).bind λEs=>(some (IntKind.i64.wrap (vu+1))).bind λiA=>some (.inl (Es,iA,Dp,agx)))else some (.inr (pE,nD,pO))))) (0,0,dX,[])).bind λe50=>match e50 with|⟨Yf,Sb,Nt⟩=>(GD Sb 0 Yf).bind λakb=>some (akb,Nt)
noncomputable def sO(x0:List Int)(x1:Int):Option (Bool):=(bX (λ(iD:Int)=>(show Option ((Int)⊕((Unit)⊕(Bool)))from(some (x0.length:Int)).bind λx8=>(some (decide ((iD:Int)<x8))).bind λx9=>(bif x9 then(cL x0 iD).bind λei=>(some (decide ((ei:Int)=x1))).bind λdX=>(bif dX then some (.inr (.inr true))else(some (IntKind.i64.wrap (iD+1))).bind λfz=>some (.inl fz))else some (.inr (.inl ()))))) 0).bind λe6=>match e6 with|.inr v6=>some v6|.inl _=>some false
noncomputable def rJ(x0:List (List Qr)):Option (List (List Qr)):=(jW x0).bind λ⟨A0,DS⟩=>(cS x0).bind λfB=>(bX (λ(U0:Int×(List (List Qr)))=>match U0 with|⟨mH,xS⟩=>(show Option ((Int×(List (List Qr)))⊕((List (List Qr))))from(some (decide ((mH:Int)<fB))).bind λjl=>(bif jl then(sO DS mH).bind λgX=>(bif gX then(some (IntKind.i64.wrap (mH+1))).bind λfL=>some (.inl (fL,xS))else(ny fB mH).bind λiO=>(bX (λ(Um:Int×(List Qr))=>match Um with|⟨P3,Jl⟩=>(show Option ((Int×(List Qr))⊕((List Qr)))from(some (A0.length:Int)).bind λoF=>(some (decide ((P3:Int)<oF))).bind λnU=>(bif nU then(cL DS P3).bind λuG=>(cL A0 P3).bind λyF=>(cL yF mH).bind λ⟨⟨Gc,Ge⟩,⟨OU,OV⟩⟩=>(oh ⟨⟨Gc,Ge⟩,⟨OU,OV⟩⟩).bind λ⟨⟨Jm,Jn⟩,⟨Jo,Jp⟩⟩=>(kW Jl uG).bind λsE=>(stM Jl sE ⟨⟨Jm,Jn⟩,⟨Jo,Jp⟩⟩).bind λZM=>(some (IntKind.i64.wrap (P3+1))).bind λoD=>some (.inl (oD,ZM))else some (.inr Jl)))) (0,iO)).bind λzX=>(nC 24 xS [zX]).bind λBT=>(some (IntKind.i64.wrap (mH+1))).bind λfL=>some (.inl (fL,BT)))else some (.inr xS)))) (0,[])).bind λzY=>some zY
noncomputable def rK(x0:List (List Qr))(x1:List Qr):Option (List (List Qr)):=(cS x0).bind λfz=>(bX (λ(U0:Int×(List (List Qr)))=>match U0 with|⟨mH,zZ⟩=>(show Option ((Int×(List (List Qr)))⊕((List (List Qr))))from cE (λ(Sc:Bool)=>(bif Sc then(bX (λ(s29:Int×(List Qr))=>match s29 with|⟨Tv,Ht⟩=>(show Option ((Int×(List Qr))⊕((List Qr)))from(some (decide ((Tv:Int)<fz))).bind λjH=>(bif jH then(fD x0 mH Tv).bind λ⟨⟨CB,CC⟩,⟨Iz,IA⟩⟩=>(nC 64 Ht [⟨⟨CB,CC⟩,⟨Iz,IA⟩⟩]).bind λku=>(some (IntKind.i64.wrap (Tv+1))).bind λkT=>some (.inl (kT,ku))else some (.inr Ht)))) (0,[])).bind λB4=>(g9 x1 mH).bind λ⟨⟨vh,vi⟩,⟨yK,yL⟩⟩=>(nC 64 B4 [⟨⟨vh,vi⟩,⟨yK,yL⟩⟩]).bind λnE=>(nC 24 zZ [nE]).bind λsj=>(some (IntKind.i64.wrap (mH+1))).bind λjg=>some (.inl (jg,sj))else some (.inr zZ))) λK23=>(some (x0.length:Int)).bind λei=>(some (decide ((mH:Int)<ei))).bind λdH=>(bif dH then some true else(some (x1.length:Int)).bind λjl=>(some (decide ((mH:Int)<jl))).bind λij=>some ij).bind λYg=>K23 Yg)) (0,[])).bind λz4=>some z4
noncomputable def k8(x0:List (List Qr))(x1:List Qr):Option ((List Qr)×(List (List Qr))×Int):=(cS x0).bind λeD=>(rK x0 x1).bind λdX=>(jW dX).bind λ⟨Kq,MI⟩=>(sO MI eD).bind λjg=>(bif jg then some ([],[],8)else(ny eD (-1)).bind λjG=>(bX (λ(s8:Int×(List Qr))=>match s8 with|⟨tZ,P4⟩=>(show Option ((Int×(List Qr))⊕((List Qr)))from(some (Kq.length:Int)).bind λkT=>(some (decide ((tZ:Int)<kT))).bind λgI=>(bif gI then(cL MI tZ).bind λku=>(cL Kq tZ).bind λvY=>(cL vY eD).bind λ⟨⟨Yh,Yi⟩,⟨Yj,Yk⟩⟩=>(kW P4 ku).bind λsj=>(stM P4 sj ⟨⟨Yh,Yi⟩,⟨Yj,Yk⟩⟩).bind λDL=>(some (IntKind.i64.wrap (tZ+1))).bind λnU=>some (.inl (nU,DL))else some (.inr P4)))) (0,jG)).bind λJq=>(rJ x0).bind λsE=>some (Jq,sE,0))
noncomputable def dN(x0:List (List Qr)):Option ((List (List Qr))×Int):=(some (x0.length:Int)).bind λfz=>(bX (λ(uH:Int×(List (List Qr)))=>match uH with|⟨KA,og⟩=>(show Option ((Int×(List (List Qr)))⊕(((List (List Qr)))⊕((List (List Qr))×Int)))from(some (decide ((KA:Int)<fz))).bind λei=>(bif ei then(jt fz KA).bind λfL=>(k8 x0 fL).bind λ⟨Yl,akc,agy⟩=>cE (λ(Sd:Bool)=>(bif Sd then some (.inr (.inr ([],8)))else(nC 24 og [Yl]).bind λpg=>(some (IntKind.i64.wrap (KA+1))).bind λfB=>some (.inl (fB,pg)))) λGG=>(some (decide ((agy:Int)≠0))).bind λiO=>(bif iO then some true else(some (akc.length:Int)).bind λoF=>(some (decide ((0:Int)<oF))).bind λnU=>some nU).bind λYm=>GG Ym else some (.inr (.inl og))))) (0,[])).bind λFm=>match Fm with|.inr v10=>some v10|.inl jU=>(mU jU).bind λqX=>some (qX,0)
noncomputable def iY(x0:Lr):Option (List (List Qr)):=match x0 with|⟨bk,bn,bt,bB⟩=>(some (bt.length:Int)).bind λx7=>(qL bt x7 bk).bind λdI=>(some (bt.length:Int)).bind λeD=>(rH eD).bind λei=>(oq dI ei).bind λdH=>some dH
noncomputable def jb(x0:Lr)(x1:List Int):Option (Bool):=match x0 with|⟨bk,bn,bt,bB⟩=>(bX (λ(qh:Int)=>(show Option ((Int)⊕((Unit)⊕(Bool)))from(some (x1.length:Int)).bind λx9=>(some (decide ((qh:Int)<x9))).bind λdI=>(bif dI then cE (λ(Se:Bool)=>(bif Se then some (.inr (.inr false))else(bX (λ(Tw:Int)=>(show Option ((Int)⊕((Unit)⊕((Int)⊕((Unit)⊕(Bool)))))from(some (decide ((Tw:Int)<qh))).bind λoD=>(bif oD then(cL x1 qh).bind λqX=>(cL x1 Tw).bind λnE=>(some (decide ((qX:Int)=nE))).bind λsj=>(bif sj then some (.inr (.inr (.inr (.inr false))))else(some (IntKind.i64.wrap (Tw+1))).bind λku=>some (.inl ku))else some (.inr (.inl ()))))) 0).bind λe27=>match e27 with|.inr v27=>some v27|.inl _=>(some (IntKind.i64.wrap (qh+1))).bind λc9=>some (.inl c9))) λK21=>(cL x1 qh).bind λdH=>(some (decide ((dH:Int)<0))).bind λdX=>(bif dX then some true else(cL x1 qh).bind λfL=>(some (bt.length:Int)).bind λiO=>(some (IntKind.i64.wrap (bk+iO))).bind λkT=>(some (decide ((kT:Int)≤fL))).bind λgI=>some gI).bind λYn=>K21 Yn else some (.inr (.inl ()))))) 0).bind λe18=>match e18 with|.inr v18=>some v18|.inl _=>(some (x1.length:Int)).bind λvg=>(some (bt.length:Int)).bind λJ1=>(some (decide ((vg:Int)=J1))).bind λAB=>some AB
noncomputable def jD(x0:Lr)(x1:Int):Option (List Qr):=match x0 with|⟨bk,bn,bt,bB⟩=>(bX (λ(s6:Int×(List Qr))=>match s6 with|⟨mz,gL⟩=>(show Option ((Int×(List Qr))⊕((List Qr)))from(some (bn.length:Int)).bind λc9=>(some (decide ((mz:Int)<c9))).bind λeD=>(bif eD then(fD bn mz x1).bind λ⟨⟨l7,l8⟩,⟨nJ,nK⟩⟩=>(nC 64 gL [⟨⟨l7,l8⟩,⟨nJ,nK⟩⟩]).bind λjg=>(some (IntKind.i64.wrap (mz+1))).bind λdH=>some (.inl (dH,jg))else some (.inr gL)))) (0,[])).bind λdj=>(bX (λ(s14:Int×(List Qr))=>match s14 with|⟨mH,Eu⟩=>(show Option ((Int×(List Qr))⊕((List Qr)))from(some (decide ((mH:Int)<bk))).bind λiO=>(bif iO then(some (decide ((mH:Int)=x1))).bind λoD=>cE (λ(Vt:Bool×(List Nat)×Bool×(List Nat))=>match Vt with|⟨Hu,Hv,Hw,Hx⟩=>(nC 64 Eu [⟨⟨Hu,Hv⟩,⟨Hw,Hx⟩⟩]).bind λqX=>(some (IntKind.i64.wrap (mH+1))).bind λgI=>some (.inl (gI,qX))) λK16=>(bif oD then(iL (-1)).bind λ⟨⟨qA,qB⟩,⟨vp,vr⟩⟩=>K16 (qA,qB,vp,vr)else K16 (false,[],false,[]))else some (.inr Eu)))) (0,dj)).bind λxT=>(some (decide ((bk:Int)≤x1))).bind λnE=>(bif nE then(some (xT.length:Int)).bind λsj=>(jt sj (-1)).bind λzu=>some zu else some xT)
noncomputable def lf(x0:Rt):Option (List (List Qr)):=match x0 with|⟨⟨bk,bn,bt,bB⟩,cI⟩=>(iY ⟨bk,bn,bt,bB⟩).bind λc9=>(bX (λ(pA:Int×(List (List Qr)))=>match pA with|⟨qh,l9⟩=>(show Option ((Int×(List (List Qr)))⊕((List (List Qr))))from(some (c9.length:Int)).bind λdH=>(some (decide ((qh:Int)<dH))).bind λfB=>(bif fB then(bX (λ(AF:Int×(List Qr))=>match AF with|⟨su,nL⟩=>(show Option ((Int×(List Qr))⊕((List Qr)))from(some (cI.length:Int)).bind λgX=>(some (decide ((su:Int)<gX))).bind λjG=>(bif jG then(cL cI su).bind λpg=>(fD c9 qh pg).bind λ⟨⟨Ah,Ai⟩,⟨Ev,Ew⟩⟩=>(nC 64 nL [⟨⟨Ah,Ai⟩,⟨Ev,Ew⟩⟩]).bind λnj=>(some (IntKind.i64.wrap (su+1))).bind λiO=>some (.inl (iO,nj))else some (.inr nL)))) (0,[])).bind λfo=>(nC 24 l9 [fo]).bind λsj=>(some (IntKind.i64.wrap (qh+1))).bind λeX=>some (.inl (eX,sj))else some (.inr l9)))) (0,[])).bind λgM=>some gM
noncomputable def oT(x0:Rt):Option (Bool):=match x0 with|⟨⟨bk,bn,bt,bB⟩,cI⟩=>(lf ⟨⟨bk,bn,bt,bB⟩,cI⟩).bind λx7=>(dN x7).bind λ⟨ZF,ZG⟩=>(some (decide ((ZG:Int)=0))).bind λc9=>some c9
noncomputable def mI(x0:Rt):Option (List (List Qr)):=match x0 with|⟨⟨bk,bn,bt,bB⟩,cI⟩=>(lf ⟨⟨bk,bn,bt,bB⟩,cI⟩).bind λx7=>(dN x7).bind λ⟨ZF,ZG⟩=>(iY ⟨bk,bn,bt,bB⟩).bind λfB=>(mG ZF fB).bind λdX=>some dX
noncomputable def jc(x0:Rt):Option (List Qr):=match x0 with|⟨⟨bk,bn,bt,bB⟩,cI⟩=>(lf ⟨⟨bk,bn,bt,bB⟩,cI⟩).bind λx7=>(dN x7).bind λ⟨ZF,ZG⟩=>(nx ZF bB).bind λdX=>some dX
noncomputable def ql(x0:Rt)(x1:List Qr):Option (List Qr):=match x0 with|⟨⟨bk,bn,bt,bB⟩,cI⟩=>(some (bn.length:Int)).bind λc9=>(some (IntKind.i64.wrap (c9+bk))).bind λeX=>(jt eX (-1)).bind λjl=>(bX (λ(s6:(List Qr)×Int)=>match s6 with|⟨iD,mz⟩=>(show Option (((List Qr)×Int)⊕((List Qr)))from(some (cI.length:Int)).bind λjG=>(some (decide ((mz:Int)<jG))).bind λjH=>(bif jH then(g9 x1 mz).bind λ⟨⟨OJ,OK⟩,⟨adT,adU⟩⟩=>(cL cI mz).bind λyF=>(jD ⟨bk,bn,bt,bB⟩ yF).bind λvf=>(gR ⟨⟨OJ,OK⟩,⟨adT,adU⟩⟩ vf iD).bind λzu=>(some (IntKind.i64.wrap (mz+1))).bind λkT=>some (.inl (zu,kT))else some (.inr iD)))) (jl,0)).bind λwE=>some wE
noncomputable def fH(x0:Rt):Option (List (List Qr)):=match x0 with|⟨⟨bk,bn,bt,bB⟩,cI⟩=>(mI ⟨⟨bk,bn,bt,bB⟩,cI⟩).bind λx9=>(bX (λ(pA:Int×(List (List Qr)))=>match pA with|⟨qh,l9⟩=>(show Option ((Int×(List (List Qr)))⊕((List (List Qr))))from(some (bt.length:Int)).bind λfL=>(some (IntKind.i64.wrap (bk+fL))).bind λiA=>(some (decide ((qh:Int)<iA))).bind λjg=>(bif jg then(bX (λ(AF:Int×(List Qr))=>match AF with|⟨su,nL⟩=>(show Option ((Int×(List Qr))⊕((List Qr)))from(some (x9.length:Int)).bind λkT=>(some (decide ((su:Int)<kT))).bind λgI=>(bif gI then(cL x9 su).bind λku=>(cL ku qh).bind λ⟨⟨Ah,Ai⟩,⟨Ev,Ew⟩⟩=>(nC 64 nL [⟨⟨Ah,Ai⟩,⟨Ev,Ew⟩⟩]).bind λyF=>(some (IntKind.i64.wrap (su+1))).bind λnU=>some (.inl (nU,yF))else some (.inr nL)))) (0,[])).bind λfo=>(ql ⟨⟨bk,bn,bt,bB⟩,cI⟩ fo).bind λzu=>(jD ⟨bk,bn,bt,bB⟩ qh).bind λBT=>(qH zu BT).bind λAD=>(nC 24 l9 [AD]).bind λCg=>(some (IntKind.i64.wrap (qh+1))).bind λjG=>some (.inl (jG,Cg))else some (.inr l9)))) (0,[])).bind λgM=>some gM
noncomputable def rL(x0:Rt):Option (List Qr):=match x0 with|⟨⟨bk,bn,bt,bB⟩,cI⟩=>(jc ⟨⟨bk,bn,bt,bB⟩,cI⟩).bind λx5=>(ql ⟨⟨bk,bn,bt,bB⟩,cI⟩ x5).bind λx6=>some x6
noncomputable def nc(x0:Rt):Option (List Qr):=match x0 with|⟨⟨bk,bn,bt,bB⟩,cI⟩=>(ny bk (-1)).bind λfz=>(jc ⟨⟨bk,bn,bt,bB⟩,cI⟩).bind λeD=>(bX (λ(uH:Int×(List Qr))=>match uH with|⟨Dm,Jr⟩=>(show Option ((Int×(List Qr))⊕((List Qr)))from(some (cI.length:Int)).bind λjl=>(some (decide ((Dm:Int)<jl))).bind λij=>(bif ij then(cL cI Dm).bind λkT=>(some (decide ((kT:Int)<bk))).bind λku=>cE (λ(Sf:(List Qr))=>(some (IntKind.i64.wrap (Dm+1))).bind λiA=>some (.inl (iA,Sf))) λGG=>(bif ku then(cL cI Dm).bind λnE=>(cL eD Dm).bind λ⟨⟨Jm,Jn⟩,⟨Jo,Jp⟩⟩=>(kW Jr nE).bind λr9=>(stM Jr r9 ⟨⟨Jm,Jn⟩,⟨Jo,Jp⟩⟩).bind λTh=>GG Th else GG Jr)else some (.inr Jr)))) (0,fz)).bind λJs=>some Js
noncomputable def nf(x0:Rt):Option (Bool):=match x0 with|⟨⟨bk,bn,bt,bB⟩,cI⟩=>(jc ⟨⟨bk,bn,bt,bB⟩,cI⟩).bind λx6=>(bX (λ(qQ:Int)=>(show Option ((Int)⊕((Unit)⊕(Bool)))from(some (x6.length:Int)).bind λx9=>(some (decide ((qQ:Int)<x9))).bind λdI=>(bif dI then(cL x6 qQ).bind λ⟨⟨jQ,jR⟩,⟨xK,xL⟩⟩=>(kH ⟨⟨jQ,jR⟩,⟨xK,xL⟩⟩).bind λdX=>(some (decide ((dX:Int)<0))).bind λeX=>(bif eX then some (.inr (.inr false))else(some (IntKind.i64.wrap (qQ+1))).bind λc9=>some (.inl c9))else some (.inr (.inl ()))))) 0).bind λe6=>match e6 with|.inr v6=>some v6|.inl _=>some true
noncomputable def ot(x0:Rt):Option (Bool):=match x0 with|⟨⟨bk,bn,bt,bB⟩,cI⟩=>(fH ⟨⟨bk,bn,bt,bB⟩,cI⟩).bind λx6=>(bX (λ(qQ:Int)=>(show Option ((Int)⊕((Unit)⊕(Bool)))from(some (x6.length:Int)).bind λx9=>(some (decide ((qQ:Int)<x9))).bind λdI=>(bif dI then(cL x6 qQ).bind λdH=>(qK dH []).bind λdX=>(some (decide ((dX:Int)<0))).bind λeX=>(bif eX then some (.inr (.inr false))else(some (IntKind.i64.wrap (qQ+1))).bind λc9=>some (.inl c9))else some (.inr (.inl ()))))) 0).bind λe6=>match e6 with|.inr v6=>some v6|.inl _=>some true
noncomputable def w9(x0:Tb)(x1:Rt):Option (Bool):=match x0 with|⟨bk,bn,bt,bB,cI⟩=>match x1 with|⟨⟨cu,cm,eE,eG⟩,KM⟩=>cE (λ(Sg:Bool)=>(bif Sg then some false else cE (λ(adV:Bool)=>some adV) λK22=>(kC ⟨bk,bn,bt,bB,cI⟩).bind λnE=>(rL ⟨⟨cu,cm,eE,eG⟩,KM⟩).bind λsj=>(k7 nE sj).bind λzu=>(bif zu then(iJ ⟨bk,bn,bt,bB,cI⟩).bind λr9=>(nc ⟨⟨cu,cm,eE,eG⟩,KM⟩).bind λAB=>(k7 r9 AB).bind λBT=>some BT else some false).bind λYo=>(bif Yo then(jS ⟨bk,bn,bt,bB,cI⟩).bind λAE=>(nf ⟨⟨cu,cm,eE,eG⟩,KM⟩).bind λN3=>(some (AE==N3)).bind λAx=>some Ax else some false).bind λagz=>(bif agz then(jy ⟨bk,bn,bt,bB,cI⟩).bind λDy=>(ot ⟨⟨cu,cm,eE,eG⟩,KM⟩).bind λx64=>(some (Dy==x64)).bind λN4=>some N4 else some false).bind λagA=>K22 agA)) λK12=>(bif false then none else(kA ⟨bk,bn,bt,bB,cI⟩).bind λx9=>(oS x9 KM).bind λei=>(some (!ei)).bind λdH=>some dH).bind λYp=>(bif Yp then some true else(sL ⟨bk,bn,bt,bB,cI⟩).bind λjl=>(mI ⟨⟨cu,cm,eE,eG⟩,KM⟩).bind λfL=>(sN jl fL).bind λiA=>(some (!iA)).bind λjg=>some jg).bind λagB=>(bif agB then some true else(jL ⟨bk,bn,bt,bB,cI⟩).bind λiO=>(jc ⟨⟨cu,cm,eE,eG⟩,KM⟩).bind λgI=>(k7 iO gI).bind λoF=>(some (!oF)).bind λnU=>some nU).bind λWO=>(bif WO then some true else(gZ ⟨bk,bn,bt,bB,cI⟩).bind λku=>(fH ⟨⟨cu,cm,eE,eG⟩,KM⟩).bind λuG=>(sN ku uG).bind λqX=>(some (!qX)).bind λvY=>some vY).bind λagC=>K12 agC
end
section
open Go.Fw Go.Fw.Z Go.RowKit
theorem Gp{x0:List (List Qr)}{x1:List (List Qr)}{r:Bool}(h:sN x0 x1=some r):Pure af 66 [slc 1 (List.map (eS 4 eQ) x0),slc 1 (List.map (eS 4 eQ) x1)] (ay r):=by
 refine bj Tryz.func66 Y (ae Y) (λdw M vs hvs=>?_)
 unfold sN at h
 refine sr<|ag Y<|dn<|qq<|sr<|mv Y<|lE h λx7 h7 h=>ln Y h7<|mv Y<|lE h λx9 h9 h=>ln Y h9<|lE h λdI gC h=>ne _ Y Y (JY (p:=x7) (q:=x9) gC)<|dn ?_
 cases dI
 refine fs<|qq<|sr<|ag Y<|dn<|bE (F h) λe6 vA jo=>?_
 refine bK (λ(uI:Unit)=>AS.cj 27 [] [] []) (λuI=>.inl uI=e6) ?_ (λuI vB=>?_)
 refine aY ?_
 refine bL vA (λs6=>AS.cj 27 [(0,.sv (slc 1 (List.map (eS 4 eQ) x0))),(1,.sv (slc 1 (List.map (eS 4 eQ) x1))),(5,ah s6)] [] []) (wR []) (λiD y6 G6 h vC qy=>?_)
 try dsimp only
 refine qq<|sr<|mv Y<|mv Y<|lE h λeD iF h=>ln Y iF<|lE h λei jx h=>ls _ Y Y jx<|dn ?_
 cases ei
 refine cF<|bN<|aW.x<|aW.x<|bF.x<|aW.n ?_
 obtain rfl:=O (F h)
 exact⟨(),qy _ Y,wR []⟩
 refine cT<|bw<|aW.n<|qq<|aY<|qq<|aZ mixed<|mv Y<|mv Y<|bE (V h) λjl mw h=>ix Y Y mw<|lr Y Y<|mv Y<|mv Y<|bE h λjg qP h=>ix Y Y qP<|lr Y Y<|bE h λjG nO h=>cl (xR nO) ⟨Y,Y,ak⟩<|lE h λjH rV h=>nt Y _ rV ?_
 refine RT.done ⟨by kernel_rfl,?_⟩
 refine aW.n ?_
 cases jH
 refine cF<|bw<|bF.n<|aW.n<|aX<|mv Y<|lE (F h) λfB lq h=>ad _ Y Y lq<|ag Y<|RT.done ?_
 obtain rfl:=O h
 exact aW.n ⟨fB,vC _ Y,wR []⟩
 refine cT<|sr<|ag Y<|dn<|bf<|bF.r<|aW.r ?_
 obtain rfl:=O (V h)
 have GJ:=qy _ Y
 subst GJ
 refine aW.r<|bF.r<|aW.r<|aW.r ?_
 obtain rfl:=O jo
 exact R1 Y
 subst vB
 try dsimp only
 refine aW.n<|sr<|ag Y<|dn<|bf ?_
 obtain rfl:=O jo
 exact R1 Y
 refine cT<|sr<|ag Y<|dn<|bf<|aW.r ?_
 obtain rfl:=O (V h)
 exact R1 Y
theorem KN{x0:Int}{r:List (List Qr)}(h:rH x0=some r):Pure af 151 [ax x0] (slc 1 (List.map (eS 4 eQ) r)):=by
 refine bj Tryz.func151 Y (ae Y) (λdw M vs hvs=>?_)
 unfold rH at h
 refine sr<|aI Y (aB (n:=1) (e:=(eS 4 eQ)))<|dn<|sr<|ag Y<|dn<|bR (c8 3 304 23 1 Y Y T)<|qq<|sr<|ag Y<|dn<|bE h λe6 vA jo=>?_
 refine bK (λ(dj:(List (List Qr)))=>AS.cj 19 [(3,.row 306)] [] [(306,TR 23 1 (eS 4 eQ) dj)]) (λdj=>dj=e6) ?_ (λdj vB=>?_)
 refine aY ?_
 refine bL vA (λs6=>AS.cj 19 [(0,ah x0),(3,.row 306),(4,ah s6.1)] [] [(306,TR 23 1 (eS 4 eQ) s6.2)]) (cD (λi=>bif Nat.beq i 306 then 304 else i) Y Y Y Y Y ⟨.sv aq,.row Y,.sv aq,ak⟩ trivial ⟨⟨_,Y,cg.refl _⟩,ak⟩ (λi hi=>by rw[bV (show i≠306 by omega)];rfl)) (λs6 y6 G6 h vC qy=>?_)
 obtain⟨qQ,gL⟩:=s6
 try dsimp only
 refine qq<|sr<|mv Y<|mv Y<|bE h λx7 h7 h=>cl (oO h7) ⟨Y,ak⟩<|lE h λx8 h8 h=>ls _ Y Y h8<|dn ?_
 cases x8
 refine cF<|bN<|aW.x<|aW.x<|bF.x<|aW.n ?_
 obtain rfl:=O (F h)
 exact⟨gL,qy _ Y,wR []⟩
 refine cT<|bw<|aW.n<|qq<|aY<|aX<|mo (s:=.row _) Y<|mv Y<|bE (V h) λeD iF h=>cl (oO iF) ⟨Y,ak⟩<|mv Y<|bE h λdH gD h=>cl (tg gD) ⟨Y,Y,ak⟩<|bl (l:=[dH]) (e:=(eS 4 eQ)) (.one Y (.nil)) Y Y Y Y Y Y<|bE h λdX jO h=>aR (k:=[dH]) (e:=(eS 4 eQ)) Y Y Y jO<|an (s:=.row _) Y<|RT.done<|bF.n<|aW.n<|aX<|mv Y ?_
 refine lE h λdI gC h=>ad _ Y Y gC<|ag Y<|RT.done ?_
 obtain rfl:=O h
 exact aW.n ⟨(dI,dX),vC _ Y,cD (λi=>bif Nat.beq i 306 then 17 else i) Y Y Y Y Y ⟨.sv aq,.row Y,.sv aq,ak⟩ trivial ⟨⟨_,Y,cg.refl _⟩,ak⟩ (λi hi=>by rw[bV (show i≠306 by omega)];rfl)⟩
 subst vB
 try dsimp only
 refine aW.n<|sr<|mo (s:=.row _) Y<|an (s:=.row _) Y<|dn<|bR (cV (i:=306) (E1:=23) (n:=1) (e:=(eS 4 eQ)) (l:=dj) Y)<|bf ?_
 obtain rfl:=O jo
 exact R1 Y
theorem Jt{x0:List (List Qr)}{x1:List Qr}{r:List Qr}(h:nx x0 x1=some r):Pure af 115 [slc 1 (List.map (eS 4 eQ) x0),slc 4 (List.map eQ x1)] (slc 4 (List.map eQ r)):=by
 refine bj Tryz.func115 Y (ae Y) (λdw M vs hvs=>?_)
 unfold nx at h
 refine sr<|aI Y (aB (n:=4) (e:=eQ))<|dn<|sr<|ag Y<|dn<|bR (c8 5 304 43 4 Y Y T)<|qq<|sr<|ag Y<|dn<|bE h λe6 vA jo=>?_
 refine bK (λ(dj:(List Qr))=>AS.cj 23 [(5,.row 306)] [] [(306,TR 43 4 eQ dj)]) (λdj=>dj=e6) ?_ (λdj vB=>?_)
 refine aY ?_
 refine bL vA (λs6=>AS.cj 23 [(0,.sv (slc 1 (List.map (eS 4 eQ) x0))),(1,.sv (slc 4 (List.map eQ x1))),(5,.row 306),(6,ah s6.1)] [] [(306,TR 43 4 eQ s6.2)]) (cD (λi=>bif Nat.beq i 306 then 304 else i) Y Y Y Y Y ⟨.sv aq,.sv aq,.row Y,.sv aq,ak⟩ trivial ⟨⟨_,Y,cg.refl _⟩,ak⟩ (λi hi=>by rw[bV (show i≠306 by omega)];rfl)) (λs6 y6 G6 h vC qy=>?_)
 obtain⟨mz,gL⟩:=s6
 try dsimp only
 refine qq<|sr<|mv Y<|mv Y<|lE h λx9 h9 h=>ln Y h9<|lE h λdI gC h=>ls _ Y Y gC<|dn ?_
 cases dI
 refine cF<|bN<|aW.x<|aW.x<|bF.x<|aW.n ?_
 obtain rfl:=O (F h)
 exact⟨gL,qy _ Y,wR []⟩
 refine cT<|bw<|aW.n<|qq<|aY<|aX<|mo (s:=.row _) Y<|mv Y<|mv Y<|bE (V h) λfB lq h=>ix Y Y lq<|lr Y Y<|mv Y ?_
 obtain⟨⟨⟨lS,lT⟩,⟨wO,wP⟩⟩,mw,h⟩:=bS h
 refine cl (No mw) ⟨Y,Y,ak⟩<|bl (l:=[⟨⟨lS,lT⟩,⟨wO,wP⟩⟩]) (e:=eQ) (.agg Y (.nil)) Y Y Y Y Y Y<|bE h λfL ke h=>aR (k:=[⟨⟨lS,lT⟩,⟨wO,wP⟩⟩]) (e:=eQ) Y Y Y ke<|an (s:=.row _) Y<|RT.done<|bF.n<|aW.n<|aX<|mv Y<|lE h λc9 fC h=>ad _ Y Y fC<|ag Y<|RT.done ?_
 obtain rfl:=O h
 exact aW.n ⟨(c9,fL),vC _ Y,cD (λi=>bif Nat.beq i 306 then 21 else i) Y Y Y Y Y ⟨.sv aq,.sv aq,.row Y,.sv aq,ak⟩ trivial ⟨⟨_,Y,cg.refl _⟩,ak⟩ (λi hi=>by rw[bV (show i≠306 by omega)];rfl)⟩
 subst vB
 try dsimp only
 refine aW.n<|sr<|mo (s:=.row _) Y<|an (s:=.row _) Y<|dn<|bR (cV (i:=306) (E1:=43) (n:=4) (e:=eQ) (l:=dj) Y)<|bf ?_
 obtain rfl:=O jo
 exact R1 Y
theorem Nu{x0:List (List Qr)}{x1:List (List Qr)}{r:List (List Qr)}(h:mG x0 x1=some r):Pure af 111 [slc 1 (List.map (eS 4 eQ) x0),slc 1 (List.map (eS 4 eQ) x1)] (slc 1 (List.map (eS 4 eQ) r)):=by
 refine bj Tryz.func111 Y (ae Y) (λdw M vs hvs=>?_)
 unfold mG at h
 refine sr<|aI Y (aB (n:=1) (e:=(eS 4 eQ)))<|dn<|sr<|mv Y<|lE h λx6 h6 h=>ln Y h6<|mv Y<|bE h λx8 h8 h=>cl (eM h8) ⟨Y,ak⟩<|bI (cs:=[_,_,_,_]) (cs':=[ay false,au,ay false,au]) (.nil) ⟨aq,aB,aq,aB,ak⟩<|mv Y<|mv Y<|bE h λc9 fC h=>cl (th fC) ⟨Y,Y,Y,Y,Y,Y,ak⟩ ?_
 refine ag Y<|dn<|bf ?_
 obtain rfl:=O h
 exact R1 Y
theorem KO{x0:List (List Qr)}{r:List (List Qr)}(h:mU x0=some r):Pure af 124 [slc 1 (List.map (eS 4 eQ) x0)] (slc 1 (List.map (eS 4 eQ) r)):=by
 refine bj Tryz.func124 Y (ae Y) (λdw M vs hvs=>?_)
 unfold mU at h
 refine sr<|aI Y (aB (n:=1) (e:=(eS 4 eQ)))<|dn<|sr<|mv Y<|bE h λx4 h4 h=>cl (eM h4) ⟨Y,ak⟩<|mv Y<|lE h λx6 h6 h=>ln Y h6<|bI (cs:=[_,_,_,_]) (cs':=[ay false,au,ay false,au]) (.nil) ⟨aq,aB,aq,aB,ak⟩<|mv Y<|bE h λx9 h9 h=>cl ((th h9).w (args':=[_,_,_,_,_,_]) ⟨aq,aq,aq,aq,aq,aB,ak⟩) ⟨Y,Y,Y,Y,Y,Y,ak⟩ ?_
 refine ag Y<|dn<|bf ?_
 obtain rfl:=O h
 exact R1 Y
theorem GY{x0:List (List Qr)}{x1:List (List Qr)}{r:List (List Qr)}(h:oq x0 x1=some r):Pure af 149 [slc 1 (List.map (eS 4 eQ) x0),slc 1 (List.map (eS 4 eQ) x1)] (slc 1 (List.map (eS 4 eQ) r)):=by
 refine bj Tryz.func149 Y (ae Y) (λdw M vs hvs=>?_)
 unfold oq at h
 refine sr<|aI Y (aB (n:=1) (e:=(eS 4 eQ)))<|dn<|sr<|mv Y<|lE h λx6 h6 h=>ln Y h6<|mv Y<|lE h λx8 h8 h=>ln Y h8<|lE h λx9 h9 h=>RT.max .none _ Y Y T (Oo (p:=x6) (q:=x8) h9)<|mv Y<|bE h λfz lp h=>cl (eM lp) ⟨Y,ak⟩<|mv Y<|bE h λeD iF h=>cl (eM iF) ⟨Y,ak⟩<|lE h λei jx h=>ad _ Y Y jx<|bI (cs:=[_,_,_,_]) (cs':=[ay false,au,ay false,au]) (.nil) ⟨aq,aB,aq,aB,ak⟩ ?_
 refine mv Y<|mv Y<|bE h λeX jK h=>cl (th jK) ⟨Y,Y,Y,Y,Y,Y,ak⟩<|ag Y<|dn<|bf ?_
 obtain rfl:=O h
 exact R1 Y
theorem Ju{x0:Int}{x1:Int}{x2:Nat}{x3:Qr}{x4:List (List Qr)}{x5:List (List Qr)}{r:List (List Qr)}(h:yu x0 x1 x2 x3 x4 x5=some r):GB af 148 [ax x0,ax x1,.v (.int .u8 ((x2:Nat):Int)),.agg (eQ x3),slc 1 (List.map (eS 4 eQ) x4),slc 1 (List.map (eS 4 eQ) x5)] (TR 23 1 (eS 4 eQ) r):=by
 obtain⟨⟨uQ,uR⟩,⟨Jd,Je⟩⟩:=x3
 refine wh Tryz.func148 Y (ae Y) (λdw M vs hvs=>?_)
 unfold yu at h
 refine sr<|bx Y<|ag Y<|dn<|bR (c8 12 304 23 1 Y Y T)<|sr<|ag Y<|dn<|bR (c8 13 308 23 1 Y Y T)<|qq<|sr<|ag Y<|dn<|bE h λEc wW ko=>?_
 refine bK (λ(B0:(List (List Qr)))=>AS.cj 42 [(13,.row 315)] [] [(315,TR 23 1 (eS 4 eQ) B0)]) (λB0=>B0=Ec) ?_ (λB0 uS=>?_)
 refine aY ?_
 refine bL wW (λpA=>AS.cj 42 [(0,ah x0),(1,ah x1),(2,.sv (.v (.int .u8 ((x2:Nat):Int)))),(4,.sv (slc 1 (List.map (eS 4 eQ) x4))),(5,.sv (slc 1 (List.map (eS 4 eQ) x5))),(9,.ptr 9 0),(13,.row 315),(14,ah pA.1)] [(9,⟨43,[ai uQ,.sv (slc 1 (List.map bh uR)),ai Jd,.sv (slc 1 (List.map bh Je))]⟩)] [(315,TR 23 1 (eS 4 eQ) pA.2)]) (cD (λi=>bif Nat.beq i 315 then 308 else i) Y Y Y Y Y ⟨.sv aq,.sv aq,.sv aq,.sv aq,.sv aq,.ptr,.row Y,.sv aq,ak⟩ ⟨⟨_,Y,⟨.sv aq,.sv aq,.sv aq,.sv aq,ak⟩⟩,ak⟩ ⟨⟨_,Y,cg.refl _⟩,ak⟩ (λi hi=>by rw[bV (show i≠315 by omega)];rfl)) (λpA ZK ZL h yp vI=>?_)
 obtain⟨yZ,FH⟩:=pA
 try dsimp only
 refine qq<|sr<|mv Y<|mv Y<|lE h λjl mw h=>ls _ Y Y mw<|dn ?_
 cases jl
 refine cF<|bN<|aW.x<|aW.x<|bF.x<|aW.n ?_
 obtain rfl:=O (F h)
 exact⟨FH,vI _ Y,wR []⟩
 refine cT<|bw<|aW.n<|qq<|aY<|sr<|ag Y<|dn<|bR (c8 15 325 43 4 Y Y T)<|qq<|sr<|ag Y<|dn<|bE (V h) λe22 M5 o8=>?_
 refine bK (λ(vS:(List Qr))=>AS.cj 42 [(0,ah x0),(1,ah x1),(2,.sv (.v (.int .u8 ((x2:Nat):Int)))),(4,.sv (slc 1 (List.map (eS 4 eQ) x4))),(5,.sv (slc 1 (List.map (eS 4 eQ) x5))),(9,.ptr 9 0),(13,.row 315),(14,ah yZ),(15,.row 327)] [(9,⟨43,[ai uQ,.sv (slc 1 (List.map bh uR)),ai Jd,.sv (slc 1 (List.map bh Je))]⟩)] [(315,TR 23 1 (eS 4 eQ) FH),(327,TR 43 4 eQ vS)]) (λvS=>vS=e22) ?_ (λvS M6=>?_)
 refine aY ?_
 refine bL M5 (λAF=>AS.cj 42 [(0,ah x0),(1,ah x1),(2,.sv (.v (.int .u8 ((x2:Nat):Int)))),(4,.sv (slc 1 (List.map (eS 4 eQ) x4))),(5,.sv (slc 1 (List.map (eS 4 eQ) x5))),(9,.ptr 9 0),(13,.row 315),(14,ah yZ),(15,.row 327),(16,ah AF.1)] [(9,⟨43,[ai uQ,.sv (slc 1 (List.map bh uR)),ai Jd,.sv (slc 1 (List.map bh Je))]⟩)] [(315,TR 23 1 (eS 4 eQ) FH),(327,TR 43 4 eQ AF.2)]) (cD (λi=>bif Nat.beq i 327 then 325 else i) Y Y Y Y Y ⟨.sv aq,.sv aq,.sv aq,.sv aq,.sv aq,.ptr,.row Y,.sv aq,.row Y,.sv aq,ak⟩ ⟨⟨_,Y,⟨.sv aq,.sv aq,.sv aq,.sv aq,ak⟩⟩,ak⟩ ⟨⟨_,Y,cg.refl _⟩,⟨_,Y,cg.refl _⟩,ak⟩ (λi hi=>by rw[bV (show i≠327 by omega)];rfl)) (λAF y22 G22 h M7 M8=>?_)
 obtain⟨zV,Hs⟩:=AF
 try dsimp only
 refine qq<|sr<|mv Y<|mv Y<|lE h λgX oY h=>ls _ Y Y oY<|dn ?_
 cases gX
 refine cF<|bN<|aW.x<|aW.x<|bF.x<|aW.n ?_
 obtain rfl:=O (F h)
 exact⟨Hs,M8 _ Y,wR []⟩
 refine cT<|bw<|aW.n<|qq<|aY<|aX<|mo (s:=.row _) Y<|mv Y<|ld Y Y (.k4 Y Y Y Y)<|mv Y<|mv Y<|mv Y<|mv Y ?_
 obtain⟨⟨⟨qA,qB⟩,⟨vp,vr⟩⟩,xu,h⟩:=bS (V h)
 refine cl (Bu xu) ⟨Y,Y,Y,Y,Y,Y,ak⟩<|bl (l:=[⟨⟨qA,qB⟩,⟨vp,vr⟩⟩]) (e:=eQ) (.agg Y (.nil)) Y Y Y Y Y Y<|bE h λpg yJ h=>aR (k:=[⟨⟨qA,qB⟩,⟨vp,vr⟩⟩]) (e:=eQ) Y Y Y yJ<|an (s:=.row _) Y<|RT.done<|bF.n<|aW.n<|aX<|mv Y<|lE h λjH rV h=>ad _ Y Y rV<|ag Y<|RT.done ?_
 obtain rfl:=O h
 exact aW.n ⟨(jH,pg),M7 _ Y,cD (λi=>bif Nat.beq i 327 then 36 else i) Y Y Y Y Y ⟨.sv aq,.sv aq,.sv aq,.sv aq,.sv aq,.ptr,.row Y,.sv aq,.row Y,.sv aq,ak⟩ ⟨⟨_,Y,⟨.sv aq,.sv aq,.sv aq,.sv aq,ak⟩⟩,ak⟩ ⟨⟨_,Y,cg.refl _⟩,⟨_,Y,cg.refl _⟩,ak⟩ (λi hi=>by rw[bV (show i≠327 by omega)];rfl)⟩
 subst M6
 try dsimp only
 refine aW.n<|bR (cV (i:=327) (E1:=43) (n:=4) (e:=eQ) (l:=vS) Y)<|aX<|mo (s:=.row _) Y<|mv Y<|bl (l:=[vS]) (e:=(eS 4 eQ)) (.one Y (.nil)) Y Y Y Y Y Y<|bE o8 λnj vm o8=>aR (k:=[vS]) (e:=(eS 4 eQ)) Y Y Y vm<|an (s:=.row _) Y<|RT.done<|bF.n<|aW.n<|aX<|mv Y<|lE o8 λfL ke o8=>ad _ Y Y ke<|ag Y<|RT.done ?_
 obtain rfl:=O o8
 exact aW.n ⟨(fL,nj),yp _ Y,cD (λi=>bif Nat.beq i 315 then 40 else i) Y Y Y Y Y ⟨.sv aq,.sv aq,.sv aq,.sv aq,.sv aq,.ptr,.row Y,.sv aq,ak⟩ ⟨⟨_,Y,⟨.sv aq,.sv aq,.sv aq,.sv aq,ak⟩⟩,ak⟩ ⟨⟨_,Y,cg.refl _⟩,ak⟩ (λi hi=>by rw[bV (show i≠315 by omega)];rfl)⟩
 subst uS
 try dsimp only
 refine aW.n<|sr<|mo (s:=.row _) Y<|an (s:=.row _) Y<|dn<|bf ?_
 obtain rfl:=O ko
 exact⟨.inr Y,_,.tmp Y,Y⟩
theorem KP{x0:List (List Qr)}{x1:Int}{x2:Int}{r:List (List Qr)}(h:vT x0 x1 x2=some r):GB af 150 [slc 1 (List.map (eS 4 eQ) x0),ax x1,ax x2] (TR 23 1 (eS 4 eQ) r):=by
 refine wh Tryz.func150 Y (ae Y) (λdw M vs hvs=>?_)
 unfold vT at h
 refine sr<|ag Y<|dn<|bR (c8 6 304 23 1 Y Y T)<|sr<|mv Y<|bE h λx8 h8 h=>cl (oO h8) ⟨Y,ak⟩<|mv Y<|bE h λdI gC h=>cl (oO gC) ⟨Y,ak⟩ ?_
 obtain⟨⟨⟨xF,xG⟩,⟨PS,PT⟩⟩,lp,h⟩:=bS h
 refine cl (mR lp) ⟨Y,ak⟩<|mv Y<|bE h λeD iF h=>cN ((Ju iF).w (args':=[_,_,_,_,_,_]) ⟨aq,aq,aq,aq,aq,aB,ak⟩) ⟨Y,Y,Y,Y,Y,Y,ak⟩<|an (s:=.row _) Y<|dn<|bf ?_
 obtain rfl:=O h
 exact⟨.inr Y,_,.tmp Y,Y⟩
theorem xb{x0:Int}{x1:Int}{r:List Qr}(h:ny x0 x1=some r):GB af 116 [ax x0,ax x1] (TR 43 4 eQ r):=by
 refine wh Tryz.func116 Y (ae Y) (λdw M vs hvs=>?_)
 unfold ny at h
 refine sr<|ag Y<|dn<|bR (c8 4 304 43 4 Y Y T)<|sr<|ag Y<|dn<|bR (c8 5 308 43 4 Y Y T)<|qq<|sr<|ag Y<|dn<|bE h λUr My tW=>?_
 refine bK (λ(B3:(List Qr))=>AS.cj 27 [(5,.row 310)] [] [(310,TR 43 4 eQ B3)]) (λB3=>B3=Ur) ?_ (λB3 Mz=>?_)
 refine aY ?_
 refine bL My (λAd=>AS.cj 27 [(0,ah x0),(1,ah x1),(5,.row 310),(6,ah Ad.1)] [] [(310,TR 43 4 eQ Ad.2)]) (cD (λi=>bif Nat.beq i 310 then 308 else i) Y Y Y Y Y ⟨.sv aq,.sv aq,.row Y,.sv aq,ak⟩ trivial ⟨⟨_,Y,cg.refl _⟩,ak⟩ (λi hi=>by rw[bV (show i≠310 by omega)];rfl)) (λAd y12 G12 h MA MB=>?_)
 obtain⟨sF,FI⟩:=Ad
 try dsimp only
 refine qq<|qq ?_
 refine bJ h (λj15=>AS.cj 27 [(0,ah x0),(1,ah x1),(5,.row 310),(6,ah sF),(14,ai j15)] [] [(310,TR 43 4 eQ FI)]) (λh=>?_) (λDn h=>?_)
 refine aX<|mv Y<|mv Y<|lE h λdI gC h=>ls _ Y Y gC<|mv Y<|bE h λJa rY h=>?_
 cases dI
 obtain rfl:=O (F rY)
 exact ww<|ww<|pF Y<|dn<|⟨false,h,wR []⟩
 refine gm Y<|lE (V rY) λeD iF rY=>RT.lss (.some Y Y) _ Y Y T iF ?_
 obtain rfl:=O rY
 exact pT Y<|dn<|⟨eD,h,wR []⟩
 try dsimp only
 refine aW.n ?_
 cases Dn
 refine cF<|bN<|aW.x<|aW.x<|bF.x<|aW.n ?_
 obtain rfl:=O (F h)
 exact⟨FI,MB _ Y,wR []⟩
 refine cT<|bw<|aW.n<|qq<|aY<|sr<|bI (cs:=[_,_,_,_]) (cs':=[ay false,au,ay false,au]) (.nil) ⟨aq,aB,aq,aB,ak⟩<|al (cs:=[ay false,au,ay false,au]) (by exact⟨aq,aB,aq,aB,ak⟩) Y<|so Y Y Y<|dn<|qq<|sr<|mv Y<|mv Y<|lE (V h) λij oG h=>?_
 refine eq _ Y Y (ve (p:=sF) (q:=x1) oG)<|dn ?_
 refine bJ h (λPK=>AS.cj 27 [(0,ah x0),(1,ah x1),(5,.row 310),(6,ah sF),(7,.ptr 7 0)] [(7,⟨43,[ai PK.1,.sv (slc 1 (List.map bh PK.2.1)),ai PK.2.2.1,.sv (slc 1 (List.map bh PK.2.2.2))]⟩)] [(310,TR 43 4 eQ FI)]) (λh=>?_) (λPK h=>?_)
 cases ij
 exact fs<|⟨(false,[],false,[]),(F h),wR []⟩
 refine cT<|aX ?_
 obtain⟨⟨⟨l7,l8⟩,⟨nJ,nK⟩⟩,ke,h⟩:=bS (V h)
 exact cl (mR ke) ⟨Y,ak⟩<|so Y Y Y<|dn<|⟨(l7,l8,nJ,nK),h,wR []⟩
 obtain⟨vL,vM,vN,vO⟩:=PK
 try dsimp only
 refine aW.n<|aX<|mo (s:=.row _) Y<|ld Y Y (.k4 Y Y Y Y)<|bl (l:=[⟨⟨vL,vM⟩,⟨vN,vO⟩⟩]) (e:=eQ) (.agg Y (.nil)) Y Y Y Y Y Y<|bE h λjG nO h=>aR (k:=[⟨⟨vL,vM⟩,⟨vN,vO⟩⟩]) (e:=eQ) Y Y Y nO<|an (s:=.row _) Y<|RT.done<|bF.n<|aW.n<|aX<|mv Y<|lE h λfB lq h=>ad _ Y Y lq<|ag Y<|RT.done ?_
 obtain rfl:=O h
 exact aW.n ⟨(fB,jG),MA _ Y,cD (λi=>bif Nat.beq i 310 then 25 else i) Y Y Y Y Y ⟨.sv aq,.sv aq,.row Y,.sv aq,ak⟩ trivial ⟨⟨_,Y,cg.refl _⟩,ak⟩ (λi hi=>by rw[bV (show i≠310 by omega)];rfl)⟩
 subst Mz
 try dsimp only
 refine aW.n<|sr<|mo (s:=.row _) Y<|an (s:=.row _) Y<|dn<|bf ?_
 obtain rfl:=O tW
 exact⟨.inr Y,_,.tmp Y,Y⟩
theorem P5{x0:Qr}{x1:Qr}{r:Qr}(h:w8 x0 x1=some r):Pure af 184 [.agg (eQ x0),.agg (eQ x1)] (.agg (eQ r)):=by
 obtain⟨⟨bk,bn⟩,⟨bt,bB⟩⟩:=x0
 obtain⟨⟨cu,cm⟩,⟨eE,eG⟩⟩:=x1
 refine bj Tryz.func184 Y (ae Y) (λdw M vs hvs=>?_)
 unfold w8 at h
 refine sr<|bx Y<|bx Y<|al (cs:=[ay false,au,ay false,au]) (by exact⟨aq,aB,aq,aB,ak⟩) Y<|dn<|sr<|ld Y Y (.k4 Y Y Y Y)<|ld Y Y (.k4 Y Y Y Y) ?_
 obtain⟨⟨⟨⟨Ya,Yb⟩,⟨Yc,Yd⟩⟩,aav⟩,gC,h⟩:=bS h
 refine cl (Nh gC) ⟨Y,Y,ak⟩<|mv Y<|ex Y Y<|ex Y Y<|al (cs:=[ay false,au,ay false,au]) (by exact⟨aq,aB,aq,aB,ak⟩) Y<|so Y Y Y<|ag Y<|dn<|sr<|ld Y Y (.k4 Y Y Y Y)<|so Y Y Y<|dn<|bf ?_
 obtain rfl:=O h
 exact RZ (.agg Y Y (.k4 Y Y Y Y) Y (.nil))
set_option maxHeartbeats 4000000 in
theorem Av{x0:List (List Qr)}{r:(List (List Qr))×(List Int)}(h:jW x0=some r):Pure af 157 [slc 1 (List.map (eS 4 eQ) x0)] (.Ce [slc 1 (List.map (eS 4 eQ) r.1),slc 1 (List.map bD r.2)]):=by
 refine bj Tryz.func157 Y (ae Y) (λdw M vs hvs=>?_)
 unfold jW at h
 refine sr<|aI Y (aB (n:=1) (e:=(eS 4 eQ)))<|aI Y (aB (n:=1) (e:=bD))<|dn<|sr<|mv Y<|bE h λc9 fC h=>cl (eM fC) ⟨Y,ak⟩<|ag Y<|dn<|sr<|mv Y<|mv Y<|lE h λdH gD h=>ln Y gD<|mv Y<|bE h λdX jO h=>cN (KP jO) ⟨Y,Y,Y,ak⟩<|an (s:=.row _) Y<|RT.done ?_
 refine aW.n<|sr<|ag Y<|dn<|bR (c8 6 304 3 1 Y Y T)<|sr<|ag Y<|dn<|qq<|sr<|ag Y<|dn<|bE h λe50 ap2 agD=>?_
 refine bK (λ(Sh:Int×(List (List Qr))×(List Int))=>AS.cj 115 [(5,.row 17),(6,.row 306),(7,ah Sh.1)] [] [(17,TR 23 1 (eS 4 eQ) Sh.2.1),(306,TR 3 1 bD Sh.2.2)]) (λSh=>Sh=e50) ?_ (λSh ap3=>?_)
 refine aY ?_
 refine bL ap2 (λs50=>AS.cj 115 [(4,ah c9),(5,.row 17),(6,.row 306),(7,ah s50.1),(8,ah s50.2.1)] [] [(17,TR 23 1 (eS 4 eQ) s50.2.2.1),(306,TR 3 1 bD s50.2.2.2)]) (cD (λi=>bif Nat.beq i 306 then 304 else i) Y Y Y Y Y ⟨.sv aq,.row Y,.row Y,.sv aq,.sv aq,ak⟩ trivial ⟨⟨_,Y,cg.refl _⟩,⟨_,Y,cg.refl _⟩,ak⟩ (λi hi=>by rw[bV (show i≠306 by omega)];rfl)) (λs50 y50 G50 h akd ap4=>?_)
 obtain⟨pE,vu,nD,pO⟩:=s50
 try dsimp only
 refine qq<|sr<|mv Y<|mv Y<|lE h λij oG h=>ls _ Y Y oG<|dn ?_
 cases ij
 refine cF<|bN<|aW.x<|aW.x<|bF.x<|aW.n ?_
 obtain rfl:=O (F h)
 exact⟨(pE,nD,pO),ap4 _ Y,wR []⟩
 refine cT<|bw<|aW.n<|qq<|aY<|sr<|mv Y<|ag Y<|dn<|qq<|bE (V h) λe60 ap5 kN=>?_
 refine bK (λ(Et:Int)=>AS.cj 115 [(4,ah c9),(5,.row 17),(6,.row 306),(7,ah pE),(8,ah vu),(9,ah Et)] [] [(17,TR 23 1 (eS 4 eQ) nD),(306,TR 3 1 bD pO)]) (λEt=>Et=e60) ?_ (λEt ap6=>?_)
 refine aY ?_
 refine bL ap5 (λs60=>AS.cj 115 [(4,ah c9),(5,.row 17),(6,.row 306),(7,ah pE),(8,ah vu),(9,ah s60)] [] [(17,TR 23 1 (eS 4 eQ) nD),(306,TR 3 1 bD pO)]) (wR []) (λJk y60 G60 h ap7 ap8=>?_)
 try dsimp only
 refine qq<|qq ?_
 refine bJ h (λj63=>AS.cj 115 [(4,ah c9),(5,.row 17),(6,.row 306),(7,ah pE),(8,ah vu),(9,ah Jk),(38,ai j63)] [] [(17,TR 23 1 (eS 4 eQ) nD),(306,TR 3 1 bD pO)]) (λh=>?_) (λR9 h=>?_)
 refine aX<|mv Y<|mo (s:=.row _) Y<|lE h λjH rV h=>lL Y Y rV<|lE h λiO pN h=>ls _ Y Y pN<|mv Y<|bE h λYe vQ h=>?_
 cases iO
 obtain rfl:=O (F vQ)
 exact ww<|ww<|ww<|ww<|ww<|ww<|ww<|ww<|ww<|pF Y<|dn<|⟨false,h,wR []⟩
 refine RT.move (.some Y Y) (s:=.row _) Y T<|gm Y<|bE (V vQ) λnU yz vQ=>RT.Ox (.some Y Y) Y Y Y T yz<|bE vQ λiP pW vQ=>RT.Mk (e:=(eS 4 eQ)) (.some Y Y) Y Y pW Y T<|gm Y ?_
 obtain⟨⟨⟨qA,qB⟩,⟨vp,vr⟩⟩,xu,vQ⟩:=bS vQ
 refine RT.Uj (.some Y Y) Y Y T xu<|RT.gy (cs:=[_,_,_,_]) (.some Y Y) Y T Y Y<|bE vQ λpg yJ vQ=>gc (tf yJ) ⟨Y,ak⟩<|lE vQ λuG DW vQ=>Uk _ Y Y (ve (p:=pg) (q:=0) DW) ?_
 obtain rfl:=O vQ
 exact pT Y<|dn<|⟨uG,h,wR []⟩
 try dsimp only
 refine aW.n ?_
 cases R9
 refine cF<|bN<|aW.x<|aW.x<|bF.x<|aW.n ?_
 obtain rfl:=O (F h)
 exact⟨Jk,ap8 _ Y,wR []⟩
 refine cT<|bw<|aW.n<|aY<|aX<|mv Y<|lE (V h) λnj vm h=>ad _ Y Y vm<|ag Y<|RT.done<|bF.n ?_
 obtain rfl:=O h
 exact aW.n ⟨nj,ap7 _ Y,wR []⟩
 subst ap6
 try dsimp only
 refine aW.n<|qq<|sr<|mv Y<|mo (s:=.row _) Y<|lE kN λvf EX kN=>lL Y Y EX<|lE kN λsj Az kN=>eq _ Y Y (ve (p:=Et) (q:=vf) Az)<|dn ?_
 cases sj
 refine fs<|qq<|aZ mixed<|mo (s:=.row _) Y<|mv Y<|mo (s:=.row _) Y<|mv Y<|mo (s:=.row _) Y<|mv Y<|bE (F kN) λBT Ip kN=>iR Y Y Y Ip<|bE kN λAD GL kN=>lR (e:=(eS 4 eQ)) Y Y GL Y<|mo (s:=.row _) Y<|mv Y<|bE kN λAE OO kN=>iR Y Y Y OO<|bE kN λJ2 Mu kN=>lR (e:=(eS 4 eQ)) Y Y Mu Y ?_
 refine bE kN λN3 Ww kN=>iR Y Y Y Ww<|bE kN λl67 ake kN=>sR AD Y Y Y Y ake<|bE kN λAx Rg kN=>iR Y Y Y Rg<|bE kN λl68 akf kN=>sR J2 Y Y Y Y akf ?_
 refine RT.done ⟨by kernel_rfl,?_⟩
 refine aW.n<|qq<|aZ mixed<|mo (s:=.row _) Y<|mv Y ?_
 obtain⟨⟨⟨adD,adE⟩,⟨adF,adG⟩⟩,h61,kN⟩:=bS kN
 refine cl (mR h61) ⟨Y,ak⟩<|mo (s:=.row _) Y<|mv Y<|bE kN λx64 h64 kN=>iR Y Y Y h64<|bE kN λN4 Vs kN=>lR (e:=(eS 4 eQ)) Y Y Vs Y<|mv Y ?_
 obtain⟨⟨⟨LC,LD⟩,⟨LF,LG⟩⟩,h67,kN⟩:=bS kN
 refine ix Y Y h67<|RT.gy (cs:=[_,_,_,_]) .none Y T Y Y ?_
 obtain⟨⟨⟨adH,adI⟩,⟨adJ,adK⟩⟩,h69,kN⟩:=bS kN
 refine cl (P5 h69) ⟨Y,Y,ak⟩<|mo (s:=.row _) Y<|mv Y<|bE kN λUs h72 kN=>iR Y Y Y h72<|bE kN λx73 h73 kN=>lR (e:=(eS 4 eQ)) Y Y h73 Y<|bE kN λx74 h74 kN=>cl (Jb h74) ⟨Y,Y,ak⟩<|bE kN λx75 h75 kN=>iR Y Y Y h75<|bE kN λl70 akg kN=>sR x74 Y Y Y Y akg ?_
 refine RT.done ⟨by kernel_rfl,?_⟩
 refine aW.n<|qq<|sr<|ag Y<|dn<|bE kN λe80 ap9 Si=>?_
 refine bK (λ(Dp:(List (List Qr)))=>AS.cj 115 [(4,ah c9),(5,.row 17),(6,.row 306),(7,ah pE),(8,ah vu)] [] [(17,TR 23 1 (eS 4 eQ) Dp),(306,TR 3 1 bD pO)]) (λDp=>Dp=e80) ?_ (λDp aqa=>?_)
 refine aY ?_
 refine bL ap9 (λs80=>AS.cj 115 [(4,ah c9),(5,.row 17),(6,.row 306),(7,ah pE),(8,ah vu),(10,ah s80.1)] [] [(17,TR 23 1 (eS 4 eQ) s80.2),(306,TR 3 1 bD pO)]) (wR []) (λs80 y80 G80 h aqb aqc=>?_)
 obtain⟨zW,rI⟩:=s80
 try dsimp only
 refine qq<|sr<|mv Y<|mo (s:=.row _) Y<|lE h λJ5 UH h=>lL Y Y UH<|lE h λF7 Ux h=>ls _ Y Y Ux<|dn ?_
 cases F7
 refine cF<|bN<|aW.x<|aW.x<|bF.x<|aW.n ?_
 obtain rfl:=O (F h)
 exact⟨rI,aqc _ Y,wR []⟩
 refine cT<|bw<|aW.n<|qq<|aY<|sr<|mv Y<|mv Y<|lE (V h) λJ4 h84 h=>ne _ Y Y (JY (p:=zW) (q:=pE) h84)<|dn ?_
 refine bJ h (λj83=>AS.cj 115 [(4,ah c9),(5,.row 17),(6,.row 306),(7,ah pE),(8,ah vu),(10,ah zW)] [] [(17,TR 23 1 (eS 4 eQ) j83),(306,TR 3 1 bD pO)]) (λh=>?_) (λSa h=>?_)
 cases J4
 exact fs<|⟨rI,(F h),wR []⟩
 refine cT<|aZ mixed<|mo (s:=.row _) Y<|mv Y<|mo (s:=.row _) Y<|mv Y<|bE (V h) λx89 h89 h=>iR Y Y Y h89<|bE h λVr h90 h=>lR (e:=(eS 4 eQ)) Y Y h90 Y<|mv Y ?_
 obtain⟨⟨⟨adL,adM⟩,⟨adN,adO⟩⟩,h92,h⟩:=bS h
 refine ix Y Y h92<|RT.gy (cs:=[_,_,_,_]) .none Y T Y Y ?_
 obtain⟨⟨⟨adP,adQ⟩,⟨adR,adS⟩⟩,XA,h⟩:=bS h
 refine cl (zT XA) ⟨Y,ak⟩<|mo (s:=.row _) Y<|mv Y<|bE h λx97 h97 h=>iR Y Y Y h97<|bE h λZJ h98 h=>lR (e:=(eS 4 eQ)) Y Y h98 Y<|mo (s:=.row _) Y<|mv Y<|bE h λaka aqd h=>iR Y Y Y aqd<|bE h λKk Wy h=>lR (e:=(eS 4 eQ)) Y Y Wy Y<|bE h λKl Wz h=>cl (oN Wz) ⟨Y,Y,Y,ak⟩<|bE h λKm WA h=>iR Y Y Y WA ?_
 refine bE h λTu Jj h=>sR Kl Y Y Y Y Jj ?_
 refine RT.done ⟨by kernel_rfl,?_⟩
 exact aW.n<|⟨Tu,h,wR []⟩
 try dsimp only
 refine bF.n<|aW.n<|aX<|mv Y<|lE h λx81 h81 h=>ad _ Y Y h81<|ag Y<|RT.done ?_
 obtain rfl:=O h
 exact aW.n ⟨(x81,Sa),aqb _ Y,wR []⟩
 subst aqa
 try dsimp only
 refine aW.n<|sr<|mo (s:=.row _) Y<|mv Y<|bl (l:=[vu]) (e:=bD) (.one Y (.nil)) Y Y Y Y Y Y<|bE Si λagx aqe Si=>aR (k:=[vu]) (e:=bD) Y Y Y aqe<|an (s:=.row _) Y<|dn<|aX<|mv Y<|lE Si λEs R8 Si=>ad _ Y Y R8<|ag Y<|RT.done<|bF.n<|aW.n<|aX<|mv Y<|lE Si λiA oH Si=>ad _ Y Y oH<|ag Y ?_
 refine RT.done ?_
 obtain rfl:=O Si
 exact aW.n ⟨(Es,iA,Dp,agx),akd _ Y,cD (λi=>bif Nat.beq i 306 then 108 else i) Y Y Y Y Y ⟨.sv aq,.row Y,.row Y,.sv aq,.sv aq,ak⟩ trivial ⟨⟨_,Y,cg.refl _⟩,⟨_,Y,cg.refl _⟩,ak⟩ (λi hi=>by rw[bV (show i≠306 by omega)];rfl)⟩
 refine cT<|bN<|aW.x<|bF.x<|aW.n<|aX<|mv Y<|lE (V kN) λiA oH kN=>ad _ Y Y oH<|ag Y<|RT.done ?_
 obtain rfl:=O kN
 exact aW.n ⟨(pE,iA,nD,pO),akd _ Y,wR []⟩
 subst ap3
 obtain⟨Yf,Sb,Nt⟩:=Sh
 try dsimp only
 refine aW.n<|qq<|bR (cV (i:=17) (E1:=23) (n:=1) (e:=(eS 4 eQ)) (l:=Sb) Y)<|aX<|mv Y<|mv Y<|bE agD λakb aqf agD=>RT.Ic .none 0 Yf Y Y ⟨_,Y⟩ T aqf<|mo (s:=.row _) Y<|ag Y<|an (s:=.row _) Y<|dn<|bR (cV (i:=306) (E1:=3) (n:=1) (e:=bD) (l:=Nt) Y)<|bf ?_
 obtain rfl:=O agD
 exact R2 Y Y
theorem Gq{x0:List Int}{x1:Int}{r:Bool}(h:sO x0 x1=some r):Pure af 159 [slc 1 (List.map bD x0),ax x1] (ay r):=by
 refine bj Tryz.func159 Y (ae Y) (λdw M vs hvs=>?_)
 unfold sO at h
 refine sr<|ag Y<|dn<|qq<|sr<|ag Y<|dn<|bE h λe6 vA jo=>?_
 refine bK (λ(uI:Unit)=>AS.cj 18 [] [] []) (λuI=>.inl uI=e6) ?_ (λuI vB=>?_)
 refine aY ?_
 refine bL vA (λs6=>AS.cj 18 [(0,.sv (slc 1 (List.map bD x0))),(1,ah x1),(5,ah s6)] [] []) (wR []) (λiD y6 G6 h vC qy=>?_)
 try dsimp only
 refine qq<|sr<|mv Y<|mv Y<|lE h λx8 h8 h=>ln Y h8<|lE h λx9 h9 h=>ls _ Y Y h9<|dn ?_
 cases x9
 refine cF<|bN<|aW.x<|aW.x<|bF.x<|aW.n ?_
 obtain rfl:=O (F h)
 exact⟨(),qy _ Y,wR []⟩
 refine cT<|bw<|aW.n<|qq<|aY<|sr<|mv Y<|mv Y<|bE (V h) λei jx h=>ix Y Y jx<|lr Y Y<|mv Y<|lE h λdX jO h=>eq _ Y Y (ve (p:=ei) (q:=x1) jO)<|dn ?_
 cases dX
 refine cF<|bw<|bF.n<|aW.n<|aX<|mv Y<|lE (F h) λfz lp h=>ad _ Y Y lp<|ag Y<|RT.done ?_
 obtain rfl:=O h
 exact aW.n ⟨fz,vC _ Y,wR []⟩
 refine cT<|sr<|ag Y<|dn<|bf<|bF.r<|aW.r ?_
 obtain rfl:=O (V h)
 have GJ:=qy _ Y
 subst GJ
 refine aW.r<|bF.r<|aW.r<|aW.r ?_
 obtain rfl:=O jo
 exact R1 Y
 subst vB
 try dsimp only
 refine aW.n<|sr<|ag Y<|dn<|bf ?_
 obtain rfl:=O jo
 exact R1 Y
theorem KQ{x0:List (List Qr)}{r:List (List Qr)}(h:rJ x0=some r):Pure af 160 [slc 1 (List.map (eS 4 eQ) x0)] (slc 1 (List.map (eS 4 eQ) r)):=by
 refine bj Tryz.func160 Y (ae Y) (λdw M vs hvs=>?_)
 unfold rJ at h
 refine sr<|aI Y (aB (n:=1) (e:=(eS 4 eQ)))<|dn<|sr<|mv Y ?_
 obtain⟨⟨A0,DS⟩,fC,h⟩:=bS h
 refine cl (Av fC) ⟨Y,ak⟩<|mv Y<|ex Y Y<|ex Y Y<|ag Y<|ag Y<|dn<|sr<|mv Y<|bE h λfB lq h=>cl (eM lq) ⟨Y,ak⟩<|ag Y<|dn<|sr<|ag Y<|dn<|bR (c8 6 304 23 1 Y Y T)<|qq<|sr<|ag Y<|dn<|bE h λe20 agE agF=>?_
 refine bK (λ(zY:(List (List Qr)))=>AS.cj 53 [(6,.row 306)] [] [(306,TR 23 1 (eS 4 eQ) zY)]) (λzY=>zY=e20) ?_ (λzY agG=>?_)
 refine aY ?_
 refine bL agE (λU0=>AS.cj 53 [(3,.sv (slc 1 (List.map (eS 4 eQ) A0))),(4,.sv (slc 1 (List.map bD DS))),(5,ah fB),(6,.row 306),(7,ah U0.1)] [] [(306,TR 23 1 (eS 4 eQ) U0.2)]) (cD (λi=>bif Nat.beq i 306 then 304 else i) Y Y Y Y Y ⟨.sv aq,.sv aq,.sv aq,.row Y,.sv aq,ak⟩ trivial ⟨⟨_,Y,cg.refl _⟩,ak⟩ (λi hi=>by rw[bV (show i≠306 by omega)];rfl)) (λU0 y20 G20 h aa0 agH=>?_)
 obtain⟨mH,xS⟩:=U0
 try dsimp only
 refine qq<|sr<|mv Y<|mv Y<|lE h λjl mw h=>ls _ Y Y mw<|dn ?_
 cases jl
 refine cF<|bN<|aW.x<|aW.x<|bF.x<|aW.n ?_
 obtain rfl:=O (F h)
 exact⟨xS,agH _ Y,wR []⟩
 refine cT<|bw<|aW.n<|qq<|aY<|qq<|sr<|mv Y<|mv Y<|bE (V h) λgX oY h=>cl (Gq oY) ⟨Y,Y,ak⟩<|dn ?_
 cases gX
 refine fs<|sr<|mv Y<|mv Y<|bE (F h) λiO pN h=>cN (xb pN) ⟨Y,Y,ak⟩<|an (s:=.row _) Y<|dn<|qq<|sr<|ag Y<|dn<|bE h λe28 ae6 Re=>?_
 refine bK (λ(zX:(List Qr))=>AS.cj 53 [(3,.sv (slc 1 (List.map (eS 4 eQ) A0))),(4,.sv (slc 1 (List.map bD DS))),(5,ah fB),(6,.row 306),(7,ah mH),(8,.row 27)] [] [(306,TR 23 1 (eS 4 eQ) xS),(27,TR 43 4 eQ zX)]) (λzX=>zX=e28) ?_ (λzX ae7=>?_)
 refine aY ?_
 refine bL ae6 (λUm=>AS.cj 53 [(3,.sv (slc 1 (List.map (eS 4 eQ) A0))),(4,.sv (slc 1 (List.map bD DS))),(5,ah fB),(6,.row 306),(7,ah mH),(8,.row 27),(9,ah Um.1)] [] [(306,TR 23 1 (eS 4 eQ) xS),(27,TR 43 4 eQ Um.2)]) (wR []) (λUm y28 G28 h ae8 ae9=>?_)
 obtain⟨P3,Jl⟩:=Um
 try dsimp only
 refine qq<|sr<|mv Y<|mv Y<|lE h λoF vD h=>ln Y vD<|lE h λnU yz h=>ls _ Y Y yz<|dn ?_
 cases nU
 refine cF<|bN<|aW.x<|aW.x<|bF.x<|aW.n ?_
 obtain rfl:=O (F h)
 exact⟨Jl,ae9 _ Y,wR []⟩
 refine cT<|bw<|aW.n<|qq<|aY<|aZ mixed<|mo (s:=.row _) Y<|mv Y<|mv Y<|bE (V h) λuG DW h=>ix Y Y DW<|lr Y Y<|mv Y<|mv Y<|bE h λyF GK h=>ix Y Y GK<|lr Y Y<|mv Y ?_
 obtain⟨⟨⟨Gc,Ge⟩,⟨OU,OV⟩⟩,Az,h⟩:=bS h
 refine ix Y Y Az<|RT.gy (cs:=[_,_,_,_]) .none Y T Y Y ?_
 obtain⟨⟨⟨Jm,Jn⟩,⟨Jo,Jp⟩⟩,h46,h⟩:=bS h
 refine cl (zT h46) ⟨Y,ak⟩<|bE h λsE zH h=>iR Y Y Y zH<|bE h λZM akh h=>sA ⟨⟨Jm,Jn⟩,⟨Jo,Jp⟩⟩ Y Y Y akh ?_
 refine RT.done ⟨by kernel_rfl,?_⟩
 refine bF.n<|aW.n<|aX<|mv Y<|lE h λoD xp h=>ad _ Y Y xp<|ag Y<|RT.done ?_
 obtain rfl:=O h
 exact aW.n ⟨(oD,ZM),ae8 _ Y,wR []⟩
 subst ae7
 try dsimp only
 refine aW.n<|bR (cV (i:=27) (E1:=43) (n:=4) (e:=eQ) (l:=zX) Y)<|aX<|mo (s:=.row _) Y<|mv Y<|bl (l:=[zX]) (e:=(eS 4 eQ)) (.one Y (.nil)) Y Y Y Y Y Y<|bE Re λBT Ip Re=>aR (k:=[zX]) (e:=(eS 4 eQ)) Y Y Y Ip<|an (s:=.row _) Y<|RT.done<|bF.n<|aW.n<|aX<|mv Y<|lE Re λfL ke Re=>ad _ Y Y ke<|ag Y<|RT.done ?_
 obtain rfl:=O Re
 exact aW.n ⟨(fL,BT),aa0 _ Y,cD (λi=>bif Nat.beq i 306 then 51 else i) Y Y Y Y Y ⟨.sv aq,.sv aq,.sv aq,.row Y,.sv aq,ak⟩ trivial ⟨⟨_,Y,cg.refl _⟩,ak⟩ (λi hi=>by rw[bV (show i≠306 by omega)];rfl)⟩
 refine cT<|bN<|aW.x<|bF.x<|aW.n<|aX<|mv Y<|lE (V h) λfL ke h=>ad _ Y Y ke<|ag Y<|RT.done ?_
 obtain rfl:=O h
 exact aW.n ⟨(fL,xS),aa0 _ Y,wR []⟩
 subst agG
 try dsimp only
 refine aW.n<|sr<|mo (s:=.row _) Y<|an (s:=.row _) Y<|dn<|bR (cV (i:=306) (E1:=23) (n:=1) (e:=(eS 4 eQ)) (l:=zY) Y)<|bf ?_
 obtain rfl:=O agF
 exact R1 Y
theorem KR{x0:List (List Qr)}{x1:List Qr}{r:List (List Qr)}(h:rK x0 x1=some r):Pure af 158 [slc 1 (List.map (eS 4 eQ) x0),slc 4 (List.map eQ x1)] (slc 1 (List.map (eS 4 eQ) r)):=by
 refine bj Tryz.func158 Y (ae Y) (λdw M vs hvs=>?_)
 unfold rK at h
 refine sr<|aI Y (aB (n:=1) (e:=(eS 4 eQ)))<|dn<|sr<|mv Y<|bE h λfz lp h=>cl (eM lp) ⟨Y,ak⟩<|ag Y<|dn<|sr<|ag Y<|dn<|bR (c8 6 304 23 1 Y Y T)<|qq<|sr<|ag Y<|dn<|bE h λe20 agE agF=>?_
 refine bK (λ(z4:(List (List Qr)))=>AS.cj 46 [(6,.row 311)] [] [(311,TR 23 1 (eS 4 eQ) z4)]) (λz4=>z4=e20) ?_ (λz4 agG=>?_)
 refine aY ?_
 refine bL agE (λU0=>AS.cj 46 [(0,.sv (slc 1 (List.map (eS 4 eQ) x0))),(1,.sv (slc 4 (List.map eQ x1))),(5,ah fz),(6,.row 311),(7,ah U0.1)] [] [(311,TR 23 1 (eS 4 eQ) U0.2)]) (cD (λi=>bif Nat.beq i 311 then 304 else i) Y Y Y Y Y ⟨.sv aq,.sv aq,.sv aq,.row Y,.sv aq,ak⟩ trivial ⟨⟨_,Y,cg.refl _⟩,ak⟩ (λi hi=>by rw[bV (show i≠311 by omega)];rfl)) (λU0 y20 G20 h aa0 agH=>?_)
 obtain⟨mH,zZ⟩:=U0
 try dsimp only
 refine qq<|qq ?_
 refine bJ h (λj23=>AS.cj 46 [(0,.sv (slc 1 (List.map (eS 4 eQ) x0))),(1,.sv (slc 4 (List.map eQ x1))),(5,ah fz),(6,.row 311),(7,ah mH),(21,ai j23)] [] [(311,TR 23 1 (eS 4 eQ) zZ)]) (λh=>?_) (λSc h=>?_)
 refine aX<|mv Y<|mv Y<|lE h λei jx h=>ln Y jx<|lE h λdH gD h=>ls _ Y Y gD<|mv Y<|bE h λYg kY h=>?_
 cases dH
 refine gm Y<|gm Y<|lE (F kY) λjl mw kY=>gn Y mw<|lE kY λij oG kY=>RT.lss (.some Y Y) _ Y Y T oG ?_
 obtain rfl:=O kY
 exact pF Y<|dn<|⟨ij,h,wR []⟩
 obtain rfl:=O (V kY)
 exact ww<|ww<|ww<|ww<|pT Y<|dn<|⟨true,h,wR []⟩
 try dsimp only
 refine aW.n ?_
 cases Sc
 refine cF<|bN<|aW.x<|aW.x<|bF.x<|aW.n ?_
 obtain rfl:=O (F h)
 exact⟨zZ,agH _ Y,wR []⟩
 refine cT<|bw<|aW.n<|qq<|aY<|sr<|ag Y<|dn<|bR (c8 8 321 43 4 Y Y T)<|qq<|sr<|ag Y<|dn<|bE (V h) λe29 aqh Nv=>?_
 refine bK (λ(B4:(List Qr))=>AS.cj 46 [(0,.sv (slc 1 (List.map (eS 4 eQ) x0))),(1,.sv (slc 4 (List.map eQ x1))),(5,ah fz),(6,.row 311),(7,ah mH),(8,.row 323)] [] [(311,TR 23 1 (eS 4 eQ) zZ),(323,TR 43 4 eQ B4)]) (λB4=>B4=e29) ?_ (λB4 aqi=>?_)
 refine aY ?_
 refine bL aqh (λs29=>AS.cj 46 [(0,.sv (slc 1 (List.map (eS 4 eQ) x0))),(1,.sv (slc 4 (List.map eQ x1))),(5,ah fz),(6,.row 311),(7,ah mH),(8,.row 323),(9,ah s29.1)] [] [(311,TR 23 1 (eS 4 eQ) zZ),(323,TR 43 4 eQ s29.2)]) (cD (λi=>bif Nat.beq i 323 then 321 else i) Y Y Y Y Y ⟨.sv aq,.sv aq,.sv aq,.row Y,.sv aq,.row Y,.sv aq,ak⟩ trivial ⟨⟨_,Y,cg.refl _⟩,⟨_,Y,cg.refl _⟩,ak⟩ (λi hi=>by rw[bV (show i≠323 by omega)];rfl)) (λs29 y29 G29 h aqj aqk=>?_)
 obtain⟨Tv,Ht⟩:=s29
 try dsimp only
 refine qq<|sr<|mv Y<|mv Y<|lE h λjH rV h=>ls _ Y Y rV<|dn ?_
 cases jH
 refine cF<|bN<|aW.x<|aW.x<|bF.x<|aW.n ?_
 obtain rfl:=O (F h)
 exact⟨Ht,aqk _ Y,wR []⟩
 refine cT<|bw<|aW.n<|qq<|aY<|aX<|mo (s:=.row _) Y<|mv Y<|mv Y<|mv Y ?_
 obtain⟨⟨⟨CB,CC⟩,⟨Iz,IA⟩⟩,xp,h⟩:=bS (V h)
 refine cl (kL xp) ⟨Y,Y,Y,ak⟩<|bl (l:=[⟨⟨CB,CC⟩,⟨Iz,IA⟩⟩]) (e:=eQ) (.agg Y (.nil)) Y Y Y Y Y Y<|bE h λku vE h=>aR (k:=[⟨⟨CB,CC⟩,⟨Iz,IA⟩⟩]) (e:=eQ) Y Y Y vE<|an (s:=.row _) Y<|RT.done<|bF.n<|aW.n<|aX<|mv Y<|lE h λkT uO h=>ad _ Y Y uO<|ag Y<|RT.done ?_
 obtain rfl:=O h
 exact aW.n ⟨(kT,ku),aqj _ Y,cD (λi=>bif Nat.beq i 323 then 35 else i) Y Y Y Y Y ⟨.sv aq,.sv aq,.sv aq,.row Y,.sv aq,.row Y,.sv aq,ak⟩ trivial ⟨⟨_,Y,cg.refl _⟩,⟨_,Y,cg.refl _⟩,ak⟩ (λi hi=>by rw[bV (show i≠323 by omega)];rfl)⟩
 subst aqi
 try dsimp only
 refine aW.n<|aX<|mo (s:=.row _) Y<|mo (s:=.row _) Y<|mv Y<|mv Y ?_
 obtain⟨⟨⟨vh,vi⟩,⟨yK,yL⟩⟩,vm,Nv⟩:=bS Nv
 refine cl (mF vm) ⟨Y,Y,ak⟩<|bl (l:=[⟨⟨vh,vi⟩,⟨yK,yL⟩⟩]) (e:=eQ) (.agg Y (.nil)) Y Y Y Y Y Y<|bE Nv λnE ym Nv=>RT.Z9 (k:=[⟨⟨vh,vi⟩,⟨yK,yL⟩⟩]) (e:=eQ) .none Y Y Y T Y T ym<|bl (l:=[nE]) (e:=(eS 4 eQ)) (.one Y (.nil)) Y Y Y Y Y Y<|bE Nv λsj Az Nv=>aR (k:=[nE]) (e:=(eS 4 eQ)) Y Y Y Az<|an (s:=.row _) Y<|RT.done<|bF.n<|aW.n<|aX<|mv Y ?_
 refine lE Nv λjg qP Nv=>ad _ Y Y qP<|ag Y<|RT.done ?_
 obtain rfl:=O Nv
 exact aW.n ⟨(jg,sj),aa0 _ Y,cD (λi=>bif Nat.beq i 311 then 44 else i) Y Y Y Y Y ⟨.sv aq,.sv aq,.sv aq,.row Y,.sv aq,ak⟩ trivial ⟨⟨_,Y,cg.refl _⟩,ak⟩ (λi hi=>by rw[bV (show i≠311 by omega)];rfl)⟩
 subst agG
 try dsimp only
 refine aW.n<|sr<|mo (s:=.row _) Y<|an (s:=.row _) Y<|dn<|bR (cV (i:=311) (E1:=23) (n:=1) (e:=(eS 4 eQ)) (l:=z4) Y)<|bf ?_
 obtain rfl:=O agF
 exact R1 Y
theorem Jv{x0:List (List Qr)}{x1:List Qr}{r:(List Qr)×(List (List Qr))×Int}(h:k8 x0 x1=some r):Pure af 123 [slc 1 (List.map (eS 4 eQ) x0),slc 4 (List.map eQ x1)] (.Ce [slc 4 (List.map eQ r.1),slc 1 (List.map (eS 4 eQ) r.2.1),ax r.2.2]):=by
 refine bj Tryz.func123 Y (ae Y) (λdw M vs hvs=>?_)
 unfold k8 at h
 refine sr<|aI Y (aB (n:=4) (e:=eQ))<|aI Y (aB (n:=1) (e:=(eS 4 eQ)))<|ag Y<|dn<|sr<|mv Y<|bE h λeD iF h=>cl (eM iF) ⟨Y,ak⟩<|ag Y<|dn<|sr<|mv Y<|mv Y<|bE h λdX jO h=>cl (KR jO) ⟨Y,Y,ak⟩ ?_
 obtain⟨⟨Kq,MI⟩,jK,h⟩:=bS h
 refine cl (Av jK) ⟨Y,ak⟩<|mv Y<|ex Y Y<|ex Y Y<|ag Y<|ag Y<|dn<|qq<|sr<|mv Y<|mv Y<|bE h λjg qP h=>cl (Gq qP) ⟨Y,Y,ak⟩<|dn ?_
 cases jg
 refine fs<|sr<|mv Y<|bE (F h) λjG nO h=>cN (xb nO) ⟨Y,Y,ak⟩<|an (s:=.row _) Y<|dn<|qq<|sr<|ag Y<|dn<|bE h λe8 Ko Ch=>?_
 refine bK (λ(Jq:(List Qr))=>AS.cj 48 [(0,.sv (slc 1 (List.map (eS 4 eQ) x0))),(10,.row 25)] [] [(25,TR 43 4 eQ Jq)]) (λJq=>Jq=e8) ?_ (λJq Mv=>?_)
 refine aY ?_
 refine bL Ko (λs8=>AS.cj 48 [(0,.sv (slc 1 (List.map (eS 4 eQ) x0))),(7,ah eD),(8,.sv (slc 1 (List.map (eS 4 eQ) Kq))),(9,.sv (slc 1 (List.map bD MI))),(10,.row 25),(11,ah s8.1)] [] [(25,TR 43 4 eQ s8.2)]) (wR []) (λs8 y8 G8 h Mw Mx=>?_)
 obtain⟨tZ,P4⟩:=s8
 try dsimp only
 refine qq<|sr<|mv Y<|mv Y<|lE h λkT uO h=>ln Y uO<|lE h λgI mZ h=>ls _ Y Y mZ<|dn ?_
 cases gI
 refine cF<|bN<|aW.x<|aW.x<|bF.x<|aW.n ?_
 obtain rfl:=O (F h)
 exact⟨P4,Mx _ Y,wR []⟩
 refine cT<|bw<|aW.n<|qq<|aY<|aZ mixed<|mo (s:=.row _) Y<|mv Y<|mv Y<|bE (V h) λku vE h=>ix Y Y vE<|lr Y Y<|mv Y<|mv Y<|bE h λvY DX h=>ix Y Y DX<|lr Y Y<|mv Y ?_
 obtain⟨⟨⟨Yh,Yi⟩,⟨Yj,Yk⟩⟩,ym,h⟩:=bS h
 refine ix Y Y ym<|RT.gy (cs:=[_,_,_,_]) .none Y T Y Y<|bE h λsj Az h=>iR Y Y Y Az<|bE h λDL yI h=>sA ⟨⟨Yh,Yi⟩,⟨Yj,Yk⟩⟩ Y Y Y yI ?_
 refine RT.done ⟨by kernel_rfl,?_⟩
 refine bF.n<|aW.n<|aX<|mv Y<|lE h λnU yz h=>ad _ Y Y yz<|ag Y<|RT.done ?_
 obtain rfl:=O h
 exact aW.n ⟨(nU,DL),Mw _ Y,wR []⟩
 subst Mv
 try dsimp only
 refine aW.n<|sr<|mo (s:=.row _) Y<|mv Y<|bE Ch λsE zH Ch=>cl (KQ zH) ⟨Y,ak⟩<|an (s:=.row _) Y<|ag Y<|ag Y<|dn<|bR (cV (i:=25) (E1:=43) (n:=4) (e:=eQ) (l:=Jq) Y)<|bf ?_
 obtain rfl:=O Ch
 exact RZ (.tmp Y (.tmp Y (.tmp Y (.nil))))
 refine cT<|sr<|aI Y (aB (n:=4) (e:=eQ))<|aI Y (aB (n:=1) (e:=(eS 4 eQ)))<|ag Y<|dn<|bf<|aW.r ?_
 obtain rfl:=O (V h)
 exact RZ (.tmp Y (.tmp Y (.tmp Y (.nil))))
theorem sP{x0:List (List Qr)}{r:(List (List Qr))×Int}(h:dN x0=some r):Pure af 80 [slc 1 (List.map (eS 4 eQ) x0)] (.Ce [slc 1 (List.map (eS 4 eQ) r.1),ax r.2]):=by
 refine bj Tryz.func80 Y (ae Y) (λdw M vs hvs=>?_)
 unfold dN at h
 refine sr<|aI Y (aB (n:=1) (e:=(eS 4 eQ)))<|ag Y<|dn<|sr<|mv Y<|lE h λfz lp h=>ln Y lp<|ag Y<|dn<|sr<|ag Y<|dn<|bR (c8 5 304 23 1 Y Y T)<|qq<|sr<|ag Y<|dn<|bE h λFm yh pq=>?_
 refine bK (λ(jU:(List (List Qr)))=>AS.cj 39 [(5,.row 306)] [] [(306,TR 23 1 (eS 4 eQ) jU)]) (λjU=>.inl jU=Fm) ?_ (λjU yj=>?_)
 refine aY ?_
 refine bL yh (λuH=>AS.cj 39 [(0,.sv (slc 1 (List.map (eS 4 eQ) x0))),(4,ah fz),(5,.row 306),(6,ah uH.1)] [] [(306,TR 23 1 (eS 4 eQ) uH.2)]) (cD (λi=>bif Nat.beq i 306 then 304 else i) Y Y Y Y Y ⟨.sv aq,.sv aq,.row Y,.sv aq,ak⟩ trivial ⟨⟨_,Y,cg.refl _⟩,ak⟩ (λi hi=>by rw[bV (show i≠306 by omega)];rfl)) (λuH ZD ZE h yl uN=>?_)
 obtain⟨KA,og⟩:=uH
 try dsimp only
 refine qq<|sr<|mv Y<|mv Y<|lE h λei jx h=>ls _ Y Y jx<|dn ?_
 cases ei
 refine cF<|bN<|aW.x<|aW.x<|bF.x<|aW.n ?_
 obtain rfl:=O (F h)
 exact⟨og,uN _ Y,wR []⟩
 refine cT<|bw<|aW.n<|qq<|aY<|sr<|mv Y<|mv Y<|mv Y<|bE (V h) λfL ke h=>cl (tg ke) ⟨Y,Y,ak⟩ ?_
 obtain⟨⟨Yl,akc,agy⟩,oH,h⟩:=bS h
 refine cl (Jv oH) ⟨Y,Y,ak⟩<|mv Y<|ex Y Y<|ex Y Y<|ex Y Y<|ag Y<|ag Y<|ag Y<|dn<|qq<|qq ?_
 refine bJ h (λGI=>AS.cj 39 [(0,.sv (slc 1 (List.map (eS 4 eQ) x0))),(4,ah fz),(5,.row 306),(6,ah KA),(7,.sv (slc 4 (List.map eQ Yl))),(32,ai GI)] [] [(306,TR 23 1 (eS 4 eQ) og)]) (λh=>?_) (λSd h=>?_)
 refine aX<|mv Y<|lE h λiO pN h=>ne _ Y Y (JY (p:=agy) (q:=0) pN)<|mv Y<|bE h λYm dD h=>?_
 cases iO
 refine gm Y<|lE (F dD) λoF vD dD=>gn Y vD<|lE dD λnU yz dD=>gg _ Y Y yz ?_
 obtain rfl:=O dD
 exact pF Y<|dn<|⟨nU,h,wR []⟩
 obtain rfl:=O (V dD)
 exact ww<|ww<|ww<|pT Y<|dn<|⟨true,h,wR []⟩
 try dsimp only
 refine aW.n ?_
 cases Sd
 refine fs<|aX<|mo (s:=.row _) Y<|mv Y<|bl (l:=[Yl]) (e:=(eS 4 eQ)) (.one Y (.nil)) Y Y Y Y Y Y<|bE (F h) λpg yJ h=>aR (k:=[Yl]) (e:=(eS 4 eQ)) Y Y Y yJ<|an (s:=.row _) Y<|RT.done<|bF.n<|aW.n<|aX<|mv Y<|lE h λfB lq h=>ad _ Y Y lq<|ag Y<|RT.done ?_
 obtain rfl:=O h
 exact aW.n ⟨(fB,pg),yl _ Y,cD (λi=>bif Nat.beq i 306 then 36 else i) Y Y Y Y Y ⟨.sv aq,.sv aq,.row Y,.sv aq,ak⟩ trivial ⟨⟨_,Y,cg.refl _⟩,ak⟩ (λi hi=>by rw[bV (show i≠306 by omega)];rfl)⟩
 refine cT<|sr<|aI Y (aB (n:=1) (e:=(eS 4 eQ)))<|ag Y<|dn<|bf<|aW.r<|bF.r<|aW.r ?_
 obtain rfl:=O (V h)
 have XG:=uN _ Y
 subst XG
 refine aW.r<|bF.r<|aW.r<|aW.r ?_
 obtain rfl:=O pq
 exact R2 Y Y
 subst yj
 try dsimp only
 refine aW.n<|qq<|bR (cV (i:=306) (E1:=23) (n:=1) (e:=(eS 4 eQ)) (l:=jU) Y)<|aX<|mv Y<|bE pq λqX Ay pq=>cl (KO Ay) ⟨Y,ak⟩<|ag Y<|ag Y<|dn<|bf ?_
 obtain rfl:=O pq
 exact R2 Y Y
theorem xd{x0:Lr}{r:List (List Qr)}(h:iY x0=some r):Pure af 112 [.agg (K0 x0)] (slc 1 (List.map (eS 4 eQ) r)):=by
 obtain⟨bk,bn,bt,bB⟩:=x0
 refine bj Tryz.func112 Y (ae Y) (λdw M vs hvs=>?_)
 unfold iY at h
 refine sr<|bx Y<|aI Y (aB (n:=1) (e:=(eS 4 eQ)))<|dn<|qq<|aZ mixed<|fa Y Y<|lV Y Y Y<|fa Y Y<|lV Y Y Y<|lE h λx7 h7 h=>ln Y h7<|fa Y Y<|lV Y Y Y<|bE h λdI gC h=>cl (Nq gC) ⟨Y,Y,Y,ak⟩<|fa Y Y<|lV Y Y Y<|lE h λeD iF h=>ln Y iF ?_
 refine bE h λei jx h=>cl (KN jx) ⟨Y,ak⟩<|bE h λdH gD h=>cl (GY gD) ⟨Y,Y,ak⟩<|ag Y ?_
 refine RT.done ⟨by kernel_rfl,?_⟩
 refine aW.n<|bf ?_
 obtain rfl:=O h
 exact R1 Y
theorem sQ{x0:Lr}{x1:List Int}{r:Bool}(h:jb x0 x1=some r):Pure af 31 [.agg (K0 x0),slc 1 (List.map bD x1)] (ay r):=by
 obtain⟨bk,bn,bt,bB⟩:=x0
 refine bj Tryz.func31 Y (ae Y) (λdw M vs hvs=>?_)
 unfold jb at h
 refine sr<|bx Y<|ag Y<|dn<|qq<|sr<|ag Y<|dn<|bE h λe18 Xg sM=>?_
 refine bK (λ(KB:Unit)=>AS.cj 51 [(1,.sv (slc 1 (List.map bD x1))),(2,.ptr 2 0)] [(2,⟨25,[ah bk,.sv (slc 1 (List.map (eS 4 eQ) bn)),.sv (slc 1 (List.map (eS 4 eQ) bt)),.sv (slc 4 (List.map eQ bB))]⟩)] []) (λKB=>.inl KB=e18) ?_ (λKB Xh=>?_)
 refine aY ?_
 refine bL Xg (λQE=>AS.cj 51 [(1,.sv (slc 1 (List.map bD x1))),(2,.ptr 2 0),(5,ah QE)] [(2,⟨25,[ah bk,.sv (slc 1 (List.map (eS 4 eQ) bn)),.sv (slc 1 (List.map (eS 4 eQ) bt)),.sv (slc 4 (List.map eQ bB))]⟩)] []) (wR []) (λqh y18 G18 h Xi RJ=>?_)
 try dsimp only
 refine qq<|sr<|mv Y<|mv Y<|lE h λx9 h9 h=>ln Y h9<|lE h λdI gC h=>ls _ Y Y gC<|dn ?_
 cases dI
 refine cF<|bN<|aW.x<|aW.x<|bF.x<|aW.n ?_
 obtain rfl:=O (F h)
 exact⟨(),RJ _ Y,wR []⟩
 refine cT<|bw<|aW.n<|qq<|aY<|qq<|qq ?_
 refine bJ (V h) (λj21=>AS.cj 51 [(1,.sv (slc 1 (List.map bD x1))),(2,.ptr 2 0),(5,ah qh),(30,ai j21)] [(2,⟨25,[ah bk,.sv (slc 1 (List.map (eS 4 eQ) bn)),.sv (slc 1 (List.map (eS 4 eQ) bt)),.sv (slc 4 (List.map eQ bB))]⟩)] []) (λh=>?_) (λSe h=>?_)
 refine aZ mixed<|mv Y<|mv Y<|bE h λdH gD h=>ix Y Y gD<|lr Y Y<|lE h λdX jO h=>ls _ Y Y jO<|mv Y<|bE h λYn r6 h=>?_
 cases dX
 refine gm Y<|gm Y<|bE (F r6) λfL ke r6=>RT.Uj (.some Y Y) Y Y T ke<|gr Y Y<|RT.fieldAddr (.some Y Y) Y T Y<|RT.yy (.some Y Y) Y Y Y T<|RT.fieldAddr (.some Y Y) Y T Y<|RT.yy (.some Y Y) Y Y Y T<|lE r6 λiO pN r6=>gn Y pN<|lE r6 λkT uO r6=>RT.add (.some Y Y) _ Y Y T uO<|lE r6 λgI mZ r6=>RT.geq (.some Y Y) _ Y Y T mZ ?_
 obtain rfl:=O r6
 refine pF Y ?_
 refine RT.done ⟨by kernel_rfl,?_⟩
 exact aW.n<|⟨gI,h,wR []⟩
 obtain rfl:=O (V r6)
 refine ww<|ww<|ww<|ww<|ww<|ww<|ww<|ww<|ww<|ww<|ww<|pT Y ?_
 refine RT.done ⟨by kernel_rfl,?_⟩
 exact aW.n<|⟨true,h,wR []⟩
 try dsimp only
 refine aW.n ?_
 cases Se
 refine fs<|sr<|ag Y<|dn<|bE (F h) λe27 aql aa1=>?_
 refine bK (λ(agI:Unit)=>AS.cj 51 [(1,.sv (slc 1 (List.map bD x1))),(2,.ptr 2 0),(5,ah qh)] [(2,⟨25,[ah bk,.sv (slc 1 (List.map (eS 4 eQ) bn)),.sv (slc 1 (List.map (eS 4 eQ) bt)),.sv (slc 4 (List.map eQ bB))]⟩)] []) (λagI=>.inl agI=e27) ?_ (λagI aqm=>?_)
 refine aY ?_
 refine bL aql (λs27=>AS.cj 51 [(1,.sv (slc 1 (List.map bD x1))),(2,.ptr 2 0),(5,ah qh),(6,ah s27)] [(2,⟨25,[ah bk,.sv (slc 1 (List.map (eS 4 eQ) bn)),.sv (slc 1 (List.map (eS 4 eQ) bt)),.sv (slc 4 (List.map eQ bB))]⟩)] []) (wR []) (λTw y27 G27 h aqn aki=>?_)
 try dsimp only
 refine qq<|sr<|mv Y<|mv Y<|lE h λoD xp h=>ls _ Y Y xp<|dn ?_
 cases oD
 refine cF<|bN<|aW.x<|aW.x<|bF.x<|aW.n ?_
 obtain rfl:=O (F h)
 exact⟨(),aki _ Y,wR []⟩
 refine cT<|bw<|aW.n<|qq<|aY<|qq<|aZ mixed<|mv Y<|mv Y<|bE (V h) λqX Ay h=>ix Y Y Ay<|lr Y Y<|mv Y<|mv Y<|bE h λnE ym h=>ix Y Y ym<|lr Y Y<|lE h λsj Az h=>eq _ Y Y (ve (p:=qX) (q:=nE) Az) ?_
 refine RT.done ⟨by kernel_rfl,?_⟩
 refine aW.n ?_
 cases sj
 refine cF<|bw<|bF.n<|aW.n<|aX<|mv Y<|lE (F h) λku vE h=>ad _ Y Y vE<|ag Y<|RT.done ?_
 obtain rfl:=O h
 exact aW.n ⟨ku,aqn _ Y,wR []⟩
 refine cT<|sr<|ag Y<|dn<|bf<|bF.r<|aW.r ?_
 obtain rfl:=O (V h)
 have aqo:=aki _ Y
 subst aqo
 refine aW.r<|bF.r<|aW.r<|bF.r<|aW.r ?_
 obtain rfl:=O aa1
 have agJ:=RJ _ Y
 subst agJ
 refine aW.r<|bF.r<|aW.r<|aW.r ?_
 obtain rfl:=O sM
 exact R1 Y
 subst aqm
 try dsimp only
 refine bF.n<|aW.n<|aX<|mv Y<|lE aa1 λc9 fC aa1=>ad _ Y Y fC<|ag Y<|RT.done ?_
 obtain rfl:=O aa1
 exact aW.n ⟨c9,Xi _ Y,wR []⟩
 refine cT<|sr<|ag Y<|dn<|bf<|aW.r<|bF.r<|aW.r ?_
 obtain rfl:=O (V h)
 have agJ:=RJ _ Y
 subst agJ
 refine aW.r<|bF.r<|aW.r<|aW.r ?_
 obtain rfl:=O sM
 exact R1 Y
 subst Xh
 try dsimp only
 refine aW.n<|sr<|mv Y<|lE sM λvg h46 sM=>ln Y h46<|fa Y Y<|lV Y Y Y<|lE sM λJ1 Rf sM=>ln Y Rf<|lE sM λAB Kn sM=>eq _ Y Y (ve (p:=vg) (q:=J1) Kn)<|ag Y<|dn<|bf ?_
 obtain rfl:=O sM
 exact R1 Y
set_option maxHeartbeats 4000000 in
theorem BA{x0:Lr}{x1:Int}{r:List Qr}(h:jD x0 x1=some r):Pure af 76 [.agg (K0 x0),ax x1] (slc 4 (List.map eQ r)):=by
 obtain⟨bk,bn,bt,bB⟩:=x0
 refine bj Tryz.func76 Y (ae Y) (λdw M vs hvs=>?_)
 unfold jD at h
 refine sr<|bx Y<|aI Y (aB (n:=4) (e:=eQ))<|dn<|sr<|ag Y<|dn<|bR (c8 5 304 43 4 Y Y T)<|qq<|sr<|ag Y<|dn<|bE h λe6 vA jo=>?_
 refine bK (λ(dj:(List Qr))=>AS.cj 47 [(1,ah x1),(2,.ptr 2 0),(5,.row 306)] [(2,⟨25,[ah bk,.sv (slc 1 (List.map (eS 4 eQ) bn)),.sv (slc 1 (List.map (eS 4 eQ) bt)),.sv (slc 4 (List.map eQ bB))]⟩)] [(306,TR 43 4 eQ dj)]) (λdj=>dj=e6) ?_ (λdj vB=>?_)
 refine aY ?_
 refine bL vA (λs6=>AS.cj 47 [(1,ah x1),(2,.ptr 2 0),(5,.row 306),(6,ah s6.1)] [(2,⟨25,[ah bk,.sv (slc 1 (List.map (eS 4 eQ) bn)),.sv (slc 1 (List.map (eS 4 eQ) bt)),.sv (slc 4 (List.map eQ bB))]⟩)] [(306,TR 43 4 eQ s6.2)]) (cD (λi=>bif Nat.beq i 306 then 304 else i) Y Y Y Y Y ⟨.sv aq,.ptr,.row Y,.sv aq,ak⟩ ⟨⟨_,Y,⟨.sv aq,.sv aq,.sv aq,.sv aq,ak⟩⟩,ak⟩ ⟨⟨_,Y,cg.refl _⟩,ak⟩ (λi hi=>by rw[bV (show i≠306 by omega)];rfl)) (λs6 y6 G6 h vC qy=>?_)
 obtain⟨mz,gL⟩:=s6
 try dsimp only
 refine qq<|sr<|mv Y<|fa Y Y<|lV Y Y Y<|lE h λc9 fC h=>ln Y fC<|lE h λeD iF h=>ls _ Y Y iF<|dn ?_
 cases eD
 refine cF<|bN<|aW.x<|aW.x<|bF.x<|aW.n ?_
 obtain rfl:=O (F h)
 exact⟨gL,qy _ Y,wR []⟩
 refine cT<|bw<|aW.n<|qq<|aY<|aX<|mo (s:=.row _) Y<|fa Y Y<|lV Y Y Y<|mv Y<|mv Y ?_
 obtain⟨⟨⟨l7,l8⟩,⟨nJ,nK⟩⟩,ke,h⟩:=bS (V h)
 refine cl (kL ke) ⟨Y,Y,Y,ak⟩<|bl (l:=[⟨⟨l7,l8⟩,⟨nJ,nK⟩⟩]) (e:=eQ) (.agg Y (.nil)) Y Y Y Y Y Y<|bE h λjg qP h=>aR (k:=[⟨⟨l7,l8⟩,⟨nJ,nK⟩⟩]) (e:=eQ) Y Y Y qP<|an (s:=.row _) Y<|RT.done<|bF.n<|aW.n<|aX<|mv Y<|lE h λdH gD h=>ad _ Y Y gD<|ag Y<|RT.done ?_
 obtain rfl:=O h
 exact aW.n ⟨(dH,jg),vC _ Y,cD (λi=>bif Nat.beq i 306 then 23 else i) Y Y Y Y Y ⟨.sv aq,.ptr,.row Y,.sv aq,ak⟩ ⟨⟨_,Y,⟨.sv aq,.sv aq,.sv aq,.sv aq,ak⟩⟩,ak⟩ ⟨⟨_,Y,cg.refl _⟩,ak⟩ (λi hi=>by rw[bV (show i≠306 by omega)];rfl)⟩
 subst vB
 try dsimp only
 refine aW.n<|qq<|sr<|ag Y<|dn<|bE jo λe14 aqp P6=>?_
 refine bK (λ(xT:(List Qr))=>AS.cj 47 [(1,ah x1),(2,.ptr 2 0),(5,.row 309)] [(2,⟨25,[ah bk,.sv (slc 1 (List.map (eS 4 eQ) bn)),.sv (slc 1 (List.map (eS 4 eQ) bt)),.sv (slc 4 (List.map eQ bB))]⟩)] [(309,TR 43 4 eQ xT)]) (λxT=>xT=e14) ?_ (λxT aqq=>?_)
 refine aY ?_
 refine bL aqp (λs14=>AS.cj 47 [(1,ah x1),(2,.ptr 2 0),(5,.row 309),(7,ah s14.1)] [(2,⟨25,[ah bk,.sv (slc 1 (List.map (eS 4 eQ) bn)),.sv (slc 1 (List.map (eS 4 eQ) bt)),.sv (slc 4 (List.map eQ bB))]⟩)] [(309,TR 43 4 eQ s14.2)]) (cD (λi=>bif Nat.beq i 309 then 306 else i) Y Y Y Y Y ⟨.sv aq,.ptr,.row Y,.sv aq,ak⟩ ⟨⟨_,Y,⟨.sv aq,.sv aq,.sv aq,.sv aq,ak⟩⟩,ak⟩ ⟨⟨_,Y,cg.refl _⟩,ak⟩ (λi hi=>by rw[bV (show i≠309 by omega)];rfl)) (λs14 y14 G14 h aqr aqs=>?_)
 obtain⟨mH,Eu⟩:=s14
 try dsimp only
 refine qq<|sr<|mv Y<|fa Y Y<|lV Y Y Y<|lE h λiO pN h=>ls _ Y Y pN<|dn ?_
 cases iO
 refine cF<|bN<|aW.x<|aW.x<|bF.x<|aW.n ?_
 obtain rfl:=O (F h)
 exact⟨Eu,aqs _ Y,wR []⟩
 refine cT<|bw<|aW.n<|qq<|aY<|sr<|bI (cs:=[_,_,_,_]) (cs':=[ay false,au,ay false,au]) (.nil) ⟨aq,aB,aq,aB,ak⟩<|al (cs:=[ay false,au,ay false,au]) (by exact⟨aq,aB,aq,aB,ak⟩) Y<|so Y Y Y<|dn<|qq<|sr<|mv Y<|mv Y<|lE (V h) λoD xp h=>?_
 refine eq _ Y Y (ve (p:=mH) (q:=x1) xp)<|dn ?_
 refine bJ h (λVt=>AS.cj 47 [(1,ah x1),(2,.ptr 2 0),(5,.row 309),(7,ah mH),(8,.ptr 8 0)] [(8,⟨43,[ai Vt.1,.sv (slc 1 (List.map bh Vt.2.1)),ai Vt.2.2.1,.sv (slc 1 (List.map bh Vt.2.2.2))]⟩),(2,⟨25,[ah bk,.sv (slc 1 (List.map (eS 4 eQ) bn)),.sv (slc 1 (List.map (eS 4 eQ) bt)),.sv (slc 4 (List.map eQ bB))]⟩)] [(309,TR 43 4 eQ Eu)]) (λh=>?_) (λVt h=>?_)
 cases oD
 exact fs<|⟨(false,[],false,[]),(F h),wR []⟩
 refine cT<|aX ?_
 obtain⟨⟨⟨qA,qB⟩,⟨vp,vr⟩⟩,xu,h⟩:=bS (V h)
 exact cl (mR xu) ⟨Y,ak⟩<|so Y Y Y<|dn<|⟨(qA,qB,vp,vr),h,wR []⟩
 obtain⟨Hu,Hv,Hw,Hx⟩:=Vt
 try dsimp only
 refine aW.n<|aX<|mo (s:=.row _) Y<|ld Y Y (.k4 Y Y Y Y)<|bl (l:=[⟨⟨Hu,Hv⟩,⟨Hw,Hx⟩⟩]) (e:=eQ) (.agg Y (.nil)) Y Y Y Y Y Y<|bE h λqX Ay h=>aR (k:=[⟨⟨Hu,Hv⟩,⟨Hw,Hx⟩⟩]) (e:=eQ) Y Y Y Ay<|an (s:=.row _) Y<|RT.done<|bF.n<|aW.n<|aX<|mv Y<|lE h λgI mZ h=>ad _ Y Y mZ<|ag Y<|RT.done ?_
 obtain rfl:=O h
 exact aW.n ⟨(gI,qX),aqr _ Y,cD (λi=>bif Nat.beq i 309 then 38 else i) Y Y Y Y Y ⟨.sv aq,.ptr,.row Y,.sv aq,ak⟩ ⟨⟨_,Y,⟨.sv aq,.sv aq,.sv aq,.sv aq,ak⟩⟩,ak⟩ ⟨⟨_,Y,cg.refl _⟩,ak⟩ (λi hi=>by rw[bV (show i≠309 by omega)];rfl)⟩
 subst aqq
 try dsimp only
 refine aW.n<|qq<|sr<|mv Y<|fa Y Y<|lV Y Y Y<|lE P6 λnE ym P6=>ge _ Y Y ym<|dn ?_
 cases nE
 refine fs<|sr<|mo (s:=.row _) Y<|an (s:=.row _) Y<|dn<|bR (cV (i:=309) (E1:=43) (n:=4) (e:=eQ) (l:=xT) Y)<|bf ?_
 obtain rfl:=O (F P6)
 exact R1 Y
 refine cT<|sr<|mo (s:=.row _) Y<|lE (V P6) λsj Az P6=>lL Y Y Az<|bE P6 λzu Io P6=>cl (tg Io) ⟨Y,Y,ak⟩<|ag Y<|dn<|bf<|aW.r ?_
 obtain rfl:=O P6
 exact R1 Y
theorem xe{x0:Rt}{r:List (List Qr)}(h:lf x0=some r):Pure af 81 [ref (X9 x0)] (slc 1 (List.map (eS 4 eQ) r)):=by
 obtain⟨⟨bk,bn,bt,bB⟩,cI⟩:=x0
 refine bj Tryz.func81 Y (ae Y) (λdw M vs hvs=>?_)
 unfold lf at h
 refine sr<|aI Y (aB (n:=1) (e:=(eS 4 eQ)))<|dn<|sr<|mv Y<|RT.cz .none Y T<|RT.bT .none Y T Y<|RT.gy (cs:=[_,_,_,_]) .none Y T Y Y<|bE h λc9 fC h=>cl (xd fC) ⟨Y,ak⟩<|ag Y<|dn<|sr<|ag Y<|dn<|bR (c8 4 304 23 1 Y Y T)<|qq<|sr<|ag Y<|dn<|bE h λEc wW ko=>?_
 refine bK (λ(gM:(List (List Qr)))=>AS.cj 46 [(4,.row 311)] [] [(311,TR 23 1 (eS 4 eQ) gM)]) (λgM=>gM=Ec) ?_ (λgM uS=>?_)
 refine aY ?_
 refine bL wW (λpA=>AS.cj 46 [(0,.sv (ref [ax bk,slc 1 (List.map (eS 4 eQ) bn),slc 1 (List.map (eS 4 eQ) bt),slc 4 (List.map eQ bB),slc 1 (List.map bD cI)])),(3,.sv (slc 1 (List.map (eS 4 eQ) c9))),(4,.row 311),(5,ah pA.1)] [] [(311,TR 23 1 (eS 4 eQ) pA.2)]) (cD (λi=>bif Nat.beq i 311 then 304 else i) Y Y Y Y Y ⟨.sv aq,.sv aq,.row Y,.sv aq,ak⟩ trivial ⟨⟨_,Y,cg.refl _⟩,ak⟩ (λi hi=>by rw[bV (show i≠311 by omega)];rfl)) (λpA ZK ZL h yp vI=>?_)
 obtain⟨qh,l9⟩:=pA
 try dsimp only
 refine qq<|sr<|mv Y<|mv Y<|lE h λdH gD h=>ln Y gD<|lE h λfB lq h=>ls _ Y Y lq<|dn ?_
 cases fB
 refine cF<|bN<|aW.x<|aW.x<|bF.x<|aW.n ?_
 obtain rfl:=O (F h)
 exact⟨l9,vI _ Y,wR []⟩
 refine cT<|bw<|aW.n<|qq<|aY<|sr<|ag Y<|dn<|bR (c8 6 321 43 4 Y Y T)<|qq<|sr<|ag Y<|dn<|bE (V h) λe22 M5 o8=>?_
 refine bK (λ(fo:(List Qr))=>AS.cj 46 [(0,.sv (ref [ax bk,slc 1 (List.map (eS 4 eQ) bn),slc 1 (List.map (eS 4 eQ) bt),slc 4 (List.map eQ bB),slc 1 (List.map bD cI)])),(3,.sv (slc 1 (List.map (eS 4 eQ) c9))),(4,.row 311),(5,ah qh),(6,.row 323)] [] [(311,TR 23 1 (eS 4 eQ) l9),(323,TR 43 4 eQ fo)]) (λfo=>fo=e22) ?_ (λfo M6=>?_)
 refine aY ?_
 refine bL M5 (λAF=>AS.cj 46 [(0,.sv (ref [ax bk,slc 1 (List.map (eS 4 eQ) bn),slc 1 (List.map (eS 4 eQ) bt),slc 4 (List.map eQ bB),slc 1 (List.map bD cI)])),(3,.sv (slc 1 (List.map (eS 4 eQ) c9))),(4,.row 311),(5,ah qh),(6,.row 323),(7,ah AF.1)] [] [(311,TR 23 1 (eS 4 eQ) l9),(323,TR 43 4 eQ AF.2)]) (cD (λi=>bif Nat.beq i 323 then 321 else i) Y Y Y Y Y ⟨.sv aq,.sv aq,.row Y,.sv aq,.row Y,.sv aq,ak⟩ trivial ⟨⟨_,Y,cg.refl _⟩,⟨_,Y,cg.refl _⟩,ak⟩ (λi hi=>by rw[bV (show i≠323 by omega)];rfl)) (λAF y22 G22 h M7 M8=>?_)
 obtain⟨su,nL⟩:=AF
 try dsimp only
 refine qq<|sr<|mv Y<|mv Y<|RT.cz .none Y T<|RT.bT .none Y T Y<|lr Y Y<|lE h λgX oY h=>ln Y oY<|lE h λjG nO h=>ls _ Y Y nO<|dn ?_
 cases jG
 refine cF<|bN<|aW.x<|aW.x<|bF.x<|aW.n ?_
 obtain rfl:=O (F h)
 exact⟨nL,M8 _ Y,wR []⟩
 refine cT<|bw<|aW.n<|qq<|aY<|aX<|mo (s:=.row _) Y<|mv Y<|mv Y<|mv Y<|RT.cz .none Y T<|RT.bT .none Y T Y<|lr Y Y<|mv Y<|bE (V h) λpg yJ h=>ix Y Y yJ<|lr Y Y ?_
 obtain⟨⟨⟨Ah,Ai⟩,⟨Ev,Ew⟩⟩,Ay,h⟩:=bS h
 refine cl (kL Ay) ⟨Y,Y,Y,ak⟩<|bl (l:=[⟨⟨Ah,Ai⟩,⟨Ev,Ew⟩⟩]) (e:=eQ) (.agg Y (.nil)) Y Y Y Y Y Y<|bE h λnj vm h=>aR (k:=[⟨⟨Ah,Ai⟩,⟨Ev,Ew⟩⟩]) (e:=eQ) Y Y Y vm<|an (s:=.row _) Y<|RT.done<|bF.n<|aW.n<|aX<|mv Y<|lE h λiO pN h=>ad _ Y Y pN<|ag Y<|RT.done ?_
 obtain rfl:=O h
 exact aW.n ⟨(iO,nj),M7 _ Y,cD (λi=>bif Nat.beq i 323 then 40 else i) Y Y Y Y Y ⟨.sv aq,.sv aq,.row Y,.sv aq,.row Y,.sv aq,ak⟩ trivial ⟨⟨_,Y,cg.refl _⟩,⟨_,Y,cg.refl _⟩,ak⟩ (λi hi=>by rw[bV (show i≠323 by omega)];rfl)⟩
 subst M6
 try dsimp only
 refine aW.n<|bR (cV (i:=323) (E1:=43) (n:=4) (e:=eQ) (l:=fo) Y)<|aX<|mo (s:=.row _) Y<|mv Y<|bl (l:=[fo]) (e:=(eS 4 eQ)) (.one Y (.nil)) Y Y Y Y Y Y<|bE o8 λsj Az o8=>aR (k:=[fo]) (e:=(eS 4 eQ)) Y Y Y Az<|an (s:=.row _) Y<|RT.done<|bF.n<|aW.n<|aX<|mv Y<|lE o8 λeX jK o8=>ad _ Y Y jK<|ag Y<|RT.done ?_
 obtain rfl:=O o8
 exact aW.n ⟨(eX,sj),yp _ Y,cD (λi=>bif Nat.beq i 311 then 44 else i) Y Y Y Y Y ⟨.sv aq,.sv aq,.row Y,.sv aq,ak⟩ trivial ⟨⟨_,Y,cg.refl _⟩,ak⟩ (λi hi=>by rw[bV (show i≠311 by omega)];rfl)⟩
 subst uS
 try dsimp only
 refine aW.n<|sr<|mo (s:=.row _) Y<|an (s:=.row _) Y<|dn<|bR (cV (i:=311) (E1:=23) (n:=1) (e:=(eS 4 eQ)) (l:=gM) Y)<|bf ?_
 obtain rfl:=O ko
 exact R1 Y
theorem Dq{x0:Rt}{r:Bool}(h:oT x0=some r):Pure af 32 [ref (X9 x0)] (ay r):=by
 obtain⟨⟨bk,bn,bt,bB⟩,cI⟩:=x0
 refine bj Tryz.func32 Y (ae Y) (λdw M vs hvs=>?_)
 unfold oT at h
 refine sr<|ag Y<|dn<|sr<|mv Y<|bE h λx7 h7 h=>cl (xe h7) ⟨Y,ak⟩ ?_
 obtain⟨⟨ZF,ZG⟩,h8,h⟩:=bS h
 refine cl (sP h8) ⟨Y,ak⟩<|mv Y<|ex Y Y<|ex Y Y<|ag Y<|ag Y<|dn<|sr<|mv Y<|lE h λc9 fC h=>eq _ Y Y (ve (p:=ZG) (q:=0) fC)<|ag Y<|dn<|bf ?_
 obtain rfl:=O h
 exact R1 Y
theorem Ex{x0:Rt}{r:List (List Qr)}(h:mI x0=some r):Pure af 62 [ref (X9 x0)] (slc 1 (List.map (eS 4 eQ) r)):=by
 obtain⟨⟨bk,bn,bt,bB⟩,cI⟩:=x0
 refine bj Tryz.func62 Y (ae Y) (λdw M vs hvs=>?_)
 unfold mI at h
 refine sr<|aI Y (aB (n:=1) (e:=(eS 4 eQ)))<|dn<|sr<|mv Y<|bE h λx7 h7 h=>cl (xe h7) ⟨Y,ak⟩ ?_
 obtain⟨⟨ZF,ZG⟩,h8,h⟩:=bS h
 refine cl (sP h8) ⟨Y,ak⟩<|mv Y<|ex Y Y<|ex Y Y<|ag Y<|ag Y<|dn<|sr<|mv Y<|mv Y<|RT.cz .none Y T<|RT.bT .none Y T Y<|RT.gy (cs:=[_,_,_,_]) .none Y T Y Y<|bE h λfB lq h=>cl (xd lq) ⟨Y,ak⟩<|bE h λdX jO h=>cl (Nu jO) ⟨Y,Y,ak⟩<|ag Y ?_
 refine dn<|bf ?_
 obtain rfl:=O h
 exact R1 Y
theorem xU{x0:Rt}{r:List Qr}(h:jc x0=some r):Pure af 67 [ref (X9 x0)] (slc 4 (List.map eQ r)):=by
 obtain⟨⟨bk,bn,bt,bB⟩,cI⟩:=x0
 refine bj Tryz.func67 Y (ae Y) (λdw M vs hvs=>?_)
 unfold jc at h
 refine sr<|aI Y (aB (n:=4) (e:=eQ))<|dn<|sr<|mv Y<|bE h λx7 h7 h=>cl (xe h7) ⟨Y,ak⟩ ?_
 obtain⟨⟨ZF,ZG⟩,h8,h⟩:=bS h
 refine cl (sP h8) ⟨Y,ak⟩<|mv Y<|ex Y Y<|ex Y Y<|ag Y<|ag Y<|dn<|sr<|mv Y<|mv Y<|RT.cz .none Y T<|RT.bT .none Y T Y<|RT.bT .none Y T Y<|lr Y Y<|bE h λdX jO h=>cl (Jt jO) ⟨Y,Y,ak⟩<|ag Y<|dn<|bf ?_
 obtain rfl:=O h
 exact R1 Y
theorem Gr{x0:Rt}{x1:List Qr}{r:List Qr}(h:ql x0 x1=some r):Pure af 75 [ref (X9 x0),slc 4 (List.map eQ x1)] (slc 4 (List.map eQ r)):=by
 obtain⟨⟨bk,bn,bt,bB⟩,cI⟩:=x0
 refine bj Tryz.func75 Y (ae Y) (λdw M vs hvs=>?_)
 unfold ql at h
 refine sr<|aI Y (aB (n:=4) (e:=eQ))<|dn<|qq<|aZ mixed<|mv Y<|RT.cz .none Y T<|RT.bT .none Y T Y<|RT.bT .none Y T Y<|lr Y Y<|lE h λc9 fC h=>ln Y fC<|mv Y<|RT.cz .none Y T<|RT.bT .none Y T Y<|RT.bT .none Y T Y<|lr Y Y<|lE h λeX jK h=>ad _ Y Y jK<|bE h λjl mw h=>cl (tg mw) ⟨Y,Y,ak⟩ ?_
 refine ag Y ?_
 refine RT.done ⟨by kernel_rfl,?_⟩
 refine aW.n<|qq<|sr<|ag Y<|dn<|bE h λe6 vA jo=>?_
 refine bK (λ(wE:(List Qr))=>AS.cj 47 [(5,.sv (slc 4 (List.map eQ wE)))] [] []) (λwE=>wE=e6) ?_ (λwE vB=>?_)
 refine aY ?_
 refine bL vA (λs6=>AS.cj 47 [(0,.sv (ref [ax bk,slc 1 (List.map (eS 4 eQ) bn),slc 1 (List.map (eS 4 eQ) bt),slc 4 (List.map eQ bB),slc 1 (List.map bD cI)])),(1,.sv (slc 4 (List.map eQ x1))),(5,.sv (slc 4 (List.map eQ s6.1))),(6,ah s6.2)] [] []) (wR []) (λs6 y6 G6 h vC qy=>?_)
 obtain⟨iD,mz⟩:=s6
 try dsimp only
 refine qq<|sr<|mv Y<|mv Y<|RT.cz .none Y T<|RT.bT .none Y T Y<|lr Y Y<|lE h λjG nO h=>ln Y nO<|lE h λjH rV h=>ls _ Y Y rV<|dn ?_
 cases jH
 refine cF<|bN<|aW.x<|aW.x<|bF.x<|aW.n ?_
 obtain rfl:=O (F h)
 exact⟨iD,qy _ Y,wR []⟩
 refine cT<|bw<|aW.n<|qq<|aY<|aZ mixed<|mv Y<|mv Y ?_
 obtain⟨⟨⟨OJ,OK⟩,⟨adT,adU⟩⟩,yz,h⟩:=bS (V h)
 refine cl (mF yz) ⟨Y,Y,ak⟩<|mv Y<|RT.cz .none Y T<|RT.bT .none Y T Y<|RT.gy (cs:=[_,_,_,_]) .none Y T Y Y<|mv Y<|RT.cz .none Y T<|RT.bT .none Y T Y<|lr Y Y<|mv Y<|bE h λyF GK h=>ix Y Y GK<|lr Y Y<|bE h λvf EX h=>cl (BA EX) ⟨Y,Y,ak⟩<|mv Y<|bE h λzu Io h=>cl (oN Io) ⟨Y,Y,Y,ak⟩ ?_
 refine ag Y ?_
 refine RT.done ⟨by kernel_rfl,?_⟩
 refine bF.n<|aW.n<|aX<|mv Y<|lE h λkT uO h=>ad _ Y Y uO<|ag Y<|RT.done ?_
 obtain rfl:=O h
 exact aW.n ⟨(zu,kT),vC _ Y,wR []⟩
 subst vB
 try dsimp only
 refine aW.n<|sr<|mv Y<|ag Y<|dn<|bf ?_
 obtain rfl:=O jo
 exact R1 Y
theorem uz{x0:Rt}{r:List (List Qr)}(h:fH x0=some r):Pure af 27 [ref (X9 x0)] (slc 1 (List.map (eS 4 eQ) r)):=by
 obtain⟨⟨bk,bn,bt,bB⟩,cI⟩:=x0
 refine bj Tryz.func27 Y (ae Y) (λdw M vs hvs=>?_)
 unfold fH at h
 refine sr<|aI Y (aB (n:=1) (e:=(eS 4 eQ)))<|dn<|sr<|mv Y<|bE h λx9 h9 h=>cl (Ex h9) ⟨Y,ak⟩<|ag Y<|dn<|sr<|ag Y<|dn<|bR (c8 4 304 23 1 Y Y T)<|qq<|sr<|ag Y<|dn<|bE h λEc wW ko=>?_
 refine bK (λ(gM:(List (List Qr)))=>AS.cj 56 [(4,.row 311)] [] [(311,TR 23 1 (eS 4 eQ) gM)]) (λgM=>gM=Ec) ?_ (λgM uS=>?_)
 refine aY ?_
 refine bL wW (λpA=>AS.cj 56 [(0,.sv (ref [ax bk,slc 1 (List.map (eS 4 eQ) bn),slc 1 (List.map (eS 4 eQ) bt),slc 4 (List.map eQ bB),slc 1 (List.map bD cI)])),(3,.sv (slc 1 (List.map (eS 4 eQ) x9))),(4,.row 311),(5,ah pA.1)] [] [(311,TR 23 1 (eS 4 eQ) pA.2)]) (cD (λi=>bif Nat.beq i 311 then 304 else i) Y Y Y Y Y ⟨.sv aq,.sv aq,.row Y,.sv aq,ak⟩ trivial ⟨⟨_,Y,cg.refl _⟩,ak⟩ (λi hi=>by rw[bV (show i≠311 by omega)];rfl)) (λpA ZK ZL h yp vI=>?_)
 obtain⟨qh,l9⟩:=pA
 try dsimp only
 refine qq<|qq<|aZ mixed<|mv Y<|mv Y<|RT.cz .none Y T<|RT.bT .none Y T Y<|RT.bT .none Y T Y<|lr Y Y<|mv Y<|RT.cz .none Y T<|RT.bT .none Y T Y<|RT.bT .none Y T Y<|lr Y Y<|lE h λfL ke h=>ln Y ke<|lE h λiA oH h=>ad _ Y Y oH<|lE h λjg qP h=>ls _ Y Y qP ?_
 refine RT.done ⟨by kernel_rfl,?_⟩
 refine aW.n ?_
 cases jg
 refine cF<|bN<|aW.x<|aW.x<|bF.x<|aW.n ?_
 obtain rfl:=O (F h)
 exact⟨l9,vI _ Y,wR []⟩
 refine cT<|bw<|aW.n<|qq<|aY<|sr<|ag Y<|dn<|bR (c8 6 321 43 4 Y Y T)<|qq<|sr<|ag Y<|dn<|bE (V h) λe22 M5 o8=>?_
 refine bK (λ(fo:(List Qr))=>AS.cj 56 [(0,.sv (ref [ax bk,slc 1 (List.map (eS 4 eQ) bn),slc 1 (List.map (eS 4 eQ) bt),slc 4 (List.map eQ bB),slc 1 (List.map bD cI)])),(3,.sv (slc 1 (List.map (eS 4 eQ) x9))),(4,.row 311),(5,ah qh),(6,.row 323)] [] [(311,TR 23 1 (eS 4 eQ) l9),(323,TR 43 4 eQ fo)]) (λfo=>fo=e22) ?_ (λfo M6=>?_)
 refine aY ?_
 refine bL M5 (λAF=>AS.cj 56 [(0,.sv (ref [ax bk,slc 1 (List.map (eS 4 eQ) bn),slc 1 (List.map (eS 4 eQ) bt),slc 4 (List.map eQ bB),slc 1 (List.map bD cI)])),(3,.sv (slc 1 (List.map (eS 4 eQ) x9))),(4,.row 311),(5,ah qh),(6,.row 323),(7,ah AF.1)] [] [(311,TR 23 1 (eS 4 eQ) l9),(323,TR 43 4 eQ AF.2)]) (cD (λi=>bif Nat.beq i 323 then 321 else i) Y Y Y Y Y ⟨.sv aq,.sv aq,.row Y,.sv aq,.row Y,.sv aq,ak⟩ trivial ⟨⟨_,Y,cg.refl _⟩,⟨_,Y,cg.refl _⟩,ak⟩ (λi hi=>by rw[bV (show i≠323 by omega)];rfl)) (λAF y22 G22 h M7 M8=>?_)
 obtain⟨su,nL⟩:=AF
 try dsimp only
 refine qq<|sr<|mv Y<|mv Y<|lE h λkT uO h=>ln Y uO<|lE h λgI mZ h=>ls _ Y Y mZ<|dn ?_
 cases gI
 refine cF<|bN<|aW.x<|aW.x<|bF.x<|aW.n ?_
 obtain rfl:=O (F h)
 exact⟨nL,M8 _ Y,wR []⟩
 refine cT<|bw<|aW.n<|qq<|aY<|aX<|mo (s:=.row _) Y<|mv Y<|mv Y<|bE (V h) λku vE h=>ix Y Y vE<|lr Y Y<|mv Y ?_
 obtain⟨⟨⟨Ah,Ai⟩,⟨Ev,Ew⟩⟩,Ay,h⟩:=bS h
 refine ix Y Y Ay<|RT.gy (cs:=[_,_,_,_]) .none Y T Y Y<|bl (l:=[⟨⟨Ah,Ai⟩,⟨Ev,Ew⟩⟩]) (e:=eQ) (.agg Y (.nil)) Y Y Y Y Y Y<|bE h λyF GK h=>aR (k:=[⟨⟨Ah,Ai⟩,⟨Ev,Ew⟩⟩]) (e:=eQ) Y Y Y GK<|an (s:=.row _) Y<|RT.done<|bF.n<|aW.n<|aX<|mv Y<|lE h λnU yz h=>ad _ Y Y yz<|ag Y<|RT.done ?_
 obtain rfl:=O h
 exact aW.n ⟨(nU,yF),M7 _ Y,cD (λi=>bif Nat.beq i 323 then 41 else i) Y Y Y Y Y ⟨.sv aq,.sv aq,.row Y,.sv aq,.row Y,.sv aq,ak⟩ trivial ⟨⟨_,Y,cg.refl _⟩,⟨_,Y,cg.refl _⟩,ak⟩ (λi hi=>by rw[bV (show i≠323 by omega)];rfl)⟩
 subst M6
 try dsimp only
 refine aW.n<|bR (cV (i:=323) (E1:=43) (n:=4) (e:=eQ) (l:=fo) Y)<|aZ mixed<|mo (s:=.row _) Y<|mv Y<|mv Y<|bE o8 λzu Io o8=>cl (Gr Io) ⟨Y,Y,ak⟩<|mv Y<|RT.cz .none Y T<|RT.bT .none Y T Y<|RT.gy (cs:=[_,_,_,_]) .none Y T Y Y<|mv Y<|bE o8 λBT Ip o8=>cl (BA Ip) ⟨Y,Y,ak⟩<|bE o8 λAD GL o8=>cl (Nn GL) ⟨Y,Y,ak⟩ ?_
 refine bl (l:=[AD]) (e:=(eS 4 eQ)) (.one Y (.nil)) Y Y Y Y Y Y<|bE o8 λCg Ll o8=>aR (k:=[AD]) (e:=(eS 4 eQ)) Y Y Y Ll<|an (s:=.row _) Y ?_
 refine RT.done ⟨by kernel_rfl,?_⟩
 refine bF.n<|aW.n<|aX<|mv Y<|lE o8 λjG nO o8=>ad _ Y Y nO<|ag Y<|RT.done ?_
 obtain rfl:=O o8
 exact aW.n ⟨(jG,Cg),yp _ Y,cD (λi=>bif Nat.beq i 311 then 54 else i) Y Y Y Y Y ⟨.sv aq,.sv aq,.row Y,.sv aq,ak⟩ trivial ⟨⟨_,Y,cg.refl _⟩,ak⟩ (λi hi=>by rw[bV (show i≠311 by omega)];rfl)⟩
 subst uS
 try dsimp only
 refine aW.n<|sr<|mo (s:=.row _) Y<|an (s:=.row _) Y<|dn<|bR (cV (i:=311) (E1:=23) (n:=1) (e:=(eS 4 eQ)) (l:=gM) Y)<|bf ?_
 obtain rfl:=O ko
 exact R1 Y
theorem KS{x0:Rt}{r:List Qr}(h:rL x0=some r):Pure af 68 [ref (X9 x0)] (slc 4 (List.map eQ r)):=by
 obtain⟨⟨bk,bn,bt,bB⟩,cI⟩:=x0
 refine bj Tryz.func68 Y (ae Y) (λdw M vs hvs=>?_)
 unfold rL at h
 refine sr<|aI Y (aB (n:=4) (e:=eQ))<|dn<|sr<|mv Y<|mv Y<|bE h λx5 h5 h=>cl (xU h5) ⟨Y,ak⟩<|bE h λx6 h6 h=>cl (Gr h6) ⟨Y,Y,ak⟩<|ag Y<|dn<|bf ?_
 obtain rfl:=O h
 exact R1 Y
theorem FJ{x0:Rt}{r:List Qr}(h:nc x0=some r):Pure af 69 [ref (X9 x0)] (slc 4 (List.map eQ r)):=by
 obtain⟨⟨bk,bn,bt,bB⟩,cI⟩:=x0
 refine bj Tryz.func69 Y (ae Y) (λdw M vs hvs=>?_)
 unfold nc at h
 refine sr<|aI Y (aB (n:=4) (e:=eQ))<|dn<|sr<|mv Y<|RT.cz .none Y T<|RT.bT .none Y T Y<|RT.bT .none Y T Y<|lr Y Y<|bE h λfz lp h=>cN (xb lp) ⟨Y,Y,ak⟩<|an (s:=.row _) Y<|dn<|sr<|mv Y<|bE h λeD iF h=>cl (xU iF) ⟨Y,ak⟩<|ag Y<|dn<|qq<|sr<|ag Y ?_
 refine dn<|bE h λFm yh pq=>?_
 refine bK (λ(Js:(List Qr))=>AS.cj 50 [(3,.row 11)] [] [(11,TR 43 4 eQ Js)]) (λJs=>Js=Fm) ?_ (λJs yj=>?_)
 refine aY ?_
 refine bL yh (λuH=>AS.cj 50 [(0,.sv (ref [ax bk,slc 1 (List.map (eS 4 eQ) bn),slc 1 (List.map (eS 4 eQ) bt),slc 4 (List.map eQ bB),slc 1 (List.map bD cI)])),(3,.row 11),(4,.sv (slc 4 (List.map eQ eD))),(5,ah uH.1)] [] [(11,TR 43 4 eQ uH.2)]) (wR []) (λuH ZD ZE h yl uN=>?_)
 obtain⟨Dm,Jr⟩:=uH
 try dsimp only
 refine qq<|sr<|mv Y<|mv Y<|RT.cz .none Y T<|RT.bT .none Y T Y<|lr Y Y<|lE h λjl mw h=>ln Y mw<|lE h λij oG h=>ls _ Y Y oG<|dn ?_
 cases ij
 refine cF<|bN<|aW.x<|aW.x<|bF.x<|aW.n ?_
 obtain rfl:=O (F h)
 exact⟨Jr,uN _ Y,wR []⟩
 refine cT<|bw<|aW.n<|qq<|aY<|qq<|aZ mixed<|mv Y<|RT.cz .none Y T<|RT.bT .none Y T Y<|lr Y Y<|mv Y<|bE (V h) λkT uO h=>ix Y Y uO<|lr Y Y<|mv Y<|RT.cz .none Y T<|RT.bT .none Y T Y<|RT.bT .none Y T Y<|lr Y Y<|lE h λku vE h=>ls _ Y Y vE ?_
 refine RT.done ⟨by kernel_rfl,?_⟩
 refine aW.n ?_
 refine bJ h (λGI=>AS.cj 50 [(0,.sv (ref [ax bk,slc 1 (List.map (eS 4 eQ) bn),slc 1 (List.map (eS 4 eQ) bt),slc 4 (List.map eQ bB),slc 1 (List.map bD cI)])),(3,.row 11),(4,.sv (slc 4 (List.map eQ eD))),(5,ah Dm)] [] [(11,TR 43 4 eQ GI)]) (λh=>?_) (λSf h=>?_)
 cases ku
 exact fs<|⟨Jr,(F h),wR []⟩
 refine cT<|aZ mixed<|mo (s:=.row _) Y<|mv Y<|RT.cz .none Y T<|RT.bT .none Y T Y<|lr Y Y<|mv Y<|bE (V h) λnE ym h=>ix Y Y ym<|lr Y Y<|mv Y<|mv Y ?_
 obtain⟨⟨⟨Jm,Jn⟩,⟨Jo,Jp⟩⟩,h46,h⟩:=bS h
 refine ix Y Y h46<|RT.gy (cs:=[_,_,_,_]) .none Y T Y Y<|bE h λr9 h48 h=>iR Y Y Y h48<|bE h λTh Xk h=>sA ⟨⟨Jm,Jn⟩,⟨Jo,Jp⟩⟩ Y Y Y Xk ?_
 refine RT.done ⟨by kernel_rfl,?_⟩
 exact aW.n<|⟨Th,h,wR []⟩
 try dsimp only
 refine bF.n<|aW.n<|aX<|mv Y<|lE h λiA oH h=>ad _ Y Y oH<|ag Y<|RT.done ?_
 obtain rfl:=O h
 exact aW.n ⟨(iA,Sf),yl _ Y,wR []⟩
 subst yj
 try dsimp only
 refine aW.n<|sr<|mo (s:=.row _) Y<|an (s:=.row _) Y<|dn<|bR (cV (i:=11) (E1:=43) (n:=4) (e:=eQ) (l:=Js) Y)<|bf ?_
 obtain rfl:=O pq
 exact R1 Y
theorem FK{x0:Rt}{r:Bool}(h:nf x0=some r):Pure af 70 [ref (X9 x0)] (ay r):=by
 obtain⟨⟨bk,bn,bt,bB⟩,cI⟩:=x0
 refine bj Tryz.func70 Y (ae Y) (λdw M vs hvs=>?_)
 unfold nf at h
 refine sr<|ag Y<|dn<|sr<|mv Y<|bE h λx6 h6 h=>cl (xU h6) ⟨Y,ak⟩<|ag Y<|dn<|qq<|sr<|ag Y<|dn<|bE h λe6 vA jo=>?_
 refine bK (λ(uI:Unit)=>AS.cj 19 [] [] []) (λuI=>.inl uI=e6) ?_ (λuI vB=>?_)
 refine aY ?_
 refine bL vA (λs6=>AS.cj 19 [(3,.sv (slc 4 (List.map eQ x6))),(4,ah s6)] [] []) (wR []) (λqQ y6 G6 h vC qy=>?_)
 try dsimp only
 refine qq<|sr<|mv Y<|mv Y<|lE h λx9 h9 h=>ln Y h9<|lE h λdI gC h=>ls _ Y Y gC<|dn ?_
 cases dI
 refine cF<|bN<|aW.x<|aW.x<|bF.x<|aW.n ?_
 obtain rfl:=O (F h)
 exact⟨(),qy _ Y,wR []⟩
 refine cT<|bw<|aW.n<|qq<|aY<|sr<|mv Y<|mv Y ?_
 obtain⟨⟨⟨jQ,jR⟩,⟨xK,xL⟩⟩,gD,h⟩:=bS (V h)
 refine ix Y Y gD<|RT.gy (cs:=[_,_,_,_]) .none Y T Y Y<|bE h λdX jO h=>cl (tf jO) ⟨Y,ak⟩<|lE h λeX jK h=>ls _ Y Y jK<|dn ?_
 cases eX
 refine cF<|bw<|bF.n<|aW.n<|aX<|mv Y<|lE (F h) λc9 fC h=>ad _ Y Y fC<|ag Y<|RT.done ?_
 obtain rfl:=O h
 exact aW.n ⟨c9,vC _ Y,wR []⟩
 refine cT<|sr<|ag Y<|dn<|bf<|bF.r<|aW.r ?_
 obtain rfl:=O (V h)
 have GJ:=qy _ Y
 subst GJ
 refine aW.r<|bF.r<|aW.r<|aW.r ?_
 obtain rfl:=O jo
 exact R1 Y
 subst vB
 try dsimp only
 refine aW.n<|sr<|ag Y<|dn<|bf ?_
 obtain rfl:=O jo
 exact R1 Y
theorem GZ{x0:Rt}{r:Bool}(h:ot x0=some r):Pure af 71 [ref (X9 x0)] (ay r):=by
 obtain⟨⟨bk,bn,bt,bB⟩,cI⟩:=x0
 refine bj Tryz.func71 Y (ae Y) (λdw M vs hvs=>?_)
 unfold ot at h
 refine sr<|ag Y<|dn<|sr<|mv Y<|bE h λx6 h6 h=>cl (uz h6) ⟨Y,ak⟩<|ag Y<|dn<|qq<|sr<|ag Y<|dn<|bE h λe6 vA jo=>?_
 refine bK (λ(uI:Unit)=>AS.cj 19 [] [] []) (λuI=>.inl uI=e6) ?_ (λuI vB=>?_)
 refine aY ?_
 refine bL vA (λs6=>AS.cj 19 [(3,.sv (slc 1 (List.map (eS 4 eQ) x6))),(4,ah s6)] [] []) (wR []) (λqQ y6 G6 h vC qy=>?_)
 try dsimp only
 refine qq<|sr<|mv Y<|mv Y<|lE h λx9 h9 h=>ln Y h9<|lE h λdI gC h=>ls _ Y Y gC<|dn ?_
 cases dI
 refine cF<|bN<|aW.x<|aW.x<|bF.x<|aW.n ?_
 obtain rfl:=O (F h)
 exact⟨(),qy _ Y,wR []⟩
 refine cT<|bw<|aW.n<|qq<|aY<|sr<|mv Y<|mv Y<|bE (V h) λdH gD h=>ix Y Y gD<|lr Y Y<|bE h λdX jO h=>cl ((Np jO).w (args':=[_,_]) ⟨aq,aB,ak⟩) ⟨Y,Y,ak⟩<|lE h λeX jK h=>ls _ Y Y jK<|dn ?_
 cases eX
 refine cF<|bw<|bF.n<|aW.n<|aX<|mv Y<|lE (F h) λc9 fC h=>ad _ Y Y fC<|ag Y<|RT.done ?_
 obtain rfl:=O h
 exact aW.n ⟨c9,vC _ Y,wR []⟩
 refine cT<|sr<|ag Y<|dn<|bf<|bF.r<|aW.r ?_
 obtain rfl:=O (V h)
 have GJ:=qy _ Y
 subst GJ
 refine aW.r<|bF.r<|aW.r<|aW.r ?_
 obtain rfl:=O jo
 exact R1 Y
 subst vB
 try dsimp only
 refine aW.n<|sr<|ag Y<|dn<|bf ?_
 obtain rfl:=O jo
 exact R1 Y
theorem P7{x0:Tb}{x1:Rt}{r:Bool}(h:w9 x0 x1=some r):Pure af 23 [ref (zC x0),ref (X9 x1)] (ay r):=by
 obtain⟨bk,bn,bt,bB,cI⟩:=x0
 obtain⟨⟨cu,cm,eE,eG⟩,KM⟩:=x1
 refine bj Tryz.func23 Y (ae Y) (λdw M vs hvs=>?_)
 unfold w9 at h
 refine sr<|ag Y<|dn<|qq<|qq ?_
 refine bJ h (λj12=>AS.cj 67 [(0,.sv (ref [ay bk,ax bn,slc 1 (List.map (eS 4 eQ) bt),slc 1 (List.map bD bB),slc 1 (List.map (eS 4 eQ) cI)])),(1,.sv (ref [ax cu,slc 1 (List.map (eS 4 eQ) cm),slc 1 (List.map (eS 4 eQ) eE),slc 4 (List.map eQ eG),slc 1 (List.map bD KM)])),(40,ai j12)] [] []) (λh=>?_) (λSg h=>?_)
 refine aZ mixed<|mv Y<|RT.WZ .none Y Y T<|mv Y<|bE h λYp oc h=>gm Y<|bE (F oc) λx9 h9 oc=>gc (MX h9) ⟨Y,ak⟩<|gm Y<|RT.cz (.some Y Y) Y T<|RT.bT (.some Y Y) Y T Y<|gr Y Y<|bE oc λei jx oc=>gc (CI jx) ⟨Y,Y,ak⟩<|lE oc λdH gD oc=>Q2 Y _ gD ?_
 obtain rfl:=O oc
 refine pF Y<|mv Y<|bE h λaqt yN h=>?_
 cases dH
 refine gm Y<|bE (F yN) λjl mw yN=>gc (PC mw) ⟨Y,ak⟩<|gm Y<|bE yN λfL ke yN=>gc (Ex ke) ⟨Y,ak⟩<|bE yN λiA oH yN=>gc (Gp oH) ⟨Y,Y,ak⟩<|lE yN λjg qP yN=>Q2 Y _ qP ?_
 obtain rfl:=O yN
 refine pF Y<|mv Y<|bE h λaqu D0 h=>?_
 cases jg
 refine gm Y<|bE (F D0) λiO pN D0=>gc (IZ pN) ⟨Y,ak⟩<|gm Y<|bE D0 λgI mZ D0=>gc (xU mZ) ⟨Y,ak⟩<|bE D0 λoF vD D0=>gc (xR vD) ⟨Y,Y,ak⟩<|lE D0 λnU yz D0=>Q2 Y _ yz ?_
 obtain rfl:=O D0
 refine pF Y<|mv Y<|bE h λafC D1 h=>?_
 cases nU
 refine gm Y<|bE (F D1) λku vE D1=>gc (Cn vE) ⟨Y,ak⟩<|gm Y<|bE D1 λuG DW D1=>gc (uz DW) ⟨Y,ak⟩<|bE D1 λqX Ay D1=>gc (Gp Ay) ⟨Y,Y,ak⟩<|lE D1 λvY DX D1=>Q2 Y _ DX ?_
 obtain rfl:=O D1
 refine pF Y ?_
 refine RT.done ⟨by kernel_rfl,?_⟩
 exact aW.n<|⟨vY,h,wR []⟩
 obtain rfl:=O (V D1)
 refine ww<|ww<|ww<|ww<|ww<|ww<|pT Y ?_
 refine RT.done ⟨by kernel_rfl,?_⟩
 exact aW.n<|⟨true,h,wR []⟩
 obtain rfl:=O (V D0)
 refine ww<|ww<|ww<|ww<|ww<|ww<|pT Y<|mv Y<|bE h λaqv WN h=>?_
 obtain rfl:=O (V WN)
 refine ww<|ww<|ww<|ww<|ww<|ww<|pT Y ?_
 refine RT.done ⟨by kernel_rfl,?_⟩
 exact aW.n<|⟨true,h,wR []⟩
 obtain rfl:=O (V yN)
 refine ww<|ww<|ww<|ww<|ww<|ww<|pT Y<|mv Y<|bE h λaqw MJ h=>?_
 obtain rfl:=O (V MJ)
 refine ww<|ww<|ww<|ww<|ww<|ww<|pT Y<|mv Y<|bE h λafD Kr h=>?_
 obtain rfl:=O (V Kr)
 refine ww<|ww<|ww<|ww<|ww<|ww<|pT Y ?_
 refine RT.done ⟨by kernel_rfl,?_⟩
 exact aW.n<|⟨true,h,wR []⟩
 try dsimp only
 refine aW.n ?_
 cases Sg
 refine fs<|qq ?_
 refine bJ (F h) (λj22=>AS.cj 67 [(4,ai j22)] [] []) (λh=>?_) (λadV h=>?_)
 refine aX<|mv Y<|bE h λnE ym h=>cl (MY ym) ⟨Y,ak⟩<|mv Y<|bE h λsj Az h=>cl (KS Az) ⟨Y,ak⟩<|bE h λzu Io h=>cl (xR Io) ⟨Y,Y,ak⟩<|mv Y<|bE h λYo jq h=>?_
 cases zu
 obtain rfl:=O (F jq)
 refine ww<|ww<|ww<|ww<|ww<|pF Y<|mv Y<|bE h λaqx yM h=>?_
 obtain rfl:=O (F yM)
 refine ww<|ww<|ww<|ww<|ww<|pF Y<|mv Y<|bE h λaqy r6 h=>?_
 obtain rfl:=O (F r6)
 exact ww<|ww<|ww<|ww<|ww<|pF Y<|ag Y<|dn<|⟨false,h,wR []⟩
 refine gm Y<|bE (V jq) λr9 h48 jq=>gc (GS h48) ⟨Y,ak⟩<|gm Y<|bE jq λAB Kn jq=>gc (FJ Kn) ⟨Y,ak⟩<|bE jq λBT Ip jq=>gc (xR Ip) ⟨Y,Y,ak⟩ ?_
 obtain rfl:=O jq
 refine pT Y<|mv Y<|bE h λaqz kn h=>?_
 cases BT
 obtain rfl:=O (F kn)
 refine ww<|ww<|ww<|ww<|ww<|pF Y<|mv Y<|bE h λaqA I2 h=>?_
 obtain rfl:=O (F I2)
 exact ww<|ww<|ww<|ww<|ww<|pF Y<|ag Y<|dn<|⟨false,h,wR []⟩
 refine gm Y<|bE (V kn) λAE OO kn=>gc (Ao OO) ⟨Y,ak⟩<|gm Y<|bE kn λN3 Ww kn=>gc (FK Ww) ⟨Y,ak⟩<|lE kn λAx Rg kn=>RT.ZT (.some Y Y) _ Y Y T Rg ?_
 obtain rfl:=O kn
 refine pT Y<|mv Y<|bE h λaqB ue h=>?_
 cases Ax
 obtain rfl:=O (F ue)
 exact ww<|ww<|ww<|ww<|ww<|pF Y<|ag Y<|dn<|⟨false,h,wR []⟩
 refine gm Y<|bE (V ue) λDy Wx ue=>gc (Bp Wx) ⟨Y,ak⟩<|gm Y<|bE ue λx64 h64 ue=>gc (GZ h64) ⟨Y,ak⟩<|lE ue λN4 Vs ue=>RT.ZT (.some Y Y) _ Y Y T Vs ?_
 obtain rfl:=O ue
 exact pT Y<|ag Y<|dn<|⟨N4,h,wR []⟩
 try dsimp only
 refine aW.n<|bf ?_
 obtain rfl:=O h
 exact R1 Y
 refine cT<|sr<|ag Y<|dn<|bf<|aW.r ?_
 obtain rfl:=O (V h)
 exact R1 Y
end
section
open Go.Fw
noncomputable def jE(x0:Lr)(x1:List Int):Option (Bool):=match x0 with|⟨bk,bn,bt,bB⟩=>cE (λ(w5:Bool)=>(bif w5 then(eP).bind λdH=>some dH else(nC 8 [] x1).bind λjl=>(ji ⟨bk,bn,bt,bB⟩ jl).bind λ⟨Af,Ag,Cz,CA,Jw⟩=>cE (λ(BB:Bool)=>(bif BB then cE (λ(adW:Bool)=>some adW) λXd=>(bif false then none else some false).bind λYq=>(bif Yq then(eP).bind λvY=>some vY else some false).bind λagK=>Xd agK else(oT ⟨⟨bk,bn,bt,bB⟩,x1⟩).bind λvg=>(some (!vg)).bind λsE=>(bif sE then cE (λ(adX:Bool)=>some adX) λK27=>(bif false then none else some false).bind λYr=>(bif Yr then(eP).bind λAE=>some AE else some false).bind λagL=>K27 agL else cE (λ(adY:Bool)=>some adY) λK35=>(bif true then(w9 ⟨Af,Ag,Cz,CA,Jw⟩ ⟨⟨bk,bn,bt,bB⟩,x1⟩).bind λDy=>some Dy else none).bind λYs=>(bif Ys then(eP).bind λN4=>some N4 else some false).bind λagM=>K35 agM))) λK6=>(kK ⟨bk,bn,bt,bB⟩).bind λgX=>(some (!gX)).bind λjG=>(bif jG then some true else(jb ⟨bk,bn,bt,bB⟩ x1).bind λgI=>(some (!gI)).bind λoF=>some oF).bind λYt=>K6 Yt)) λK3=>(mS ⟨bk,bn,bt,bB⟩).bind λx9=>(bif x9 then some true else(some (x1.length:Int)).bind λc9=>(some (decide ((8:Int)<c9))).bind λeD=>some eD).bind λYu=>K3 Yu
noncomputable def me(x0:Lr)(x1:List Int):Option (Unit):=match x0 with|⟨bk,bn,bt,bB⟩=>cE (λ(qY:Bool)=>(bif qY then some ()else(some (bt.length:Int)).bind λkT=>(some (IntKind.i64.wrap (bk+kT))).bind λgI=>(Hf 1 gI (false:Bool)).bind λoF=>(some (x1.length:Int)).bind λiP=>(bX (λ(LK:Int×(List Bool))=>match LK with|⟨om,jV⟩=>(show Option ((Int×(List Bool))⊕((Unit)⊕(Unit)))from(some (decide ((om:Int)<iP))).bind λsX=>(bif sX then(cL x1 om).bind λku=>cE (λ(w6:Bool)=>(bif w6 then some (.inr (.inr ()))else(kW jV ku).bind λKy=>(stM jV Ky true).bind λXS=>(some (IntKind.i64.wrap (om+1))).bind λCg=>some (.inl (Cg,XS)))) λK27=>(some (decide ((ku:Int)<0))).bind λqX=>(bif qX then some true else(some (jV.length:Int)).bind λnE=>(some (decide ((nE:Int)≤ku))).bind λvf=>some vf).bind λBx=>(bif Bx then some true else(kW jV ku).bind λr9=>(jV[r9]?).bind λJ1=>some J1).bind λJh=>K27 Jh else some (.inr (.inl ()))))) (0,oF)).bind λXT=>match XT with|.inr v21=>some v21|.inl _=>(dW ⟨bk,bn,bt,bB⟩).bind λ⟨lP,lQ,Gl,Gm,Gn⟩=>(some (x1.length:Int)).bind λAx=>(bX (λ(EY:Int×(List (List Qr))×(List Int)×(List (List Qr)))=>match EY with|⟨c7,fJ,fK,ct⟩=>(show Option ((Int×(List (List Qr))×(List Int)×(List (List Qr)))⊕(((List (List Qr))×(List Int)×(List (List Qr)))⊕(Unit)))from(some (decide ((c7:Int)<Ax))).bind λDx=>(bif Dx then(cL x1 c7).bind λDy=>(bX (λ(fE:Int)=>(show Option ((Int)⊕(Int))from cE (λ(qk:Bool)=>(bif qk then(some (IntKind.i64.wrap (fE+1))).bind λIj=>some (.inl Ij)else some (.inr fE))) λK80=>(some (ct.length:Int)).bind λJ3=>(some (decide ((fE:Int)<J3))).bind λHr=>(bif Hr then(kW ct fE).bind λJ5=>(ct[J5]?).bind λF7=>(cL F7 Dy).bind λ⟨⟨Ar,As⟩,⟨At,Au⟩⟩=>(fg ⟨⟨Ar,As⟩,⟨At,Au⟩⟩).bind λN6=>(some (decide ((N6:Int)=0))).bind λJ4=>some J4 else some false).bind λuT=>K80 uT)) c7).bind λfG=>(some (ct.length:Int)).bind λOE=>(some (decide ((fG:Int)=OE))).bind λLH=>(bif LH then none else(kW ct fG).bind λEs=>(ct[Es]?).bind λAW=>(kW ct c7).bind λDR=>(ct[DR]?).bind λCo=>(kW ct c7).bind λKK=>(stM ct KK AW).bind λTt=>(kW Tt fG).bind λKL=>(stM Tt KL Co).bind λTu=>(cX lP lQ fJ fK Tu c7 Dy).bind λ⟨UT,UU,UW⟩=>(some (IntKind.i64.wrap (c7+1))).bind λAX=>some (.inl (AX,UT,UU,UW)))else some (.inr (.inl (fJ,fK,ct)))))) (0,Gl,Gm,Gn)).bind λXU=>match XU with|.inr v67=>some v67|.inl ⟨BY,vR,BZ⟩=>none)) λK3=>(oe ⟨bk,bn,bt,bB⟩).bind λei=>(some (!ei)).bind λdH=>(bif dH then some true else(some (x1.length:Int)).bind λeX=>(some (bt.length:Int)).bind λfL=>(some (decide ((eX:Int)≠fL))).bind λiA=>some iA).bind λBy=>K3 By
noncomputable def ou(x0:Lr)(x1:List Int):Option (Bool):=match x0 with|⟨bk,bn,bt,bB⟩=>cE (λ(w5:Bool)=>(bif w5 then(eP).bind λdH=>some dH else(nC 8 [] x1).bind λjl=>(me ⟨bk,bn,bt,bB⟩ jl).bind λ_=>cE (λ(BB:Bool)=>(bif BB then(eP).bind λvY=>some vY else(oT ⟨⟨bk,bn,bt,bB⟩,x1⟩).bind λvg=>(some (!vg)).bind λsE=>(bif sE then some false else some false))) λK6=>(kK ⟨bk,bn,bt,bB⟩).bind λgX=>(some (!gX)).bind λjG=>(bif jG then some true else(jb ⟨bk,bn,bt,bB⟩ x1).bind λgI=>(some (!gI)).bind λoF=>some oF).bind λBw=>K6 Bw)) λK3=>(mS ⟨bk,bn,bt,bB⟩).bind λx9=>(bif x9 then some true else(some (x1.length:Int)).bind λc9=>(some (decide ((8:Int)<c9))).bind λeD=>some eD).bind λJx=>K3 Jx
noncomputable def mh(x0:Lr)(x1:List Int):Option (Unit):=match x0 with|⟨bk,bn,bt,bB⟩=>cE (λ(qY:Bool)=>(bif qY then none else(some (bt.length:Int)).bind λkT=>(some (IntKind.i64.wrap (bk+kT))).bind λgI=>(Hf 1 gI (false:Bool)).bind λoF=>(some (x1.length:Int)).bind λiP=>(bX (λ(LK:Int×(List Bool))=>match LK with|⟨om,jV⟩=>(show Option ((Int×(List Bool))⊕((Unit)⊕(Unit)))from(some (decide ((om:Int)<iP))).bind λsX=>(bif sX then(cL x1 om).bind λku=>cE (λ(w6:Bool)=>(bif w6 then none else(kW jV ku).bind λKy=>(stM jV Ky true).bind λXS=>(some (IntKind.i64.wrap (om+1))).bind λCg=>some (.inl (Cg,XS)))) λK27=>(some (decide ((ku:Int)<0))).bind λqX=>(bif qX then some true else(some (jV.length:Int)).bind λnE=>(some (decide ((nE:Int)≤ku))).bind λvf=>some vf).bind λBx=>(bif Bx then some true else(kW jV ku).bind λr9=>(jV[r9]?).bind λJ1=>some J1).bind λJh=>K27 Jh else some (.inr (.inl ()))))) (0,oF)).bind λXT=>match XT with|.inr v21=>some v21|.inl _=>(dW ⟨bk,bn,bt,bB⟩).bind λ⟨lP,lQ,Gl,Gm,Gn⟩=>(some (x1.length:Int)).bind λAx=>(bX (λ(EY:Int×(List (List Qr))×(List Int)×(List (List Qr)))=>match EY with|⟨c7,fJ,fK,ct⟩=>(show Option ((Int×(List (List Qr))×(List Int)×(List (List Qr)))⊕(((List (List Qr))×(List Int)×(List (List Qr)))⊕(Unit)))from(some (decide ((c7:Int)<Ax))).bind λDx=>(bif Dx then(cL x1 c7).bind λDy=>(bX (λ(fE:Int)=>(show Option ((Int)⊕(Int))from cE (λ(qk:Bool)=>(bif qk then(some (IntKind.i64.wrap (fE+1))).bind λIj=>some (.inl Ij)else some (.inr fE))) λK80=>(some (ct.length:Int)).bind λJ3=>(some (decide ((fE:Int)<J3))).bind λHr=>(bif Hr then(kW ct fE).bind λJ5=>(ct[J5]?).bind λF7=>(cL F7 Dy).bind λ⟨⟨Ar,As⟩,⟨At,Au⟩⟩=>(fg ⟨⟨Ar,As⟩,⟨At,Au⟩⟩).bind λN6=>(some (decide ((N6:Int)=0))).bind λJ4=>some J4 else some false).bind λuT=>K80 uT)) c7).bind λfG=>(some (ct.length:Int)).bind λOE=>(some (decide ((fG:Int)=OE))).bind λLH=>(bif LH then some (.inr (.inr ()))else(kW ct fG).bind λEs=>(ct[Es]?).bind λAW=>(kW ct c7).bind λDR=>(ct[DR]?).bind λCo=>(kW ct c7).bind λKK=>(stM ct KK AW).bind λTt=>(kW Tt fG).bind λKL=>(stM Tt KL Co).bind λTu=>(cX lP lQ fJ fK Tu c7 Dy).bind λ⟨UT,UU,UW⟩=>(some (IntKind.i64.wrap (c7+1))).bind λAX=>some (.inl (AX,UT,UU,UW)))else some (.inr (.inl (fJ,fK,ct)))))) (0,Gl,Gm,Gn)).bind λXU=>match XU with|.inr v67=>some v67|.inl ⟨BY,vR,BZ⟩=>none)) λK3=>(oe ⟨bk,bn,bt,bB⟩).bind λei=>(some (!ei)).bind λdH=>(bif dH then some true else(some (x1.length:Int)).bind λeX=>(some (bt.length:Int)).bind λfL=>(some (decide ((eX:Int)≠fL))).bind λiA=>some iA).bind λBy=>K3 By
noncomputable def uA(x0:Lr)(x1:List Int):Option (Bool):=match x0 with|⟨bk,bn,bt,bB⟩=>cE (λ(w5:Bool)=>(bif w5 then(eP).bind λdH=>some dH else(nC 8 [] x1).bind λjl=>(mh ⟨bk,bn,bt,bB⟩ jl).bind λ_=>cE (λ(BB:Bool)=>(bif BB then some false else(oT ⟨⟨bk,bn,bt,bB⟩,x1⟩).bind λvg=>(some (!vg)).bind λsE=>(bif sE then(eP).bind λAE=>some AE else some false))) λK6=>(kK ⟨bk,bn,bt,bB⟩).bind λgX=>(some (!gX)).bind λjG=>(bif jG then some true else(jb ⟨bk,bn,bt,bB⟩ x1).bind λgI=>(some (!gI)).bind λoF=>some oF).bind λBw=>K6 Bw)) λK3=>(mS ⟨bk,bn,bt,bB⟩).bind λx9=>(bif x9 then some true else(some (x1.length:Int)).bind λc9=>(some (decide ((8:Int)<c9))).bind λeD=>some eD).bind λJx=>K3 Jx
noncomputable def iw(x0:Lr)(x1:List Int):Option (Bool):=if jE x0 x1=some true then some true else if ou x0 x1=some true then some true else uA x0 x1
end
section
open Go.Fw Go.Fw.Z Go.RowKit
set_option maxHeartbeats 4000000 in
theorem Nw{x0:Lr}{x1:List Int}{r:Bool}(h:jE x0 x1=some r):Pure af 5 [.agg (K0 x0),slc 1 (List.map bD x1)] (ay r):=by
 obtain⟨bk,bn,bt,bB⟩:=x0
 refine bj Tryz.func5 Y (ae Y) (λdw M vs hvs=>?_)
 unfold jE at h
 refine sr<|bx Y<|ag Y<|dn<|qq<|qq ?_
 refine bJ h (λj3=>AS.cj 67 [(1,.sv (slc 1 (List.map bD x1))),(2,.ptr 2 0),(14,ai j3)] [(2,⟨25,[ah bk,.sv (slc 1 (List.map (eS 4 eQ) bn)),.sv (slc 1 (List.map (eS 4 eQ) bt)),.sv (slc 4 (List.map eQ bB))]⟩)] []) (λh=>?_) (λw5 h=>?_)
 refine aX<|ld Y Y (.k4 Y Y Y Y)<|bE h λx9 h9 h=>cl (yt h9) ⟨Y,ak⟩<|mv Y<|bE h λYu Kt h=>?_
 cases x9
 refine gm Y<|lE (F Kt) λc9 fC Kt=>gn Y fC<|lE Kt λeD iF Kt=>gg _ Y Y iF ?_
 obtain rfl:=O Kt
 exact pF Y<|dn<|⟨eD,h,wR []⟩
 obtain rfl:=O (V Kt)
 exact ww<|ww<|ww<|pT Y<|dn<|⟨true,h,wR []⟩
 try dsimp only
 refine aW.n ?_
 cases w5
 refine fs<|qq<|aZ mixed<|ld Y Y (.k4 Y Y Y Y)<|mv Y<|bE (F h) λjl mw h=>RT.aeM (k:=x1) (e:=bD) .none Y Y T Y T mw ?_
 obtain⟨⟨Af,Ag,Cz,CA,Jw⟩,oG,h⟩:=bS h
 refine RT.Ta .none (Bz oG) [304,305,306] (by decide) Y ⟨⟨Y,T⟩,⟨Y,T⟩,⟨Y,T⟩,ak⟩ Y ⟨Y,Y,ak⟩ T Y Y<|mo (s:=.cmp _ _) Y<|RT.D7 .none Y Y T<|RT.D7 .none Y Y T<|an (s:=.ptr _ _) Y<|ag Y ?_
 refine RT.done ⟨by kernel_rfl,?_⟩
 refine aW.n<|qq<|qq ?_
 refine bJ h (λj6=>AS.cj 67 [(1,.sv (slc 1 (List.map bD x1))),(2,.ptr 2 0),(5,.ptr 20 0),(6,ah 0),(31,ai j6)] [(20,⟨79,[ai Af,ah Ag,.row 304,.row 305,.row 306]⟩),(2,⟨25,[ah bk,.sv (slc 1 (List.map (eS 4 eQ) bn)),.sv (slc 1 (List.map (eS 4 eQ) bt)),.sv (slc 4 (List.map eQ bB))]⟩)] [(304,TR 23 1 (eS 4 eQ) Cz),(305,TR 3 1 bD CA),(306,TR 23 1 (eS 4 eQ) Jw)]) (λh=>?_) (λBB h=>?_)
 refine aX<|ld Y Y (.k4 Y Y Y Y)<|bE h λgX oY h=>cl (oP oY) ⟨Y,ak⟩<|lE h λjG nO h=>nt Y _ nO<|mv Y<|bE h λYt Ks h=>?_
 cases jG
 refine gl Y Y (.k4 Y Y Y Y)<|gm Y<|bE (F Ks) λgI mZ Ks=>gc (sQ mZ) ⟨Y,Y,ak⟩<|lE Ks λoF vD Ks=>Q2 Y _ vD ?_
 obtain rfl:=O Ks
 exact pF Y<|dn<|⟨oF,h,wR []⟩
 obtain rfl:=O (V Ks)
 exact ww<|ww<|ww<|ww<|pT Y<|dn<|⟨true,h,wR []⟩
 try dsimp only
 refine aW.n ?_
 cases BB
 refine fs<|sr<|ld Y Y (.k4 Y Y Y Y)<|mv Y ?_
 refine bI (cs:=[_,_,_,_,_]) (cs':=[ax bk,slc 1 (List.map (eS 4 eQ) bn),slc 1 (List.map (eS 4 eQ) bt),slc 4 (List.map eQ bB),slc 1 (List.map bD x1)]) (.agg Y (.one Y (.nil))) ⟨aq,aq,aq,aq,aq,ak⟩<|bx Y<|an (s:=.ptr _ _) Y<|dn<|qq<|qq ?_
 refine bR (iU (i:=44) Y [ax bk,slc 1 (List.map (eS 4 eQ) bn),slc 1 (List.map (eS 4 eQ) bt),slc 4 (List.map eQ bB),slc 1 (List.map bD x1)] (.cons Y (.k4 Y Y Y Y)) .any 0 [(44,.sv (ref [ax bk,slc 1 (List.map (eS 4 eQ) bn),slc 1 (List.map (eS 4 eQ) bt),slc 4 (List.map eQ bB),slc 1 (List.map bD x1)])),(7,.sv (ref [ax bk,slc 1 (List.map (eS 4 eQ) bn),slc 1 (List.map (eS 4 eQ) bt),slc 4 (List.map eQ bB),slc 1 (List.map bD x1)]))] (λ_ _ _=>trivial) (xq.h (l:=[ax bk,slc 1 (List.map (eS 4 eQ) bn),slc 1 (List.map (eS 4 eQ) bt),slc 4 (List.map eQ bB),slc 1 (List.map bD x1)])) ⟨@FT.ptr _ _ _ _ _ 44 0 Y,@FT.ptr _ _ _ _ _ 7 0 Y,ak⟩) ?_
 refine aX<|mv Y<|bE (F h) λvg h46 h=>cl (Dq h46) ⟨Y,ak⟩<|lE h λsE zH h=>nt Y _ zH<|dn ?_
 cases sE
 refine fs<|qq ?_
 refine bJ (F h) (λj35=>AS.cj 67 [(4,ai j35)] [] []) (λh=>?_) (λadY h=>?_)
 refine bR (cV (i:=304) (E1:=23) (n:=1) (e:=(eS 4 eQ)) (l:=Cz) Y)<|bR (cV (i:=305) (E1:=3) (n:=1) (e:=bD) (l:=CA) Y)<|bR (cV (i:=306) (E1:=23) (n:=1) (e:=(eS 4 eQ)) (l:=Jw) Y) ?_
 refine bR (iU (i:=20) Y [ay Af,ax Ag,slc 1 (List.map (eS 4 eQ) Cz),slc 1 (List.map bD CA),slc 1 (List.map (eS 4 eQ) Jw)] (.cons Y (.k4 Y Y Y Y)) .any 0 [(5,.sv (ref [ay Af,ax Ag,slc 1 (List.map (eS 4 eQ) Cz),slc 1 (List.map bD CA),slc 1 (List.map (eS 4 eQ) Jw)]))] (λ_ _ _=>trivial) (xq.h (l:=[ay Af,ax Ag,slc 1 (List.map (eS 4 eQ) Cz),slc 1 (List.map bD CA),slc 1 (List.map (eS 4 eQ) Jw)])) ⟨@FT.ptr _ _ _ _ _ 5 0 Y,ak⟩) ?_
 refine aX<|mv Y<|eq true Y Y (by decide)<|mv Y<|bE h λYs MJ h=>gm Y<|gm Y<|bE (V MJ) λDy Wx MJ=>gc (P7 Wx) ⟨Y,Y,ak⟩ ?_
 obtain rfl:=O MJ
 refine pT Y<|mv Y<|bE h λaqC Kr h=>?_
 cases Dy
 obtain rfl:=O (F Kr)
 exact ww<|pF Y<|ag Y<|dn<|⟨false,h,wR []⟩
 refine bE (V Kr) λN4 Vs Kr=>gc (mc Vs) trivial ?_
 obtain rfl:=O Kr
 exact pT Y<|ag Y<|dn<|⟨N4,h,wR []⟩
 try dsimp only
 refine aW.n<|bf ?_
 obtain rfl:=O h
 exact R1 Y
 refine cT<|qq ?_
 refine bJ (V h) (λj27=>AS.cj 67 [(4,ai j27)] [] []) (λh=>?_) (λadX h=>?_)
 refine aX<|mo (s:=.ptr _ _) Y<|RT.RC .none Y Y T<|mv Y<|bE h λYr r6 h=>?_
 obtain rfl:=O (F r6)
 refine ww<|ww<|pF Y<|mv Y<|bE h λaqD C5 h=>?_
 obtain rfl:=O (F C5)
 exact ww<|pF Y<|ag Y<|dn<|⟨false,h,wR []⟩
 try dsimp only
 refine aW.n<|bf<|aW.r ?_
 obtain rfl:=O h
 exact R1 Y
 refine cT<|qq ?_
 refine bJ (V h) (λj15=>AS.cj 67 [(4,ai j15)] [] []) (λh=>?_) (λadW h=>?_)
 refine aX<|mo (s:=.ptr _ _) Y<|RT.RC .none Y Y T<|mv Y<|bE h λYq Ns h=>?_
 obtain rfl:=O (F Ns)
 refine ww<|ww<|pF Y<|mv Y<|bE h λaqE wB h=>?_
 obtain rfl:=O (F wB)
 exact ww<|pF Y<|ag Y<|dn<|⟨false,h,wR []⟩
 try dsimp only
 refine aW.n<|bf<|aW.r ?_
 obtain rfl:=O h
 exact R1 Y
 refine cT<|sr<|bE (V h) λdH gD h=>cl (mc gD) trivial<|ag Y<|dn<|bf<|aW.r ?_
 obtain rfl:=O h
 exact R1 Y
end
section
open Go.Fw Go.Fw.Z Go.RowKit
set_option maxHeartbeats 4000000 in
theorem Ey{x0:Lr}{x1:List Int}{r:Unit}(h:me x0 x1=some r):Pure af 30 [.agg (K0 x0),slc 1 (List.map bD x1)] (.Ce [.v (.pointer none),ax 1]):=by
 obtain⟨bk,bn,bt,bB⟩:=x0
 refine bj Tryz.func30 Y (ae Y) (λdw M vs hvs=>?_)
 unfold me at h
 refine sr<|bx Y<|ag Y<|ag Y<|dn<|qq<|qq ?_
 refine bJ h (λj3=>AS.cj 133 [(1,.sv (slc 1 (List.map bD x1))),(2,.ptr 2 0),(23,ai j3)] [(2,⟨25,[ah bk,.sv (slc 1 (List.map (eS 4 eQ) bn)),.sv (slc 1 (List.map (eS 4 eQ) bt)),.sv (slc 4 (List.map eQ bB))]⟩)] []) (λh=>?_) (λqY h=>?_)
 refine aX<|ld Y Y (.k4 Y Y Y Y)<|bE h λei jx h=>cl (xP jx) ⟨Y,ak⟩<|lE h λdH gD h=>nt Y _ gD<|mv Y<|bE h λBy uy h=>?_
 cases dH
 refine gm Y<|lE (F uy) λeX jK uy=>gn Y jK<|RT.fieldAddr (.some Y Y) Y T Y<|RT.yy (.some Y Y) Y Y Y T<|lE uy λfL ke uy=>gn Y ke<|lE uy λiA oH uy=>gq _ Y Y (JY (p:=eX) (q:=fL) oH) ?_
 obtain rfl:=O uy
 exact pF Y<|dn<|⟨iA,h,wR []⟩
 obtain rfl:=O (V uy)
 exact ww<|ww<|ww<|ww<|ww<|ww<|pT Y<|dn<|⟨true,h,wR []⟩
 try dsimp only
 refine aW.n ?_
 cases qY
 refine fs<|sr<|fa Y Y<|lV Y Y Y<|fa Y Y<|lV Y Y Y<|lE (F h) λkT uO h=>ln Y uO<|lE h λgI mZ h=>ad _ Y Y mZ<|bE h λoF vD h=>RT.tK (n:=1) (e:=eB) .none Y Y T Y T (by rfl) (by decide) (by exact⟨aq,ak⟩) vD<|an (s:=.row _) Y<|dn<|qq<|sr<|mv Y<|lE h λiP pW h=>ln Y pW<|mv Y ?_
 refine dn<|bE h λXT XV AA=>?_
 refine bK (λ(Ji:Unit)=>AS.cj 133 [(1,.sv (slc 1 (List.map bD x1))),(2,.ptr 2 0)] [(2,⟨25,[ah bk,.sv (slc 1 (List.map (eS 4 eQ) bn)),.sv (slc 1 (List.map (eS 4 eQ) bt)),.sv (slc 4 (List.map eQ bB))]⟩)] []) (λJi=>.inl Ji=XT) ?_ (λJi XW=>?_)
 refine aY ?_
 refine bL XV (λLK=>AS.cj 133 [(1,.sv (slc 1 (List.map bD x1))),(2,.ptr 2 0),(6,.row 30),(31,.sv (slc 1 (List.map bD x1))),(32,ah iP),(33,ah LK.1)] [(2,⟨25,[ah bk,.sv (slc 1 (List.map (eS 4 eQ) bn)),.sv (slc 1 (List.map (eS 4 eQ) bt)),.sv (slc 4 (List.map eQ bB))]⟩)] [(30,TR 4 1 eB LK.2)]) (wR []) (λLK y21 G21 h XX UX=>?_)
 obtain⟨om,jV⟩:=LK
 try dsimp only
 refine sr<|lE h λsX xu h=>ls _ Y Y xu<|dn<|qq ?_
 cases sX
 refine cF<|bN<|aW.x<|aW.x<|bF.x<|aW.n ?_
 obtain rfl:=O (F h)
 exact⟨(),UX _ Y,wR []⟩
 refine cT<|bw<|aW.n<|qq<|aY<|sr<|bE (V h) λku vE h=>ix Y Y vE<|lr Y Y<|ag Y<|dn<|qq<|qq ?_
 refine bJ h (λj27=>AS.cj 133 [(1,.sv (slc 1 (List.map bD x1))),(2,.ptr 2 0),(6,.row 30),(8,ah ku),(31,.sv (slc 1 (List.map bD x1))),(32,ah iP),(33,ah om),(50,ai j27)] [(2,⟨25,[ah bk,.sv (slc 1 (List.map (eS 4 eQ) bn)),.sv (slc 1 (List.map (eS 4 eQ) bt)),.sv (slc 4 (List.map eQ bB))]⟩)] [(30,TR 4 1 eB jV)]) (λh=>?_) (λw6 h=>?_)
 refine aX<|mv Y<|lE h λqX Ay h=>ls _ Y Y Ay<|mv Y<|bE h λBx kY h=>?_
 cases qX
 refine gm Y<|RT.move (.some Y Y) (s:=.row _) Y T<|lE (F kY) λnE ym kY=>RT.Ou (.some Y Y) Y Y T ym<|lE kY λvf EX kY=>RT.geq (.some Y Y) _ Y Y T EX ?_
 obtain rfl:=O kY
 refine pF Y<|mv Y<|bE h λXY oc h=>?_
 cases vf
 refine RT.move (.some Y Y) (s:=.row _) Y T<|gm Y<|bE (F oc) λr9 h48 oc=>RT.Ox (.some Y Y) Y Y Y T h48<|bE oc λJ1 Rf oc=>RT.Mk (.some Y Y) Y Y Rf Y T ?_
 obtain rfl:=O oc
 exact pF Y<|dn<|⟨J1,h,wR []⟩
 obtain rfl:=O (V oc)
 exact ww<|ww<|ww<|ww<|pT Y<|dn<|⟨true,h,wR []⟩
 obtain rfl:=O (V kY)
 refine ww<|ww<|ww<|ww<|pT Y<|mv Y<|bE h λXZ yN h=>?_
 obtain rfl:=O (V yN)
 exact ww<|ww<|ww<|ww<|pT Y<|dn<|⟨true,h,wR []⟩
 try dsimp only
 refine aW.n ?_
 cases w6
 refine fs<|aX<|mo (s:=.row _) Y<|mv Y<|bE (F h) λKy Rh h=>iR Y Y Y Rh<|bE h λXS P1 h=>sR true Y Y Y Y P1<|RT.done<|bF.n<|aW.n<|aX<|lE h λCg Ll h=>ad _ Y Y Ll<|mv Y<|RT.done ?_
 obtain rfl:=O h
 exact aW.n ⟨(Cg,XS),XX _ Y,wR []⟩
 refine cT<|sr<|ag Y<|ag Y<|dn<|bf<|aW.r<|bF.r<|aW.r ?_
 obtain rfl:=O (V h)
 have aqF:=UX _ Y
 subst aqF
 refine aW.r<|bF.r<|aW.r<|aW.r ?_
 obtain rfl:=O AA
 exact R2 Y Y
 subst XW
 try dsimp only
 refine aW.n<|sr<|ld Y Y (.k4 Y Y Y Y) ?_
 obtain⟨⟨lP,lQ,Gl,Gm,Gn⟩,Mu,AA⟩:=bS AA
 refine RT.MO .none (j0 Mu) [304,305,306] (by decide) Y ⟨⟨Y,T⟩,⟨Y,T⟩,⟨Y,T⟩,ak⟩ Y ⟨Y,ak⟩ T Y Y<|an (s:=.ptr _ _) Y<|dn<|qq<|sr<|mv Y<|lE AA λAx Rg AA=>ln Y Rg<|mv Y<|dn<|bE AA λXU X0 UY=>?_
 refine bK (λ(w7:(List (List Qr))×(List Int)×(List (List Qr)))=>AS.cj 133 [(1,.sv (slc 1 (List.map bD x1))),(9,.ptr 56 0)] [(56,⟨79,[ai lP,ah lQ,.row 313,.row 314,.row 315]⟩)] [(313,TR 23 1 (eS 4 eQ) w7.1),(314,TR 3 1 bD w7.2.1),(315,TR 23 1 (eS 4 eQ) w7.2.2)]) (λw7=>.inl w7=XU) ?_ (λw7 X1=>?_)
 refine aY ?_
 refine bL X0 (λEY=>AS.cj 133 [(1,.sv (slc 1 (List.map bD x1))),(9,.ptr 56 0),(57,.sv (slc 1 (List.map bD x1))),(58,ah Ax),(59,ah EY.1)] [(56,⟨79,[ai lP,ah lQ,.row 313,.row 314,.row 315]⟩)] [(313,TR 23 1 (eS 4 eQ) EY.2.1),(314,TR 3 1 bD EY.2.2.1),(315,TR 23 1 (eS 4 eQ) EY.2.2.2)]) (cD (λi=>bif Nat.beq i 313 then 304 else bif Nat.beq i 314 then 305 else bif Nat.beq i 315 then 306 else i) Y Y Y Y Y ⟨.sv aq,.ptr,.sv aq,.sv aq,.sv aq,ak⟩ ⟨⟨_,Y,⟨.sv aq,.sv aq,.row Y,.row Y,.row Y,ak⟩⟩,ak⟩ ⟨⟨_,Y,cg.refl _⟩,⟨_,Y,cg.refl _⟩,⟨_,Y,cg.refl _⟩,ak⟩ (λi hi=>by rw[bV (show i≠313 by omega)];rw[bV (show i≠314 by omega)];rw[bV (show i≠315 by omega)];rfl)) (λEY y67 G67 h X2 UZ=>?_)
 obtain⟨c7,fJ,fK,ct⟩:=EY
 try dsimp only
 refine sr<|lE h λDx N5 h=>ls _ Y Y N5<|dn<|qq ?_
 cases Dx
 refine cF<|bN<|aW.x<|aW.x<|bF.x<|aW.n ?_
 obtain rfl:=O (F h)
 exact⟨(fJ,fK,ct),UZ _ Y,wR []⟩
 refine cT<|bw<|aW.n<|qq<|aY<|sr<|mv Y<|bE (V h) λDy Wx h=>ix Y Y Wx<|lr Y Y<|ag Y<|ag Y<|dn<|sr<|mv Y<|ag Y<|dn<|qq<|bE h λe77 X3 dM=>?_
 refine bK (λ(fG:Int)=>AS.cj 133 [(1,.sv (slc 1 (List.map bD x1))),(9,.ptr 56 0),(10,ah c7),(11,ah Dy),(12,ah fG),(57,.sv (slc 1 (List.map bD x1))),(58,ah Ax),(59,ah c7)] [(56,⟨79,[ai lP,ah lQ,.row 313,.row 314,.row 315]⟩)] [(313,TR 23 1 (eS 4 eQ) fJ),(314,TR 3 1 bD fK),(315,TR 23 1 (eS 4 eQ) ct)]) (λfG=>fG=e77) ?_ (λfG X4=>?_)
 refine aY ?_
 refine bL X3 (λs77=>AS.cj 133 [(1,.sv (slc 1 (List.map bD x1))),(9,.ptr 56 0),(10,ah c7),(11,ah Dy),(12,ah s77),(57,.sv (slc 1 (List.map bD x1))),(58,ah Ax),(59,ah c7)] [(56,⟨79,[ai lP,ah lQ,.row 313,.row 314,.row 315]⟩)] [(313,TR 23 1 (eS 4 eQ) fJ),(314,TR 3 1 bD fK),(315,TR 23 1 (eS 4 eQ) ct)]) (wR []) (λfE y77 G77 h X5 X6=>?_)
 try dsimp only
 refine qq<|qq ?_
 refine bJ h (λj80=>AS.cj 133 [(1,.sv (slc 1 (List.map bD x1))),(9,.ptr 56 0),(10,ah c7),(11,ah Dy),(12,ah fE),(57,.sv (slc 1 (List.map bD x1))),(58,ah Ax),(59,ah c7),(85,ai j80)] [(56,⟨79,[ai lP,ah lQ,.row 313,.row 314,.row 315]⟩)] [(313,TR 23 1 (eS 4 eQ) fJ),(314,TR 3 1 bD fK),(315,TR 23 1 (eS 4 eQ) ct)]) (λh=>?_) (λqk h=>?_)
 refine aX<|mv Y<|mo (s:=.ptr _ _) Y<|RT.cC .none Y T<|fa Y Y<|RT.eA .none (s:=.row _) Y Y Y T<|lE h λJ3 h70 h=>lL Y Y h70<|lE h λHr Xl h=>ls _ Y Y Xl<|mv Y<|bE h λuT kM h=>?_
 cases Hr
 obtain rfl:=O (F kM)
 exact ww<|ww<|ww<|ww<|ww<|ww<|ww<|ww<|ww<|ww<|ww<|ww<|pF Y<|dn<|⟨false,h,wR []⟩
 refine RT.move (.some Y Y) (s:=.ptr _ _) Y T<|RT.cC (.some Y Y) Y T<|RT.fieldAddr (.some Y Y) Y T Y<|RT.eA (.some Y Y) (s:=.row _) Y Y Y T<|gm Y<|bE (V kM) λJ5 UH kM=>RT.Ox (.some Y Y) Y Y Y T UH<|bE kM λF7 Ux kM=>RT.Mk (e:=(eS 4 eQ)) (.some Y Y) Y Y Ux Y T<|gm Y ?_
 obtain⟨⟨⟨Ar,As⟩,⟨At,Au⟩⟩,h81,kM⟩:=bS kM
 refine RT.Uj (.some Y Y) Y Y T h81<|RT.gy (cs:=[_,_,_,_]) (.some Y Y) Y T Y Y<|bE kM λN6 h83 kM=>gc (kz h83) ⟨Y,ak⟩<|lE kM λJ4 h84 kM=>Uk _ Y Y (ve (p:=N6) (q:=0) h84) ?_
 obtain rfl:=O kM
 exact pT Y<|dn<|⟨J4,h,wR []⟩
 try dsimp only
 refine aW.n ?_
 cases qk
 refine cF<|bN<|aW.x<|aW.x<|bF.x<|aW.n ?_
 obtain rfl:=O (F h)
 exact⟨fE,X6 _ Y,wR []⟩
 refine cT<|bw<|aW.n<|aY<|aX<|mv Y<|lE (V h) λIj h87 h=>ad _ Y Y h87<|ag Y<|RT.done<|bF.n ?_
 obtain rfl:=O h
 exact aW.n ⟨Ij,X5 _ Y,wR []⟩
 subst X4
 try dsimp only
 refine aW.n<|qq<|sr<|mv Y<|mo (s:=.ptr _ _) Y<|RT.cC .none Y T<|fa Y Y<|RT.eA .none (s:=.row _) Y Y Y T<|lE dM λOE h93 dM=>lL Y Y h93<|lE dM λLH XA dM=>eq _ Y Y (ve (p:=fG) (q:=OE) XA)<|dn ?_
 cases LH
 refine fs<|qq<|aZ mixed<|mo (s:=.ptr _ _) Y<|RT.cC .none Y T<|fa Y Y<|RT.eA .none (s:=.row _) Y Y Y T<|mv Y<|mo (s:=.ptr _ _) Y<|RT.cC .none Y T<|fa Y Y<|RT.eA .none (s:=.row _) Y Y Y T<|mv Y<|mo (s:=.ptr _ _) Y<|RT.cC .none Y T<|fa Y Y<|RT.eA .none (s:=.row _) Y Y Y T<|mv Y<|bE (F dM) λEs R8 dM=>?_
 refine iR Y Y Y R8<|bE dM λAW Ri dM=>lR (e:=(eS 4 eQ)) Y Y Ri Y<|mo (s:=.ptr _ _) Y<|RT.cC .none Y T<|fa Y Y<|RT.eA .none (s:=.row _) Y Y Y T<|mv Y<|bE dM λDR Rj dM=>iR Y Y Y Rj<|bE dM λCo RV dM=>lR (e:=(eS 4 eQ)) Y Y RV Y<|bE dM λKK X7 dM=>iR Y Y Y X7<|bE dM λTt P2 dM=>sR AW Y Y Y Y P2<|bE dM λKL X8 dM=>?_
 refine iR Y Y Y X8<|bE dM λTu Jj dM=>sR Co Y Y Y Y Jj ?_
 refine RT.done ⟨by kernel_rfl,?_⟩
 refine aW.n<|aX<|mo (s:=.ptr _ _) Y<|mv Y<|mv Y ?_
 obtain⟨⟨UT,UU,UW⟩,Rk,dM⟩:=bS dM
 refine RT.Lt .none (gp Rk) 56 [313,314,315] [325,326,327] Y ⟨Y,Y,Y,ak⟩ (by decide) (by decide) Y ⟨⟨Y,T⟩,⟨Y,T⟩,⟨Y,T⟩,ak⟩ Y Y (.k3 Y Y Y) T<|RT.done<|bF.n<|aW.n<|aX<|lE dM λAX Rl dM=>ad _ Y Y Rl<|mv Y<|RT.done ?_
 obtain rfl:=O dM
 exact aW.n ⟨(AX,UT,UU,UW),X2 _ Y,cD (λi=>bif Nat.beq i 313 then 325 else bif Nat.beq i 314 then 326 else bif Nat.beq i 315 then 327 else i) Y Y Y Y Y ⟨.sv aq,.ptr,.sv aq,.sv aq,.sv aq,ak⟩ ⟨⟨_,Y,⟨.sv aq,.sv aq,.row Y,.row Y,.row Y,ak⟩⟩,ak⟩ ⟨⟨_,Y,cg.refl _⟩,⟨_,Y,cg.refl _⟩,⟨_,Y,cg.refl _⟩,ak⟩ (λi hi=>by rw[bV (show i≠313 by omega)];rw[bV (show i≠314 by omega)];rw[bV (show i≠315 by omega)];rfl)⟩
 refine cT<|sr<|ag Y<|ag Y<|dn<|bf<|aW.r<|bF.r<|aW.r ?_
 replace dM:=V dM
 cases dM
 subst X1
 obtain⟨BY,vR,BZ⟩:=w7
 try dsimp only
 refine aW.n<|sr<|mo (s:=.ptr _ _) Y<|RT.cC .none Y T<|fa Y Y<|RT.eA .none (s:=.row _) Y Y Y T<|mv Y<|RT.Tg (l:=vR) (k:=x1) (e:=bD) .none Y Y Y T Y<|dn<|sr<|mo (s:=.ptr _ _) Y<|an (s:=.ptr _ _) Y<|ag Y<|dn<|bf ?_
 cases UY
 refine cT<|sr<|ag Y<|ag Y<|dn<|bf<|aW.r ?_
 obtain rfl:=O (V h)
 exact R2 Y Y
theorem Nx{x0:Lr}{x1:List Int}{r:Bool}(h:ou x0 x1=some r):Pure af 5 [.agg (K0 x0),slc 1 (List.map bD x1)] (ay r):=by
 obtain⟨bk,bn,bt,bB⟩:=x0
 refine bj Tryz.func5 Y (ae Y) (λdw M vs hvs=>?_)
 unfold ou at h
 refine sr<|bx Y<|ag Y<|dn<|qq<|qq ?_
 refine bJ h (λj3=>AS.cj 67 [(1,.sv (slc 1 (List.map bD x1))),(2,.ptr 2 0),(14,ai j3)] [(2,⟨25,[ah bk,.sv (slc 1 (List.map (eS 4 eQ) bn)),.sv (slc 1 (List.map (eS 4 eQ) bt)),.sv (slc 4 (List.map eQ bB))]⟩)] []) (λh=>?_) (λw5 h=>?_)
 refine aX<|ld Y Y (.k4 Y Y Y Y)<|bE h λx9 h9 h=>cl (yt h9) ⟨Y,ak⟩<|mv Y<|bE h λJx kn h=>?_
 cases x9
 refine gm Y<|lE (F kn) λc9 fC kn=>gn Y fC<|lE kn λeD iF kn=>gg _ Y Y iF ?_
 obtain rfl:=O kn
 exact pF Y<|dn<|⟨eD,h,wR []⟩
 obtain rfl:=O (V kn)
 exact ww<|ww<|ww<|pT Y<|dn<|⟨true,h,wR []⟩
 try dsimp only
 refine aW.n ?_
 cases w5
 refine fs<|qq<|aZ mixed<|ld Y Y (.k4 Y Y Y Y)<|mv Y<|bE (F h) λjl mw h=>RT.aeM (k:=x1) (e:=bD) .none Y Y T Y T mw<|bE h λ_ oG h=>cl (Ey oG) ⟨Y,Y,ak⟩<|mv Y<|ex Y Y<|ex Y Y<|ag Y<|ag Y ?_
 refine RT.done ⟨by kernel_rfl,?_⟩
 refine aW.n<|qq<|qq ?_
 refine bJ h (λj6=>AS.cj 67 [(1,.sv (slc 1 (List.map bD x1))),(2,.ptr 2 0),(5,aj),(6,ah 1),(31,ai j6)] [(2,⟨25,[ah bk,.sv (slc 1 (List.map (eS 4 eQ) bn)),.sv (slc 1 (List.map (eS 4 eQ) bt)),.sv (slc 4 (List.map eQ bB))]⟩)] []) (λh=>?_) (λBB h=>?_)
 refine aX<|ld Y Y (.k4 Y Y Y Y)<|bE h λgX oY h=>cl (oP oY) ⟨Y,ak⟩<|lE h λjG nO h=>nt Y _ nO<|mv Y<|bE h λBw jq h=>?_
 cases jG
 refine gl Y Y (.k4 Y Y Y Y)<|gm Y<|bE (F jq) λgI mZ jq=>gc (sQ mZ) ⟨Y,Y,ak⟩<|lE jq λoF vD jq=>Q2 Y _ vD ?_
 obtain rfl:=O jq
 exact pF Y<|dn<|⟨oF,h,wR []⟩
 obtain rfl:=O (V jq)
 exact ww<|ww<|ww<|ww<|pT Y<|dn<|⟨true,h,wR []⟩
 try dsimp only
 refine aW.n ?_
 cases BB
 refine fs<|sr<|ld Y Y (.k4 Y Y Y Y)<|mv Y ?_
 refine bI (cs:=[_,_,_,_,_]) (cs':=[ax bk,slc 1 (List.map (eS 4 eQ) bn),slc 1 (List.map (eS 4 eQ) bt),slc 4 (List.map eQ bB),slc 1 (List.map bD x1)]) (.agg Y (.one Y (.nil))) ⟨aq,aq,aq,aq,aq,ak⟩<|bx Y<|an (s:=.ptr _ _) Y<|dn<|qq<|qq ?_
 refine bR (iU (i:=44) Y [ax bk,slc 1 (List.map (eS 4 eQ) bn),slc 1 (List.map (eS 4 eQ) bt),slc 4 (List.map eQ bB),slc 1 (List.map bD x1)] (.cons Y (.k4 Y Y Y Y)) .any 0 [(44,.sv (ref [ax bk,slc 1 (List.map (eS 4 eQ) bn),slc 1 (List.map (eS 4 eQ) bt),slc 4 (List.map eQ bB),slc 1 (List.map bD x1)])),(7,.sv (ref [ax bk,slc 1 (List.map (eS 4 eQ) bn),slc 1 (List.map (eS 4 eQ) bt),slc 4 (List.map eQ bB),slc 1 (List.map bD x1)]))] (λ_ _ _=>trivial) (xq.h (l:=[ax bk,slc 1 (List.map (eS 4 eQ) bn),slc 1 (List.map (eS 4 eQ) bt),slc 4 (List.map eQ bB),slc 1 (List.map bD x1)])) ⟨@FT.ptr _ _ _ _ _ 44 0 Y,@FT.ptr _ _ _ _ _ 7 0 Y,ak⟩) ?_
 refine aX<|mv Y<|bE (F h) λvg h46 h=>cl (Dq h46) ⟨Y,ak⟩<|lE h λsE zH h=>nt Y _ zH<|dn ?_
 cases sE
 refine fs<|sr<|mv Y<|eq false Y Y (by decide)<|mv Y<|ww<|ww<|ww<|pF Y<|mv Y<|ww<|pF Y<|ag Y<|dn<|bf ?_
 obtain rfl:=O (F h)
 exact R1 Y
 refine cT<|sr<|mv Y<|RT.MN .none Y Y T<|mv Y<|gm Y<|Uk false Y Y (by decide)<|pT Y<|mv Y<|ww<|pF Y<|ag Y<|dn<|bf<|aW.r ?_
 obtain rfl:=O (V h)
 exact R1 Y
 refine cT<|sr<|mv Y<|RT.MN .none Y Y T<|mv Y<|gm Y<|Uk true Y Y (by decide)<|pT Y<|mv Y<|bE (V h) λvY DX h=>gc (mc DX) trivial<|pT Y<|ag Y<|dn<|bf<|aW.r ?_
 obtain rfl:=O h
 exact R1 Y
 refine cT<|sr<|bE (V h) λdH gD h=>cl (mc gD) trivial<|ag Y<|dn<|bf<|aW.r ?_
 obtain rfl:=O h
 exact R1 Y
end
section
open Go.Fw Go.Fw.Z Go.RowKit
set_option maxHeartbeats 4000000 in
theorem Ez{x0:Lr}{x1:List Int}{r:Unit}(h:mh x0 x1=some r):Pure af 30 [.agg (K0 x0),slc 1 (List.map bD x1)] (.Ce [.v (.pointer none),ax 8]):=by
 obtain⟨bk,bn,bt,bB⟩:=x0
 refine bj Tryz.func30 Y (ae Y) (λdw M vs hvs=>?_)
 unfold mh at h
 refine sr<|bx Y<|ag Y<|ag Y<|dn<|qq<|qq ?_
 refine bJ h (λj3=>AS.cj 133 [(1,.sv (slc 1 (List.map bD x1))),(2,.ptr 2 0),(23,ai j3)] [(2,⟨25,[ah bk,.sv (slc 1 (List.map (eS 4 eQ) bn)),.sv (slc 1 (List.map (eS 4 eQ) bt)),.sv (slc 4 (List.map eQ bB))]⟩)] []) (λh=>?_) (λqY h=>?_)
 refine aX<|ld Y Y (.k4 Y Y Y Y)<|bE h λei jx h=>cl (xP jx) ⟨Y,ak⟩<|lE h λdH gD h=>nt Y _ gD<|mv Y<|bE h λBy uy h=>?_
 cases dH
 refine gm Y<|lE (F uy) λeX jK uy=>gn Y jK<|RT.fieldAddr (.some Y Y) Y T Y<|RT.yy (.some Y Y) Y Y Y T<|lE uy λfL ke uy=>gn Y ke<|lE uy λiA oH uy=>gq _ Y Y (JY (p:=eX) (q:=fL) oH) ?_
 obtain rfl:=O uy
 exact pF Y<|dn<|⟨iA,h,wR []⟩
 obtain rfl:=O (V uy)
 exact ww<|ww<|ww<|ww<|ww<|ww<|pT Y<|dn<|⟨true,h,wR []⟩
 try dsimp only
 refine aW.n ?_
 cases qY
 refine fs<|sr<|fa Y Y<|lV Y Y Y<|fa Y Y<|lV Y Y Y<|lE (F h) λkT uO h=>ln Y uO<|lE h λgI mZ h=>ad _ Y Y mZ<|bE h λoF vD h=>RT.tK (n:=1) (e:=eB) .none Y Y T Y T (by rfl) (by decide) (by exact⟨aq,ak⟩) vD<|an (s:=.row _) Y<|dn<|qq<|sr<|mv Y<|lE h λiP pW h=>ln Y pW<|mv Y ?_
 refine dn<|bE h λXT XV AA=>?_
 refine bK (λ(Ji:Unit)=>AS.cj 133 [(1,.sv (slc 1 (List.map bD x1))),(2,.ptr 2 0)] [(2,⟨25,[ah bk,.sv (slc 1 (List.map (eS 4 eQ) bn)),.sv (slc 1 (List.map (eS 4 eQ) bt)),.sv (slc 4 (List.map eQ bB))]⟩)] []) (λJi=>.inl Ji=XT) ?_ (λJi XW=>?_)
 refine aY ?_
 refine bL XV (λLK=>AS.cj 133 [(1,.sv (slc 1 (List.map bD x1))),(2,.ptr 2 0),(6,.row 30),(31,.sv (slc 1 (List.map bD x1))),(32,ah iP),(33,ah LK.1)] [(2,⟨25,[ah bk,.sv (slc 1 (List.map (eS 4 eQ) bn)),.sv (slc 1 (List.map (eS 4 eQ) bt)),.sv (slc 4 (List.map eQ bB))]⟩)] [(30,TR 4 1 eB LK.2)]) (wR []) (λLK y21 G21 h XX UX=>?_)
 obtain⟨om,jV⟩:=LK
 try dsimp only
 refine sr<|lE h λsX xu h=>ls _ Y Y xu<|dn<|qq ?_
 cases sX
 refine cF<|bN<|aW.x<|aW.x<|bF.x<|aW.n ?_
 obtain rfl:=O (F h)
 exact⟨(),UX _ Y,wR []⟩
 refine cT<|bw<|aW.n<|qq<|aY<|sr<|bE (V h) λku vE h=>ix Y Y vE<|lr Y Y<|ag Y<|dn<|qq<|qq ?_
 refine bJ h (λj27=>AS.cj 133 [(1,.sv (slc 1 (List.map bD x1))),(2,.ptr 2 0),(6,.row 30),(8,ah ku),(31,.sv (slc 1 (List.map bD x1))),(32,ah iP),(33,ah om),(50,ai j27)] [(2,⟨25,[ah bk,.sv (slc 1 (List.map (eS 4 eQ) bn)),.sv (slc 1 (List.map (eS 4 eQ) bt)),.sv (slc 4 (List.map eQ bB))]⟩)] [(30,TR 4 1 eB jV)]) (λh=>?_) (λw6 h=>?_)
 refine aX<|mv Y<|lE h λqX Ay h=>ls _ Y Y Ay<|mv Y<|bE h λBx kY h=>?_
 cases qX
 refine gm Y<|RT.move (.some Y Y) (s:=.row _) Y T<|lE (F kY) λnE ym kY=>RT.Ou (.some Y Y) Y Y T ym<|lE kY λvf EX kY=>RT.geq (.some Y Y) _ Y Y T EX ?_
 obtain rfl:=O kY
 refine pF Y<|mv Y<|bE h λXY oc h=>?_
 cases vf
 refine RT.move (.some Y Y) (s:=.row _) Y T<|gm Y<|bE (F oc) λr9 h48 oc=>RT.Ox (.some Y Y) Y Y Y T h48<|bE oc λJ1 Rf oc=>RT.Mk (.some Y Y) Y Y Rf Y T ?_
 obtain rfl:=O oc
 exact pF Y<|dn<|⟨J1,h,wR []⟩
 obtain rfl:=O (V oc)
 exact ww<|ww<|ww<|ww<|pT Y<|dn<|⟨true,h,wR []⟩
 obtain rfl:=O (V kY)
 refine ww<|ww<|ww<|ww<|pT Y<|mv Y<|bE h λXZ yN h=>?_
 obtain rfl:=O (V yN)
 exact ww<|ww<|ww<|ww<|pT Y<|dn<|⟨true,h,wR []⟩
 try dsimp only
 refine aW.n ?_
 cases w6
 refine fs<|aX<|mo (s:=.row _) Y<|mv Y<|bE (F h) λKy Rh h=>iR Y Y Y Rh<|bE h λXS P1 h=>sR true Y Y Y Y P1<|RT.done<|bF.n<|aW.n<|aX<|lE h λCg Ll h=>ad _ Y Y Ll<|mv Y<|RT.done ?_
 obtain rfl:=O h
 exact aW.n ⟨(Cg,XS),XX _ Y,wR []⟩
 refine cT<|sr<|ag Y<|ag Y<|dn<|bf<|aW.r<|bF.r<|aW.r ?_
 replace h:=V h
 cases h
 subst XW
 try dsimp only
 refine aW.n<|sr<|ld Y Y (.k4 Y Y Y Y) ?_
 obtain⟨⟨lP,lQ,Gl,Gm,Gn⟩,Mu,AA⟩:=bS AA
 refine RT.MO .none (j0 Mu) [304,305,306] (by decide) Y ⟨⟨Y,T⟩,⟨Y,T⟩,⟨Y,T⟩,ak⟩ Y ⟨Y,ak⟩ T Y Y<|an (s:=.ptr _ _) Y<|dn<|qq<|sr<|mv Y<|lE AA λAx Rg AA=>ln Y Rg<|mv Y<|dn<|bE AA λXU X0 UY=>?_
 refine bK (λ(w7:(List (List Qr))×(List Int)×(List (List Qr)))=>AS.cj 133 [(1,.sv (slc 1 (List.map bD x1))),(9,.ptr 56 0)] [(56,⟨79,[ai lP,ah lQ,.row 313,.row 314,.row 315]⟩)] [(313,TR 23 1 (eS 4 eQ) w7.1),(314,TR 3 1 bD w7.2.1),(315,TR 23 1 (eS 4 eQ) w7.2.2)]) (λw7=>.inl w7=XU) ?_ (λw7 X1=>?_)
 refine aY ?_
 refine bL X0 (λEY=>AS.cj 133 [(1,.sv (slc 1 (List.map bD x1))),(9,.ptr 56 0),(57,.sv (slc 1 (List.map bD x1))),(58,ah Ax),(59,ah EY.1)] [(56,⟨79,[ai lP,ah lQ,.row 313,.row 314,.row 315]⟩)] [(313,TR 23 1 (eS 4 eQ) EY.2.1),(314,TR 3 1 bD EY.2.2.1),(315,TR 23 1 (eS 4 eQ) EY.2.2.2)]) (cD (λi=>bif Nat.beq i 313 then 304 else bif Nat.beq i 314 then 305 else bif Nat.beq i 315 then 306 else i) Y Y Y Y Y ⟨.sv aq,.ptr,.sv aq,.sv aq,.sv aq,ak⟩ ⟨⟨_,Y,⟨.sv aq,.sv aq,.row Y,.row Y,.row Y,ak⟩⟩,ak⟩ ⟨⟨_,Y,cg.refl _⟩,⟨_,Y,cg.refl _⟩,⟨_,Y,cg.refl _⟩,ak⟩ (λi hi=>by rw[bV (show i≠313 by omega)];rw[bV (show i≠314 by omega)];rw[bV (show i≠315 by omega)];rfl)) (λEY y67 G67 h X2 UZ=>?_)
 obtain⟨c7,fJ,fK,ct⟩:=EY
 try dsimp only
 refine sr<|lE h λDx N5 h=>ls _ Y Y N5<|dn<|qq ?_
 cases Dx
 refine cF<|bN<|aW.x<|aW.x<|bF.x<|aW.n ?_
 obtain rfl:=O (F h)
 exact⟨(fJ,fK,ct),UZ _ Y,wR []⟩
 refine cT<|bw<|aW.n<|qq<|aY<|sr<|mv Y<|bE (V h) λDy Wx h=>ix Y Y Wx<|lr Y Y<|ag Y<|ag Y<|dn<|sr<|mv Y<|ag Y<|dn<|qq<|bE h λe77 X3 dM=>?_
 refine bK (λ(fG:Int)=>AS.cj 133 [(1,.sv (slc 1 (List.map bD x1))),(9,.ptr 56 0),(10,ah c7),(11,ah Dy),(12,ah fG),(57,.sv (slc 1 (List.map bD x1))),(58,ah Ax),(59,ah c7)] [(56,⟨79,[ai lP,ah lQ,.row 313,.row 314,.row 315]⟩)] [(313,TR 23 1 (eS 4 eQ) fJ),(314,TR 3 1 bD fK),(315,TR 23 1 (eS 4 eQ) ct)]) (λfG=>fG=e77) ?_ (λfG X4=>?_)
 refine aY ?_
 refine bL X3 (λs77=>AS.cj 133 [(1,.sv (slc 1 (List.map bD x1))),(9,.ptr 56 0),(10,ah c7),(11,ah Dy),(12,ah s77),(57,.sv (slc 1 (List.map bD x1))),(58,ah Ax),(59,ah c7)] [(56,⟨79,[ai lP,ah lQ,.row 313,.row 314,.row 315]⟩)] [(313,TR 23 1 (eS 4 eQ) fJ),(314,TR 3 1 bD fK),(315,TR 23 1 (eS 4 eQ) ct)]) (wR []) (λfE y77 G77 h X5 X6=>?_)
 try dsimp only
 refine qq<|qq ?_
 refine bJ h (λj80=>AS.cj 133 [(1,.sv (slc 1 (List.map bD x1))),(9,.ptr 56 0),(10,ah c7),(11,ah Dy),(12,ah fE),(57,.sv (slc 1 (List.map bD x1))),(58,ah Ax),(59,ah c7),(85,ai j80)] [(56,⟨79,[ai lP,ah lQ,.row 313,.row 314,.row 315]⟩)] [(313,TR 23 1 (eS 4 eQ) fJ),(314,TR 3 1 bD fK),(315,TR 23 1 (eS 4 eQ) ct)]) (λh=>?_) (λqk h=>?_)
 refine aX<|mv Y<|mo (s:=.ptr _ _) Y<|RT.cC .none Y T<|fa Y Y<|RT.eA .none (s:=.row _) Y Y Y T<|lE h λJ3 h70 h=>lL Y Y h70<|lE h λHr Xl h=>ls _ Y Y Xl<|mv Y<|bE h λuT kM h=>?_
 cases Hr
 obtain rfl:=O (F kM)
 exact ww<|ww<|ww<|ww<|ww<|ww<|ww<|ww<|ww<|ww<|ww<|ww<|pF Y<|dn<|⟨false,h,wR []⟩
 refine RT.move (.some Y Y) (s:=.ptr _ _) Y T<|RT.cC (.some Y Y) Y T<|RT.fieldAddr (.some Y Y) Y T Y<|RT.eA (.some Y Y) (s:=.row _) Y Y Y T<|gm Y<|bE (V kM) λJ5 UH kM=>RT.Ox (.some Y Y) Y Y Y T UH<|bE kM λF7 Ux kM=>RT.Mk (e:=(eS 4 eQ)) (.some Y Y) Y Y Ux Y T<|gm Y ?_
 obtain⟨⟨⟨Ar,As⟩,⟨At,Au⟩⟩,h81,kM⟩:=bS kM
 refine RT.Uj (.some Y Y) Y Y T h81<|RT.gy (cs:=[_,_,_,_]) (.some Y Y) Y T Y Y<|bE kM λN6 h83 kM=>gc (kz h83) ⟨Y,ak⟩<|lE kM λJ4 h84 kM=>Uk _ Y Y (ve (p:=N6) (q:=0) h84) ?_
 obtain rfl:=O kM
 exact pT Y<|dn<|⟨J4,h,wR []⟩
 try dsimp only
 refine aW.n ?_
 cases qk
 refine cF<|bN<|aW.x<|aW.x<|bF.x<|aW.n ?_
 obtain rfl:=O (F h)
 exact⟨fE,X6 _ Y,wR []⟩
 refine cT<|bw<|aW.n<|aY<|aX<|mv Y<|lE (V h) λIj h87 h=>ad _ Y Y h87<|ag Y<|RT.done<|bF.n ?_
 obtain rfl:=O h
 exact aW.n ⟨Ij,X5 _ Y,wR []⟩
 subst X4
 try dsimp only
 refine aW.n<|qq<|sr<|mv Y<|mo (s:=.ptr _ _) Y<|RT.cC .none Y T<|fa Y Y<|RT.eA .none (s:=.row _) Y Y Y T<|lE dM λOE h93 dM=>lL Y Y h93<|lE dM λLH XA dM=>eq _ Y Y (ve (p:=fG) (q:=OE) XA)<|dn ?_
 cases LH
 refine fs<|qq<|aZ mixed<|mo (s:=.ptr _ _) Y<|RT.cC .none Y T<|fa Y Y<|RT.eA .none (s:=.row _) Y Y Y T<|mv Y<|mo (s:=.ptr _ _) Y<|RT.cC .none Y T<|fa Y Y<|RT.eA .none (s:=.row _) Y Y Y T<|mv Y<|mo (s:=.ptr _ _) Y<|RT.cC .none Y T<|fa Y Y<|RT.eA .none (s:=.row _) Y Y Y T<|mv Y<|bE (F dM) λEs R8 dM=>?_
 refine iR Y Y Y R8<|bE dM λAW Ri dM=>lR (e:=(eS 4 eQ)) Y Y Ri Y<|mo (s:=.ptr _ _) Y<|RT.cC .none Y T<|fa Y Y<|RT.eA .none (s:=.row _) Y Y Y T<|mv Y<|bE dM λDR Rj dM=>iR Y Y Y Rj<|bE dM λCo RV dM=>lR (e:=(eS 4 eQ)) Y Y RV Y<|bE dM λKK X7 dM=>iR Y Y Y X7<|bE dM λTt P2 dM=>sR AW Y Y Y Y P2<|bE dM λKL X8 dM=>?_
 refine iR Y Y Y X8<|bE dM λTu Jj dM=>sR Co Y Y Y Y Jj ?_
 refine RT.done ⟨by kernel_rfl,?_⟩
 refine aW.n<|aX<|mo (s:=.ptr _ _) Y<|mv Y<|mv Y ?_
 obtain⟨⟨UT,UU,UW⟩,Rk,dM⟩:=bS dM
 refine RT.Lt .none (gp Rk) 56 [313,314,315] [325,326,327] Y ⟨Y,Y,Y,ak⟩ (by decide) (by decide) Y ⟨⟨Y,T⟩,⟨Y,T⟩,⟨Y,T⟩,ak⟩ Y Y (.k3 Y Y Y) T<|RT.done<|bF.n<|aW.n<|aX<|lE dM λAX Rl dM=>ad _ Y Y Rl<|mv Y<|RT.done ?_
 obtain rfl:=O dM
 exact aW.n ⟨(AX,UT,UU,UW),X2 _ Y,cD (λi=>bif Nat.beq i 313 then 325 else bif Nat.beq i 314 then 326 else bif Nat.beq i 315 then 327 else i) Y Y Y Y Y ⟨.sv aq,.ptr,.sv aq,.sv aq,.sv aq,ak⟩ ⟨⟨_,Y,⟨.sv aq,.sv aq,.row Y,.row Y,.row Y,ak⟩⟩,ak⟩ ⟨⟨_,Y,cg.refl _⟩,⟨_,Y,cg.refl _⟩,⟨_,Y,cg.refl _⟩,ak⟩ (λi hi=>by rw[bV (show i≠313 by omega)];rw[bV (show i≠314 by omega)];rw[bV (show i≠315 by omega)];rfl)⟩
 refine cT<|sr<|ag Y<|ag Y<|dn<|bf<|aW.r<|bF.r<|aW.r ?_
 obtain rfl:=O (V dM)
 have aqG:=UZ _ Y
 subst aqG
 refine aW.r<|bF.r<|aW.r<|aW.r ?_
 obtain rfl:=O UY
 exact R2 Y Y
 subst X1
 obtain⟨BY,vR,BZ⟩:=w7
 try dsimp only
 refine aW.n<|sr<|mo (s:=.ptr _ _) Y<|RT.cC .none Y T<|fa Y Y<|RT.eA .none (s:=.row _) Y Y Y T<|mv Y<|RT.Tg (l:=vR) (k:=x1) (e:=bD) .none Y Y Y T Y<|dn<|sr<|mo (s:=.ptr _ _) Y<|an (s:=.ptr _ _) Y<|ag Y<|dn<|bf ?_
 cases UY
 refine cT<|sr<|ag Y<|ag Y<|dn<|bf<|aW.r ?_
 replace h:=V h
 cases h
theorem Ny{x0:Lr}{x1:List Int}{r:Bool}(h:uA x0 x1=some r):Pure af 5 [.agg (K0 x0),slc 1 (List.map bD x1)] (ay r):=by
 obtain⟨bk,bn,bt,bB⟩:=x0
 refine bj Tryz.func5 Y (ae Y) (λdw M vs hvs=>?_)
 unfold uA at h
 refine sr<|bx Y<|ag Y<|dn<|qq<|qq ?_
 refine bJ h (λj3=>AS.cj 67 [(1,.sv (slc 1 (List.map bD x1))),(2,.ptr 2 0),(14,ai j3)] [(2,⟨25,[ah bk,.sv (slc 1 (List.map (eS 4 eQ) bn)),.sv (slc 1 (List.map (eS 4 eQ) bt)),.sv (slc 4 (List.map eQ bB))]⟩)] []) (λh=>?_) (λw5 h=>?_)
 refine aX<|ld Y Y (.k4 Y Y Y Y)<|bE h λx9 h9 h=>cl (yt h9) ⟨Y,ak⟩<|mv Y<|bE h λJx kn h=>?_
 cases x9
 refine gm Y<|lE (F kn) λc9 fC kn=>gn Y fC<|lE kn λeD iF kn=>gg _ Y Y iF ?_
 obtain rfl:=O kn
 exact pF Y<|dn<|⟨eD,h,wR []⟩
 obtain rfl:=O (V kn)
 exact ww<|ww<|ww<|pT Y<|dn<|⟨true,h,wR []⟩
 try dsimp only
 refine aW.n ?_
 cases w5
 refine fs<|qq<|aZ mixed<|ld Y Y (.k4 Y Y Y Y)<|mv Y<|bE (F h) λjl mw h=>RT.aeM (k:=x1) (e:=bD) .none Y Y T Y T mw<|bE h λ_ oG h=>cl (Ez oG) ⟨Y,Y,ak⟩<|mv Y<|ex Y Y<|ex Y Y<|ag Y<|ag Y ?_
 refine RT.done ⟨by kernel_rfl,?_⟩
 refine aW.n<|qq<|qq ?_
 refine bJ h (λj6=>AS.cj 67 [(1,.sv (slc 1 (List.map bD x1))),(2,.ptr 2 0),(5,aj),(6,ah 8),(31,ai j6)] [(2,⟨25,[ah bk,.sv (slc 1 (List.map (eS 4 eQ) bn)),.sv (slc 1 (List.map (eS 4 eQ) bt)),.sv (slc 4 (List.map eQ bB))]⟩)] []) (λh=>?_) (λBB h=>?_)
 refine aX<|ld Y Y (.k4 Y Y Y Y)<|bE h λgX oY h=>cl (oP oY) ⟨Y,ak⟩<|lE h λjG nO h=>nt Y _ nO<|mv Y<|bE h λBw jq h=>?_
 cases jG
 refine gl Y Y (.k4 Y Y Y Y)<|gm Y<|bE (F jq) λgI mZ jq=>gc (sQ mZ) ⟨Y,Y,ak⟩<|lE jq λoF vD jq=>Q2 Y _ vD ?_
 obtain rfl:=O jq
 exact pF Y<|dn<|⟨oF,h,wR []⟩
 obtain rfl:=O (V jq)
 exact ww<|ww<|ww<|ww<|pT Y<|dn<|⟨true,h,wR []⟩
 try dsimp only
 refine aW.n ?_
 cases BB
 refine fs<|sr<|ld Y Y (.k4 Y Y Y Y)<|mv Y ?_
 refine bI (cs:=[_,_,_,_,_]) (cs':=[ax bk,slc 1 (List.map (eS 4 eQ) bn),slc 1 (List.map (eS 4 eQ) bt),slc 4 (List.map eQ bB),slc 1 (List.map bD x1)]) (.agg Y (.one Y (.nil))) ⟨aq,aq,aq,aq,aq,ak⟩<|bx Y<|an (s:=.ptr _ _) Y<|dn<|qq<|qq ?_
 refine bR (iU (i:=44) Y [ax bk,slc 1 (List.map (eS 4 eQ) bn),slc 1 (List.map (eS 4 eQ) bt),slc 4 (List.map eQ bB),slc 1 (List.map bD x1)] (.cons Y (.k4 Y Y Y Y)) .any 0 [(44,.sv (ref [ax bk,slc 1 (List.map (eS 4 eQ) bn),slc 1 (List.map (eS 4 eQ) bt),slc 4 (List.map eQ bB),slc 1 (List.map bD x1)])),(7,.sv (ref [ax bk,slc 1 (List.map (eS 4 eQ) bn),slc 1 (List.map (eS 4 eQ) bt),slc 4 (List.map eQ bB),slc 1 (List.map bD x1)]))] (λ_ _ _=>trivial) (xq.h (l:=[ax bk,slc 1 (List.map (eS 4 eQ) bn),slc 1 (List.map (eS 4 eQ) bt),slc 4 (List.map eQ bB),slc 1 (List.map bD x1)])) ⟨@FT.ptr _ _ _ _ _ 44 0 Y,@FT.ptr _ _ _ _ _ 7 0 Y,ak⟩) ?_
 refine aX<|mv Y<|bE (F h) λvg h46 h=>cl (Dq h46) ⟨Y,ak⟩<|lE h λsE zH h=>nt Y _ zH<|dn ?_
 cases sE
 refine fs<|sr<|mv Y<|eq false Y Y (by decide)<|mv Y<|ww<|ww<|ww<|pF Y<|mv Y<|ww<|pF Y<|ag Y<|dn<|bf ?_
 obtain rfl:=O (F h)
 exact R1 Y
 refine cT<|sr<|mv Y<|RT.MN .none Y Y T<|mv Y<|gm Y<|Uk true Y Y (by decide)<|pT Y<|mv Y<|bE (V h) λAE OO h=>gc (mc OO) trivial<|pT Y<|ag Y<|dn<|bf<|aW.r ?_
 obtain rfl:=O h
 exact R1 Y
 refine cT<|sr<|mv Y<|RT.MN .none Y Y T<|mv Y<|gm Y<|Uk false Y Y (by decide)<|pT Y<|mv Y<|ww<|pF Y<|ag Y<|dn<|bf<|aW.r ?_
 obtain rfl:=O (V h)
 exact R1 Y
 refine cT<|sr<|bE (V h) λdH gD h=>cl (mc gD) trivial<|ag Y<|dn<|bf<|aW.r ?_
 obtain rfl:=O h
 exact R1 Y
end
section
open Go.Fw Go.Fw.Z Go.RowKit
theorem xx{x0:Lr}{x1:List Int}{r:Bool}(h:iw x0 x1=some r):Pure af 5 [.agg (K0 x0),slc 1 (List.map bD x1)] (ay r):=by
 unfold iw at h
 by_cases agN:jE x0 x1=some true
 rw[if_pos agN]at h;rw[←Option.some.inj h];exact Nw agN
 rw[if_neg agN]at h
 by_cases agO:ou x0 x1=some true
 rw[if_pos agO]at h;rw[←Option.some.inj h];exact Nx agO
 rw[if_neg agO]at h
 exact Ny h
end
end Go.Proofs.YtningmnklfpfjaaGreat
namespace Go.Fw
section
theorem j1{n:Nat}(h:n≤9223372036854775807):IntKind.i64.wrap (n:Int)=n:=uL (by omega)
theorem cG{x:Int}(h: -9223372036854775808≤x)(h':x≤9223372036854775807):IntKind.i64.wrap x=x:=uL ⟨h,h'⟩
theorem bM{n:Nat}(h:n<9223372036854775807):IntKind.i64.wrap ((n:Int)+1)=((n+1:Nat):Int):=by rw[uL (by omega)];simp
theorem rM{n m:Nat}(h:n+m≤9223372036854775807):IntKind.i64.wrap ((n:Int)+(m:Int))=((n+m:Nat):Int):=by rw[uL (by omega)];simp
theorem Jy{n:Nat}(h:n≤9223372036854775807):IntKind.i64.wrap (((n+1:Nat):Int)-1)=(n:Int):=by rw[uL (by omega)];omega
theorem bz{α:Type}{l:List α}{i:Nat}{a:α}(h:l[i]? =some a):cL l (i:Int)=some a:=by simp[cL,h]
theorem B5{α:Type}{l:List α}{a:α}(h:l[0]? =some a):cL l 0=some a:=by simp[cL,h]
theorem Yv{α:Type}{l:List α}{a:α}(h:l[1]? =some a):cL l 1=some a:=by simp[cL,h]
theorem b9{α:Type}{l:List α}{i:Nat}(h:i<l.length):kW l (i:Int)=some i:=by simp[kW,h]
theorem dS{α:Type}{l:List α}{i:Nat}{y:α}(h:i<l.length):stM l i y=some (l.set i y):=by simp[stM,h]
theorem Yw{α:Type}{b:Nat}{l k:List α}(h:(l.length+k.length)*b≤140737488355328)(h':l.length+k.length≤140737488355328):nC b l k=some (l++k):=by simp[nC,h,h']
theorem nP{α:Type}{b:Nat}{l:List α}{x:α}(hb:b≤100)(h:l.length≤1000000000000):nC b l [x]=some (l++[x]):=by
 apply Yw
 ·have:(l.length+[x].length)*b≤1000000000001*100:=Nat.mul_le_mul (by simp;omega) hb
  omega
 ·simp;omega
theorem Yx{α:Type}{b:Nat}{l k:List α}(hb:b≤100)(h:l.length+k.length≤1000000000000):nC b l k=some (l++k):=by
 apply Yw
 ·have:(l.length+k.length)*b≤1000000000000*100:=Nat.mul_le_mul h hb
  omega
 ·omega
theorem Jz{α:Type}{b:Nat}{n:Nat}(hb:b≤100)(h:n≤1000000000000):VZ (α:=α) b (n:Int)=some []:=by
 have:b*n≤100*1000000000000:=Nat.mul_le_mul hb h
 have h2:(b:Int)*(n:Int)=((b*n:Nat):Int):=by simp
 unfold VZ
 rw[h2,if_pos ⟨by omega,by omega,by omega⟩]
theorem sS{α:Type}{b:Nat}{n:Nat}{z:α}(hb:b≤100)(h:n≤1000000000000):Hf b (n:Int) z=some (List.replicate n z):=by
 have:b*n≤100*1000000000000:=Nat.mul_le_mul hb h
 have h2:(b:Int)*(n:Int)=((b*n:Nat):Int):=by simp
 unfold Hf
 rw[h2,if_pos ⟨by omega,by omega,by omega⟩,Int.toNat_natCast]
theorem Yy{α:Type}{l:List α}{i j:Nat}(h:i≤j)(h':j≤l.length):GD l (i:Int) (j:Int)=some (cut l i j):=by
 unfold GD;rw[if_pos ⟨by omega,by omega,by omega⟩];simp
theorem y4{α:Type}{l:List α}{j:Nat}(h':j≤l.length):GD l 0 (j:Int)=some (l.take j):=by
 have:=Yy (l:=l) (i:=0) (j:=j) (by omega) h'
 simpa[cut]using this
theorem z5{M a b:Nat}(h:b≤a)(h':a<M):wj M a b=a-b:=by
 unfold wj;rw[show(a:Int)-(b:Int)=((a-b:Nat):Int) by omega,←Int.natCast_emod,Int.toNat_natCast,Nat.mod_eq_of_lt (by omega)]
theorem EA{M a b:Nat}(h:a<b)(h':b≤M):wj M a b=M+a-b:=by
 unfold wj
 have:((a:Int)-(b:Int))%(M:Int)=((M+a-b:Nat):Int):=by
  rw[←Int.add_emod_right (a:=(a:Int)-b),show(a:Int)-(b:Int)+(M:Int)=((M+a-b:Nat):Int) by omega,←Int.natCast_emod,Nat.mod_eq_of_lt (by omega)]
 rw[this,Int.toNat_natCast]
theorem Hy{o n i:Nat}(h:i<n):ZB o n (i:Int)=some (o+i):=by simp[ZB,h]
theorem y5{α:Type}{l l':List α}(h:l'.length=l.length):Cw l l'=some ():=by simp[Cw,h]
theorem Nz{M a b:Nat}(h:b≠0)(h':a<M):Mg M a b=some (a/b):=by
 unfold Mg;rw[if_neg h,Nat.mod_eq_of_lt (Nat.lt_of_le_of_lt (Nat.div_le_self _ _) h')]
theorem Hz{a b:Nat}(h:b≠0):Kg a b=some (a%b):=by unfold Kg;rw[if_neg h]
theorem cc{α β:Type}{a:α}{f:α→Option β}:Option.bind (some a) f=f a:=by
 have h:∀o,o=some a→Option.bind o f=f a:=by intro o ho;rw[ho];rfl
 exact h _ Y
theorem gV{α:Type}{x y:α}:(bif true then x else y)=x:=by
 have h:∀b,b=true→(bif b then x else y)=x:=by intro b hb;rw[hb];rfl
 exact h _ Y
theorem iy{α:Type}{x y:α}:(bif false then x else y)=y:=by
 have h:∀b,b=false→(bif b then x else y)=y:=by intro b hb;rw[hb];rfl
 exact h _ Y
theorem fM{S E R:Type}{body:S→Option (S⊕E)}{s:S}{f:E→Option R}{r:R}(I:S→Prop)(Post:E→Prop)(μ:S→Nat)
  (step:∀s,I s→(∃s',body s=some (.inl s')∧I s'∧μ s'<μ s)∨(∃e,body s=some (.inr e)∧Post e)) (h:I s) (hf:∀e,Post e→f e=some r):(bX body s).bind f=some r:=by
 obtain⟨e,h1,h2⟩:=yD I Post μ step h
 rw[h1];exact hf e h2
theorem mW{S E R:Type}{body:S→Option (S⊕E)}{s:S}{f:E→Option R}{Q:R→Prop}(I:S→Prop)(Post:E→Prop)(μ:S→Nat)
  (step:∀s,I s→(∃s',body s=some (.inl s')∧I s'∧μ s'<μ s)∨(∃e,body s=some (.inr e)∧Post e)) (h:I s) (hf:∀e,Post e→∃r,f e=some r∧Q r):∃r,(bX body s).bind f=some r∧Q r:=by
 obtain⟨e,h1,h2⟩:=yD I Post μ step h
 rw[h1];exact hf e h2
theorem bH{S E R:Type}{body:S→Option (S⊕E)}{s:S}{f:E→Option R}{r:R}(st:Nat→S)(n:Nat)(e:E)(h0:s=st 0)(hs:∀k,k<n→body (st k)=some (.inl (st (k+1))))(he:body (st n)=some (.inr e))(hf:f e=some r):(bX body s).bind f=some r:=by
 rw[h0,V4 st n hs he];exact hf
theorem z6{S R:Type}{body:Nat→S→Option S}{s:S}{f:S→Option R}{r:R}(st:Nat→S){n:Nat}(h0:s=st 0)(hs:∀k,k<n→body k (st k)=some (st (k+1)))(hf:f (st n)=some r):(uM body n s).bind f=some r:=by
 rw[h0,Fe st n hs];exact hf
theorem aA{α β:Type}{x:Option α}{a:α}{f:α→Option β}{r:Option β}(h:x=some a)(hf:f a=r):x.bind f=r:=by rw[h];exact hf
theorem bO{α:Type}{b:Bool}{x y r:α}(hb:b=true)(h:x=r):(bif b then x else y)=r:=by rw[hb];exact h
theorem bG{α:Type}{b:Bool}{x y r:α}(hb:b=false)(h:y=r):(bif b then x else y)=r:=by rw[hb];exact h
end
end Go.Fw
