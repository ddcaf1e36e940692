/- A part of the proof: the framework, the plain functions, the followed functions, the plain laws. -/
import Derived.Test.YtningmnklfpfjaaGreatPTN3
set_option linter.unusedVariables false
set_option linter.unusedSimpArgs false
namespace Go.Proofs.YtningmnklfpfjaaGreat
section
open Go.Fw Go.Fw.Z Go.RowKit
theorem zT{x0:List Int}{x1:List Int}{r:Int}(h:l9 x0 x1=some r):Pure af 199 [slc 1 (List.map bH x0),slc 1 (List.map bH x1)] (ax r):=by
 refine bj Tryz.func199 Y (ae Y) (λc9 M vs hvs=>?_)
 unfold l9 at h
 refine sr<|ag Y<|dn<|qq<|sr<|mv Y<|lE h λx7 h7 h=>ln Y h7<|mv Y<|lE h λx9 h9 h=>ln Y h9<|lE h λdG fY h=>RT.max .none _ Y Y T (Ol (p:=x7) (q:=x9) fY)<|lE h λff kz h=>sb _ Y Y kz<|ag Y<|dn<|bE h λe6 uO je=>?_
 refine bJ (λ(uG:Unit)=>AS.cu 30 [] [] []) (λuG=>.inl uG=e6) ?_ (λuG uP=>?_)
 refine bf ?_
 refine bK uO (λs6=>AS.cu 30 [(0,.sv (slc 1 (List.map bH x0))),(1,.sv (slc 1 (List.map bH x1))),(5,ah s6)] [] []) (wR []) (λiA y6 G6 h uQ pE=>?_)
 try dsimp only
 refine qq<|sr<|mv Y<|lE h λeY iX h=>ge _ Y Y iX<|dn ?_
 cases eY
 refine cF<|bP<|aW.x<|aW.x<|bF.x<|aW.n ?_
 obtain rfl:=O (F h)
 exact⟨(),pE _ Y,wR []⟩
 refine cT<|bu<|aW.n<|qq<|bf<|qq<|sr<|mv Y<|mv Y<|bE (V h) λeE jd h=>cl (iG jd) ⟨Y,Y,ak⟩<|mv Y<|mv Y<|bE h λgh kA h=>cl (iG kA) ⟨Y,Y,ak⟩<|lE h λiK oz h=>ls _ Y Y oz<|dn ?_
 cases iK
 refine fs<|sr<|mv Y<|mv Y<|bE (F h) λke nN h=>cl (iG nN) ⟨Y,Y,ak⟩<|mv Y<|mv Y<|bE h λlp vz h=>cl (iG vz) ⟨Y,Y,ak⟩<|lE h λiM oM h=>gt _ Y Y oM<|dn ?_
 cases iM
 refine cF<|bu<|bF.n<|aW.n<|aX<|mv Y<|lE (F h) λdN gH h=>sb _ Y Y gH<|ag Y<|RT.done ?_
 obtain rfl:=O h
 exact aW.n ⟨dN,uQ _ Y,wR []⟩
 refine cT<|sr<|ag Y<|dn<|aY<|bF.r<|aW.r ?_
 obtain rfl:=O (V h)
 have GR:=pE _ Y
 subst GR
 refine aW.r<|bF.r<|aW.r<|aW.r ?_
 obtain rfl:=O je
 exact R1 Y
 refine cT<|sr<|ag Y<|dn<|aY<|aW.r<|bF.r<|aW.r ?_
 obtain rfl:=O (V h)
 have GR:=pE _ Y
 subst GR
 refine aW.r<|bF.r<|aW.r<|aW.r ?_
 obtain rfl:=O je
 exact R1 Y
 subst uP
 try dsimp only
 refine aW.n<|sr<|ag Y<|dn<|aY ?_
 obtain rfl:=O je
 exact R1 Y
theorem zU{x0:List Int}{x1:List Int}{r:List Int}(h:kH x0 x1=some r):Pure af 197 [slc 1 (List.map bH x0),slc 1 (List.map bH x1)] (slc 1 (List.map bH r)):=by
 refine bj Tryz.func197 Y (ae Y) (λc9 M vs hvs=>?_)
 unfold kH at h
 refine sr<|aI Y (aB (n:=1) (e:=bH))<|dn<|sr<|ag Y<|dn<|bU (cY 5 304 3 1 Y Y T)<|sr<|ag Y<|dn<|qq<|sr<|ag Y<|dn<|bE h λBn sK fC=>?_
 refine bJ (λ(zQ:(List Int))=>AS.cu 43 [(5,.row 306)] [] [(306,TR 3 1 bH zQ)]) (λzQ=>zQ=Bn) ?_ (λzQ ry=>?_)
 refine bf ?_
 refine bK sK (λnA=>AS.cu 43 [(0,.sv (slc 1 (List.map bH x0))),(1,.sv (slc 1 (List.map bH x1))),(5,.row 306),(6,ah nA.1),(7,ah nA.2.1)] [] [(306,TR 3 1 bH nA.2.2)]) (cz (λi=>bif Nat.beq i 306 then 304 else i) Y Y Y Y Y ⟨.sv aq,.sv aq,.row Y,.sv aq,.sv aq,ak⟩ trivial ⟨⟨_,Y,cg.refl _⟩,ak⟩ (λi hi=>by rw[bV (show i≠306 by omega)];rfl)) (λnA Vr Vs h uS rz=>?_)
 obtain⟨G5,RL,Jb⟩:=nA
 try dsimp only
 refine qq<|qq ?_
 refine bL h (λj22=>AS.cu 43 [(0,.sv (slc 1 (List.map bH x0))),(1,.sv (slc 1 (List.map bH x1))),(5,.row 306),(6,ah G5),(7,ah RL),(22,ai j22)] [] [(306,TR 3 1 bH Jb)]) (λh=>?_) (λRM h=>?_)
 refine aX<|mv Y<|mv Y<|lE h λff kz h=>ln Y kz<|lE h λc8 fI h=>ls _ Y Y fI<|mv Y<|bE h λRF mG h=>?_
 cases c8
 refine gm Y<|gm Y<|lE (F mG) λeX kf mG=>gn Y kf<|lE mG λdR jK mG=>RT.lss (.some Y Y) _ Y Y T jK ?_
 obtain rfl:=O mG
 refine pF Y<|mv Y<|bE h λXx nW h=>?_
 cases dR
 refine gm Y<|lE (F nW) λgh kA nW=>gg _ Y Y kA ?_
 obtain rfl:=O nW
 exact pF Y<|dn<|⟨gh,h,wR []⟩
 obtain rfl:=O (V nW)
 exact ww<|ww<|pT Y<|dn<|⟨true,h,wR []⟩
 obtain rfl:=O (V mG)
 refine ww<|ww<|ww<|ww<|pT Y<|mv Y<|bE h λapb r6 h=>?_
 obtain rfl:=O (V r6)
 exact ww<|ww<|pT Y<|dn<|⟨true,h,wR []⟩
 try dsimp only
 refine aW.n ?_
 cases RM
 refine cF<|bP<|aW.x<|aW.x<|bF.x<|aW.n ?_
 obtain rfl:=O (F h)
 exact⟨Jb,rz _ Y,wR []⟩
 refine cT<|bu<|aW.n<|qq<|bf<|sr<|mv Y<|mv Y<|bE (V h) λir oU h=>cl (iG oU) ⟨Y,Y,ak⟩<|mv Y<|mv Y<|bE h λuL zJ h=>cl (iG zJ) ⟨Y,Y,ak⟩<|lE h λnq xA h=>ad _ Y Y xA<|mv Y<|lE h λou xk h=>ad _ Y Y xk<|ag Y<|dn<|sr<|mo (s:=.row _) Y<|mv Y<|lE h λnE xo h=>?_
 refine RT.rem .none _ Y Y T (by decide) xo<|bl (l:=[nE]) (e:=bH) (.one Y (.nil)) Y Y Y Y Y Y<|bE h λuK AX h=>aR (k:=[nE]) (e:=bH) Y Y Y AX<|an (s:=.row _) Y<|dn<|aX<|mv Y<|lE h λlj sZ h=>RT.quo .none _ Y Y T (by decide) sZ<|ag Y<|RT.done<|bF.n<|aW.n<|aX<|mv Y<|lE h λgV nF h=>ad _ Y Y nF<|ag Y<|RT.done ?_
 obtain rfl:=O h
 exact aW.n ⟨(lj,gV,uK),uS _ Y,cz (λi=>bif Nat.beq i 306 then 38 else i) Y Y Y Y Y ⟨.sv aq,.sv aq,.row Y,.sv aq,.sv aq,ak⟩ trivial ⟨⟨_,Y,cg.refl _⟩,ak⟩ (λi hi=>by rw[bV (show i≠306 by omega)];rfl)⟩
 subst ry
 try dsimp only
 refine aW.n<|qq<|bU (cP (i:=306) (E1:=3) (n:=1) (e:=bH) (l:=zQ) Y)<|aX<|mv Y<|bE fC λpC Ay fC=>cl (fL Ay) ⟨Y,ak⟩<|ag Y<|dn<|aY ?_
 obtain rfl:=O fC
 exact R1 Y
theorem vF{x0:List Int}{x1:List Int}{r:List Int}(h:jB x0 x1=some r):Pure af 198 [slc 1 (List.map bH x0),slc 1 (List.map bH x1)] (slc 1 (List.map bH r)):=by
 refine bj Tryz.func198 Y (ae Y) (λc9 M vs hvs=>?_)
 unfold jB at h
 refine sr<|aI Y (aB (n:=1) (e:=bH))<|dn<|sr<|ag Y<|dn<|bU (cY 5 304 3 1 Y Y T)<|sr<|ag Y<|dn<|qq<|sr<|ag Y<|dn<|bE h λe8 Kt AZ=>?_
 refine bJ (λ(yh:(List Int))=>AS.cu 34 [(5,.row 306)] [] [(306,TR 3 1 bH yh)]) (λyh=>yh=e8) ?_ (λyh Ku=>?_)
 refine bf ?_
 refine bK Kt (λs8=>AS.cu 34 [(0,.sv (slc 1 (List.map bH x0))),(1,.sv (slc 1 (List.map bH x1))),(5,.row 306),(6,ah s8.1),(7,ah s8.2.1)] [] [(306,TR 3 1 bH s8.2.2)]) (cz (λi=>bif Nat.beq i 306 then 304 else i) Y Y Y Y Y ⟨.sv aq,.sv aq,.row Y,.sv aq,.sv aq,ak⟩ trivial ⟨⟨_,Y,cg.refl _⟩,ak⟩ (λi hi=>by rw[bV (show i≠306 by omega)];rfl)) (λs8 y8 G8 h Kv Kw=>?_)
 obtain⟨Oy,UN,yg⟩:=s8
 try dsimp only
 refine qq<|sr<|mv Y<|mv Y<|lE h λff kz h=>ln Y kz<|lE h λc8 fI h=>ls _ Y Y fI<|dn ?_
 cases c8
 refine cF<|bP<|aW.x<|aW.x<|bF.x<|aW.n ?_
 obtain rfl:=O (F h)
 exact⟨yg,Kw _ Y,wR []⟩
 refine cT<|bu<|aW.n<|qq<|bf<|sr<|mv Y<|mv Y<|bE (V h) λdR jK h=>cl (iG jK) ⟨Y,Y,ak⟩<|mv Y<|mv Y<|bE h λgK oO h=>cl (iG oO) ⟨Y,Y,ak⟩<|lE h λgh kA h=>sb _ Y Y kA<|mv Y<|lE h λgU oP h=>sb _ Y Y oP<|ag Y<|dn<|sr<|ag Y<|dn<|qq<|sr<|mv Y<|lE h λke nN h=>?_
 refine ls _ Y Y nN<|dn ?_
 refine bL h (λQG=>AS.cu 34 [(0,.sv (slc 1 (List.map bH x0))),(1,.sv (slc 1 (List.map bH x1))),(5,.row 306),(6,ah QG.1),(7,ah UN),(8,ah QG.2)] [] [(306,TR 3 1 bH yg)]) (λh=>?_) (λQG h=>?_)
 cases ke
 exact fs<|⟨(0,gU),(F h),wR []⟩
 exact cT<|sr<|mv Y<|lE (V h) λir oU h=>ad _ Y Y oU<|ag Y<|dn<|aX<|ag Y<|dn<|⟨(1,ir),h,wR []⟩
 obtain⟨agq,aaO⟩:=QG
 try dsimp only
 refine aW.n<|aX<|mo (s:=.row _) Y<|mv Y<|bl (l:=[aaO]) (e:=bH) (.one Y (.nil)) Y Y Y Y Y Y<|bE h λnq xA h=>aR (k:=[aaO]) (e:=bH) Y Y Y xA<|an (s:=.row _) Y<|RT.done<|bF.n<|aW.n<|aX<|mv Y<|lE h λdV jy h=>ad _ Y Y jy<|ag Y<|RT.done ?_
 obtain rfl:=O h
 exact aW.n ⟨(agq,dV,nq),Kv _ Y,cz (λi=>bif Nat.beq i 306 then 31 else i) Y Y Y Y Y ⟨.sv aq,.sv aq,.row Y,.sv aq,.sv aq,ak⟩ trivial ⟨⟨_,Y,cg.refl _⟩,ak⟩ (λi hi=>by rw[bV (show i≠306 by omega)];rfl)⟩
 subst Ku
 try dsimp only
 refine aW.n<|qq<|bU (cP (i:=306) (E1:=3) (n:=1) (e:=bH) (l:=yh) Y)<|aX<|mv Y<|bE AZ λou xk AZ=>cl (fL xk) ⟨Y,ak⟩<|ag Y<|dn<|aY ?_
 obtain rfl:=O AZ
 exact R1 Y
theorem lT{x0:List Int}{r:Int}(h:gw x0=some r):Pure af 208 [slc 1 (List.map bH x0)] (ax r):=by
 refine bj Tryz.func208 Y (ae Y) (λc9 M vs hvs=>?_)
 unfold gw at h
 refine sr<|ag Y<|dn<|sr<|ag Y<|dn<|qq<|sr<|mv Y<|lE h λx6 h6 h=>ln Y h6<|lE h λx7 h7 h=>sb _ Y Y h7<|ag Y<|dn<|bE h λe6 uO je=>?_
 refine bJ (λ(yU:Int)=>AS.cu 20 [(3,ah yU)] [] []) (λyU=>yU=e6) ?_ (λyU uP=>?_)
 refine bf ?_
 refine bK uO (λs6=>AS.cu 20 [(0,.sv (slc 1 (List.map bH x0))),(3,ah s6.1),(4,ah s6.2)] [] []) (wR []) (λs6 y6 G6 h uQ pE=>?_)
 obtain⟨ua,nX⟩:=s6
 try dsimp only
 refine qq<|sr<|mv Y<|lE h λx9 h9 h=>ge _ Y Y h9<|dn ?_
 cases x9
 refine cF<|bP<|aW.x<|aW.x<|bF.x<|aW.n ?_
 obtain rfl:=O (F h)
 exact⟨ua,pE _ Y,wR []⟩
 refine cT<|bu<|aW.n<|qq<|bf<|aX<|mv Y<|lE (V h) λeY iX h=>RT.mul .none _ Y Y T iX<|mv Y<|mv Y<|bE h λeX kf h=>ix Y Y kf<|lr Y Y<|lE h λeE jd h=>ad _ Y Y jd<|ag Y<|RT.done<|bF.n<|aW.n<|aX<|mv Y<|lE h λff kz h=>sb _ Y Y kz<|ag Y<|RT.done ?_
 obtain rfl:=O h
 exact aW.n ⟨(eE,ff),uQ _ Y,wR []⟩
 subst uP
 try dsimp only
 refine aW.n<|sr<|mv Y<|ag Y<|dn<|aY ?_
 obtain rfl:=O je
 exact R1 Y
theorem yt{x0:Int}{r:List Int}(h:mH x0=some r):Pure af 207 [ax x0] (slc 1 (List.map bH r)):=by
 refine bj Tryz.func207 Y (ae Y) (λc9 M vs hvs=>?_)
 unfold mH at h
 refine sr<|aI Y (aB (n:=1) (e:=bH))<|dn<|sr<|mv Y<|lE h λx4 h4 h=>RT.rem .none _ Y Y T (by decide) h4<|mv Y<|lE h λx6 h6 h=>RT.quo .none _ Y Y T (by decide) h6<|lE h λx7 h7 h=>RT.rem .none _ Y Y T (by decide) h7<|mv Y<|lE h λx9 h9 h=>RT.quo .none _ Y Y T (by decide) h9<|lE h λdG fY h=>RT.quo .none _ Y Y T (by decide) fY<|bl (l:=[x4,x7,dG]) (e:=bH) (.one Y (.one Y (.one Y (.nil)))) Y Y Y Y Y Y ?_
 refine bE h λc8 fI h=>cl (fL fI) ⟨Y,ak⟩<|ag Y<|dn<|aY ?_
 obtain rfl:=O h
 exact R1 Y
theorem wV{x0:List Int}{x1:Int}{r:List Int}(h:gy x0 x1=some r):Pure af 209 [slc 1 (List.map bH x0),ax x1] (slc 1 (List.map bH r)):=by
 refine bj Tryz.func209 Y (ae Y) (λc9 M vs hvs=>?_)
 unfold gy at h
 refine sr<|aI Y (aB (n:=1) (e:=bH))<|dn<|sr<|ag Y<|dn<|bU (cY 5 304 3 1 Y Y T)<|sr<|ag Y<|dn<|qq<|sr<|ag Y<|dn<|bE h λFo yl oV=>?_
 refine bJ (λ(jT:(List Int))=>AS.cu 35 [(5,.row 306)] [] [(306,TR 3 1 bH jT)]) (λjT=>jT=Fo) ?_ (λjT ym=>?_)
 refine bf ?_
 refine bK yl (λuF=>AS.cu 35 [(0,.sv (slc 1 (List.map bH x0))),(1,ah x1),(5,.row 306),(6,ah uF.1),(7,ah uF.2.1)] [] [(306,TR 3 1 bH uF.2.2)]) (cz (λi=>bif Nat.beq i 306 then 304 else i) Y Y Y Y Y ⟨.sv aq,.sv aq,.row Y,.sv aq,.sv aq,ak⟩ trivial ⟨⟨_,Y,cg.refl _⟩,ak⟩ (λi hi=>by rw[bV (show i≠306 by omega)];rfl)) (λuF ZG ZH h yn uN=>?_)
 obtain⟨KD,Xq,nY⟩:=uF
 try dsimp only
 refine qq<|qq ?_
 refine bL h (λGQ=>AS.cu 35 [(0,.sv (slc 1 (List.map bH x0))),(1,ah x1),(5,.row 306),(6,ah KD),(7,ah Xq),(16,ai GQ)] [] [(306,TR 3 1 bH nY)]) (λh=>?_) (λDi h=>?_)
 refine aX<|mv Y<|mv Y<|lE h λff kz h=>ln Y kz<|lE h λc8 fI h=>ls _ Y Y fI<|mv Y<|bE h λJc dH h=>?_
 cases c8
 refine gm Y<|lE (F dH) λdN gH dH=>gg _ Y Y gH ?_
 obtain rfl:=O dH
 exact pF Y<|dn<|⟨dN,h,wR []⟩
 obtain rfl:=O (V dH)
 exact ww<|ww<|pT Y<|dn<|⟨true,h,wR []⟩
 try dsimp only
 refine aW.n ?_
 cases Di
 refine cF<|bP<|aW.x<|aW.x<|bF.x<|aW.n ?_
 obtain rfl:=O (F h)
 exact⟨nY,uN _ Y,wR []⟩
 refine cT<|bu<|aW.n<|qq<|bf<|sr<|mv Y<|mv Y<|bE (V h) λgh kA h=>cl (iG kA) ⟨Y,Y,ak⟩<|mv Y<|lE h λgU oP h=>RT.mul .none _ Y Y T oP<|mv Y<|lE h λke nN h=>ad _ Y Y nN<|ag Y<|dn<|sr<|mo (s:=.row _) Y<|mv Y<|lE h λlp vz h=>RT.rem .none _ Y Y T (by decide) vz<|bl (l:=[lp]) (e:=bH) (.one Y (.nil)) Y Y Y Y Y Y ?_
 refine bE h λuL zJ h=>aR (k:=[lp]) (e:=bH) Y Y Y zJ<|an (s:=.row _) Y<|dn<|aX<|mv Y<|lE h λjY qT h=>RT.quo .none _ Y Y T (by decide) qT<|ag Y<|RT.done<|bF.n<|aW.n<|aX<|mv Y<|lE h λeE jd h=>ad _ Y Y jd<|ag Y<|RT.done ?_
 obtain rfl:=O h
 exact aW.n ⟨(jY,eE,uL),yn _ Y,cz (λi=>bif Nat.beq i 306 then 30 else i) Y Y Y Y Y ⟨.sv aq,.sv aq,.row Y,.sv aq,.sv aq,ak⟩ trivial ⟨⟨_,Y,cg.refl _⟩,ak⟩ (λi hi=>by rw[bV (show i≠306 by omega)];rfl)⟩
 subst ym
 try dsimp only
 refine aW.n<|qq<|bU (cP (i:=306) (E1:=3) (n:=1) (e:=bH) (l:=jT) Y)<|aX<|mv Y<|bE oV λyA zH oV=>cl (fL zH) ⟨Y,ak⟩<|ag Y<|dn<|aY ?_
 obtain rfl:=O oV
 exact R1 Y
theorem MX{x0:List Int}{x1:List Int}{r:List Int}(h:ug x0 x1=some r):Pure af 200 [slc 1 (List.map bH x0),slc 1 (List.map bH x1)] (slc 1 (List.map bH r)):=by
 refine bj Tryz.func200 Y (ae Y) (λc9 M vs hvs=>?_)
 unfold ug at h
 refine sr<|aI Y (aB (n:=1) (e:=bH))<|dn<|qq<|sr<|mv Y<|lE h λx9 h9 h=>ln Y h9<|mv Y<|lE h λff kz h=>ln Y kz<|lE h λc8 fI h=>ad _ Y Y fI<|lE h λeY iX h=>RT.leq .none _ Y Y T iX<|dn ?_
 cases eY
 refine fs<|sr<|aI Y (aB (n:=1) (e:=bH))<|dn<|qq<|sr<|mv Y<|lE (F h) λgh kA h=>ln Y kA<|lE h λiK oz h=>sb _ Y Y oz<|ag Y<|dn<|bE h λBn sK fC=>?_
 refine bJ (λ(yX:(List Int))=>AS.cu 51 [(5,.sv (slc 1 (List.map bH yX)))] [] []) (λyX=>yX=Bn) ?_ (λyX ry=>?_)
 refine bf ?_
 refine bK sK (λnA=>AS.cu 51 [(0,.sv (slc 1 (List.map bH x0))),(1,.sv (slc 1 (List.map bH x1))),(5,.sv (slc 1 (List.map bH nA.1))),(6,ah nA.2)] [] []) (wR []) (λnA Vr Vs h uS rz=>?_)
 obtain⟨sL,G5⟩:=nA
 try dsimp only
 refine qq<|sr<|mv Y<|lE h λgV nF h=>ge _ Y Y nF<|dn ?_
 cases gV
 refine cF<|bP<|aW.x<|aW.x<|bF.x<|aW.n ?_
 obtain rfl:=O (F h)
 exact⟨sL,rz _ Y,wR []⟩
 refine cT<|bu<|aW.n<|qq<|bf<|sr<|RT.Mo (l:=[0]) (e:=bH) .none (.one Y (.nil)) T Y T Y Y Y Y Y Y<|mv Y<|bE (V h) λiM oM h=>RT.aab (k:=sL) (e:=bH) .none Y Y Y T Y T oM<|ag Y<|dn<|sr<|ag Y<|dn<|bE h λXy Jh mI=>?_
 refine bJ (λ(El:(List Int))=>AS.cu 51 [(0,.sv (slc 1 (List.map bH x0))),(1,.sv (slc 1 (List.map bH x1))),(5,.sv (slc 1 (List.map bH El))),(6,ah G5)] [] []) (λEl=>El=Xy) ?_ (λEl Ji=>?_)
 refine bf ?_
 refine bK Jh (λyq=>AS.cu 51 [(0,.sv (slc 1 (List.map bH x0))),(1,.sv (slc 1 (List.map bH x1))),(5,.sv (slc 1 (List.map bH yq.1))),(6,ah G5),(7,ah yq.2)] [] []) (wR []) (λyq y22 G22 h Jj Jk=>?_)
 obtain⟨Jd,nZ⟩:=yq
 try dsimp only
 refine qq<|sr<|mv Y<|mv Y<|mv Y<|bE h λou xk h=>ix Y Y xk<|lr Y Y<|lE h λpB yN h=>ls _ Y Y yN<|dn ?_
 cases pB
 refine cF<|bP<|aW.x<|aW.x<|bF.x<|aW.n ?_
 obtain rfl:=O (F h)
 exact⟨Jd,Jk _ Y,wR []⟩
 refine cT<|bu<|aW.n<|qq<|bf<|aX<|mv Y<|mv Y<|mv Y<|mv Y<|bE (V h) λpC Ay h=>ix Y Y Ay<|lr Y Y<|mv Y<|lE h λyf GU h=>sb _ Y Y GU<|lE h λyK h46 h=>RT.min .none _ Y Y T (V4 (p:=1024) (q:=yf) h46)<|bE h λxm AY h=>cl (wV AY) ⟨Y,Y,ak⟩<|bE h λuM h48 h=>cl (zU h48) ⟨Y,Y,ak⟩<|ag Y ?_
 refine RT.done<|bF.n<|aW.n<|aX<|mv Y<|lE h λpD A0 h=>ad _ Y Y A0<|ag Y<|RT.done ?_
 obtain rfl:=O h
 exact aW.n ⟨(uM,pD),Jj _ Y,wR []⟩
 subst Ji
 try dsimp only
 refine bF.n<|aW.n<|aX<|mv Y<|lE mI λji qS mI=>sb _ Y Y qS<|ag Y<|RT.done ?_
 obtain rfl:=O mI
 exact aW.n ⟨(El,ji),uS _ Y,wR []⟩
 subst ry
 try dsimp only
 refine aW.n<|sr<|mv Y<|bE fC λAx Ks fC=>cl (fL Ks) ⟨Y,ak⟩<|ag Y<|dn<|aY ?_
 obtain rfl:=O fC
 exact R1 Y
 refine cT<|sr<|mv Y<|bE (V h) λdN gH h=>cl (lT gH) ⟨Y,ak⟩<|mv Y<|bE h λdR jK h=>cl (lT jK) ⟨Y,ak⟩<|lE h λeE jd h=>RT.mul .none _ Y Y T jd<|bE h λjb lZ h=>cl (yt lZ) ⟨Y,ak⟩<|ag Y<|dn<|aY<|aW.r ?_
 obtain rfl:=O h
 exact R1 Y
set_option maxHeartbeats 4000000 in
theorem Em{x0:List Int}{x1:List Int}{r:(List Int)×(List Int)}(h:qp x0 x1=some r):Pure af 196 [slc 1 (List.map bH x0),slc 1 (List.map bH x1)] (.Cp [slc 1 (List.map bH r.1),slc 1 (List.map bH r.2)]):=by
 refine bj Tryz.func196 Y (ae Y) (λc9 M vs hvs=>?_)
 unfold qp at h
 refine sr<|aI Y (aB (n:=1) (e:=bH))<|aI Y (aB (n:=1) (e:=bH))<|dn<|qq<|qq ?_
 refine bL h (λj3=>AS.cu 120 [(0,.sv (slc 1 (List.map bH x0))),(1,.sv (slc 1 (List.map bH x1))),(21,ai j3)] [] []) (λh=>?_) (λXr h=>?_)
 refine aX<|mv Y<|lE h λdN gH h=>ln Y gH<|lE h λeX kf h=>RT.leq .none _ Y Y T kf<|mv Y<|bE h λXv PC h=>?_
 cases eX
 obtain rfl:=O (F PC)
 exact ww<|ww<|ww<|pF Y<|dn<|⟨false,h,wR []⟩
 refine gm Y<|lE (V PC) λjb lZ PC=>gn Y lZ<|lE PC λgK oO PC=>RT.leq (.some Y Y) _ Y Y T oO ?_
 obtain rfl:=O PC
 exact pT Y<|dn<|⟨gK,h,wR []⟩
 try dsimp only
 refine aW.n ?_
 cases Xr
 refine fs<|sr<|mv Y<|lE (F h) λpB yN h=>ln Y yN<|bE h λnE xo h=>RT.vX (n:=1) (e:=bH) .none Y Y T Y T (by rfl) (by decide) (by exact⟨aq,ak⟩) xo<|an (s:=.row _) Y<|dn<|qq<|sr<|mv Y<|lE h λuK AX h=>ln Y AX<|lE h λyj Fs h=>eq _ Y Y (xj (p:=uK) (q:=1) Fs)<|dn ?_
 cases yj
 refine fs<|sr<|aI Y (aB (n:=1) (e:=bH))<|dn<|qq<|sr<|mv Y<|lE (F h) λx73 h73 h=>ln Y h73<|lE h λx74 h74 h=>sb _ Y Y h74<|ag Y<|dn<|bE h λe44 apd agv=>?_
 refine bJ (λ(UO:(List Int)×(List Int))=>AS.cu 120 [(6,.row 36),(9,.sv (slc 1 (List.map bH UO.1)))] [] [(36,TR 3 1 bH UO.2)]) (λUO=>UO=e44) ?_ (λUO ape=>?_)
 refine bf ?_
 refine bK apd (λs44=>AS.cu 120 [(0,.sv (slc 1 (List.map bH x0))),(1,.sv (slc 1 (List.map bH x1))),(6,.row 36),(9,.sv (slc 1 (List.map bH s44.1))),(10,ah s44.2.1)] [] [(36,TR 3 1 bH s44.2.2)]) (wR []) (λs44 y44 G44 h apf apg=>?_)
 obtain⟨Pz,zR,zS⟩:=s44
 try dsimp only
 refine qq<|sr<|mv Y<|lE h λx76 h76 h=>ge _ Y Y h76<|dn ?_
 cases x76
 refine cF<|bP<|aW.x<|aW.x<|bF.x<|aW.n ?_
 obtain rfl:=O (F h)
 exact⟨(Pz,zS),apg _ Y,wR []⟩
 refine cT<|bu<|aW.n<|qq<|bf<|sr<|mv Y<|mv Y<|bE (V h) λx81 h81 h=>ix Y Y h81<|lr Y Y<|RT.Mo (l:=[x81]) (e:=bH) .none (.one Y (.nil)) T Y T Y Y Y Y Y Y<|mv Y<|bE h λx85 h85 h=>RT.aab (k:=Pz) (e:=bH) .none Y Y Y T Y T h85<|bE h λQ9 h86 h=>cl (fL h86) ⟨Y,ak⟩<|ag Y<|dn<|sr<|ag Y<|ag Y ?_
 refine dn<|qq<|sr<|mv Y<|lE h λx88 h88 h=>ln Y h88<|mv Y<|lE h λVm h90 h=>ln Y h90<|lE h λx91 h91 h=>ls _ Y Y h91<|dn ?_
 refine bL h (λj46=>AS.cu 120 [(0,.sv (slc 1 (List.map bH x0))),(1,.sv (slc 1 (List.map bH x1))),(6,.row 36),(9,.sv (slc 1 (List.map bH Q9))),(10,ah zR),(11,ah 0),(12,ah j46)] [] [(36,TR 3 1 bH zS)]) (λh=>?_) (λXt h=>?_)
 cases x91
 exact fs<|⟨65536,(F h),wR []⟩
 exact cT<|aX<|ag Y<|dn<|⟨1,(V h),wR []⟩
 try dsimp only
 refine aW.n<|qq<|bE h λe54 apj Jl=>?_
 refine bJ (λ(Bv:Int)=>AS.cu 120 [(0,.sv (slc 1 (List.map bH x0))),(1,.sv (slc 1 (List.map bH x1))),(6,.row 36),(9,.sv (slc 1 (List.map bH Q9))),(10,ah zR),(11,ah Bv)] [] [(36,TR 3 1 bH zS)]) (λBv=>Bv=e54) ?_ (λBv apl=>?_)
 refine bf ?_
 refine bK apj (λs54=>AS.cu 120 [(0,.sv (slc 1 (List.map bH x0))),(1,.sv (slc 1 (List.map bH x1))),(6,.row 36),(9,.sv (slc 1 (List.map bH Q9))),(10,ah zR),(11,ah s54.1),(12,ah s54.2)] [] [(36,TR 3 1 bH zS)]) (wR []) (λs54 y54 G54 h apm apn=>?_)
 obtain⟨rB,wU⟩:=s54
 try dsimp only
 refine qq<|sr<|mv Y<|mv Y<|lE h λx94 h94 h=>sb _ Y Y h94<|lE h λx95 h95 h=>gt _ Y Y h95<|dn ?_
 cases x95
 refine cF<|bP<|aW.x<|aW.x<|bF.x<|aW.n ?_
 obtain rfl:=O (F h)
 exact⟨rB,apn _ Y,wR []⟩
 refine cT<|bu<|aW.n<|bf<|sr<|mv Y<|mv Y<|lE (V h) λZN h98 h=>ad _ Y Y h98<|lE h λx99 h99 h=>RT.quo .none _ Y Y T (by decide) h99<|ag Y<|dn<|sr<|mv Y<|mv Y<|bE h λDU Rj h=>cl (wV Rj) ⟨Y,Y,ak⟩<|mv Y<|bE h λKq Wz h=>cl (zT Wz) ⟨Y,Y,ak⟩<|lE h λKr WA h=>RT.leq .none _ Y Y T WA<|dn ?_
 refine bL h (λj56=>AS.cu 120 [(0,.sv (slc 1 (List.map bH x0))),(1,.sv (slc 1 (List.map bH x1))),(6,.row 36),(9,.sv (slc 1 (List.map bH Q9))),(10,ah zR),(11,ah j56.1),(12,ah j56.2)] [] [(36,TR 3 1 bH zS)]) (λh=>?_) (λj56 h=>?_)
 cases Kr
 exact cF<|aX<|mv Y<|ag Y<|dn<|⟨(rB,x99),(F h),wR []⟩
 exact cT<|aX<|mv Y<|ag Y<|dn<|⟨(x99,wU),(V h),wR []⟩
 obtain⟨RO,RQ⟩:=j56
 try dsimp only
 refine bF.n ?_
 obtain rfl:=O h
 exact aW.n ⟨(RO,RQ),apm _ Y,wR []⟩
 subst apl
 try dsimp only
 refine aW.n<|aX<|mo (s:=.row _) Y<|mv Y<|mv Y<|mv Y<|mv Y<|mv Y<|bE Jl λIw WB Jl=>cl (wV WB) ⟨Y,Y,ak⟩<|bE Jl λXu apq Jl=>cl (vF apq) ⟨Y,Y,ak⟩<|bE Jl λaaQ apr Jl=>iR Y Y Y apr<|bE Jl λl58 ako Jl=>sR Bv Y Y Y Y ako<|ag Y<|RT.done<|bF.n<|aW.n<|aX<|mv Y<|lE Jl λx78 h78 Jl=>?_
 refine sb _ Y Y h78<|ag Y<|RT.done ?_
 obtain rfl:=O Jl
 exact aW.n ⟨(Xu,x78,l58),apf _ Y,wR []⟩
 subst ape
 obtain⟨adr,RR⟩:=UO
 try dsimp only
 refine aW.n<|qq<|bU (cP (i:=36) (E1:=3) (n:=1) (e:=bH) (l:=RR) Y)<|aX<|mv Y<|bE agv λakk aps agv=>cl (fL aps) ⟨Y,ak⟩<|mv Y<|ag Y<|ag Y<|dn<|aY ?_
 obtain rfl:=O agv
 exact R2 Y Y
 refine cT<|sr<|ag Y<|dn<|qq<|sr<|mv Y<|lE (V h) λyJ GS h=>ln Y GS<|lE h λpC Ay h=>sb _ Y Y Ay<|ag Y<|dn<|bE h λe18 agf Bp=>?_
 refine bJ (λ(UP:Int×(List Int))=>AS.cu 120 [(6,.row 36),(7,ah UP.1)] [] [(36,TR 3 1 bH UP.2)]) (λUP=>UP=e18) ?_ (λUP agh=>?_)
 refine bf ?_
 refine bK agf (λTh=>AS.cu 120 [(0,.sv (slc 1 (List.map bH x0))),(1,.sv (slc 1 (List.map bH x1))),(6,.row 36),(7,ah Th.1),(8,ah Th.2.1)] [] [(36,TR 3 1 bH Th.2.2)]) (wR []) (λTh y18 G18 h agi agj=>?_)
 obtain⟨Tq,Py,Je⟩:=Th
 try dsimp only
 refine qq<|sr<|mv Y<|lE h λr9 Az h=>ge _ Y Y Az<|dn ?_
 cases r9
 refine cF<|bP<|aW.x<|aW.x<|bF.x<|aW.n ?_
 obtain rfl:=O (F h)
 exact⟨(Tq,Je),agj _ Y,wR []⟩
 refine cT<|bu<|aW.n<|qq<|bf<|sr<|mv Y<|lE (V h) λuM h48 h=>RT.mul .none _ Y Y T h48<|mv Y<|mv Y<|bE h λBU IA h=>ix Y Y IA<|lr Y Y<|lE h λVq Wx h=>ad _ Y Y Wx<|ag Y<|dn<|aZ mixed<|mo (s:=.row _) Y<|mv Y<|mv Y<|mv Y<|bE h λQE h58 h=>ix Y Y h58<|lr Y Y<|bE h λQD Vn h=>?_
 refine RT.quo .none _ Y Y T (nzI Vn) (V5 Vn)<|mv Y<|mv Y<|bE h λx63 h63 h=>ix Y Y h63<|lr Y Y<|bE h λS4 ZI h=>RT.rem .none _ Y Y T (aeU ZI) (aeV ZI)<|bE h λMu h66 h=>iR Y Y Y h66<|bE h λZM Xj h=>sR QD Y Y Y Y Xj<|ag Y ?_
 refine RT.done ⟨by kernel_rfl,?_⟩
 refine bF.n<|aW.n<|aX<|mv Y<|lE h λyK h46 h=>sb _ Y Y h46<|ag Y<|RT.done ?_
 obtain rfl:=O h
 exact aW.n ⟨(S4,yK,ZM),agi _ Y,wR []⟩
 subst agh
 obtain⟨Xs,RN⟩:=UP
 try dsimp only
 refine aW.n<|qq<|bU (cP (i:=36) (E1:=3) (n:=1) (e:=bH) (l:=RN) Y)<|aX<|mv Y<|bE Bp λQ6 h68 Bp=>cl (fL h68) ⟨Y,ak⟩<|mv Y<|bl (l:=[Xs]) (e:=bH) (.one Y (.nil)) Y Y Y Y Y Y<|bE Bp λVp h71 Bp=>cl (fL h71) ⟨Y,ak⟩<|ag Y<|ag Y<|dn<|aY<|aW.r ?_
 obtain rfl:=O Bp
 exact R2 Y Y
 refine cT<|sr<|mv Y<|bE (V h) λgU oP h=>cl (lT oP) ⟨Y,ak⟩<|mv Y<|bE h λke nN h=>cl (lT nN) ⟨Y,ak⟩<|bE h λji qS h=>RT.quo .none _ Y Y T (nzI qS) (V5 qS)<|bE h λir oU h=>cl (yt oU) ⟨Y,ak⟩<|mv Y<|bE h λiM oM h=>cl (lT oM) ⟨Y,ak⟩<|mv Y<|bE h λnq xA h=>cl (lT xA) ⟨Y,ak⟩ ?_
 refine bE h λjY qT h=>RT.rem .none _ Y Y T (aeU qT) (aeV qT)<|bE h λou xk h=>cl (yt xk) ⟨Y,ak⟩<|ag Y<|ag Y<|dn<|aY<|aW.r ?_
 obtain rfl:=O h
 exact R2 Y Y
end
section
open Go.Fw Go.Fw.Z Go.RowKit
theorem jD{x0:Zr}{r:Int}(h:fO x0=some r):Pure af 109 [.agg (eZ x0)] (ax r):=by
 obtain⟨bn,bp⟩:=x0
 refine bj Tryz.func109 Y (ae Y) (λc9 M vs hvs=>?_)
 unfold fO at h
 refine sr<|bx Y<|ag Y<|dn<|qq<|sr<|fa Y Y<|lV Y Y Y<|bE h λx5 h5 h=>cl (dA h5) ⟨Y,ak⟩<|lE h λx6 h6 h=>ln Y h6<|lE h λx7 h7 h=>eq _ Y Y (xj (p:=x6) (q:=0) h7)<|dn ?_
 cases x7
 refine fs<|qq<|sr<|fa Y Y<|lV Y Y Y<|dn ?_
 replace h:=F h
 cases bn
 refine fs<|sr<|ag Y<|dn<|aY ?_
 obtain rfl:=O (F h)
 exact R1 Y
 refine cT<|sr<|ag Y<|dn<|aY<|aW.r ?_
 obtain rfl:=O (V h)
 exact R1 Y
 refine cT<|sr<|ag Y<|dn<|aY<|aW.r ?_
 obtain rfl:=O (V h)
 exact R1 Y
theorem MY{x0:Zr}{x1:Zr}{r:Int}(h:uh x0 x1=some r):Pure af 172 [.agg (eZ x0),.agg (eZ x1)] (ax r):=by
 obtain⟨bn,bp⟩:=x0
 obtain⟨ct,cj⟩:=x1
 refine bj Tryz.func172 Y (ae Y) (λc9 M vs hvs=>?_)
 unfold uh at h
 refine sr<|bx Y<|bx Y<|ag Y<|dn<|qq<|qq<|aZ mixed<|ld Y Y (.k2 Y Y)<|bE h λx7 h7 h=>cl (jD h7) ⟨Y,ak⟩<|ld Y Y (.k2 Y Y)<|bE h λx9 h9 h=>cl (jD h9) ⟨Y,ak⟩<|lE h λdG fY h=>ne _ Y Y (Le (p:=x7) (q:=x9) fY) ?_
 refine RT.done ⟨by kernel_rfl,?_⟩
 refine aW.n ?_
 cases dG
 refine fs<|qq<|aZ mixed<|fa Y Y<|lV Y Y Y<|bE (F h) λeE jd h=>cl (dA jd) ⟨Y,ak⟩<|fa Y Y<|lV Y Y Y<|bE h λgh kA h=>cl (dA kA) ⟨Y,ak⟩<|bE h λiK oz h=>cl (zT oz) ⟨Y,Y,ak⟩<|ag Y ?_
 refine RT.done ⟨by kernel_rfl,?_⟩
 refine aW.n<|qq<|sr<|ld Y Y (.k2 Y Y)<|bE h λgV nF h=>cl (jD nF) ⟨Y,ak⟩<|lE h λke nN h=>ls _ Y Y nN<|dn ?_
 cases ke
 refine fs<|sr<|mv Y<|ag Y<|dn<|aY ?_
 obtain rfl:=O (F h)
 exact R1 Y
 refine cT<|sr<|mv Y<|lE (V h) λir oU h=>RT.neg .none _ Y T oU<|ag Y<|dn<|aY<|aW.r ?_
 obtain rfl:=O h
 exact R1 Y
 refine cT<|qq<|qq<|aZ mixed<|ld Y Y (.k2 Y Y)<|bE (V h) λc8 fI h=>cl (jD fI) ⟨Y,ak⟩<|ld Y Y (.k2 Y Y)<|bE h λdV jy h=>cl (jD jy) ⟨Y,ak⟩<|lE h λdN gH h=>ls _ Y Y gH ?_
 refine RT.done ⟨by kernel_rfl,?_⟩
 refine aW.n ?_
 cases dN
 refine fs<|sr<|ag Y<|dn<|aY<|aW.r ?_
 obtain rfl:=O (F h)
 exact R1 Y
 refine cT<|sr<|ag Y<|dn<|aY<|aW.r<|aW.r ?_
 obtain rfl:=O (V h)
 exact R1 Y
theorem En{x0:Zr}{r:Zr}(h:qt x0=some r):Pure af 147 [.agg (eZ x0)] (.agg (eZ r)):=by
 obtain⟨bn,bp⟩:=x0
 refine bj Tryz.func147 Y (ae Y) (λc9 M vs hvs=>?_)
 unfold qt at h
 refine sr<|bx Y<|al (cs:=[ay false,au]) (by exact⟨aq,aB,ak⟩) Y<|dn<|qq<|aZ mixed<|fa Y Y<|lV Y Y Y<|lE h λx5 h5 h=>nt Y _ h5<|fa Y Y<|lV Y Y Y<|bE h λx8 h8 h=>cl (dA h8) ⟨Y,ak⟩ ?_
 obtain⟨⟨PA,PB⟩,h9,h⟩:=bS h
 refine cl (jC h9) ⟨Y,Y,ak⟩<|so Y Y Y ?_
 refine RT.done ⟨by kernel_rfl,?_⟩
 refine aW.n<|aY ?_
 obtain rfl:=O h
 exact RZ (.agg Y Y (.k2 Y Y) Y (.nil))
theorem MZ{x0:Zr}{r:Zr}(h:uj x0=some r):Pure af 174 [.agg (eZ x0)] (.agg (eZ r)):=by
 obtain⟨bn,bp⟩:=x0
 refine bj Tryz.func174 Y (ae Y) (λc9 M vs hvs=>?_)
 unfold uj at h
 refine sr<|bx Y<|al (cs:=[ay false,au]) (by exact⟨aq,aB,ak⟩) Y<|dn<|sr<|fa Y Y<|lV Y Y Y<|bE h λx5 h5 h=>cl (dA h5) ⟨Y,ak⟩ ?_
 obtain⟨⟨Jf,Jg⟩,h6,h⟩:=bS h
 refine cl (jC h6) ⟨Y,Y,ak⟩<|so Y Y Y<|dn<|aY ?_
 obtain rfl:=O h
 exact RZ (.agg Y Y (.k2 Y Y) Y (.nil))
theorem M1{x0:Zr}{x1:Zr}{r:Zr}(h:uo x0 x1=some r):Pure af 182 [.agg (eZ x0),.agg (eZ x1)] (.agg (eZ r)):=by
 obtain⟨bn,bp⟩:=x0
 obtain⟨ct,cj⟩:=x1
 refine bj Tryz.func182 Y (ae Y) (λc9 M vs hvs=>?_)
 unfold uo at h
 refine sr<|bx Y<|bx Y<|al (cs:=[ay false,au]) (by exact⟨aq,aB,ak⟩) Y<|dn<|qq<|aZ mixed<|fa Y Y<|lV Y Y Y<|bE h λx9 h9 h=>cl (dA h9) ⟨Y,ak⟩<|fa Y Y<|lV Y Y Y<|bE h λc8 fI h=>cl (dA fI) ⟨Y,ak⟩<|ag Y<|ag Y ?_
 refine RT.done ⟨by kernel_rfl,?_⟩
 refine aW.n<|qq<|sr<|fa Y Y<|lV Y Y Y<|fa Y Y<|lV Y Y Y<|lE h λdR jK h=>RT.ZV .none _ Y Y T jK<|dn ?_
 cases dR
 refine fs<|qq<|sr<|mv Y<|mv Y<|bE (F h) λji qS h=>cl (zT qS) ⟨Y,Y,ak⟩<|lE h λir oU h=>ge _ Y Y oU<|dn ?_
 cases ir
 refine fs<|qq<|aZ mixed<|fa Y Y<|lV Y Y Y<|mv Y<|mv Y<|bE (F h) λuK AX h=>cl (vF AX) ⟨Y,Y,ak⟩ ?_
 obtain⟨⟨Eg,Eh⟩,Fs,h⟩:=bS h
 refine cl (jC Fs) ⟨Y,Y,ak⟩<|so Y Y Y ?_
 refine RT.done ⟨by kernel_rfl,?_⟩
 refine aW.n<|aY ?_
 obtain rfl:=O h
 exact RZ (.agg Y Y (.k2 Y Y) Y (.nil))
 refine cT<|qq<|aZ mixed<|fa Y Y<|lV Y Y Y<|mv Y<|mv Y<|bE (V h) λjY qT h=>cl (vF qT) ⟨Y,Y,ak⟩ ?_
 obtain⟨⟨Cx,Cy⟩,xk,h⟩:=bS h
 refine cl (jC xk) ⟨Y,Y,ak⟩<|so Y Y Y ?_
 refine RT.done ⟨by kernel_rfl,?_⟩
 refine aW.n<|aY<|aW.r ?_
 obtain rfl:=O h
 exact RZ (.agg Y Y (.k2 Y Y) Y (.nil))
 refine cT<|qq<|aZ mixed<|fa Y Y<|lV Y Y Y<|mv Y<|mv Y<|bE (V h) λiK oz h=>cl (zU oz) ⟨Y,Y,ak⟩ ?_
 obtain⟨⟨As,At⟩,oP,h⟩:=bS h
 refine cl (jC oP) ⟨Y,Y,ak⟩<|so Y Y Y ?_
 refine RT.done ⟨by kernel_rfl,?_⟩
 refine aW.n<|aY<|aW.r ?_
 obtain rfl:=O h
 exact RZ (.agg Y Y (.k2 Y Y) Y (.nil))
theorem rC{x0:Zr}{x1:Zr}{r:Zr}(h:kI x0 x1=some r):Pure af 181 [.agg (eZ x0),.agg (eZ x1)] (.agg (eZ r)):=by
 obtain⟨bn,bp⟩:=x0
 obtain⟨ct,cj⟩:=x1
 refine bj Tryz.func181 Y (ae Y) (λc9 M vs hvs=>?_)
 unfold kI at h
 refine sr<|bx Y<|bx Y<|al (cs:=[ay false,au]) (by exact⟨aq,aB,ak⟩) Y<|dn<|qq<|aZ mixed<|fa Y Y<|lV Y Y Y<|fa Y Y<|lV Y Y Y<|lE h λx9 h9 h=>RT.Uh .none _ Y Y T h9<|fa Y Y<|lV Y Y Y<|bE h λc8 fI h=>cl (dA fI) ⟨Y,ak⟩<|fa Y Y ?_
 refine lV Y Y Y<|bE h λdN gH h=>cl (dA gH) ⟨Y,ak⟩<|bE h λeX kf h=>cl (MX kf) ⟨Y,Y,ak⟩ ?_
 obtain⟨⟨qY,qZ⟩,jK,h⟩:=bS h
 refine cl (jC jK) ⟨Y,Y,ak⟩<|so Y Y Y ?_
 refine RT.done ⟨by kernel_rfl,?_⟩
 refine aW.n<|aY ?_
 obtain rfl:=O h
 exact RZ (.agg Y Y (.k2 Y Y) Y (.nil))
theorem Eo{x0:Zr}{x1:Zr}{r:Zr×Zr×Int}(h:qu x0 x1=some r):Pure af 171 [.agg (eZ x0),.agg (eZ x1)] (.Cp [.agg (eZ r.1),.agg (eZ r.2.1),ax r.2.2]):=by
 obtain⟨bn,bp⟩:=x0
 obtain⟨ct,cj⟩:=x1
 refine bj Tryz.func171 Y (ae Y) (λc9 M vs hvs=>?_)
 unfold qu at h
 refine sr<|bx Y<|bx Y<|al (cs:=[ay false,au]) (by exact⟨aq,aB,ak⟩) Y<|al (cs:=[ay false,au]) (by exact⟨aq,aB,ak⟩) Y<|ag Y<|dn<|qq<|aZ mixed<|fa Y Y<|lV Y Y Y<|bE h λeY iX h=>cl (dA iX) ⟨Y,ak⟩<|fa Y Y ?_
 refine lV Y Y Y<|bE h λeX kf h=>cl (dA kf) ⟨Y,ak⟩<|ag Y<|ag Y ?_
 refine RT.done ⟨by kernel_rfl,?_⟩
 refine aW.n<|qq<|sr<|mv Y<|lE h λeE jd h=>ln Y jd<|lE h λjb lZ h=>eq _ Y Y (xj (p:=eE) (q:=0) lZ)<|dn ?_
 cases jb
 refine fs<|sr<|mv Y<|mv Y ?_
 obtain⟨⟨Iz,Mx⟩,nN,h⟩:=bS (F h)
 refine cl (Em nN) ⟨Y,Y,ak⟩<|mv Y<|ex Y Y<|ex Y Y<|ag Y<|ag Y<|dn<|qq<|qq ?_
 refine bL h (λj3=>AS.cu 50 [(2,.ptr 2 0),(3,.ptr 3 0),(4,.ptr 4 0),(5,.ptr 5 0),(8,.sv (slc 1 (List.map bH eX))),(9,.sv (slc 1 (List.map bH Iz))),(10,.sv (slc 1 (List.map bH Mx))),(34,ai j3.1)] [(5,⟨41,[ai false,.sv au]⟩),(4,⟨41,[ai false,.sv au]⟩),(3,⟨41,[ai ct,.sv (slc 1 (List.map bh cj))]⟩),(2,⟨41,[ai j3.2,.sv (slc 1 (List.map bh bp))]⟩)] []) (λh=>?_) (λj3 h=>?_)
 refine aX<|fa Y Y<|lV Y Y Y<|mv Y<|bE h λads MD h=>?_
 cases bn
 obtain rfl:=O (F MD)
 exact ww<|ww<|ww<|pF Y<|dn<|⟨(false,false),h,wR []⟩
 refine gm Y<|lE (V MD) λjY qT MD=>gn Y qT<|lE MD λou xk MD=>gg _ Y Y xk ?_
 obtain rfl:=O MD
 exact pT Y<|dn<|⟨(ou,true),h,wR []⟩
 obtain⟨Xw,C2⟩:=j3
 try dsimp only
 refine aW.n ?_
 refine bL h (λj5=>AS.cu 50 [(2,.ptr 2 0),(3,.ptr 3 0),(4,.ptr 4 0),(5,.ptr 5 0),(9,.sv (slc 1 (List.map bH j5.1))),(10,.sv (slc 1 (List.map bH j5.2)))] [(5,⟨41,[ai false,.sv au]⟩),(4,⟨41,[ai false,.sv au]⟩),(3,⟨41,[ai ct,.sv (slc 1 (List.map bh cj))]⟩),(2,⟨41,[ai C2,.sv (slc 1 (List.map bh bp))]⟩)] []) (λh=>?_) (λj5 h=>?_)
 cases Xw
 exact fs<|⟨(Iz,Mx),(F h),wR []⟩
 exact cT<|sr<|mv Y<|bl (l:=[1]) (e:=bH) (.one Y (.nil)) Y Y Y Y Y Y<|bE (V h) λpD A0 h=>cl (zU A0) ⟨Y,Y,ak⟩<|ag Y<|dn<|aX<|mv Y<|mv Y<|bE h λlj sZ h=>cl (vF sZ) ⟨Y,Y,ak⟩<|ag Y<|dn<|⟨(pD,lj),h,wR []⟩
 obtain⟨Wo,OG⟩:=j5
 try dsimp only
 refine aW.n<|sr<|fa Y Y<|lV Y Y Y<|fa Y Y<|lV Y Y Y<|lE h λyf GU h=>RT.Uh .none _ Y Y T GU<|mv Y ?_
 obtain⟨⟨Gg,Gh⟩,AY,h⟩:=bS h
 refine cl (jC AY) ⟨Y,Y,ak⟩<|mv Y ?_
 obtain⟨⟨OH,OI⟩,h49,h⟩:=bS h
 refine cl (jC h49) ⟨Y,Y,ak⟩<|so Y Y Y<|so Y Y Y<|ag Y<|dn<|aY ?_
 obtain rfl:=O h
 exact RZ (.agg Y Y (.k2 Y Y) Y (.agg Y Y (.k2 Y Y) Y (.tmp Y (.nil))))
 refine cT<|sr<|bI (cs:=[_,_]) (cs':=[ay false,au]) (.nil) ⟨aq,aB,ak⟩<|bI (cs:=[_,_]) (cs':=[ay false,au]) (.nil) ⟨aq,aB,ak⟩<|so Y Y Y<|so Y Y Y<|ag Y<|dn<|aY<|aW.r ?_
 obtain rfl:=O (V h)
 exact RZ (.agg Y Y (.k2 Y Y) Y (.agg Y Y (.k2 Y Y) Y (.tmp Y (.nil))))
theorem M3{x0:Zr}{x1:Zr}{r:Zr}(h:ur x0 x1=some r):Pure af 170 [.agg (eZ x0),.agg (eZ x1)] (.agg (eZ r)):=by
 obtain⟨bn,bp⟩:=x0
 obtain⟨ct,cj⟩:=x1
 refine bj Tryz.func170 Y (ae Y) (λc9 M vs hvs=>?_)
 unfold ur at h
 refine sr<|bx Y<|bx Y<|al (cs:=[ay false,au]) (by exact⟨aq,aB,ak⟩) Y<|dn<|qq<|aZ mixed<|fa Y Y<|lV Y Y Y<|bE h λff kz h=>cl (dA kz) ⟨Y,ak⟩<|fa Y Y<|lV Y Y Y<|bE h λdV jy h=>cl (dA jy) ⟨Y,ak⟩<|ag Y<|ag Y ?_
 refine RT.done ⟨by kernel_rfl,?_⟩
 refine aW.n<|qq<|bE h λe6 uO je=>?_
 refine bJ (λ(wm:(List Int))=>AS.cu 28 [(4,.ptr 4 0),(5,.sv (slc 1 (List.map bH wm)))] [(4,⟨41,[ai false,.sv au]⟩)] []) (λwm=>wm=e6) ?_ (λwm uP=>?_)
 refine bf ?_
 refine bK uO (λs6=>AS.cu 28 [(4,.ptr 4 0),(5,.sv (slc 1 (List.map bH s6.1))),(6,.sv (slc 1 (List.map bH s6.2)))] [(4,⟨41,[ai false,.sv au]⟩)] []) (wR []) (λs6 y6 G6 h uQ pE=>?_)
 obtain⟨iA,l7⟩:=s6
 try dsimp only
 refine qq<|sr<|mv Y<|lE h λeX kf h=>ln Y kf<|lE h λdR jK h=>gt _ Y Y jK<|dn ?_
 cases dR
 refine cF<|bP<|aW.x<|aW.x<|bF.x<|aW.n ?_
 obtain rfl:=O (F h)
 exact⟨iA,pE _ Y,wR []⟩
 refine cT<|bu<|aW.n<|bf<|sr<|mv Y<|mv Y ?_
 obtain⟨⟨ao9,agt⟩,kA,h⟩:=bS (V h)
 refine cl (Em kA) ⟨Y,Y,ak⟩<|mv Y<|ex Y Y<|ex Y Y<|ag Y<|ag Y<|dn<|aX<|mv Y<|mv Y<|ag Y<|ag Y<|RT.done<|bF.n ?_
 obtain rfl:=O h
 exact aW.n ⟨(l7,agt),uQ _ Y,wR []⟩
 subst uP
 try dsimp only
 refine aW.n<|sr<|mv Y ?_
 obtain⟨⟨S5,OB⟩,oU,je⟩:=bS je
 refine cl (jC oU) ⟨Y,Y,ak⟩<|so Y Y Y<|dn<|aY ?_
 obtain rfl:=O je
 exact RZ (.agg Y Y (.k2 Y Y) Y (.nil))
end
section
open Go.Fw
noncomputable def qw:Option (Zr):=(oE 1).bind λ⟨ct,cj⟩=>some ⟨ct,cj⟩
noncomputable def gb(x0:Qr):Option (Zr):=match x0 with|⟨⟨bn,bp⟩,⟨bB,bD⟩⟩=>(fO ⟨bB,bD⟩).bind λx5=>(some (decide ((x5:Int)=0))).bind λx6=>(bif x6 then(qw).bind λ⟨pY,pZ⟩=>some ⟨pY,pZ⟩else(uj ⟨bB,bD⟩).bind λ⟨AR,AT⟩=>some ⟨AR,AT⟩)
noncomputable def gN(x0:Qr):Option (Zr):=match x0 with|⟨⟨bn,bp⟩,⟨bB,bD⟩⟩=>(fO ⟨bB,bD⟩).bind λx5=>(some (decide ((x5:Int)<0))).bind λx6=>(bif x6 then(qt ⟨bn,bp⟩).bind λ⟨PA,PB⟩=>some ⟨PA,PB⟩else(kY ⟨bn,bp⟩).bind λ⟨jg,iT⟩=>some ⟨jg,iT⟩)
noncomputable def kJ(x0:Zr)(x1:Zr):Option (Qr):=match x0 with|⟨bn,bp⟩=>match x1 with|⟨ct,cj⟩=>(ur ⟨bn,bp⟩ ⟨ct,cj⟩).bind λ⟨xF,xG⟩=>(qu ⟨bn,bp⟩ ⟨xF,xG⟩).bind λ⟨⟨kn,ko⟩,⟨nP,nQ⟩,WL⟩=>(qu ⟨ct,cj⟩ ⟨xF,xG⟩).bind λ⟨⟨M4,M5⟩,⟨agw,agx⟩,apt⟩=>(qw).bind λ⟨sj,sn⟩=>(uh ⟨M4,M5⟩ ⟨sj,sn⟩).bind λnq=>(some (decide ((nq:Int)=0))).bind λjY=>(bif jY then some ⟨⟨kn,ko⟩,⟨false,[]⟩⟩else some ⟨⟨kn,ko⟩,⟨M4,M5⟩⟩)
noncomputable def m8(x0:Qr):Option (Qr):=match x0 with|⟨⟨bn,bp⟩,⟨bB,bD⟩⟩=>(gN ⟨⟨bn,bp⟩,⟨bB,bD⟩⟩).bind λ⟨Cg,Ch⟩=>(gb ⟨⟨bn,bp⟩,⟨bB,bD⟩⟩).bind λ⟨Jf,Jg⟩=>(kJ ⟨Cg,Ch⟩ ⟨Jf,Jg⟩).bind λ⟨⟨pY,pZ⟩,⟨Dk,Dl⟩⟩=>some ⟨⟨pY,pZ⟩,⟨Dk,Dl⟩⟩
noncomputable def wW(x0:Qr)(x1:Qr):Option (Bool):=match x0 with|⟨⟨bn,bp⟩,⟨bB,bD⟩⟩=>match x1 with|⟨⟨ct,cj⟩,⟨ek,ep⟩⟩=>cJ (λ(akp:Bool)=>some akp) λK3=>(oD ⟨bn,bp⟩ ⟨ct,cj⟩).bind λx9=>(bif x9 then(oD ⟨bB,bD⟩ ⟨ek,ep⟩).bind λdN=>some dN else some false).bind λadt=>K3 adt
noncomputable def iI(x0:Int):Option (Qr):=(oE x0).bind λ⟨Cg,Ch⟩=>some ⟨⟨Cg,Ch⟩,⟨false,[]⟩⟩
noncomputable def mc(x0:Qr)(x1:Qr):Option (Qr):=match x0 with|⟨⟨bn,bp⟩,⟨bB,bD⟩⟩=>match x1 with|⟨⟨ct,cj⟩,⟨ek,ep⟩⟩=>(gN ⟨⟨bn,bp⟩,⟨bB,bD⟩⟩).bind λ⟨qJ,qK⟩=>(gb ⟨⟨ct,cj⟩,⟨ek,ep⟩⟩).bind λ⟨AR,AT⟩=>(kI ⟨qJ,qK⟩ ⟨AR,AT⟩).bind λ⟨xD,xE⟩=>(gN ⟨⟨ct,cj⟩,⟨ek,ep⟩⟩).bind λ⟨AN,AO⟩=>(gb ⟨⟨bn,bp⟩,⟨bB,bD⟩⟩).bind λ⟨jQ,jR⟩=>(kI ⟨AN,AO⟩ ⟨jQ,jR⟩).bind λ⟨qh,qi⟩=>(uo ⟨xD,xE⟩ ⟨qh,qi⟩).bind λ⟨lM,lO⟩=>(gb ⟨⟨bn,bp⟩,⟨bB,bD⟩⟩).bind λ⟨lW,lX⟩=>(gb ⟨⟨ct,cj⟩,⟨ek,ep⟩⟩).bind λ⟨As,At⟩=>(kI ⟨lW,lX⟩ ⟨As,At⟩).bind λ⟨kE,kF⟩=>(kJ ⟨lM,lO⟩ ⟨kE,kF⟩).bind λ⟨⟨nu,mR⟩,⟨tX,tY⟩⟩=>some ⟨⟨nu,mR⟩,⟨tX,tY⟩⟩
noncomputable def n7(x0:Qr):Option (Qr):=match x0 with|⟨⟨bn,bp⟩,⟨bB,bD⟩⟩=>(gN ⟨⟨bn,bp⟩,⟨bB,bD⟩⟩).bind λ⟨Cg,Ch⟩=>(qt ⟨Cg,Ch⟩).bind λ⟨A7,C6⟩=>(gb ⟨⟨bn,bp⟩,⟨bB,bD⟩⟩).bind λ⟨pY,pZ⟩=>(kJ ⟨A7,C6⟩ ⟨pY,pZ⟩).bind λ⟨⟨qJ,qK⟩,⟨Bc,Bd⟩⟩=>some ⟨⟨qJ,qK⟩,⟨Bc,Bd⟩⟩
noncomputable def uu(x0:Qr)(x1:Qr):Option (Qr):=match x0 with|⟨⟨bn,bp⟩,⟨bB,bD⟩⟩=>match x1 with|⟨⟨ct,cj⟩,⟨ek,ep⟩⟩=>(n7 ⟨⟨ct,cj⟩,⟨ek,ep⟩⟩).bind λ⟨⟨pY,pZ⟩,⟨Dk,Dl⟩⟩=>(mc ⟨⟨bn,bp⟩,⟨bB,bD⟩⟩ ⟨⟨pY,pZ⟩,⟨Dk,Dl⟩⟩).bind λ⟨⟨qJ,qK⟩,⟨Bc,Bd⟩⟩=>some ⟨⟨qJ,qK⟩,⟨Bc,Bd⟩⟩
noncomputable def kK(x0:Qr)(x1:Qr):Option (Qr):=match x0 with|⟨⟨bn,bp⟩,⟨bB,bD⟩⟩=>match x1 with|⟨⟨ct,cj⟩,⟨ek,ep⟩⟩=>(gN ⟨⟨bn,bp⟩,⟨bB,bD⟩⟩).bind λ⟨Jf,Jg⟩=>(gN ⟨⟨ct,cj⟩,⟨ek,ep⟩⟩).bind λ⟨qJ,qK⟩=>(kI ⟨Jf,Jg⟩ ⟨qJ,qK⟩).bind λ⟨PA,PB⟩=>(gb ⟨⟨bn,bp⟩,⟨bB,bD⟩⟩).bind λ⟨xD,xE⟩=>(gb ⟨⟨ct,cj⟩,⟨ek,ep⟩⟩).bind λ⟨AN,AO⟩=>(kI ⟨xD,xE⟩ ⟨AN,AO⟩).bind λ⟨xF,xG⟩=>(kJ ⟨PA,PB⟩ ⟨xF,xG⟩).bind λ⟨⟨jQ,jR⟩,⟨xI,xJ⟩⟩=>some ⟨⟨jQ,jR⟩,⟨xI,xJ⟩⟩
noncomputable def jm(x0:Qr):Option (Int):=match x0 with|⟨⟨bn,bp⟩,⟨bB,bD⟩⟩=>(gN ⟨⟨bn,bp⟩,⟨bB,bD⟩⟩).bind λ⟨Cg,Ch⟩=>(fO ⟨Cg,Ch⟩).bind λx5=>some x5
noncomputable def uw(x0:Qr)(x1:Qr):Option (Qr×Int):=match x0 with|⟨⟨bn,bp⟩,⟨bB,bD⟩⟩=>match x1 with|⟨⟨ct,cj⟩,⟨ek,ep⟩⟩=>(jm ⟨⟨ct,cj⟩,⟨ek,ep⟩⟩).bind λx7=>(some (decide ((x7:Int)=0))).bind λx8=>(bif x8 then some (⟨⟨false,[]⟩,⟨false,[]⟩⟩,7)else(gb ⟨⟨ct,cj⟩,⟨ek,ep⟩⟩).bind λ⟨jg,iT⟩=>(gN ⟨⟨ct,cj⟩,⟨ek,ep⟩⟩).bind λ⟨xF,xG⟩=>(m8 ⟨⟨jg,iT⟩,⟨xF,xG⟩⟩).bind λ⟨⟨qh,qi⟩,⟨Pb,Pc⟩⟩=>(kK ⟨⟨bn,bp⟩,⟨bB,bD⟩⟩ ⟨⟨qh,qi⟩,⟨Pb,Pc⟩⟩).bind λ⟨⟨qY,qZ⟩,⟨An,Ao⟩⟩=>some (⟨⟨qY,qZ⟩,⟨An,Ao⟩⟩,0))
noncomputable def ux(x0:Qr)(x1:Qr):Option (Int):=match x0 with|⟨⟨bn,bp⟩,⟨bB,bD⟩⟩=>match x1 with|⟨⟨ct,cj⟩,⟨ek,ep⟩⟩=>(uu ⟨⟨bn,bp⟩,⟨bB,bD⟩⟩ ⟨⟨ct,cj⟩,⟨ek,ep⟩⟩).bind λ⟨⟨pY,pZ⟩,⟨Dk,Dl⟩⟩=>(jm ⟨⟨pY,pZ⟩,⟨Dk,Dl⟩⟩).bind λx8=>some x8
end
section
open Go.Fw Go.Fw.Z Go.RowKit
theorem Ep{r:Zr}(h:qw=some r):Pure af 173 [] (.agg (eZ r)):=by
 refine bj Tryz.func173 Y (ae Y) (λc9 M vs hvs=>?_)
 unfold qw at h
 refine sr<|al (cs:=[ay false,au]) (by exact⟨aq,aB,ak⟩) Y<|dn<|sr ?_
 obtain⟨⟨ct,cj⟩,h1,h⟩:=bS h
 refine cl (CG h1) ⟨Y,ak⟩<|so Y Y Y<|dn<|aY ?_
 obtain rfl:=O h
 exact RZ (.agg Y Y (.k2 Y Y) Y (.nil))
theorem jn{x0:Qr}{r:Zr}(h:gb x0=some r):Pure af 143 [.agg (eQ x0)] (.agg (eZ r)):=by
 obtain⟨⟨bn,bp⟩,⟨bB,bD⟩⟩:=x0
 refine bj Tryz.func143 Y (ae Y) (λc9 M vs hvs=>?_)
 unfold gb at h
 refine sr<|bx Y<|al (cs:=[ay false,au]) (by exact⟨aq,aB,ak⟩) Y<|dn<|qq<|sr<|fa Y Y<|ld Y Y (.k2 Y Y)<|bE h λx5 h5 h=>cl (jD h5) ⟨Y,ak⟩<|lE h λx6 h6 h=>eq _ Y Y (xj (p:=x5) (q:=0) h6)<|dn ?_
 cases x6
 refine fs<|sr<|fa Y Y<|ld Y Y (.k2 Y Y) ?_
 obtain⟨⟨AR,AT⟩,fY,h⟩:=bS (F h)
 refine cl (MZ fY) ⟨Y,ak⟩<|so Y Y Y<|dn<|aY ?_
 obtain rfl:=O h
 exact RZ (.agg Y Y (.k2 Y Y) Y (.nil))
 refine cT<|sr ?_
 obtain⟨⟨pY,pZ⟩,h7,h⟩:=bS (V h)
 refine cl (Ep h7) trivial<|so Y Y Y<|dn<|aY<|aW.r ?_
 obtain rfl:=O h
 exact RZ (.agg Y Y (.k2 Y Y) Y (.nil))
theorem kL{x0:Qr}{r:Zr}(h:gN x0=some r):Pure af 110 [.agg (eQ x0)] (.agg (eZ r)):=by
 obtain⟨⟨bn,bp⟩,⟨bB,bD⟩⟩:=x0
 refine bj Tryz.func110 Y (ae Y) (λc9 M vs hvs=>?_)
 unfold gN at h
 refine sr<|bx Y<|al (cs:=[ay false,au]) (by exact⟨aq,aB,ak⟩) Y<|dn<|qq<|sr<|fa Y Y<|ld Y Y (.k2 Y Y)<|bE h λx5 h5 h=>cl (jD h5) ⟨Y,ak⟩<|lE h λx6 h6 h=>ls _ Y Y h6<|dn ?_
 cases x6
 refine fs<|sr<|fa Y Y<|ld Y Y (.k2 Y Y) ?_
 obtain⟨⟨jg,iT⟩,fI,h⟩:=bS (F h)
 refine cl (Bw fI) ⟨Y,ak⟩<|so Y Y Y<|dn<|aY ?_
 obtain rfl:=O h
 exact RZ (.agg Y Y (.k2 Y Y) Y (.nil))
 refine cT<|sr<|fa Y Y<|ld Y Y (.k2 Y Y) ?_
 obtain⟨⟨PA,PB⟩,h9,h⟩:=bS (V h)
 refine cl (En h9) ⟨Y,ak⟩<|so Y Y Y<|dn<|aY<|aW.r ?_
 obtain rfl:=O h
 exact RZ (.agg Y Y (.k2 Y Y) Y (.nil))
theorem tg{x0:Zr}{x1:Zr}{r:Qr}(h:kJ x0 x1=some r):Pure af 142 [.agg (eZ x0),.agg (eZ x1)] (.agg (eQ r)):=by
 obtain⟨bn,bp⟩:=x0
 obtain⟨ct,cj⟩:=x1
 refine bj Tryz.func142 Y (ae Y) (λc9 M vs hvs=>?_)
 unfold kJ at h
 refine sr<|bx Y<|bx Y<|al (cs:=[ay false,au,ay false,au]) (by exact⟨aq,aB,aq,aB,ak⟩) Y<|dn<|sr<|ld Y Y (.k2 Y Y)<|ld Y Y (.k2 Y Y) ?_
 obtain⟨⟨xF,xG⟩,jy,h⟩:=bS h
 refine cl (M3 jy) ⟨Y,Y,ak⟩<|al (cs:=[ay false,au]) (by exact⟨aq,aB,ak⟩) Y<|so Y Y Y<|dn<|sr<|ld Y Y (.k2 Y Y)<|ld Y Y (.k2 Y Y) ?_
 obtain⟨⟨⟨kn,ko⟩,⟨nP,nQ⟩,WL⟩,jd,h⟩:=bS h
 refine cl (Eo jd) ⟨Y,Y,ak⟩<|mv Y<|ex Y Y<|ex Y Y<|ex Y Y<|al (cs:=[ay false,au]) (by exact⟨aq,aB,ak⟩) Y<|al (cs:=[ay false,au]) (by exact⟨aq,aB,ak⟩) Y<|so Y Y Y<|so Y Y Y<|ag Y<|dn<|sr<|ld Y Y (.k2 Y Y) ?_
 refine ld Y Y (.k2 Y Y) ?_
 obtain⟨⟨⟨M4,M5⟩,⟨agw,agx⟩,apt⟩,nN,h⟩:=bS h
 refine cl (Eo nN) ⟨Y,Y,ak⟩<|mv Y<|ex Y Y<|ex Y Y<|ex Y Y<|al (cs:=[ay false,au]) (by exact⟨aq,aB,ak⟩) Y<|al (cs:=[ay false,au]) (by exact⟨aq,aB,ak⟩) Y<|so Y Y Y<|so Y Y Y<|ag Y<|dn<|qq<|qq<|aZ mixed<|ld Y Y (.k2 Y Y) ?_
 obtain⟨⟨sj,sn⟩,zJ,h⟩:=bS h
 refine cl (Ep zJ) trivial<|bE h λnq xA h=>cl (MY xA) ⟨Y,Y,ak⟩<|lE h λjY qT h=>eq _ Y Y (xj (p:=nq) (q:=0) qT) ?_
 refine RT.done ⟨by kernel_rfl,?_⟩
 refine aW.n ?_
 cases jY
 refine fs<|sr<|ld Y Y (.k2 Y Y)<|ld Y Y (.k2 Y Y)<|bI (cs:=[_,_,_,_]) (cs':=[ay kn,slc 1 (List.map bh ko),ay M4,slc 1 (List.map bh M5)]) (.agg Y (.agg Y (.nil))) ⟨aq,aq,aq,aq,ak⟩<|so Y Y Y<|dn<|aY ?_
 obtain rfl:=O (F h)
 exact RZ (.agg Y Y (.k4 Y Y Y Y) Y (.nil))
 refine cT<|sr<|ld Y Y (.k2 Y Y)<|bI (cs:=[_,_,_,_]) (cs':=[ay kn,slc 1 (List.map bh ko),ay false,au]) (.agg Y (.nil)) ⟨aq,aq,aq,aB,ak⟩<|so Y Y Y<|dn<|aY<|aW.r ?_
 obtain rfl:=O (V h)
 exact RZ (.agg Y Y (.k4 Y Y Y Y) Y (.nil))
theorem Bx{x0:Qr}{r:Qr}(h:m8 x0=some r):Pure af 101 [.agg (eQ x0)] (.agg (eQ r)):=by
 obtain⟨⟨bn,bp⟩,⟨bB,bD⟩⟩:=x0
 refine bj Tryz.func101 Y (ae Y) (λc9 M vs hvs=>?_)
 unfold m8 at h
 refine sr<|bx Y<|al (cs:=[ay false,au,ay false,au]) (by exact⟨aq,aB,aq,aB,ak⟩) Y<|dn<|qq<|aZ mixed<|ld Y Y (.k4 Y Y Y Y) ?_
 obtain⟨⟨Cg,Ch⟩,h4,h⟩:=bS h
 refine cl (kL h4) ⟨Y,ak⟩<|ld Y Y (.k4 Y Y Y Y) ?_
 obtain⟨⟨Jf,Jg⟩,h6,h⟩:=bS h
 refine cl (jn h6) ⟨Y,ak⟩ ?_
 obtain⟨⟨⟨pY,pZ⟩,⟨Dk,Dl⟩⟩,h7,h⟩:=bS h
 refine cl (tg h7) ⟨Y,Y,ak⟩<|so Y Y Y ?_
 refine RT.done ⟨by kernel_rfl,?_⟩
 refine aW.n<|aY ?_
 obtain rfl:=O h
 exact RZ (.agg Y Y (.k4 Y Y Y Y) Y (.nil))
theorem PD{x0:Qr}{x1:Qr}{r:Bool}(h:wW x0 x1=some r):Pure af 79 [.agg (eQ x0),.agg (eQ x1)] (ay r):=by
 obtain⟨⟨bn,bp⟩,⟨bB,bD⟩⟩:=x0
 obtain⟨⟨ct,cj⟩,⟨ek,ep⟩⟩:=x1
 refine bj Tryz.func79 Y (ae Y) (λc9 M vs hvs=>?_)
 unfold wW at h
 refine sr<|bx Y<|bx Y<|ag Y<|dn<|qq ?_
 refine bL h (λj3=>AS.cu 17 [(4,ai j3)] [] []) (λh=>?_) (λakp h=>?_)
 refine aX<|fa Y Y<|ld Y Y (.k2 Y Y)<|fa Y Y<|ld Y Y (.k2 Y Y)<|bE h λx9 h9 h=>cl (CF h9) ⟨Y,Y,ak⟩<|mv Y<|bE h λadt r5 h=>?_
 cases x9
 obtain rfl:=O (F r5)
 exact ww<|ww<|ww<|ww<|ww<|pF Y<|ag Y<|dn<|⟨false,h,wR []⟩
 refine RT.fieldAddr (.some Y Y) Y T Y<|gl Y Y (.k2 Y Y)<|RT.fieldAddr (.some Y Y) Y T Y<|gl Y Y (.k2 Y Y)<|bE (V r5) λdN gH r5=>gc (CF gH) ⟨Y,Y,ak⟩ ?_
 obtain rfl:=O r5
 exact pT Y<|ag Y<|dn<|⟨dN,h,wR []⟩
 try dsimp only
 refine aW.n<|aY ?_
 obtain rfl:=O h
 exact R1 Y
theorem mJ{x0:Int}{r:Qr}(h:iI x0=some r):Pure af 16 [ax x0] (.agg (eQ r)):=by
 refine bj Tryz.func16 Y (ae Y) (λc9 M vs hvs=>?_)
 unfold iI at h
 refine sr<|al (cs:=[ay false,au,ay false,au]) (by exact⟨aq,aB,aq,aB,ak⟩) Y<|dn<|sr<|mv Y ?_
 obtain⟨⟨Cg,Ch⟩,h4,h⟩:=bS h
 refine cl (CG h4) ⟨Y,ak⟩<|bI (cs:=[_,_,_,_]) (cs':=[ay Cg,slc 1 (List.map bh Ch),ay false,au]) (.agg Y (.nil)) ⟨aq,aq,aq,aB,ak⟩<|so Y Y Y<|dn<|aY ?_
 obtain rfl:=O h
 exact RZ (.agg Y Y (.k4 Y Y Y Y) Y (.nil))
theorem vG{x0:Qr}{x1:Qr}{r:Qr}(h:mc x0 x1=some r):Pure af 155 [.agg (eQ x0),.agg (eQ x1)] (.agg (eQ r)):=by
 obtain⟨⟨bn,bp⟩,⟨bB,bD⟩⟩:=x0
 obtain⟨⟨ct,cj⟩,⟨ek,ep⟩⟩:=x1
 refine bj Tryz.func155 Y (ae Y) (λc9 M vs hvs=>?_)
 unfold mc at h
 refine sr<|bx Y<|bx Y<|al (cs:=[ay false,au,ay false,au]) (by exact⟨aq,aB,aq,aB,ak⟩) Y<|dn<|qq<|aZ mixed<|ld Y Y (.k4 Y Y Y Y) ?_
 obtain⟨⟨qJ,qK⟩,h8,h⟩:=bS h
 refine cl (kL h8) ⟨Y,ak⟩<|ld Y Y (.k4 Y Y Y Y) ?_
 obtain⟨⟨AR,AT⟩,fY,h⟩:=bS h
 refine cl (jn fY) ⟨Y,ak⟩ ?_
 obtain⟨⟨xD,xE⟩,kz,h⟩:=bS h
 refine cl (rC kz) ⟨Y,Y,ak⟩<|ld Y Y (.k4 Y Y Y Y) ?_
 obtain⟨⟨AN,AO⟩,iX,h⟩:=bS h
 refine cl (kL iX) ⟨Y,ak⟩<|ld Y Y (.k4 Y Y Y Y) ?_
 obtain⟨⟨jQ,jR⟩,gH,h⟩:=bS h
 refine cl (jn gH) ⟨Y,ak⟩ ?_
 obtain⟨⟨qh,qi⟩,kf,h⟩:=bS h
 refine cl (rC kf) ⟨Y,Y,ak⟩<|al (cs:=[ay false,au]) (by exact⟨aq,aB,ak⟩) Y<|al (cs:=[ay false,au]) (by exact⟨aq,aB,ak⟩) Y<|so Y Y Y<|so Y Y Y ?_
 refine RT.done ⟨by kernel_rfl,?_⟩
 refine aW.n<|qq<|aZ mixed<|ld Y Y (.k2 Y Y)<|ld Y Y (.k2 Y Y) ?_
 obtain⟨⟨lM,lO⟩,lZ,h⟩:=bS h
 refine cl (M1 lZ) ⟨Y,Y,ak⟩<|ld Y Y (.k4 Y Y Y Y) ?_
 obtain⟨⟨lW,lX⟩,kA,h⟩:=bS h
 refine cl (jn kA) ⟨Y,ak⟩<|ld Y Y (.k4 Y Y Y Y) ?_
 obtain⟨⟨As,At⟩,oP,h⟩:=bS h
 refine cl (jn oP) ⟨Y,ak⟩ ?_
 obtain⟨⟨kE,kF⟩,nF,h⟩:=bS h
 refine cl (rC nF) ⟨Y,Y,ak⟩ ?_
 obtain⟨⟨⟨nu,mR⟩,⟨tX,tY⟩⟩,nN,h⟩:=bS h
 refine cl (tg nN) ⟨Y,Y,ak⟩<|so Y Y Y ?_
 refine RT.done ⟨by kernel_rfl,?_⟩
 refine aW.n<|aY ?_
 obtain rfl:=O h
 exact RZ (.agg Y Y (.k4 Y Y Y Y) Y (.nil))
theorem zV{x0:Qr}{r:Qr}(h:n7 x0=some r):Pure af 185 [.agg (eQ x0)] (.agg (eQ r)):=by
 obtain⟨⟨bn,bp⟩,⟨bB,bD⟩⟩:=x0
 refine bj Tryz.func185 Y (ae Y) (λc9 M vs hvs=>?_)
 unfold n7 at h
 refine sr<|bx Y<|al (cs:=[ay false,au,ay false,au]) (by exact⟨aq,aB,aq,aB,ak⟩) Y<|dn<|qq<|aZ mixed<|ld Y Y (.k4 Y Y Y Y) ?_
 obtain⟨⟨Cg,Ch⟩,h4,h⟩:=bS h
 refine cl (kL h4) ⟨Y,ak⟩ ?_
 obtain⟨⟨A7,C6⟩,h5,h⟩:=bS h
 refine cl (En h5) ⟨Y,ak⟩<|ld Y Y (.k4 Y Y Y Y) ?_
 obtain⟨⟨pY,pZ⟩,h7,h⟩:=bS h
 refine cl (jn h7) ⟨Y,ak⟩ ?_
 obtain⟨⟨⟨qJ,qK⟩,⟨Bc,Bd⟩⟩,h8,h⟩:=bS h
 refine cl (tg h8) ⟨Y,Y,ak⟩<|so Y Y Y ?_
 refine RT.done ⟨by kernel_rfl,?_⟩
 refine aW.n<|aY ?_
 obtain rfl:=O h
 exact RZ (.agg Y Y (.k4 Y Y Y Y) Y (.nil))
theorem M6{x0:Qr}{x1:Qr}{r:Qr}(h:uu x0 x1=some r):Pure af 180 [.agg (eQ x0),.agg (eQ x1)] (.agg (eQ r)):=by
 obtain⟨⟨bn,bp⟩,⟨bB,bD⟩⟩:=x0
 obtain⟨⟨ct,cj⟩,⟨ek,ep⟩⟩:=x1
 refine bj Tryz.func180 Y (ae Y) (λc9 M vs hvs=>?_)
 unfold uu at h
 refine sr<|bx Y<|bx Y<|al (cs:=[ay false,au,ay false,au]) (by exact⟨aq,aB,aq,aB,ak⟩) Y<|dn<|qq<|aZ mixed<|ld Y Y (.k4 Y Y Y Y)<|ld Y Y (.k4 Y Y Y Y) ?_
 obtain⟨⟨⟨pY,pZ⟩,⟨Dk,Dl⟩⟩,h7,h⟩:=bS h
 refine cl (zV h7) ⟨Y,ak⟩ ?_
 obtain⟨⟨⟨qJ,qK⟩,⟨Bc,Bd⟩⟩,h8,h⟩:=bS h
 refine cl (vG h8) ⟨Y,Y,ak⟩<|so Y Y Y ?_
 refine RT.done ⟨by kernel_rfl,?_⟩
 refine aW.n<|aY ?_
 obtain rfl:=O h
 exact RZ (.agg Y Y (.k4 Y Y Y Y) Y (.nil))
theorem rD{x0:Qr}{x1:Qr}{r:Qr}(h:kK x0 x1=some r):Pure af 156 [.agg (eQ x0),.agg (eQ x1)] (.agg (eQ r)):=by
 obtain⟨⟨bn,bp⟩,⟨bB,bD⟩⟩:=x0
 obtain⟨⟨ct,cj⟩,⟨ek,ep⟩⟩:=x1
 refine bj Tryz.func156 Y (ae Y) (λc9 M vs hvs=>?_)
 unfold kK at h
 refine sr<|bx Y<|bx Y<|al (cs:=[ay false,au,ay false,au]) (by exact⟨aq,aB,aq,aB,ak⟩) Y<|dn<|qq<|aZ mixed<|ld Y Y (.k4 Y Y Y Y) ?_
 obtain⟨⟨Jf,Jg⟩,h6,h⟩:=bS h
 refine cl (kL h6) ⟨Y,ak⟩<|ld Y Y (.k4 Y Y Y Y) ?_
 obtain⟨⟨qJ,qK⟩,h8,h⟩:=bS h
 refine cl (kL h8) ⟨Y,ak⟩ ?_
 obtain⟨⟨PA,PB⟩,h9,h⟩:=bS h
 refine cl (rC h9) ⟨Y,Y,ak⟩<|ld Y Y (.k4 Y Y Y Y) ?_
 obtain⟨⟨xD,xE⟩,kz,h⟩:=bS h
 refine cl (jn kz) ⟨Y,ak⟩<|ld Y Y (.k4 Y Y Y Y) ?_
 obtain⟨⟨AN,AO⟩,iX,h⟩:=bS h
 refine cl (jn iX) ⟨Y,ak⟩ ?_
 obtain⟨⟨xF,xG⟩,jy,h⟩:=bS h
 refine cl (rC jy) ⟨Y,Y,ak⟩ ?_
 obtain⟨⟨⟨jQ,jR⟩,⟨xI,xJ⟩⟩,gH,h⟩:=bS h
 refine cl (tg gH) ⟨Y,Y,ak⟩<|so Y Y Y ?_
 refine RT.done ⟨by kernel_rfl,?_⟩
 refine aW.n<|aY ?_
 obtain rfl:=O h
 exact RZ (.agg Y Y (.k4 Y Y Y Y) Y (.nil))
theorem oY{x0:Qr}{r:Int}(h:jm x0=some r):Pure af 61 [.agg (eQ x0)] (ax r):=by
 obtain⟨⟨bn,bp⟩,⟨bB,bD⟩⟩:=x0
 refine bj Tryz.func61 Y (ae Y) (λc9 M vs hvs=>?_)
 unfold jm at h
 refine sr<|bx Y<|ag Y<|dn<|sr<|ld Y Y (.k4 Y Y Y Y) ?_
 obtain⟨⟨Cg,Ch⟩,h4,h⟩:=bS h
 refine cl (kL h4) ⟨Y,ak⟩<|bE h λx5 h5 h=>cl (jD h5) ⟨Y,ak⟩<|ag Y<|dn<|aY ?_
 obtain rfl:=O h
 exact R1 Y
theorem M7{x0:Qr}{x1:Qr}{r:Qr×Int}(h:uw x0 x1=some r):Pure af 201 [.agg (eQ x0),.agg (eQ x1)] (.Cp [.agg (eQ r.1),ax r.2]):=by
 obtain⟨⟨bn,bp⟩,⟨bB,bD⟩⟩:=x0
 obtain⟨⟨ct,cj⟩,⟨ek,ep⟩⟩:=x1
 refine bj Tryz.func201 Y (ae Y) (λc9 M vs hvs=>?_)
 unfold uw at h
 refine sr<|bx Y<|bx Y<|al (cs:=[ay false,au,ay false,au]) (by exact⟨aq,aB,aq,aB,ak⟩) Y<|ag Y<|dn<|qq<|sr<|ld Y Y (.k4 Y Y Y Y)<|bE h λx7 h7 h=>cl (oY h7) ⟨Y,ak⟩<|lE h λx8 h8 h=>eq _ Y Y (xj (p:=x7) (q:=0) h8)<|dn ?_
 cases x8
 refine fs<|qq<|aZ mixed<|ld Y Y (.k4 Y Y Y Y)<|ld Y Y (.k4 Y Y Y Y) ?_
 obtain⟨⟨jg,iT⟩,fI,h⟩:=bS (F h)
 refine cl (jn fI) ⟨Y,ak⟩<|ld Y Y (.k4 Y Y Y Y) ?_
 obtain⟨⟨xF,xG⟩,jy,h⟩:=bS h
 refine cl (kL jy) ⟨Y,ak⟩<|bI (cs:=[_,_,_,_]) (cs':=[ay jg,slc 1 (List.map bh iT),ay xF,slc 1 (List.map bh xG)]) (.agg Y (.agg Y (.nil))) ⟨aq,aq,aq,aq,ak⟩ ?_
 obtain⟨⟨⟨qh,qi⟩,⟨Pb,Pc⟩⟩,kf,h⟩:=bS h
 refine cl (Bx kf) ⟨Y,ak⟩ ?_
 obtain⟨⟨⟨qY,qZ⟩,⟨An,Ao⟩⟩,jK,h⟩:=bS h
 refine cl (rD jK) ⟨Y,Y,ak⟩<|so Y Y Y<|ag Y ?_
 refine RT.done ⟨by kernel_rfl,?_⟩
 refine aW.n<|aY ?_
 obtain rfl:=O h
 exact RZ (.agg Y Y (.k4 Y Y Y Y) Y (.tmp Y (.nil)))
 refine cT<|sr<|bI (cs:=[_,_,_,_]) (cs':=[ay false,au,ay false,au]) (.nil) ⟨aq,aB,aq,aB,ak⟩<|so Y Y Y<|ag Y<|dn<|aY<|aW.r ?_
 obtain rfl:=O (V h)
 exact RZ (.agg Y Y (.k4 Y Y Y Y) Y (.tmp Y (.nil)))
theorem M8{x0:Qr}{x1:Qr}{r:Int}(h:ux x0 x1=some r):Pure af 154 [.agg (eQ x0),.agg (eQ x1)] (ax r):=by
 obtain⟨⟨bn,bp⟩,⟨bB,bD⟩⟩:=x0
 obtain⟨⟨ct,cj⟩,⟨ek,ep⟩⟩:=x1
 refine bj Tryz.func154 Y (ae Y) (λc9 M vs hvs=>?_)
 unfold ux at h
 refine sr<|bx Y<|bx Y<|ag Y<|dn<|sr<|ld Y Y (.k4 Y Y Y Y)<|ld Y Y (.k4 Y Y Y Y) ?_
 obtain⟨⟨⟨pY,pZ⟩,⟨Dk,Dl⟩⟩,h7,h⟩:=bS h
 refine cl (M6 h7) ⟨Y,Y,ak⟩<|bE h λx8 h8 h=>cl (oY h8) ⟨Y,ak⟩<|ag Y<|dn<|aY ?_
 obtain rfl:=O h
 exact R1 Y
end
section
open Go.Fw
noncomputable def g9(x0:List Qr)(x1:Int):Option (Qr):=cJ (λ(IS:Bool)=>(bif IS then(cM x0 x1).bind λ⟨⟨jQ,jR⟩,⟨xI,xJ⟩⟩=>some ⟨⟨jQ,jR⟩,⟨xI,xJ⟩⟩else some ⟨⟨false,[]⟩,⟨false,[]⟩⟩)) λK3=>(some (decide ((0:Int)≤x1))).bind λx6=>(bif x6 then(some (x0.length:Int)).bind λdG=>(some (decide ((x1:Int)<dG))).bind λff=>some ff else some false).bind λPg=>K3 Pg
noncomputable def jU(x0:List Qr)(x1:List Qr):Option (Bool):=(some (x0.length:Int)).bind λx7=>(some (x1.length:Int)).bind λx9=>(some (decide ((x7:Int)≠x9))).bind λdG=>(bif dG then some false else(b9 (λ(iA:Int)=>(show Option ((Int)⊕((Unit)⊕(Bool)))from(some (x0.length:Int)).bind λeY=>(some (decide ((iA:Int)<eY))).bind λdV=>(bif dV then(cM x0 iA).bind λ⟨⟨lM,lO⟩,⟨wI,wJ⟩⟩=>(cM x1 iA).bind λ⟨⟨As,At⟩,⟨LO,LP⟩⟩=>(wW ⟨⟨lM,lO⟩,⟨wI,wJ⟩⟩ ⟨⟨As,At⟩,⟨LO,LP⟩⟩).bind λke=>(some (!ke)).bind λji=>(bif ji then some (.inr (.inr false))else(some (IntKind.i64.wrap (iA+1))).bind λeX=>some (.inl eX))else some (.inr (.inl ()))))) 0).bind λe6=>match e6 with|.inr v6=>some v6|.inl _=>some true)
noncomputable def gO(x0:Qr)(x1:List Qr)(x2:List Qr):Option (List Qr):=match x0 with|⟨⟨bn,bp⟩,⟨bB,bD⟩⟩=>(b9 (λ(uF:Int×(List Qr))=>match uF with|⟨RU,nY⟩=>(show Option ((Int×(List Qr))⊕((List Qr)))from cJ (λ(RV:Bool)=>(bif RV then(g9 x1 RU).bind λ⟨⟨nu,mR⟩,⟨tX,tY⟩⟩=>(kK ⟨⟨bn,bp⟩,⟨bB,bD⟩⟩ ⟨⟨nu,mR⟩,⟨tX,tY⟩⟩).bind λ⟨⟨Lw,Lx⟩,⟨Ly,Lz⟩⟩=>(g9 x2 RU).bind λ⟨⟨adu,adv⟩,⟨adw,adx⟩⟩=>(mc ⟨⟨Lw,Lx⟩,⟨Ly,Lz⟩⟩ ⟨⟨adu,adv⟩,⟨adw,adx⟩⟩).bind λ⟨⟨sj,sn⟩,⟨Gs,Gt⟩⟩=>(mP 64 nY [⟨⟨sj,sn⟩,⟨Gs,Gt⟩⟩]).bind λjY=>(some (IntKind.i64.wrap (RU+1))).bind λgK=>some (.inl (gK,jY))else some (.inr nY))) λGM=>(some (x1.length:Int)).bind λff=>(some (decide ((RU:Int)<ff))).bind λc8=>(bif c8 then some true else(some (x2.length:Int)).bind λeX=>(some (decide ((RU:Int)<eX))).bind λdR=>some dR).bind λXz=>GM Xz)) (0,[])).bind λjT=>some jT
noncomputable def qx(x0:List Qr)(x1:List Qr):Option (List Qr):=(iI (-1)).bind λ⟨⟨A7,C6⟩,⟨Fy,GW⟩⟩=>(gO ⟨⟨A7,C6⟩,⟨Fy,GW⟩⟩ x1 x0).bind λx8=>some x8
noncomputable def oZ(x0:Qr)(x1:List Qr):Option (List Qr):=match x0 with|⟨⟨bn,bp⟩,⟨bB,bD⟩⟩=>(gO ⟨⟨bn,bp⟩,⟨bB,bD⟩⟩ x1 []).bind λx7=>some x7
noncomputable def qy(x0:List Qr)(x1:List Qr):Option (Qr):=(b9 (λ(s6:Int×Bool×(List Nat)×Bool×(List Nat))=>match s6 with|⟨l7,M9,Na,Nb,Nc⟩=>(show Option ((Int×Bool×(List Nat)×Bool×(List Nat))⊕(Bool×(List Nat)×Bool×(List Nat)))from(some (x0.length:Int)).bind λdG=>(some (decide ((l7:Int)<dG))).bind λff=>(bif ff then(cM x0 l7).bind λ⟨⟨qY,qZ⟩,⟨An,Ao⟩⟩=>(g9 x1 l7).bind λ⟨⟨lW,lX⟩,⟨nB,nC⟩⟩=>(kK ⟨⟨qY,qZ⟩,⟨An,Ao⟩⟩ ⟨⟨lW,lX⟩,⟨nB,nC⟩⟩).bind λ⟨⟨wC,wD⟩,⟨wE,wF⟩⟩=>(mc ⟨⟨M9,Na⟩,⟨Nb,Nc⟩⟩ ⟨⟨wC,wD⟩,⟨wE,wF⟩⟩).bind λ⟨⟨As,At⟩,⟨LO,LP⟩⟩=>(some (IntKind.i64.wrap (l7+1))).bind λeY=>some (.inl (eY,As,At,LO,LP))else some (.inr (M9,Na,Nb,Nc))))) (0,false,[],false,[])).bind λe6=>match e6 with|⟨XA,XB,XC,XD⟩=>some ⟨⟨XA,XB⟩,⟨XC,XD⟩⟩
noncomputable def qA(x0:List Qr)(x1:List Qr):Option (Int):=(b9 (λ(Dm:Int)=>(show Option ((Int)⊕((Unit)⊕(Int)))from cJ (λ(Di:Bool)=>(bif Di then(g9 x0 Dm).bind λ⟨⟨lW,lX⟩,⟨nB,nC⟩⟩=>(g9 x1 Dm).bind λ⟨⟨kE,kF⟩,⟨qm,qo⟩⟩=>(ux ⟨⟨lW,lX⟩,⟨nB,nC⟩⟩ ⟨⟨kE,kF⟩,⟨qm,qo⟩⟩).bind λke=>(some (decide ((ke:Int)≠0))).bind λir=>(bif ir then some (.inr (.inr ke))else(some (IntKind.i64.wrap (Dm+1))).bind λeE=>some (.inl eE))else some (.inr (.inl ())))) λGM=>(some (x0.length:Int)).bind λx9=>(some (decide ((Dm:Int)<x9))).bind λdG=>(bif dG then some true else(some (x1.length:Int)).bind λdV=>(some (decide ((Dm:Int)<dV))).bind λdN=>some dN).bind λJc=>GM Jc)) 0).bind λFo=>match Fo with|.inr v10=>some v10|.inl _=>some 0
noncomputable def jo(x0:Int)(x1:Int):Option (List Qr):=(b9 (λ(Ak:Int×(List Qr))=>match Ak with|⟨sE,FK⟩=>(show Option ((Int×(List Qr))⊕((List Qr)))from cJ (λ(Dn:Bool)=>(bif Dn then(some (decide ((sE:Int)=x1))).bind λgK=>cJ (λ(PE:Bool×(List Nat)×Bool×(List Nat))=>match PE with|⟨vH,vI,vJ,vK⟩=>(mP 64 FK [⟨⟨vH,vI⟩,⟨vJ,vK⟩⟩]).bind λke=>(some (IntKind.i64.wrap (sE+1))).bind λeX=>some (.inl (eX,ke))) λK17=>(bif gK then(iI 1).bind λ⟨⟨lW,lX⟩,⟨nB,nC⟩⟩=>K17 (lW,lX,nB,nC)else K17 (false,[],false,[]))else some (.inr FK))) λXg=>(some (decide ((sE:Int)<x0))).bind λdG=>(bif dG then(some (decide ((sE:Int)<65536))).bind λeY=>some eY else some false).bind λJm=>Xg Jm)) (0,[])).bind λzW=>some zW
end
section
open Go.Fw Go.Fw.Z Go.RowKit
theorem me{x0:List Qr}{x1:Int}{r:Qr}(h:g9 x0 x1=some r):Pure af 102 [slc 4 (List.map eQ x0),ax x1] (.agg (eQ r)):=by
 refine bj Tryz.func102 Y (ae Y) (λc9 M vs hvs=>?_)
 unfold g9 at h
 refine sr<|al (cs:=[ay false,au,ay false,au]) (by exact⟨aq,aB,aq,aB,ak⟩) Y<|dn<|qq<|qq ?_
 refine bL h (λj3=>AS.cu 18 [(0,.sv (slc 4 (List.map eQ x0))),(1,ah x1),(4,.ptr 4 0),(12,ai j3)] [(4,⟨43,[ai false,.sv au,ai false,.sv au]⟩)] []) (λh=>?_) (λIS h=>?_)
 refine aX<|mv Y<|lE h λx6 h6 h=>ge _ Y Y h6<|mv Y<|bE h λPg r5 h=>?_
 cases x6
 obtain rfl:=O (F r5)
 exact ww<|ww<|ww<|ww<|pF Y<|dn<|⟨false,h,wR []⟩
 refine gm Y<|gm Y<|lE (V r5) λdG fY r5=>gn Y fY<|lE r5 λff kz r5=>RT.lss (.some Y Y) _ Y Y T kz ?_
 obtain rfl:=O r5
 exact pT Y<|dn<|⟨ff,h,wR []⟩
 try dsimp only
 refine aW.n ?_
 cases IS
 refine fs<|sr<|bI (cs:=[_,_,_,_]) (cs':=[ay false,au,ay false,au]) (.nil) ⟨aq,aB,aq,aB,ak⟩<|so Y Y Y<|dn<|aY ?_
 obtain rfl:=O (F h)
 exact RZ (.agg Y Y (.k4 Y Y Y Y) Y (.nil))
 refine cT<|sr<|mv Y<|mv Y ?_
 obtain⟨⟨⟨jQ,jR⟩,⟨xI,xJ⟩⟩,gH,h⟩:=bS (V h)
 refine ix Y Y gH<|RT.gJ (cs:=[_,_,_,_]) .none Y T Y Y<|so Y Y Y<|dn<|aY<|aW.r ?_
 obtain rfl:=O h
 exact RZ (.agg Y Y (.k4 Y Y Y Y) Y (.nil))
theorem uy{x0:List Qr}{x1:List Qr}{r:Bool}(h:jU x0 x1=some r):Pure af 29 [slc 4 (List.map eQ x0),slc 4 (List.map eQ x1)] (ay r):=by
 refine bj Tryz.func29 Y (ae Y) (λc9 M vs hvs=>?_)
 unfold jU at h
 refine sr<|ag Y<|dn<|qq<|sr<|mv Y<|lE h λx7 h7 h=>ln Y h7<|mv Y<|lE h λx9 h9 h=>ln Y h9<|lE h λdG fY h=>ne _ Y Y (Le (p:=x7) (q:=x9) fY)<|dn ?_
 cases dG
 refine fs<|qq<|sr<|ag Y<|dn<|bE (F h) λe6 uO je=>?_
 refine bJ (λ(uG:Unit)=>AS.cu 27 [] [] []) (λuG=>.inl uG=e6) ?_ (λuG uP=>?_)
 refine bf ?_
 refine bK uO (λs6=>AS.cu 27 [(0,.sv (slc 4 (List.map eQ x0))),(1,.sv (slc 4 (List.map eQ x1))),(5,ah s6)] [] []) (wR []) (λiA y6 G6 h uQ pE=>?_)
 try dsimp only
 refine qq<|sr<|mv Y<|mv Y<|lE h λeY iX h=>ln Y iX<|lE h λdV jy h=>ls _ Y Y jy<|dn ?_
 cases dV
 refine cF<|bP<|aW.x<|aW.x<|bF.x<|aW.n ?_
 obtain rfl:=O (F h)
 exact⟨(),pE _ Y,wR []⟩
 refine cT<|bu<|aW.n<|qq<|bf<|qq<|aZ mixed<|mv Y<|mv Y ?_
 obtain⟨⟨⟨lM,lO⟩,⟨wI,wJ⟩⟩,lZ,h⟩:=bS (V h)
 refine ix Y Y lZ<|RT.gJ (cs:=[_,_,_,_]) .none Y T Y Y<|mv Y<|mv Y ?_
 obtain⟨⟨⟨As,At⟩,⟨LO,LP⟩⟩,oP,h⟩:=bS h
 refine ix Y Y oP<|RT.gJ (cs:=[_,_,_,_]) .none Y T Y Y<|bE h λke nN h=>cl (PD nN) ⟨Y,Y,ak⟩<|lE h λji qS h=>nt Y _ qS ?_
 refine RT.done ⟨by kernel_rfl,?_⟩
 refine aW.n ?_
 cases ji
 refine cF<|bu<|bF.n<|aW.n<|aX<|mv Y<|lE (F h) λeX kf h=>ad _ Y Y kf<|ag Y<|RT.done ?_
 obtain rfl:=O h
 exact aW.n ⟨eX,uQ _ Y,wR []⟩
 refine cT<|sr<|ag Y<|dn<|aY<|bF.r<|aW.r ?_
 obtain rfl:=O (V h)
 have GR:=pE _ Y
 subst GR
 refine aW.r<|bF.r<|aW.r<|aW.r ?_
 obtain rfl:=O je
 exact R1 Y
 subst uP
 try dsimp only
 refine aW.n<|sr<|ag Y<|dn<|aY ?_
 obtain rfl:=O je
 exact R1 Y
 refine cT<|sr<|ag Y<|dn<|aY<|aW.r ?_
 obtain rfl:=O (V h)
 exact R1 Y
theorem oF{x0:Qr}{x1:List Qr}{x2:List Qr}{r:List Qr}(h:gO x0 x1 x2=some r):Pure af 120 [.agg (eQ x0),slc 4 (List.map eQ x1),slc 4 (List.map eQ x2)] (slc 4 (List.map eQ r)):=by
 obtain⟨⟨bn,bp⟩,⟨bB,bD⟩⟩:=x0
 refine bj Tryz.func120 Y (ae Y) (λc9 M vs hvs=>?_)
 unfold gO at h
 refine sr<|bx Y<|aI Y (aB (n:=4) (e:=eQ))<|dn<|sr<|ag Y<|dn<|bU (cY 7 304 43 4 Y Y T)<|qq<|sr<|ag Y<|dn<|bE h λFo yl oV=>?_
 refine bJ (λ(jT:(List Qr))=>AS.cu 34 [(7,.row 306)] [] [(306,TR 43 4 eQ jT)]) (λjT=>jT=Fo) ?_ (λjT ym=>?_)
 refine bf ?_
 refine bK yl (λuF=>AS.cu 34 [(1,.sv (slc 4 (List.map eQ x1))),(2,.sv (slc 4 (List.map eQ x2))),(3,.ptr 3 0),(7,.row 306),(8,ah uF.1)] [(3,⟨43,[ai bn,.sv (slc 1 (List.map bh bp)),ai bB,.sv (slc 1 (List.map bh bD))]⟩)] [(306,TR 43 4 eQ uF.2)]) (cz (λi=>bif Nat.beq i 306 then 304 else i) Y Y Y Y Y ⟨.sv aq,.sv aq,.ptr,.row Y,.sv aq,ak⟩ ⟨⟨_,Y,⟨.sv aq,.sv aq,.sv aq,.sv aq,ak⟩⟩,ak⟩ ⟨⟨_,Y,cg.refl _⟩,ak⟩ (λi hi=>by rw[bV (show i≠306 by omega)];rfl)) (λuF ZG ZH h yn uN=>?_)
 obtain⟨RU,nY⟩:=uF
 try dsimp only
 refine qq<|qq ?_
 refine bL h (λGQ=>AS.cu 34 [(1,.sv (slc 4 (List.map eQ x1))),(2,.sv (slc 4 (List.map eQ x2))),(3,.ptr 3 0),(7,.row 306),(8,ah RU),(18,ai GQ)] [(3,⟨43,[ai bn,.sv (slc 1 (List.map bh bp)),ai bB,.sv (slc 1 (List.map bh bD))]⟩)] [(306,TR 43 4 eQ nY)]) (λh=>?_) (λRV h=>?_)
 refine aX<|mv Y<|mv Y<|lE h λff kz h=>ln Y kz<|lE h λc8 fI h=>ls _ Y Y fI<|mv Y<|bE h λXz dH h=>?_
 cases c8
 refine gm Y<|gm Y<|lE (F dH) λeX kf dH=>gn Y kf<|lE dH λdR jK dH=>RT.lss (.some Y Y) _ Y Y T jK ?_
 obtain rfl:=O dH
 exact pF Y<|dn<|⟨dR,h,wR []⟩
 obtain rfl:=O (V dH)
 exact ww<|ww<|ww<|ww<|pT Y<|dn<|⟨true,h,wR []⟩
 try dsimp only
 refine aW.n ?_
 cases RV
 refine cF<|bP<|aW.x<|aW.x<|bF.x<|aW.n ?_
 obtain rfl:=O (F h)
 exact⟨nY,uN _ Y,wR []⟩
 refine cT<|bu<|aW.n<|qq<|bf<|aZ mixed<|mo (s:=.row _) Y<|ld Y Y (.k4 Y Y Y Y)<|mv Y<|mv Y ?_
 obtain⟨⟨⟨nu,mR⟩,⟨tX,tY⟩⟩,nN,h⟩:=bS (V h)
 refine cl (me nN) ⟨Y,Y,ak⟩ ?_
 obtain⟨⟨⟨Lw,Lx⟩,⟨Ly,Lz⟩⟩,qS,h⟩:=bS h
 refine cl (rD qS) ⟨Y,Y,ak⟩<|mv Y<|mv Y ?_
 obtain⟨⟨⟨adu,adv⟩,⟨adw,adx⟩⟩,oM,h⟩:=bS h
 refine cl (me oM) ⟨Y,Y,ak⟩ ?_
 obtain⟨⟨⟨sj,sn⟩,⟨Gs,Gt⟩⟩,zJ,h⟩:=bS h
 refine cl (vG zJ) ⟨Y,Y,ak⟩<|bl (l:=[⟨⟨sj,sn⟩,⟨Gs,Gt⟩⟩]) (e:=eQ) (.agg Y (.nil)) Y Y Y Y Y Y<|bE h λjY qT h=>aR (k:=[⟨⟨sj,sn⟩,⟨Gs,Gt⟩⟩]) (e:=eQ) Y Y Y qT<|an (s:=.row _) Y ?_
 refine RT.done ⟨by kernel_rfl,?_⟩
 refine bF.n<|aW.n<|aX<|mv Y<|lE h λgK oO h=>ad _ Y Y oO<|ag Y<|RT.done ?_
 obtain rfl:=O h
 exact aW.n ⟨(gK,jY),yn _ Y,cz (λi=>bif Nat.beq i 306 then 32 else i) Y Y Y Y Y ⟨.sv aq,.sv aq,.ptr,.row Y,.sv aq,ak⟩ ⟨⟨_,Y,⟨.sv aq,.sv aq,.sv aq,.sv aq,ak⟩⟩,ak⟩ ⟨⟨_,Y,cg.refl _⟩,ak⟩ (λi hi=>by rw[bV (show i≠306 by omega)];rfl)⟩
 subst ym
 try dsimp only
 refine aW.n<|sr<|mo (s:=.row _) Y<|an (s:=.row _) Y<|dn<|bU (cP (i:=306) (E1:=43) (n:=4) (e:=eQ) (l:=jT) Y)<|aY ?_
 obtain rfl:=O oV
 exact R1 Y
theorem Nd{x0:List Qr}{x1:List Qr}{r:List Qr}(h:qx x0 x1=some r):Pure af 74 [slc 4 (List.map eQ x0),slc 4 (List.map eQ x1)] (slc 4 (List.map eQ r)):=by
 refine bj Tryz.func74 Y (ae Y) (λc9 M vs hvs=>?_)
 unfold qx at h
 refine sr<|aI Y (aB (n:=4) (e:=eQ))<|dn<|sr ?_
 obtain⟨⟨⟨A7,C6⟩,⟨Fy,GW⟩⟩,h5,h⟩:=bS h
 refine cl (mJ h5) ⟨Y,ak⟩<|mv Y<|mv Y<|bE h λx8 h8 h=>cl (oF h8) ⟨Y,Y,Y,ak⟩<|ag Y<|dn<|aY ?_
 obtain rfl:=O h
 exact R1 Y
theorem Jn{x0:Qr}{x1:List Qr}{r:List Qr}(h:oZ x0 x1=some r):Pure af 183 [.agg (eQ x0),slc 4 (List.map eQ x1)] (slc 4 (List.map eQ r)):=by
 obtain⟨⟨bn,bp⟩,⟨bB,bD⟩⟩:=x0
 refine bj Tryz.func183 Y (ae Y) (λc9 M vs hvs=>?_)
 unfold oZ at h
 refine sr<|bx Y<|aI Y (aB (n:=4) (e:=eQ))<|dn<|sr<|ld Y Y (.k4 Y Y Y Y)<|mv Y<|bE h λx7 h7 h=>cl ((oF h7).w (args':=[_,_,_]) ⟨aq,aq,aB,ak⟩) ⟨Y,Y,Y,ak⟩<|ag Y<|dn<|aY ?_
 obtain rfl:=O h
 exact R1 Y
theorem Nf{x0:List Qr}{x1:List Qr}{r:Qr}(h:qy x0 x1=some r):Pure af 153 [slc 4 (List.map eQ x0),slc 4 (List.map eQ x1)] (.agg (eQ r)):=by
 refine bj Tryz.func153 Y (ae Y) (λc9 M vs hvs=>?_)
 unfold qy at h
 refine sr<|al (cs:=[ay false,au,ay false,au]) (by exact⟨aq,aB,aq,aB,ak⟩) Y<|dn<|sr<|bI (cs:=[_,_,_,_]) (cs':=[ay false,au,ay false,au]) (.nil) ⟨aq,aB,aq,aB,ak⟩<|al (cs:=[ay false,au,ay false,au]) (by exact⟨aq,aB,aq,aB,ak⟩) Y ?_
 refine so Y Y Y<|dn<|qq<|sr<|ag Y<|dn<|bE h λe6 uO je=>?_
 refine bJ (λ(uG:Bool×(List Nat)×Bool×(List Nat))=>AS.cu 25 [(4,.ptr 4 0),(5,.ptr 5 0)] [(5,⟨43,[ai uG.1,.sv (slc 1 (List.map bh uG.2.1)),ai uG.2.2.1,.sv (slc 1 (List.map bh uG.2.2.2))]⟩),(4,⟨43,[ai false,.sv au,ai false,.sv au]⟩)] []) (λuG=>uG=e6) ?_ (λuG uP=>?_)
 refine bf ?_
 refine bK uO (λs6=>AS.cu 25 [(0,.sv (slc 4 (List.map eQ x0))),(1,.sv (slc 4 (List.map eQ x1))),(4,.ptr 4 0),(5,.ptr 5 0),(6,ah s6.1)] [(5,⟨43,[ai s6.2.1,.sv (slc 1 (List.map bh s6.2.2.1)),ai s6.2.2.2.1,.sv (slc 1 (List.map bh s6.2.2.2.2))]⟩),(4,⟨43,[ai false,.sv au,ai false,.sv au]⟩)] []) (wR []) (λs6 y6 G6 h uQ pE=>?_)
 obtain⟨l7,M9,Na,Nb,Nc⟩:=s6
 try dsimp only
 refine qq<|sr<|mv Y<|mv Y<|lE h λdG fY h=>ln Y fY<|lE h λff kz h=>ls _ Y Y kz<|dn ?_
 cases ff
 refine cF<|bP<|aW.x<|aW.x<|bF.x<|aW.n ?_
 obtain rfl:=O (F h)
 exact⟨(M9,Na,Nb,Nc),pE _ Y,wR []⟩
 refine cT<|bu<|aW.n<|qq<|bf<|aZ mixed<|ld Y Y (.k4 Y Y Y Y)<|mv Y<|mv Y ?_
 obtain⟨⟨⟨qY,qZ⟩,⟨An,Ao⟩⟩,jK,h⟩:=bS (V h)
 refine ix Y Y jK<|RT.gJ (cs:=[_,_,_,_]) .none Y T Y Y<|mv Y<|mv Y ?_
 obtain⟨⟨⟨lW,lX⟩,⟨nB,nC⟩⟩,kA,h⟩:=bS h
 refine cl (me kA) ⟨Y,Y,ak⟩ ?_
 obtain⟨⟨⟨wC,wD⟩,⟨wE,wF⟩⟩,oz,h⟩:=bS h
 refine cl (rD oz) ⟨Y,Y,ak⟩ ?_
 obtain⟨⟨⟨As,At⟩,⟨LO,LP⟩⟩,oP,h⟩:=bS h
 refine cl (vG oP) ⟨Y,Y,ak⟩<|so Y Y Y ?_
 refine RT.done ⟨by kernel_rfl,?_⟩
 refine bF.n<|aW.n<|aX<|mv Y<|lE h λeY iX h=>ad _ Y Y iX<|ag Y<|RT.done ?_
 obtain rfl:=O h
 exact aW.n ⟨(eY,As,At,LO,LP),uQ _ Y,wR []⟩
 subst uP
 obtain⟨XA,XB,XC,XD⟩:=uG
 try dsimp only
 refine aW.n<|sr<|ld Y Y (.k4 Y Y Y Y)<|so Y Y Y<|dn<|aY ?_
 obtain rfl:=O je
 exact RZ (.agg Y Y (.k4 Y Y Y Y) Y (.nil))
theorem Ng{x0:List Qr}{x1:List Qr}{r:Int}(h:qA x0 x1=some r):Pure af 117 [slc 4 (List.map eQ x0),slc 4 (List.map eQ x1)] (ax r):=by
 refine bj Tryz.func117 Y (ae Y) (λc9 M vs hvs=>?_)
 unfold qA at h
 refine sr<|ag Y<|dn<|qq<|sr<|ag Y<|dn<|bE h λFo yl oV=>?_
 refine bJ (λ(RW:Unit)=>AS.cu 29 [] [] []) (λRW=>.inl RW=Fo) ?_ (λRW ym=>?_)
 refine bf ?_
 refine bK yl (λuF=>AS.cu 29 [(0,.sv (slc 4 (List.map eQ x0))),(1,.sv (slc 4 (List.map eQ x1))),(5,ah uF)] [] []) (wR []) (λDm ZG ZH h yn uN=>?_)
 try dsimp only
 refine qq<|qq ?_
 refine bL h (λGQ=>AS.cu 29 [(0,.sv (slc 4 (List.map eQ x0))),(1,.sv (slc 4 (List.map eQ x1))),(5,ah Dm),(16,ai GQ)] [] []) (λh=>?_) (λDi h=>?_)
 refine aX<|mv Y<|mv Y<|lE h λx9 h9 h=>ln Y h9<|lE h λdG fY h=>ls _ Y Y fY<|mv Y<|bE h λJc dH h=>?_
 cases dG
 refine gm Y<|gm Y<|lE (F dH) λdV jy dH=>gn Y jy<|lE dH λdN gH dH=>RT.lss (.some Y Y) _ Y Y T gH ?_
 obtain rfl:=O dH
 exact pF Y<|dn<|⟨dN,h,wR []⟩
 obtain rfl:=O (V dH)
 exact ww<|ww<|ww<|ww<|pT Y<|dn<|⟨true,h,wR []⟩
 try dsimp only
 refine aW.n ?_
 cases Di
 refine cF<|bP<|aW.x<|aW.x<|bF.x<|aW.n ?_
 obtain rfl:=O (F h)
 exact⟨(),uN _ Y,wR []⟩
 refine cT<|bu<|aW.n<|qq<|bf<|sr<|mv Y<|mv Y ?_
 obtain⟨⟨⟨lW,lX⟩,⟨nB,nC⟩⟩,kA,h⟩:=bS (V h)
 refine cl (me kA) ⟨Y,Y,ak⟩<|mv Y<|mv Y ?_
 obtain⟨⟨⟨kE,kF⟩,⟨qm,qo⟩⟩,nF,h⟩:=bS h
 refine cl (me nF) ⟨Y,Y,ak⟩<|bE h λke nN h=>cl (M8 nN) ⟨Y,Y,ak⟩<|ag Y<|dn<|sr<|mv Y<|lE h λir oU h=>ne _ Y Y (Le (p:=ke) (q:=0) oU)<|dn ?_
 cases ir
 refine cF<|bu<|bF.n<|aW.n<|aX<|mv Y<|lE (F h) λeE jd h=>ad _ Y Y jd<|ag Y<|RT.done ?_
 obtain rfl:=O h
 exact aW.n ⟨eE,yn _ Y,wR []⟩
 refine cT<|sr<|mv Y<|ag Y<|dn<|aY<|bF.r<|aW.r ?_
 obtain rfl:=O (V h)
 have XE:=uN _ Y
 subst XE
 refine aW.r<|bF.r<|aW.r<|aW.r ?_
 obtain rfl:=O oV
 exact R1 Y
 subst ym
 try dsimp only
 refine aW.n<|sr<|ag Y<|dn<|aY ?_
 obtain rfl:=O oV
 exact R1 Y
theorem th{x0:Int}{x1:Int}{r:List Qr}(h:jo x0 x1=some r):Pure af 116 [ax x0,ax x1] (slc 4 (List.map eQ r)):=by
 refine bj Tryz.func116 Y (ae Y) (λc9 M vs hvs=>?_)
 unfold jo at h
 refine sr<|aI Y (aB (n:=4) (e:=eQ))<|dn<|sr<|ag Y<|dn<|bU (cY 5 304 43 4 Y Y T)<|qq<|sr<|ag Y<|dn<|bE h λUv My tN=>?_
 refine bJ (λ(zW:(List Qr))=>AS.cu 27 [(5,.row 306)] [] [(306,TR 43 4 eQ zW)]) (λzW=>zW=Uv) ?_ (λzW Mz=>?_)
 refine bf ?_
 refine bK My (λAk=>AS.cu 27 [(0,ah x0),(1,ah x1),(5,.row 306),(6,ah Ak.1)] [] [(306,TR 43 4 eQ Ak.2)]) (cz (λi=>bif Nat.beq i 306 then 304 else i) Y Y Y Y Y ⟨.sv aq,.sv aq,.row Y,.sv aq,ak⟩ trivial ⟨⟨_,Y,cg.refl _⟩,ak⟩ (λi hi=>by rw[bV (show i≠306 by omega)];rfl)) (λAk y12 G12 h MA MB=>?_)
 obtain⟨sE,FK⟩:=Ak
 try dsimp only
 refine qq<|qq ?_
 refine bL h (λj15=>AS.cu 27 [(0,ah x0),(1,ah x1),(5,.row 306),(6,ah sE),(14,ai j15)] [] [(306,TR 43 4 eQ FK)]) (λh=>?_) (λDn h=>?_)
 refine aX<|mv Y<|mv Y<|lE h λdG fY h=>ls _ Y Y fY<|mv Y<|bE h λJm kC h=>?_
 cases dG
 obtain rfl:=O (F kC)
 exact ww<|ww<|pF Y<|dn<|⟨false,h,wR []⟩
 refine gm Y<|lE (V kC) λeY iX kC=>RT.lss (.some Y Y) _ Y Y T iX ?_
 obtain rfl:=O kC
 exact pT Y<|dn<|⟨eY,h,wR []⟩
 try dsimp only
 refine aW.n ?_
 cases Dn
 refine cF<|bP<|aW.x<|aW.x<|bF.x<|aW.n ?_
 obtain rfl:=O (F h)
 exact⟨FK,MB _ Y,wR []⟩
 refine cT<|bu<|aW.n<|qq<|bf<|sr<|bI (cs:=[_,_,_,_]) (cs':=[ay false,au,ay false,au]) (.nil) ⟨aq,aB,aq,aB,ak⟩<|al (cs:=[ay false,au,ay false,au]) (by exact⟨aq,aB,aq,aB,ak⟩) Y<|so Y Y Y<|dn<|qq<|sr<|mv Y<|mv Y<|lE (V h) λgK oO h=>?_
 refine eq _ Y Y (xj (p:=sE) (q:=x1) oO)<|dn ?_
 refine bL h (λPE=>AS.cu 27 [(0,ah x0),(1,ah x1),(5,.row 306),(6,ah sE),(7,.ptr 7 0)] [(7,⟨43,[ai PE.1,.sv (slc 1 (List.map bh PE.2.1)),ai PE.2.2.1,.sv (slc 1 (List.map bh PE.2.2.2))]⟩)] [(306,TR 43 4 eQ FK)]) (λh=>?_) (λPE h=>?_)
 cases gK
 exact fs<|⟨(false,[],false,[]),(F h),wR []⟩
 refine cT<|aX ?_
 obtain⟨⟨⟨lW,lX⟩,⟨nB,nC⟩⟩,kA,h⟩:=bS (V h)
 exact cl (mJ kA) ⟨Y,ak⟩<|so Y Y Y<|dn<|⟨(lW,lX,nB,nC),h,wR []⟩
 obtain⟨vH,vI,vJ,vK⟩:=PE
 try dsimp only
 refine aW.n<|aX<|mo (s:=.row _) Y<|ld Y Y (.k4 Y Y Y Y)<|bl (l:=[⟨⟨vH,vI⟩,⟨vJ,vK⟩⟩]) (e:=eQ) (.agg Y (.nil)) Y Y Y Y Y Y<|bE h λke nN h=>aR (k:=[⟨⟨vH,vI⟩,⟨vJ,vK⟩⟩]) (e:=eQ) Y Y Y nN<|an (s:=.row _) Y<|RT.done<|bF.n<|aW.n<|aX<|mv Y<|lE h λeX kf h=>ad _ Y Y kf<|ag Y<|RT.done ?_
 obtain rfl:=O h
 exact aW.n ⟨(eX,ke),MA _ Y,cz (λi=>bif Nat.beq i 306 then 25 else i) Y Y Y Y Y ⟨.sv aq,.sv aq,.row Y,.sv aq,ak⟩ trivial ⟨⟨_,Y,cg.refl _⟩,ak⟩ (λi hi=>by rw[bV (show i≠306 by omega)];rfl)⟩
 subst Mz
 try dsimp only
 refine aW.n<|sr<|mo (s:=.row _) Y<|an (s:=.row _) Y<|dn<|bU (cP (i:=306) (E1:=43) (n:=4) (e:=eQ) (l:=zW) Y)<|aY ?_
 obtain rfl:=O tN
 exact R1 Y
end
section
open Go.Fw
noncomputable def cV(x0:List (List Qr)):Option (Int):=(b9 (λ(s6:Int×Int)=>match s6 with|⟨ua,nX⟩=>(show Option ((Int×Int)⊕(Int))from(some (x0.length:Int)).bind λx7=>(some (decide ((nX:Int)<x7))).bind λx8=>(bif x8 then(cM x0 nX).bind λdV=>(some (dV.length:Int)).bind λeX=>(some (max (ua:Int) eX)).bind λdR=>(some (IntKind.i64.wrap (nX+1))).bind λdG=>some (.inl (dR,dG))else some (.inr ua)))) (0,0)).bind λyU=>some yU
noncomputable def fo(x0:List (List Qr))(x1:Int)(x2:Int):Option (Qr):=cJ (λ(XF:Bool)=>(bif XF then some ⟨⟨false,[]⟩,⟨false,[]⟩⟩else(cM x0 x1).bind λeE=>(g9 eE x2).bind λ⟨⟨lW,lX⟩,⟨nB,nC⟩⟩=>(m8 ⟨⟨lW,lX⟩,⟨nB,nC⟩⟩).bind λ⟨⟨wC,wD⟩,⟨wE,wF⟩⟩=>some ⟨⟨wC,wD⟩,⟨wE,wF⟩⟩)) λK3=>(some (decide ((x1:Int)<0))).bind λx8=>(bif x8 then some true else(some (x0.length:Int)).bind λc8=>(some (decide ((c8:Int)≤x1))).bind λeY=>some eY).bind λady=>K3 ady
noncomputable def eJ(x0:Nat)(x1:Qr)(x2:List (List Qr))(x3:List (List Qr))(x4:Int)(x5:Int):Option (Qr):=match x1 with|⟨⟨ct,cj⟩,⟨ek,ep⟩⟩=>(some (decide ((x0:Nat)=1))).bind λdR=>(bif dR then(fo x2 x5 x4).bind λ⟨⟨lW,lX⟩,⟨nB,nC⟩⟩=>some ⟨⟨lW,lX⟩,⟨nB,nC⟩⟩else(some (decide ((x0:Nat)=2))).bind λgU=>(bif gU then(b9 (λ(nA:Int×Bool×(List Nat)×Bool×(List Nat))=>match nA with|⟨Jo,Er,Es,Et,Eu⟩=>(show Option ((Int×Bool×(List Nat)×Bool×(List Nat))⊕(Bool×(List Nat)×Bool×(List Nat)))from(cV x2).bind λir=>(some (decide ((Jo:Int)<ir))).bind λlp=>(bif lp then(fo x2 x4 Jo).bind λ⟨⟨Tr,Ts⟩,⟨Tt,PF⟩⟩=>(fo x3 Jo x5).bind λ⟨⟨Eg,Eh⟩,⟨LC,LD⟩⟩=>(kK ⟨⟨Tr,Ts⟩,⟨Tt,PF⟩⟩ ⟨⟨Eg,Eh⟩,⟨LC,LD⟩⟩).bind λ⟨⟨vg,vh⟩,⟨yO,yP⟩⟩=>(mc ⟨⟨Er,Es⟩,⟨Et,Eu⟩⟩ ⟨⟨vg,vh⟩,⟨yO,yP⟩⟩).bind λ⟨⟨Lt,Lu⟩,⟨XG,XH⟩⟩=>(some (IntKind.i64.wrap (Jo+1))).bind λuL=>some (.inl (uL,Lt,Lu,XG,XH))else some (.inr (Er,Es,Et,Eu))))) (0,false,[],false,[])).bind λBn=>match Bn with|⟨PG,PI,PJ,PK⟩=>some ⟨⟨PG,PI⟩,⟨PJ,PK⟩⟩else(some (decide ((x0:Nat)=3))).bind λr9=>(bif r9 then(cV x2).bind λxm=>(some (decide ((x5:Int)<xm))).bind λuM=>(bif uM then(fo x2 x4 x5).bind λ⟨⟨adz,adA⟩,⟨adB,adC⟩⟩=>some ⟨⟨adz,adA⟩,⟨adB,adC⟩⟩else(cV x2).bind λGf=>(some (IntKind.i64.wrap (x5-Gf))).bind λQE=>(fo x3 x4 QE).bind λ⟨⟨LF,LG⟩,⟨LH,LI⟩⟩=>some ⟨⟨LF,LG⟩,⟨LH,LI⟩⟩)else(fo x2 x4 x5).bind λ⟨⟨PL,PM⟩,⟨PN,PO⟩⟩=>(kK ⟨⟨ct,cj⟩,⟨ek,ep⟩⟩ ⟨⟨PL,PM⟩,⟨PN,PO⟩⟩).bind λ⟨⟨adD,adE⟩,⟨adF,adG⟩⟩=>some ⟨⟨adD,adE⟩,⟨adF,adG⟩⟩)))
noncomputable def kM(x0:Int)(x1:Int)(x2:Nat)(x3:Qr)(x4:List (List Qr))(x5:List (List Qr)):Option (List (List Qr)):=match x3 with|⟨⟨qW,qX⟩,⟨Dp,Dq⟩⟩=>(b9 (λ(nA:Int×(List (List Qr)))=>match nA with|⟨yZ,hG⟩=>(show Option ((Int×(List (List Qr)))⊕((List (List Qr))))from(some (decide ((yZ:Int)<x0))).bind λjb=>(bif jb then(b9 (λ(yq:Int×(List Qr))=>match yq with|⟨zX,jq⟩=>(show Option ((Int×(List Qr))⊕((List Qr)))from(some (decide ((zX:Int)<x1))).bind λgV=>(bif gV then(eJ x2 ⟨⟨qW,qX⟩,⟨Dp,Dq⟩⟩ x4 x5 yZ zX).bind λ⟨⟨qk,ql⟩,⟨vi,vm⟩⟩=>(mP 64 jq [⟨⟨qk,ql⟩,⟨vi,vm⟩⟩]).bind λnE=>(some (IntKind.i64.wrap (zX+1))).bind λji=>some (.inl (ji,nE))else some (.inr jq)))) (0,[])).bind λdD=>(mP 24 hG [dD]).bind λlj=>(some (IntKind.i64.wrap (yZ+1))).bind λgh=>some (.inl (gh,lj))else some (.inr hG)))) (0,[])).bind λee=>some ee
noncomputable def jE(x0:Int):Option (Int):=(some (max (x0:Int) 0)).bind λx4=>(some (min (x4:Int) 1024)).bind λx5=>some x5
noncomputable def qB(x0:List (List Qr))(x1:Int)(x2:Int):Option (List (List Qr)):=(jE x1).bind λx8=>(jE x2).bind λdG=>(iI 1).bind λ⟨⟨xD,xE⟩,⟨PR,PS⟩⟩=>(kM x8 dG 0 ⟨⟨xD,xE⟩,⟨PR,PS⟩⟩ x0 []).bind λeY=>some eY
noncomputable def m9(x0:List (List Qr))(x1:Int):Option (Bool):=(cV x0).bind λx6=>(some (decide ((x6:Int)≤x1))).bind λx8=>some x8
noncomputable def mh(x0:Lr):Option (Bool):=match x0 with|⟨bn,bp,bB,bD⟩=>cJ (λ(RX:Bool)=>(bif RX then some false else cJ (λ(OJ:Bool)=>some OJ) λK24=>(m9 bp bn).bind λpC=>(bif pC then(m9 bB bn).bind λuM=>some uM else some false).bind λRY=>K24 RY)) λK21=>(some (decide ((bn:Int)<0))).bind λx5=>(bif x5 then some true else(some (decide ((64:Int)<bn))).bind λx9=>some x9).bind λXI=>(bif XI then some true else(some (bp.length:Int)).bind λdV=>(some (decide ((dV:Int)<1))).bind λdN=>some dN).bind λagy=>(bif agy then some true else(some (bp.length:Int)).bind λgK=>(some (decide ((4:Int)<gK))).bind λgh=>some gh).bind λagz=>(bif agz then some true else(some (bB.length:Int)).bind λji=>(some (decide ((128:Int)<ji))).bind λir=>some ir).bind λagA=>(bif agA then some true else(some (bD.length:Int)).bind λjY=>(some (bB.length:Int)).bind λpB=>(some (decide ((jY:Int)≠pB))).bind λnE=>some nE).bind λagB=>K21 agB
end
section
open Go.Fw Go.Fw.Z Go.RowKit
theorem eK{x0:List (List Qr)}{r:Int}(h:cV x0=some r):Pure af 118 [slc 1 (List.map (eS 4 eQ) x0)] (ax r):=by
 refine bj Tryz.func118 Y (ae Y) (λc9 M vs hvs=>?_)
 unfold cV at h
 refine sr<|ag Y<|dn<|sr<|ag Y<|dn<|qq<|sr<|ag Y<|dn<|bE h λe6 uO je=>?_
 refine bJ (λ(yU:Int)=>AS.cu 19 [(3,ah yU)] [] []) (λyU=>yU=e6) ?_ (λyU uP=>?_)
 refine bf ?_
 refine bK uO (λs6=>AS.cu 19 [(0,.sv (slc 1 (List.map (eS 4 eQ) x0))),(3,ah s6.1),(4,ah s6.2)] [] []) (wR []) (λs6 y6 G6 h uQ pE=>?_)
 obtain⟨ua,nX⟩:=s6
 try dsimp only
 refine qq<|sr<|mv Y<|mv Y<|lE h λx7 h7 h=>ln Y h7<|lE h λx8 h8 h=>ls _ Y Y h8<|dn ?_
 cases x8
 refine cF<|bP<|aW.x<|aW.x<|bF.x<|aW.n ?_
 obtain rfl:=O (F h)
 exact⟨ua,pE _ Y,wR []⟩
 refine cT<|bu<|aW.n<|qq<|bf<|aX<|mv Y<|mv Y<|mv Y<|bE (V h) λdV jy h=>ix Y Y jy<|lr Y Y<|lE h λeX kf h=>ln Y kf<|lE h λdR jK h=>RT.max .none _ Y Y T (Ol (p:=ua) (q:=eX) jK)<|ag Y<|RT.done<|bF.n<|aW.n<|aX<|mv Y<|lE h λdG fY h=>ad _ Y Y fY<|ag Y<|RT.done ?_
 obtain rfl:=O h
 exact aW.n ⟨(dR,dG),uQ _ Y,wR []⟩
 subst uP
 try dsimp only
 refine aW.n<|sr<|mv Y<|ag Y<|dn<|aY ?_
 obtain rfl:=O je
 exact R1 Y
theorem jF{x0:List (List Qr)}{x1:Int}{x2:Int}{r:Qr}(h:fo x0 x1 x2=some r):Pure af 121 [slc 1 (List.map (eS 4 eQ) x0),ax x1,ax x2] (.agg (eQ r)):=by
 refine bj Tryz.func121 Y (ae Y) (λc9 M vs hvs=>?_)
 unfold fo at h
 refine sr<|al (cs:=[ay false,au,ay false,au]) (by exact⟨aq,aB,aq,aB,ak⟩) Y<|dn<|qq<|qq ?_
 refine bL h (λj3=>AS.cu 23 [(0,.sv (slc 1 (List.map (eS 4 eQ) x0))),(1,ah x1),(2,ah x2),(6,.ptr 6 0),(14,ai j3)] [(6,⟨43,[ai false,.sv au,ai false,.sv au]⟩)] []) (λh=>?_) (λXF h=>?_)
 refine aX<|mv Y<|lE h λx8 h8 h=>ls _ Y Y h8<|mv Y<|bE h λady r5 h=>?_
 cases x8
 refine gm Y<|gm Y<|lE (F r5) λc8 fI r5=>gn Y fI<|lE r5 λeY iX r5=>RT.geq (.some Y Y) _ Y Y T iX ?_
 obtain rfl:=O r5
 exact pF Y<|dn<|⟨eY,h,wR []⟩
 obtain rfl:=O (V r5)
 exact ww<|ww<|ww<|ww<|pT Y<|dn<|⟨true,h,wR []⟩
 try dsimp only
 refine aW.n ?_
 cases XF
 refine fs<|sr<|mv Y<|mv Y<|bE (F h) λeE jd h=>ix Y Y jd<|lr Y Y<|mv Y ?_
 obtain⟨⟨⟨lW,lX⟩,⟨nB,nC⟩⟩,kA,h⟩:=bS h
 refine cl (me kA) ⟨Y,Y,ak⟩ ?_
 obtain⟨⟨⟨wC,wD⟩,⟨wE,wF⟩⟩,oz,h⟩:=bS h
 refine cl (Bx oz) ⟨Y,ak⟩<|so Y Y Y<|dn<|aY ?_
 obtain rfl:=O h
 exact RZ (.agg Y Y (.k4 Y Y Y Y) Y (.nil))
 refine cT<|sr<|bI (cs:=[_,_,_,_]) (cs':=[ay false,au,ay false,au]) (.nil) ⟨aq,aB,aq,aB,ak⟩<|so Y Y Y<|dn<|aY<|aW.r ?_
 obtain rfl:=O (V h)
 exact RZ (.agg Y Y (.k4 Y Y Y Y) Y (.nil))
theorem By{x0:Nat}{x1:Qr}{x2:List (List Qr)}{x3:List (List Qr)}{x4:Int}{x5:Int}{r:Qr}(h:eJ x0 x1 x2 x3 x4 x5=some r):Pure af 177 [.v (.int .u8 ((x0:Nat):Int)),.agg (eQ x1),slc 1 (List.map (eS 4 eQ) x2),slc 1 (List.map (eS 4 eQ) x3),ax x4,ax x5] (.agg (eQ r)):=by
 obtain⟨⟨ct,cj⟩,⟨ek,ep⟩⟩:=x1
 refine bj Tryz.func177 Y (ae Y) (λc9 M vs hvs=>?_)
 unfold eJ at h
 refine sr<|bx Y<|al (cs:=[ay false,au,ay false,au]) (by exact⟨aq,aB,aq,aB,ak⟩) Y<|dn<|qq<|sr<|mv Y<|dn<|bf<|sr<|lE h λdR jK h=>eq _ Y Y (eqN (p:=x0) (q:=1) jK)<|ag Y<|dn ?_
 cases dR
 refine cF<|sr<|lE (F h) λgU oP h=>eq _ Y Y (eqN (p:=x0) (q:=2) oP)<|ag Y<|dn ?_
 cases gU
 refine cF<|sr<|lE (F h) λr9 Az h=>eq _ Y Y (eqN (p:=x0) (q:=3) Az)<|ag Y<|dn ?_
 cases r9
 refine cF<|bu<|bF.n<|aW.n<|qq<|aZ mixed<|ld Y Y (.k4 Y Y Y Y)<|mv Y<|mv Y<|mv Y ?_
 obtain⟨⟨⟨PL,PM⟩,⟨PN,PO⟩⟩,h64,h⟩:=bS (F h)
 refine cl (jF h64) ⟨Y,Y,Y,ak⟩ ?_
 obtain⟨⟨⟨adD,adE⟩,⟨adF,adG⟩⟩,ZI,h⟩:=bS h
 refine cl (rD ZI) ⟨Y,Y,ak⟩<|so Y Y Y ?_
 refine RT.done ⟨by kernel_rfl,?_⟩
 refine aW.n<|aY ?_
 obtain rfl:=O h
 exact RZ (.agg Y Y (.k4 Y Y Y Y) Y (.nil))
 refine cT<|qq<|sr<|mv Y<|mv Y<|bE (V h) λxm AY h=>cl (eK AY) ⟨Y,ak⟩<|lE h λuM h48 h=>ls _ Y Y h48<|dn ?_
 cases uM
 refine fs<|sr<|mv Y<|mv Y<|mv Y<|mv Y<|bE (F h) λGf Rh h=>cl (eK Rh) ⟨Y,ak⟩<|lE h λQE h58 h=>sb _ Y Y h58 ?_
 obtain⟨⟨⟨LF,LG⟩,⟨LH,LI⟩⟩,UA,h⟩:=bS h
 refine cl (jF UA) ⟨Y,Y,Y,ak⟩<|so Y Y Y<|dn<|aY<|bF.r<|aW.r ?_
 obtain rfl:=O h
 exact RZ (.agg Y Y (.k4 Y Y Y Y) Y (.nil))
 refine cT<|sr<|mv Y<|mv Y<|mv Y ?_
 obtain⟨⟨⟨adz,adA⟩,⟨adB,adC⟩⟩,GV,h⟩:=bS (V h)
 refine cl (jF GV) ⟨Y,Y,Y,ak⟩<|so Y Y Y<|dn<|aY<|aW.r<|bF.r<|aW.r ?_
 obtain rfl:=O h
 exact RZ (.agg Y Y (.k4 Y Y Y Y) Y (.nil))
 refine cT<|sr<|bI (cs:=[_,_,_,_]) (cs':=[ay false,au,ay false,au]) (.nil) ⟨aq,aB,aq,aB,ak⟩<|al (cs:=[ay false,au,ay false,au]) (by exact⟨aq,aB,aq,aB,ak⟩) Y<|so Y Y Y<|dn<|qq<|sr<|ag Y<|dn<|bE (V h) λBn sK fC=>?_
 refine bJ (λ(vE:Bool×(List Nat)×Bool×(List Nat))=>AS.cu 66 [(12,.ptr 12 0),(13,.ptr 13 0)] [(13,⟨43,[ai vE.1,.sv (slc 1 (List.map bh vE.2.1)),ai vE.2.2.1,.sv (slc 1 (List.map bh vE.2.2.2))]⟩),(12,⟨43,[ai false,.sv au,ai false,.sv au]⟩)] []) (λvE=>vE=Bn) ?_ (λvE ry=>?_)
 refine bf ?_
 refine bK sK (λnA=>AS.cu 66 [(2,.sv (slc 1 (List.map (eS 4 eQ) x2))),(3,.sv (slc 1 (List.map (eS 4 eQ) x3))),(4,ah x4),(5,ah x5),(12,.ptr 12 0),(13,.ptr 13 0),(14,ah nA.1)] [(13,⟨43,[ai nA.2.1,.sv (slc 1 (List.map bh nA.2.2.1)),ai nA.2.2.2.1,.sv (slc 1 (List.map bh nA.2.2.2.2))]⟩),(12,⟨43,[ai false,.sv au,ai false,.sv au]⟩)] []) (wR []) (λnA Vr Vs h uS rz=>?_)
 obtain⟨Jo,Er,Es,Et,Eu⟩:=nA
 try dsimp only
 refine qq<|sr<|mv Y<|mv Y<|bE h λir oU h=>cl (eK oU) ⟨Y,ak⟩<|lE h λlp vz h=>ls _ Y Y vz<|dn ?_
 cases lp
 refine cF<|bP<|aW.x<|aW.x<|bF.x<|aW.n ?_
 obtain rfl:=O (F h)
 exact⟨(Er,Es,Et,Eu),rz _ Y,wR []⟩
 refine cT<|bu<|aW.n<|qq<|bf<|aZ mixed<|ld Y Y (.k4 Y Y Y Y)<|mv Y<|mv Y<|mv Y ?_
 obtain⟨⟨⟨Tr,Ts⟩,⟨Tt,PF⟩⟩,yN,h⟩:=bS (V h)
 refine cl (jF yN) ⟨Y,Y,Y,ak⟩<|mv Y<|mv Y<|mv Y ?_
 obtain⟨⟨⟨Eg,Eh⟩,⟨LC,LD⟩⟩,Fs,h⟩:=bS h
 refine cl (jF Fs) ⟨Y,Y,Y,ak⟩ ?_
 obtain⟨⟨⟨vg,vh⟩,⟨yO,yP⟩⟩,sZ,h⟩:=bS h
 refine cl (rD sZ) ⟨Y,Y,ak⟩ ?_
 obtain⟨⟨⟨Lt,Lu⟩,⟨XG,XH⟩⟩,GS,h⟩:=bS h
 refine cl (vG GS) ⟨Y,Y,ak⟩<|so Y Y Y ?_
 refine RT.done ⟨by kernel_rfl,?_⟩
 refine bF.n<|aW.n<|aX<|mv Y<|lE h λuL zJ h=>ad _ Y Y zJ<|ag Y<|RT.done ?_
 obtain rfl:=O h
 exact aW.n ⟨(uL,Lt,Lu,XG,XH),uS _ Y,wR []⟩
 subst ry
 obtain⟨PG,PI,PJ,PK⟩:=vE
 try dsimp only
 refine aW.n<|sr<|ld Y Y (.k4 Y Y Y Y)<|so Y Y Y<|dn<|aY<|bF.r<|aW.r ?_
 obtain rfl:=O fC
 exact RZ (.agg Y Y (.k4 Y Y Y Y) Y (.nil))
 refine cT<|sr<|mv Y<|mv Y<|mv Y ?_
 obtain⟨⟨⟨lW,lX⟩,⟨nB,nC⟩⟩,kA,h⟩:=bS (V h)
 refine cl (jF kA) ⟨Y,Y,Y,ak⟩<|so Y Y Y<|dn<|aY<|bF.r<|aW.r ?_
 obtain rfl:=O h
 exact RZ (.agg Y Y (.k4 Y Y Y Y) Y (.nil))
theorem tj{x0:Int}{x1:Int}{x2:Nat}{x3:Qr}{x4:List (List Qr)}{x5:List (List Qr)}{r:List (List Qr)}(h:kM x0 x1 x2 x3 x4 x5=some r):Pure af 148 [ax x0,ax x1,.v (.int .u8 ((x2:Nat):Int)),.agg (eQ x3),slc 1 (List.map (eS 4 eQ) x4),slc 1 (List.map (eS 4 eQ) x5)] (slc 1 (List.map (eS 4 eQ) r)):=by
 obtain⟨⟨qW,qX⟩,⟨Dp,Dq⟩⟩:=x3
 refine bj Tryz.func148 Y (ae Y) (λc9 M vs hvs=>?_)
 unfold kM at h
 refine sr<|bx Y<|aI Y (aB (n:=1) (e:=(eS 4 eQ)))<|dn<|sr<|ag Y<|dn<|bU (cY 13 304 23 1 Y Y T)<|qq<|sr<|ag Y<|dn<|bE h λBn sK fC=>?_
 refine bJ (λ(ee:(List (List Qr)))=>AS.cu 42 [(13,.row 311)] [] [(311,TR 23 1 (eS 4 eQ) ee)]) (λee=>ee=Bn) ?_ (λee ry=>?_)
 refine bf ?_
 refine bK sK (λnA=>AS.cu 42 [(0,ah x0),(1,ah x1),(2,.sv (.v (.int .u8 ((x2:Nat):Int)))),(4,.sv (slc 1 (List.map (eS 4 eQ) x4))),(5,.sv (slc 1 (List.map (eS 4 eQ) x5))),(9,.ptr 9 0),(13,.row 311),(14,ah nA.1)] [(9,⟨43,[ai qW,.sv (slc 1 (List.map bh qX)),ai Dp,.sv (slc 1 (List.map bh Dq))]⟩)] [(311,TR 23 1 (eS 4 eQ) nA.2)]) (cz (λi=>bif Nat.beq i 311 then 304 else i) Y Y Y Y Y ⟨.sv aq,.sv aq,.sv aq,.sv aq,.sv aq,.ptr,.row Y,.sv aq,ak⟩ ⟨⟨_,Y,⟨.sv aq,.sv aq,.sv aq,.sv aq,ak⟩⟩,ak⟩ ⟨⟨_,Y,cg.refl _⟩,ak⟩ (λi hi=>by rw[bV (show i≠311 by omega)];rfl)) (λnA Vr Vs h uS rz=>?_)
 obtain⟨yZ,hG⟩:=nA
 try dsimp only
 refine qq<|sr<|mv Y<|mv Y<|lE h λjb lZ h=>ls _ Y Y lZ<|dn ?_
 cases jb
 refine cF<|bP<|aW.x<|aW.x<|bF.x<|aW.n ?_
 obtain rfl:=O (F h)
 exact⟨hG,rz _ Y,wR []⟩
 refine cT<|bu<|aW.n<|qq<|bf<|sr<|ag Y<|dn<|bU (cY 15 321 43 4 Y Y T)<|qq<|sr<|ag Y<|dn<|bE (V h) λXy Jh mI=>?_
 refine bJ (λ(dD:(List Qr))=>AS.cu 42 [(0,ah x0),(1,ah x1),(2,.sv (.v (.int .u8 ((x2:Nat):Int)))),(4,.sv (slc 1 (List.map (eS 4 eQ) x4))),(5,.sv (slc 1 (List.map (eS 4 eQ) x5))),(9,.ptr 9 0),(13,.row 311),(14,ah yZ),(15,.row 323)] [(9,⟨43,[ai qW,.sv (slc 1 (List.map bh qX)),ai Dp,.sv (slc 1 (List.map bh Dq))]⟩)] [(311,TR 23 1 (eS 4 eQ) hG),(323,TR 43 4 eQ dD)]) (λdD=>dD=Xy) ?_ (λdD Ji=>?_)
 refine bf ?_
 refine bK Jh (λyq=>AS.cu 42 [(0,ah x0),(1,ah x1),(2,.sv (.v (.int .u8 ((x2:Nat):Int)))),(4,.sv (slc 1 (List.map (eS 4 eQ) x4))),(5,.sv (slc 1 (List.map (eS 4 eQ) x5))),(9,.ptr 9 0),(13,.row 311),(14,ah yZ),(15,.row 323),(16,ah yq.1)] [(9,⟨43,[ai qW,.sv (slc 1 (List.map bh qX)),ai Dp,.sv (slc 1 (List.map bh Dq))]⟩)] [(311,TR 23 1 (eS 4 eQ) hG),(323,TR 43 4 eQ yq.2)]) (cz (λi=>bif Nat.beq i 323 then 321 else i) Y Y Y Y Y ⟨.sv aq,.sv aq,.sv aq,.sv aq,.sv aq,.ptr,.row Y,.sv aq,.row Y,.sv aq,ak⟩ ⟨⟨_,Y,⟨.sv aq,.sv aq,.sv aq,.sv aq,ak⟩⟩,ak⟩ ⟨⟨_,Y,cg.refl _⟩,⟨_,Y,cg.refl _⟩,ak⟩ (λi hi=>by rw[bV (show i≠323 by omega)];rfl)) (λyq y22 G22 h Jj Jk=>?_)
 obtain⟨zX,jq⟩:=yq
 try dsimp only
 refine qq<|sr<|mv Y<|mv Y<|lE h λgV nF h=>ls _ Y Y nF<|dn ?_
 cases gV
 refine cF<|bP<|aW.x<|aW.x<|bF.x<|aW.n ?_
 obtain rfl:=O (F h)
 exact⟨jq,Jk _ Y,wR []⟩
 refine cT<|bu<|aW.n<|qq<|bf<|aX<|mo (s:=.row _) Y<|mv Y<|ld Y Y (.k4 Y Y Y Y)<|mv Y<|mv Y<|mv Y<|mv Y ?_
 obtain⟨⟨⟨qk,ql⟩,⟨vi,vm⟩⟩,zH,h⟩:=bS (V h)
 refine cl (By zH) ⟨Y,Y,Y,Y,Y,Y,ak⟩<|bl (l:=[⟨⟨qk,ql⟩,⟨vi,vm⟩⟩]) (e:=eQ) (.agg Y (.nil)) Y Y Y Y Y Y<|bE h λnE xo h=>aR (k:=[⟨⟨qk,ql⟩,⟨vi,vm⟩⟩]) (e:=eQ) Y Y Y xo<|an (s:=.row _) Y<|RT.done<|bF.n<|aW.n<|aX<|mv Y<|lE h λji qS h=>ad _ Y Y qS<|ag Y<|RT.done ?_
 obtain rfl:=O h
 exact aW.n ⟨(ji,nE),Jj _ Y,cz (λi=>bif Nat.beq i 323 then 36 else i) Y Y Y Y Y ⟨.sv aq,.sv aq,.sv aq,.sv aq,.sv aq,.ptr,.row Y,.sv aq,.row Y,.sv aq,ak⟩ ⟨⟨_,Y,⟨.sv aq,.sv aq,.sv aq,.sv aq,ak⟩⟩,ak⟩ ⟨⟨_,Y,cg.refl _⟩,⟨_,Y,cg.refl _⟩,ak⟩ (λi hi=>by rw[bV (show i≠323 by omega)];rfl)⟩
 subst Ji
 try dsimp only
 refine aW.n<|bU (cP (i:=323) (E1:=43) (n:=4) (e:=eQ) (l:=dD) Y)<|aX<|mo (s:=.row _) Y<|mv Y<|bl (l:=[dD]) (e:=(eS 4 eQ)) (.one Y (.nil)) Y Y Y Y Y Y<|bE mI λlj sZ mI=>aR (k:=[dD]) (e:=(eS 4 eQ)) Y Y Y sZ<|an (s:=.row _) Y<|RT.done<|bF.n<|aW.n<|aX<|mv Y<|lE mI λgh kA mI=>ad _ Y Y kA<|ag Y<|RT.done ?_
 obtain rfl:=O mI
 exact aW.n ⟨(gh,lj),uS _ Y,cz (λi=>bif Nat.beq i 311 then 40 else i) Y Y Y Y Y ⟨.sv aq,.sv aq,.sv aq,.sv aq,.sv aq,.ptr,.row Y,.sv aq,ak⟩ ⟨⟨_,Y,⟨.sv aq,.sv aq,.sv aq,.sv aq,ak⟩⟩,ak⟩ ⟨⟨_,Y,cg.refl _⟩,ak⟩ (λi hi=>by rw[bV (show i≠311 by omega)];rfl)⟩
 subst ry
 try dsimp only
 refine aW.n<|sr<|mo (s:=.row _) Y<|an (s:=.row _) Y<|dn<|bU (cP (i:=311) (E1:=23) (n:=1) (e:=(eS 4 eQ)) (l:=ee) Y)<|aY ?_
 obtain rfl:=O fC
 exact R1 Y
theorem oG{x0:Int}{r:Int}(h:jE x0=some r):Pure af 178 [ax x0] (ax r):=by
 refine bj Tryz.func178 Y (ae Y) (λc9 M vs hvs=>?_)
 unfold jE at h
 refine sr<|ag Y<|dn<|sr<|mv Y<|lE h λx4 h4 h=>RT.max .none _ Y Y T (Ol (p:=x0) (q:=0) h4)<|lE h λx5 h5 h=>RT.min .none _ Y Y T (V4 (p:=x4) (q:=1024) h5)<|ag Y<|dn<|aY ?_
 obtain rfl:=O h
 exact R1 Y
theorem Nh{x0:List (List Qr)}{x1:Int}{x2:Int}{r:List (List Qr)}(h:qB x0 x1 x2=some r):Pure af 150 [slc 1 (List.map (eS 4 eQ) x0),ax x1,ax x2] (slc 1 (List.map (eS 4 eQ) r)):=by
 refine bj Tryz.func150 Y (ae Y) (λc9 M vs hvs=>?_)
 unfold qB at h
 refine sr<|aI Y (aB (n:=1) (e:=(eS 4 eQ)))<|dn<|sr<|mv Y<|bE h λx8 h8 h=>cl (oG h8) ⟨Y,ak⟩<|mv Y<|bE h λdG fY h=>cl (oG fY) ⟨Y,ak⟩ ?_
 obtain⟨⟨⟨xD,xE⟩,⟨PR,PS⟩⟩,kz,h⟩:=bS h
 refine cl (mJ kz) ⟨Y,ak⟩<|mv Y<|bE h λeY iX h=>cl ((tj iX).w (args':=[_,_,_,_,_,_]) ⟨aq,aq,aq,aq,aq,aB,ak⟩) ⟨Y,Y,Y,Y,Y,Y,ak⟩<|ag Y<|dn<|aY ?_
 obtain rfl:=O h
 exact R1 Y
theorem Bz{x0:List (List Qr)}{x1:Int}{r:Bool}(h:m9 x0 x1=some r):Pure af 72 [slc 1 (List.map (eS 4 eQ) x0),ax x1] (ay r):=by
 refine bj Tryz.func72 Y (ae Y) (λc9 M vs hvs=>?_)
 unfold m9 at h
 refine sr<|ag Y<|dn<|sr<|mv Y<|bE h λx6 h6 h=>cl (eK h6) ⟨Y,ak⟩<|mv Y<|lE h λx8 h8 h=>RT.leq .none _ Y Y T h8<|ag Y<|dn<|aY ?_
 obtain rfl:=O h
 exact R1 Y
theorem rE{x0:Lr}{r:Bool}(h:mh x0=some r):Pure af 24 [.agg (Om x0)] (ay r):=by
 obtain⟨bn,bp,bB,bD⟩:=x0
 refine bj Tryz.func24 Y (ae Y) (λc9 M vs hvs=>?_)
 unfold mh at h
 refine sr<|bx Y<|ag Y<|dn<|qq<|qq ?_
 refine bL h (λj21=>AS.cu 50 [(1,.ptr 1 0),(37,ai j21)] [(1,⟨25,[ah bn,.sv (slc 1 (List.map (eS 4 eQ) bp)),.sv (slc 1 (List.map (eS 4 eQ) bB)),.sv (slc 4 (List.map eQ bD))]⟩)] []) (λh=>?_) (λRX h=>?_)
 refine aX<|fa Y Y<|lV Y Y Y<|lE h λx5 h5 h=>ls _ Y Y h5<|mv Y<|bE h λXI Ja h=>?_
 cases x5
 refine RT.fieldAddr (.some Y Y) Y T Y<|RT.zu (.some Y Y) Y Y Y T<|lE (F Ja) λx9 h9 Ja=>gg _ Y Y h9 ?_
 obtain rfl:=O Ja
 refine pF Y<|mv Y<|bE h λapu yQ h=>?_
 cases x9
 refine RT.fieldAddr (.some Y Y) Y T Y<|RT.zu (.some Y Y) Y Y Y T<|lE (F yQ) λdV jy yQ=>gn Y jy<|lE yQ λdN gH yQ=>RT.lss (.some Y Y) _ Y Y T gH ?_
 obtain rfl:=O yQ
 refine pF Y<|mv Y<|bE h λapv C7 h=>?_
 cases dN
 refine RT.fieldAddr (.some Y Y) Y T Y<|RT.zu (.some Y Y) Y Y Y T<|lE (F C7) λgK oO C7=>gn Y oO<|lE C7 λgh kA C7=>gg _ Y Y kA ?_
 obtain rfl:=O C7
 refine pF Y<|mv Y<|bE h λapw Fz h=>?_
 cases gh
 refine RT.fieldAddr (.some Y Y) Y T Y<|RT.zu (.some Y Y) Y Y Y T<|lE (F Fz) λji qS Fz=>gn Y qS<|lE Fz λir oU Fz=>gg _ Y Y oU ?_
 obtain rfl:=O Fz
 refine pF Y<|mv Y<|bE h λapx xp h=>?_
 cases ir
 refine RT.fieldAddr (.some Y Y) Y T Y<|RT.zu (.some Y Y) Y Y Y T<|lE (F xp) λjY qT xp=>gn Y qT<|RT.fieldAddr (.some Y Y) Y T Y<|RT.zu (.some Y Y) Y Y Y T<|lE xp λpB yN xp=>gn Y yN<|lE xp λnE xo xp=>gq _ Y Y (Le (p:=jY) (q:=pB) xo) ?_
 obtain rfl:=O xp
 exact pF Y<|dn<|⟨nE,h,wR []⟩
 obtain rfl:=O (V xp)
 exact ww<|ww<|ww<|ww<|ww<|ww<|ww<|pT Y<|dn<|⟨true,h,wR []⟩
 obtain rfl:=O (V Fz)
 refine ww<|ww<|ww<|ww<|pT Y<|mv Y<|bE h λapy D2 h=>?_
 obtain rfl:=O (V D2)
 exact ww<|ww<|ww<|ww<|ww<|ww<|ww<|pT Y<|dn<|⟨true,h,wR []⟩
 obtain rfl:=O (V C7)
 refine ww<|ww<|ww<|ww<|pT Y<|mv Y<|bE h λapz D3 h=>?_
 obtain rfl:=O (V D3)
 refine ww<|ww<|ww<|ww<|pT Y<|mv Y<|bE h λapA D4 h=>?_
 obtain rfl:=O (V D4)
 exact ww<|ww<|ww<|ww<|ww<|ww<|ww<|pT Y<|dn<|⟨true,h,wR []⟩
 obtain rfl:=O (V yQ)
 refine ww<|ww<|ww<|ww<|pT Y<|mv Y<|bE h λapB D5 h=>?_
 obtain rfl:=O (V D5)
 refine ww<|ww<|ww<|ww<|pT Y<|mv Y<|bE h λapC WO h=>?_
 obtain rfl:=O (V WO)
 refine ww<|ww<|ww<|ww<|pT Y<|mv Y<|bE h λapD WQ h=>?_
 obtain rfl:=O (V WQ)
 exact ww<|ww<|ww<|ww<|ww<|ww<|ww<|pT Y<|dn<|⟨true,h,wR []⟩
 obtain rfl:=O (V Ja)
 refine ww<|ww<|ww<|pT Y<|mv Y<|bE h λapE WR h=>?_
 obtain rfl:=O (V WR)
 refine ww<|ww<|ww<|ww<|pT Y<|mv Y<|bE h λapF afR h=>?_
 obtain rfl:=O (V afR)
 refine ww<|ww<|ww<|ww<|pT Y<|mv Y<|bE h λapG afS h=>?_
 obtain rfl:=O (V afS)
 refine ww<|ww<|ww<|ww<|pT Y<|mv Y<|bE h λapH afT h=>?_
 obtain rfl:=O (V afT)
 exact ww<|ww<|ww<|ww<|ww<|ww<|ww<|pT Y<|dn<|⟨true,h,wR []⟩
 try dsimp only
 refine aW.n ?_
 cases RX
 refine fs<|qq ?_
 refine bL (F h) (λZJ=>AS.cu 50 [(2,ai ZJ)] [] []) (λh=>?_) (λOJ h=>?_)
 refine aX<|fa Y Y<|lV Y Y Y<|fa Y Y<|lV Y Y Y<|bE h λpC Ay h=>cl (Bz Ay) ⟨Y,Y,ak⟩<|mv Y<|bE h λRY r6 h=>?_
 cases pC
 obtain rfl:=O (F r6)
 exact ww<|ww<|ww<|ww<|ww<|pF Y<|ag Y<|dn<|⟨false,h,wR []⟩
 refine RT.fieldAddr (.some Y Y) Y T Y<|RT.zu (.some Y Y) Y Y Y T<|RT.fieldAddr (.some Y Y) Y T Y<|RT.zu (.some Y Y) Y Y Y T<|bE (V r6) λuM h48 r6=>gc (Bz h48) ⟨Y,Y,ak⟩ ?_
 obtain rfl:=O r6
 exact pT Y<|ag Y<|dn<|⟨uM,h,wR []⟩
 try dsimp only
 refine aW.n<|aY ?_
 obtain rfl:=O h
 exact R1 Y
 refine cT<|sr<|ag Y<|dn<|aY<|aW.r ?_
 obtain rfl:=O (V h)
 exact R1 Y
end
section
open Go.Fw
noncomputable def rF(x0:List Zr):Option (Bool):=(b9 (λ(ua:Int)=>(show Option ((Int)⊕((Unit)⊕(Bool)))from(some (x0.length:Int)).bind λx6=>(some (decide ((ua:Int)<x6))).bind λx7=>(bif x7 then(cM x0 ua).bind λ⟨jg,iT⟩=>(some (iT.length:Int)).bind λdN=>(some (decide ((12:Int)<dN))).bind λeX=>(bif eX then some (.inr (.inr true))else(some (IntKind.i64.wrap (ua+1))).bind λx9=>some (.inl x9))else some (.inr (.inl ()))))) 0).bind λe6=>match e6 with|.inr v6=>some v6|.inl _=>some false
end
section
open Go.Fw Go.Fw.Z Go.RowKit
theorem KE{x0:List Zr}{r:Bool}(h:rF x0=some r):Pure af 125 [slc 2 (List.map eZ x0)] (ay r):=by
 refine bj Tryz.func125 Y (ae Y) (λc9 M vs hvs=>?_)
 unfold rF at h
 refine sr<|ag Y<|dn<|qq<|sr<|ag Y<|dn<|bE h λe6 uO je=>?_
 refine bJ (λ(uG:Unit)=>AS.cu 17 [] [] []) (λuG=>.inl uG=e6) ?_ (λuG uP=>?_)
 refine bf ?_
 refine bK uO (λs6=>AS.cu 17 [(0,.sv (slc 2 (List.map eZ x0))),(3,ah s6)] [] []) (wR []) (λua y6 G6 h uQ pE=>?_)
 try dsimp only
 refine qq<|sr<|mv Y<|mv Y<|lE h λx6 h6 h=>ln Y h6<|lE h λx7 h7 h=>ls _ Y Y h7<|dn ?_
 cases x7
 refine cF<|bP<|aW.x<|aW.x<|bF.x<|aW.n ?_
 obtain rfl:=O (F h)
 exact⟨(),pE _ Y,wR []⟩
 refine cT<|bu<|aW.n<|qq<|bf<|sr<|mv Y<|mv Y ?_
 obtain⟨⟨jg,iT⟩,fI,h⟩:=bS (V h)
 refine ix Y Y fI<|RT.bQ .none Y T Y<|lr Y Y<|lE h λdN gH h=>ln Y gH<|lE h λeX kf h=>gt _ Y Y kf<|dn ?_
 cases eX
 refine cF<|bu<|bF.n<|aW.n<|aX<|mv Y<|lE (F h) λx9 h9 h=>ad _ Y Y h9<|ag Y<|RT.done ?_
 obtain rfl:=O h
 exact aW.n ⟨x9,uQ _ Y,wR []⟩
 refine cT<|sr<|ag Y<|dn<|aY<|bF.r<|aW.r ?_
 obtain rfl:=O (V h)
 have GR:=pE _ Y
 subst GR
 refine aW.r<|bF.r<|aW.r<|aW.r ?_
 obtain rfl:=O je
 exact R1 Y
 subst uP
 try dsimp only
 refine aW.n<|sr<|ag Y<|dn<|aY ?_
 obtain rfl:=O je
 exact R1 Y
end
section
open Go.Fw
noncomputable def rG(x0:List Qr):Option (Bool):=(b9 (λ(Ck:Int)=>(show Option ((Int)⊕((Unit)⊕(Bool)))from(some (x0.length:Int)).bind λx6=>(some (decide ((Ck:Int)<x6))).bind λx7=>(bif x7 then cJ (λ(R3:Bool)=>(bif R3 then some (.inr (.inr true))else(some (IntKind.i64.wrap (Ck+1))).bind λx9=>some (.inl x9))) λK22=>(cM x0 Ck).bind λ⟨⟨jg,iT⟩,⟨Tl,Tm⟩⟩=>(cM x0 Ck).bind λ⟨⟨qY,qZ⟩,⟨An,Ao⟩⟩=>(rF [⟨jg,iT⟩,⟨An,Ao⟩]).bind λgh=>(bif gh then some true else(cM x0 Ck).bind λ⟨⟨nu,mR⟩,⟨tX,tY⟩⟩=>(some (mR.length:Int)).bind λiM=>(some (decide ((6:Int)<iM))).bind λuL=>some uL).bind λXJ=>(bif XJ then some true else(cM x0 Ck).bind λ⟨⟨Tr,Ts⟩,⟨Tt,PF⟩⟩=>(some (PF.length:Int)).bind λyj=>(some (decide ((6:Int)<yj))).bind λlj=>some lj).bind λagC=>K22 agC else some (.inr (.inl ()))))) 0).bind λBn=>match Bn with|.inr jM=>some jM|.inl _=>some false
end
section
open Go.Fw Go.Fw.Z Go.RowKit
theorem KF{x0:List Qr}{r:Bool}(h:rG x0=some r):Pure af 82 [slc 4 (List.map eQ x0)] (ay r):=by
 refine bj Tryz.func82 Y (ae Y) (λc9 M vs hvs=>?_)
 unfold rG at h
 refine sr<|ag Y<|dn<|qq<|sr<|ag Y<|dn<|bE h λBn sK fC=>?_
 refine bJ (λ(vE:Unit)=>AS.cu 42 [] [] []) (λvE=>.inl vE=Bn) ?_ (λvE ry=>?_)
 refine bf ?_
 refine bK sK (λnA=>AS.cu 42 [(0,.sv (slc 4 (List.map eQ x0))),(3,ah nA)] [] []) (wR []) (λCk Vr Vs h uS rz=>?_)
 try dsimp only
 refine qq<|sr<|mv Y<|mv Y<|lE h λx6 h6 h=>ln Y h6<|lE h λx7 h7 h=>ls _ Y Y h7<|dn ?_
 cases x7
 refine cF<|bP<|aW.x<|aW.x<|bF.x<|aW.n ?_
 obtain rfl:=O (F h)
 exact⟨(),rz _ Y,wR []⟩
 refine cT<|bu<|aW.n<|qq<|bf<|qq ?_
 refine bL (V h) (λj22=>AS.cu 42 [(0,.sv (slc 4 (List.map eQ x0))),(3,ah Ck),(41,ai j22)] [] []) (λh=>?_) (λR3 h=>?_)
 refine aZ mixed<|mv Y<|mv Y ?_
 obtain⟨⟨⟨jg,iT⟩,⟨Tl,Tm⟩⟩,fI,h⟩:=bS h
 refine ix Y Y fI<|RT.bQ .none Y T Y<|RT.gJ (cs:=[_,_]) .none Y T Y Y<|mv Y<|mv Y ?_
 obtain⟨⟨⟨qY,qZ⟩,⟨An,Ao⟩⟩,jK,h⟩:=bS h
 refine ix Y Y jK<|RT.bQ .none Y T Y<|RT.gJ (cs:=[_,_]) .none Y T Y Y<|bl (l:=[⟨jg,iT⟩,⟨An,Ao⟩]) (e:=eZ) (.agg Y (.agg Y (.nil))) Y Y Y Y Y Y<|bE h λgh kA h=>cl (KE kA) ⟨Y,ak⟩<|mv Y<|bE h λXJ mG h=>?_
 cases gh
 refine gm Y<|gm Y ?_
 obtain⟨⟨⟨nu,mR⟩,⟨tX,tY⟩⟩,nN,mG⟩:=bS (F mG)
 refine RT.ixM (.some Y Y) Y Y T nN<|RT.bQ (.some Y Y) Y T Y<|RT.bQ (.some Y Y) Y T Y<|gr Y Y<|lE mG λiM oM mG=>gn Y oM<|lE mG λuL zJ mG=>gg _ Y Y zJ ?_
 obtain rfl:=O mG
 refine pF Y<|mv Y<|bE h λapI nW h=>?_
 cases uL
 refine gm Y<|gm Y ?_
 obtain⟨⟨⟨Tr,Ts⟩,⟨Tt,PF⟩⟩,yN,nW⟩:=bS (F nW)
 refine RT.ixM (.some Y Y) Y Y T yN<|RT.bQ (.some Y Y) Y T Y<|RT.bQ (.some Y Y) Y T Y<|gr Y Y<|lE nW λyj Fs nW=>gn Y Fs<|lE nW λlj sZ nW=>gg _ Y Y sZ ?_
 obtain rfl:=O nW
 refine pF Y ?_
 refine RT.done ⟨by kernel_rfl,?_⟩
 exact aW.n<|⟨lj,h,wR []⟩
 obtain rfl:=O (V nW)
 refine ww<|ww<|ww<|ww<|ww<|ww<|ww<|ww<|pT Y ?_
 refine RT.done ⟨by kernel_rfl,?_⟩
 exact aW.n<|⟨true,h,wR []⟩
 obtain rfl:=O (V mG)
 refine ww<|ww<|ww<|ww<|ww<|ww<|ww<|ww<|pT Y<|mv Y<|bE h λapJ r6 h=>?_
 obtain rfl:=O (V r6)
 refine ww<|ww<|ww<|ww<|ww<|ww<|ww<|ww<|pT Y ?_
 refine RT.done ⟨by kernel_rfl,?_⟩
 exact aW.n<|⟨true,h,wR []⟩
 try dsimp only
 refine aW.n ?_
 cases R3
 refine cF<|bu<|bF.n<|aW.n<|aX<|mv Y<|lE (F h) λx9 h9 h=>ad _ Y Y h9<|ag Y<|RT.done ?_
 obtain rfl:=O h
 exact aW.n ⟨x9,uS _ Y,wR []⟩
 refine cT<|sr<|ag Y<|dn<|aY<|bF.r<|aW.r ?_
 obtain rfl:=O (V h)
 have RI:=rz _ Y
 subst RI
 refine aW.r<|bF.r<|aW.r<|aW.r ?_
 obtain rfl:=O fC
 exact R1 Y
 subst ry
 try dsimp only
 refine aW.n<|sr<|ag Y<|dn<|aY ?_
 obtain rfl:=O fC
 exact R1 Y
end
section
open Go.Fw
noncomputable def oH(x0:List (List Qr)):Option (Bool):=(b9 (λ(Ek:Int)=>(show Option ((Int)⊕((Unit)⊕(Bool)))from(some (x0.length:Int)).bind λx6=>(some (decide ((Ek:Int)<x6))).bind λx7=>(bif x7 then cJ (λ(R4:Bool)=>(bif R4 then some (.inr (.inr true))else(some (IntKind.i64.wrap (Ek+1))).bind λx9=>some (.inl x9))) λGM=>(cM x0 Ek).bind λc8=>(some (c8.length:Int)).bind λdV=>(some (decide ((20:Int)<dV))).bind λdN=>(bif dN then some true else(cM x0 Ek).bind λjb=>(rG jb).bind λgh=>some gh).bind λXK=>GM XK else some (.inr (.inl ()))))) 0).bind λFo=>match Fo with|.inr v10=>some v10|.inl _=>some false
noncomputable def oI(x0:List (List (List Qr))):Option (Bool):=(b9 (λ(Ck:Int)=>(show Option ((Int)⊕((Unit)⊕(Bool)))from(some (x0.length:Int)).bind λx6=>(some (decide ((Ck:Int)<x6))).bind λx7=>(bif x7 then cJ (λ(R5:Bool)=>(bif R5 then some (.inr (.inr true))else(some (IntKind.i64.wrap (Ck+1))).bind λx9=>some (.inl x9))) λK22=>(cM x0 Ck).bind λc8=>(some (c8.length:Int)).bind λdV=>(some (decide ((8:Int)<dV))).bind λdN=>(bif dN then some true else(cM x0 Ck).bind λjb=>(cV jb).bind λgh=>(some (decide ((8:Int)<gh))).bind λiK=>some iK).bind λJp=>(bif Jp then some true else(cM x0 Ck).bind λir=>(oH ir).bind λiM=>some iM).bind λagD=>K22 agD else some (.inr (.inl ()))))) 0).bind λBn=>match Bn with|.inr jM=>some jM|.inl _=>some false
noncomputable def tq:Option (Lr):=(lQ [[3,5]]).bind λx3=>(lQ [[1,0],[0,2],[3,2]]).bind λx8=>(dQ [4,12,18]).bind λdG=>some ⟨2,x3,x8,dG⟩
noncomputable def rH(x0:List (List Qr)):Option (Bool):=(b9 (λ(ua:Int)=>(show Option ((Int)⊕((Unit)⊕(Bool)))from(some (x0.length:Int)).bind λx6=>(some (decide ((ua:Int)<x6))).bind λx7=>(bif x7 then(cM x0 ua).bind λc8=>(some (c8.length:Int)).bind λdV=>(some (decide ((0:Int)<dV))).bind λdN=>(bif dN then some (.inr (.inr false))else(some (IntKind.i64.wrap (ua+1))).bind λx9=>some (.inl x9))else some (.inr (.inl ()))))) 0).bind λe6=>match e6 with|.inr v6=>some v6|.inl _=>some true
noncomputable def uz(x0:List Qr):Option (List Qr):=(some (x0.length:Int)).bind λx5=>(some (min (x5:Int) 20)).bind λx6=>(GK x0 0 x6).bind λx7=>some x7
noncomputable def rI(x0:Lr):Option (Bool):=match x0 with|⟨bn,bp,bB,bD⟩=>cJ (λ(adH:Bool)=>some adH) λK59=>(some (bp.length:Int)).bind λx5=>(some (decide ((6:Int)<x5))).bind λx6=>(bif x6 then some true else(some (bB.length:Int)).bind λdG=>(some (decide ((140:Int)<dG))).bind λff=>some ff).bind λXL=>(bif XL then some true else(some (bD.length:Int)).bind λeX=>(some (decide ((140:Int)<eX))).bind λdR=>some dR).bind λaaT=>(bif aaT then some true else(some (bB.length:Int)).bind λiK=>(some (decide ((8:Int)<iK))).bind λgU=>(bif gU then(rH bB).bind λir=>(some (!ir)).bind λlp=>some lp else some false).bind λaaU=>some aaU).bind λaaV=>(bif aaV then some true else(some (bB.length:Int)).bind λyA=>(some (decide ((yA:Int)≤8))).bind λpB=>(bif pB then(oI [bB]).bind λlj=>some lj else some false).bind λaaW=>some aaW).bind λaaX=>(bif aaX then some true else(oI [bp]).bind λxm=>some xm).bind λaaY=>(bif aaY then some true else(uz bD).bind λAA=>(oH [AA]).bind λGP=>some GP).bind λaaZ=>K59 aaZ
end
section
open Go.Fw Go.Fw.Z Go.RowKit
theorem o5{x0:List (List Qr)}{r:Bool}(h:oH x0=some r):Pure af 33 [slc 1 (List.map (eS 4 eQ) x0)] (ay r):=by
 refine bj Tryz.func33 Y (ae Y) (λc9 M vs hvs=>?_)
 unfold oH at h
 refine sr<|ag Y<|dn<|qq<|sr<|ag Y<|dn<|bE h λFo yl oV=>?_
 refine bJ (λ(RW:Unit)=>AS.cu 23 [] [] []) (λRW=>.inl RW=Fo) ?_ (λRW ym=>?_)
 refine bf ?_
 refine bK yl (λuF=>AS.cu 23 [(0,.sv (slc 1 (List.map (eS 4 eQ) x0))),(3,ah uF)] [] []) (wR []) (λEk ZG ZH h yn uN=>?_)
 try dsimp only
 refine qq<|sr<|mv Y<|mv Y<|lE h λx6 h6 h=>ln Y h6<|lE h λx7 h7 h=>ls _ Y Y h7<|dn ?_
 cases x7
 refine cF<|bP<|aW.x<|aW.x<|bF.x<|aW.n ?_
 obtain rfl:=O (F h)
 exact⟨(),uN _ Y,wR []⟩
 refine cT<|bu<|aW.n<|qq<|bf<|qq ?_
 refine bL (V h) (λGQ=>AS.cu 23 [(0,.sv (slc 1 (List.map (eS 4 eQ) x0))),(3,ah Ek),(22,ai GQ)] [] []) (λh=>?_) (λR4 h=>?_)
 refine aX<|mv Y<|mv Y<|bE h λc8 fI h=>ix Y Y fI<|lr Y Y<|lE h λdV jy h=>ln Y jy<|lE h λdN gH h=>gt _ Y Y gH<|mv Y<|bE h λXK dH h=>?_
 cases dN
 refine gm Y<|gm Y<|bE (F dH) λjb lZ dH=>RT.ixM (.some Y Y) Y Y T lZ<|gr Y Y<|bE dH λgh kA dH=>gc (KF kA) ⟨Y,ak⟩ ?_
 obtain rfl:=O dH
 exact pF Y<|dn<|⟨gh,h,wR []⟩
 obtain rfl:=O (V dH)
 exact ww<|ww<|ww<|ww<|ww<|pT Y<|dn<|⟨true,h,wR []⟩
 try dsimp only
 refine aW.n ?_
 cases R4
 refine cF<|bu<|bF.n<|aW.n<|aX<|mv Y<|lE (F h) λx9 h9 h=>ad _ Y Y h9<|ag Y<|RT.done ?_
 obtain rfl:=O h
 exact aW.n ⟨x9,yn _ Y,wR []⟩
 refine cT<|sr<|ag Y<|dn<|aY<|bF.r<|aW.r ?_
 obtain rfl:=O (V h)
 have XE:=uN _ Y
 subst XE
 refine aW.r<|bF.r<|aW.r<|aW.r ?_
 obtain rfl:=O oV
 exact R1 Y
 subst ym
 try dsimp only
 refine aW.n<|sr<|ag Y<|dn<|aY ?_
 obtain rfl:=O oV
 exact R1 Y
theorem nc{x0:List (List (List Qr))}{r:Bool}(h:oI x0=some r):Pure af 98 [slc 1 (List.map (eS 1 (eS 4 eQ)) x0)] (ay r):=by
 refine bj Tryz.func98 Y (ae Y) (λc9 M vs hvs=>?_)
 unfold oI at h
 refine sr<|ag Y<|dn<|qq<|sr<|ag Y<|dn<|bE h λBn sK fC=>?_
 refine bJ (λ(vE:Unit)=>AS.cu 31 [] [] []) (λvE=>.inl vE=Bn) ?_ (λvE ry=>?_)
 refine bf ?_
 refine bK sK (λnA=>AS.cu 31 [(0,.sv (slc 1 (List.map (eS 1 (eS 4 eQ)) x0))),(3,ah nA)] [] []) (wR []) (λCk Vr Vs h uS rz=>?_)
 try dsimp only
 refine qq<|sr<|mv Y<|mv Y<|lE h λx6 h6 h=>ln Y h6<|lE h λx7 h7 h=>ls _ Y Y h7<|dn ?_
 cases x7
 refine cF<|bP<|aW.x<|aW.x<|bF.x<|aW.n ?_
 obtain rfl:=O (F h)
 exact⟨(),rz _ Y,wR []⟩
 refine cT<|bu<|aW.n<|qq<|bf<|qq ?_
 refine bL (V h) (λj22=>AS.cu 31 [(0,.sv (slc 1 (List.map (eS 1 (eS 4 eQ)) x0))),(3,ah Ck),(30,ai j22)] [] []) (λh=>?_) (λR5 h=>?_)
 refine aX<|mv Y<|mv Y<|bE h λc8 fI h=>ix Y Y fI<|lr Y Y<|lE h λdV jy h=>ln Y jy<|lE h λdN gH h=>gt _ Y Y gH<|mv Y<|bE h λJp mG h=>?_
 cases dN
 refine gm Y<|gm Y<|bE (F mG) λjb lZ mG=>RT.ixM (.some Y Y) Y Y T lZ<|gr Y Y<|bE mG λgh kA mG=>gc (eK kA) ⟨Y,ak⟩<|lE mG λiK oz mG=>gg _ Y Y oz ?_
 obtain rfl:=O mG
 refine pF Y<|mv Y<|bE h λapK nW h=>?_
 cases iK
 refine gm Y<|gm Y<|bE (F nW) λir oU nW=>RT.ixM (.some Y Y) Y Y T oU<|gr Y Y<|bE nW λiM oM nW=>gc (o5 oM) ⟨Y,ak⟩ ?_
 obtain rfl:=O nW
 exact pF Y<|dn<|⟨iM,h,wR []⟩
 obtain rfl:=O (V nW)
 exact ww<|ww<|ww<|ww<|ww<|pT Y<|dn<|⟨true,h,wR []⟩
 obtain rfl:=O (V mG)
 refine ww<|ww<|ww<|ww<|ww<|ww<|pT Y<|mv Y<|bE h λapL r6 h=>?_
 obtain rfl:=O (V r6)
 exact ww<|ww<|ww<|ww<|ww<|pT Y<|dn<|⟨true,h,wR []⟩
 try dsimp only
 refine aW.n ?_
 cases R5
 refine cF<|bu<|bF.n<|aW.n<|aX<|mv Y<|lE (F h) λx9 h9 h=>ad _ Y Y h9<|ag Y<|RT.done ?_
 obtain rfl:=O h
 exact aW.n ⟨x9,uS _ Y,wR []⟩
 refine cT<|sr<|ag Y<|dn<|aY<|bF.r<|aW.r ?_
 obtain rfl:=O (V h)
 have RI:=rz _ Y
 subst RI
 refine aW.r<|bF.r<|aW.r<|aW.r ?_
 obtain rfl:=O fC
 exact R1 Y
 subst ry
 try dsimp only
 refine aW.n<|sr<|ag Y<|dn<|aY ?_
 obtain rfl:=O fC
 exact R1 Y
theorem Jq{r:Lr}(h:tq=some r):Pure af 53 [] (.agg (Om r)):=by
 refine bj Tryz.func53 Y (ae Y) (λc9 M vs hvs=>?_)
 unfold tq at h
 refine sr<|al (cs:=[ax 0,slc 1 (List.map (eS 4 eQ) []),slc 1 (List.map (eS 4 eQ) []),slc 4 (List.map eQ [])]) (by exact⟨aq,aB,aB,aB,ak⟩) Y<|dn<|sr<|bl (l:=[3,5]) (e:=bH) (.one Y (.one Y (.nil))) Y Y Y Y Y Y<|bl (l:=[[3,5]]) (e:=(eS 1 bH)) (.one Y (.nil)) Y Y Y Y Y Y<|bE h λx3 h3 h=>cl (Am h3) ⟨Y,ak⟩<|bl (l:=[1,0]) (e:=bH) (.one Y (.one Y (.nil))) Y Y Y Y Y Y ?_
 refine bl (l:=[0,2]) (e:=bH) (.one Y (.one Y (.nil))) Y Y Y Y Y Y<|bl (l:=[3,2]) (e:=bH) (.one Y (.one Y (.nil))) Y Y Y Y Y Y<|bl (l:=[[1,0],[0,2],[3,2]]) (e:=(eS 1 bH)) (.one Y (.one Y (.one Y (.nil)))) Y Y Y Y Y Y<|bE h λx8 h8 h=>cl (Am h8) ⟨Y,ak⟩<|bl (l:=[4,12,18]) (e:=bH) (.one Y (.one Y (.one Y (.nil)))) Y Y Y Y Y Y<|bE h λdG fY h=>cl (fN fY) ⟨Y,ak⟩ ?_
 refine bI (cs:=[_,_,_,_]) (cs':=[ax 2,slc 1 (List.map (eS 4 eQ) x3),slc 1 (List.map (eS 4 eQ) x8),slc 4 (List.map eQ dG)]) (.one Y (.one Y (.one Y (.one Y (.nil))))) ⟨aq,aq,aq,aq,ak⟩<|so Y Y Y<|dn<|aY ?_
 obtain rfl:=O h
 exact RZ (.agg Y Y (.k4 Y Y Y Y) Y (.nil))
theorem KG{x0:List (List Qr)}{r:Bool}(h:rH x0=some r):Pure af 97 [slc 1 (List.map (eS 4 eQ) x0)] (ay r):=by
 refine bj Tryz.func97 Y (ae Y) (λc9 M vs hvs=>?_)
 unfold rH at h
 refine sr<|ag Y<|dn<|qq<|sr<|ag Y<|dn<|bE h λe6 uO je=>?_
 refine bJ (λ(uG:Unit)=>AS.cu 16 [] [] []) (λuG=>.inl uG=e6) ?_ (λuG uP=>?_)
 refine bf ?_
 refine bK uO (λs6=>AS.cu 16 [(0,.sv (slc 1 (List.map (eS 4 eQ) x0))),(3,ah s6)] [] []) (wR []) (λua y6 G6 h uQ pE=>?_)
 try dsimp only
 refine qq<|sr<|mv Y<|mv Y<|lE h λx6 h6 h=>ln Y h6<|lE h λx7 h7 h=>ls _ Y Y h7<|dn ?_
 cases x7
 refine cF<|bP<|aW.x<|aW.x<|bF.x<|aW.n ?_
 obtain rfl:=O (F h)
 exact⟨(),pE _ Y,wR []⟩
 refine cT<|bu<|aW.n<|qq<|bf<|sr<|mv Y<|mv Y<|bE (V h) λc8 fI h=>ix Y Y fI<|lr Y Y<|lE h λdV jy h=>ln Y jy<|lE h λdN gH h=>gt _ Y Y gH<|dn ?_
 cases dN
 refine cF<|bu<|bF.n<|aW.n<|aX<|mv Y<|lE (F h) λx9 h9 h=>ad _ Y Y h9<|ag Y<|RT.done ?_
 obtain rfl:=O h
 exact aW.n ⟨x9,uQ _ Y,wR []⟩
 refine cT<|sr<|ag Y<|dn<|aY<|bF.r<|aW.r ?_
 obtain rfl:=O (V h)
 have GR:=pE _ Y
 subst GR
 refine aW.r<|bF.r<|aW.r<|aW.r ?_
 obtain rfl:=O je
 exact R1 Y
 subst uP
 try dsimp only
 refine aW.n<|sr<|ag Y<|dn<|aY ?_
 obtain rfl:=O je
 exact R1 Y
theorem vL{x0:List Qr}{r:List Qr}(h:uz x0=some r):Pure af 99 [slc 4 (List.map eQ x0)] (slc 4 (List.map eQ r)):=by
 refine bj Tryz.func99 Y (ae Y) (λc9 M vs hvs=>?_)
 unfold uz at h
 refine sr<|aI Y (aB (n:=4) (e:=eQ))<|dn<|sr<|mv Y<|mv Y<|lE h λx5 h5 h=>ln Y h5<|lE h λx6 h6 h=>RT.min .none _ Y Y T (V4 (p:=x5) (q:=20) h6)<|bE h λx7 h7 h=>RT.Io .none 0 x6 Y Y ⟨_,Y⟩ T h7<|ag Y<|dn<|aY ?_
 obtain rfl:=O h
 exact R1 Y
set_option maxHeartbeats 4000000 in
theorem KH{x0:Lr}{r:Bool}(h:rI x0=some r):Pure af 52 [.agg (Om x0)] (ay r):=by
 obtain⟨bn,bp,bB,bD⟩:=x0
 refine bj Tryz.func52 Y (ae Y) (λc9 M vs hvs=>?_)
 unfold rI at h
 refine sr<|bx Y<|ag Y<|dn<|qq ?_
 refine bL h (λj59=>AS.cu 56 [(2,ai j59)] [] []) (λh=>?_) (λadH h=>?_)
 refine aX<|fa Y Y<|lV Y Y Y<|lE h λx5 h5 h=>ln Y h5<|lE h λx6 h6 h=>gt _ Y Y h6<|mv Y<|bE h λXL PT h=>?_
 cases x6
 refine RT.fieldAddr (.some Y Y) Y T Y<|RT.zu (.some Y Y) Y Y Y T<|lE (F PT) λdG fY PT=>gn Y fY<|lE PT λff kz PT=>gg _ Y Y kz ?_
 obtain rfl:=O PT
 refine pF Y<|mv Y<|bE h λapO PU h=>?_
 cases ff
 refine RT.fieldAddr (.some Y Y) Y T Y<|RT.zu (.some Y Y) Y Y Y T<|lE (F PU) λeX kf PU=>gn Y kf<|lE PU λdR jK PU=>gg _ Y Y jK ?_
 obtain rfl:=O PU
 refine pF Y<|mv Y<|bE h λapP Jr h=>?_
 cases dR
 refine RT.fieldAddr (.some Y Y) Y T Y<|RT.zu (.some Y Y) Y Y Y T<|lE (F Jr) λiK oz Jr=>gn Y oz<|lE Jr λgU oP Jr=>gg _ Y Y oP<|gm Y<|bE Jr λapQ PV Jr=>?_
 cases gU
 obtain rfl:=O (F PV)
 refine ww<|ww<|ww<|ww<|gF Y ?_
 obtain rfl:=O Jr
 refine pF Y<|mv Y<|bE h λapS KI h=>RT.fieldAddr (.some Y Y) Y T Y<|RT.zu (.some Y Y) Y Y Y T<|lE (F KI) λyA zH KI=>gn Y zH<|lE KI λpB yN KI=>RT.leq (.some Y Y) _ Y Y T yN<|gm Y<|bE KI λapT FL KI=>?_
 cases pB
 obtain rfl:=O (F FL)
 refine ww<|ww<|ww<|ww<|gF Y ?_
 obtain rfl:=O KI
 refine pF Y<|mv Y<|bE h λapU R6 h=>RT.fieldAddr (.some Y Y) Y T Y<|RT.zu (.some Y Y) Y Y Y T<|RT.jl (l:=[bp]) (e:=(eS 1 (eS 4 eQ))) (.some Y Y) (.one Y (.nil)) T Y Y Y Y Y Y<|bE (F R6) λxm AY R6=>gc (nc AY) ⟨Y,ak⟩ ?_
 obtain rfl:=O R6
 refine pF Y<|mv Y<|bE h λapV Cm h=>?_
 cases xm
 refine RT.fieldAddr (.some Y Y) Y T Y<|RT.zu (.some Y Y) Y Y Y T<|bE (F Cm) λAA GV Cm=>gc (vL GV) ⟨Y,ak⟩<|RT.jl (l:=[AA]) (e:=(eS 4 eQ)) (.some Y Y) (.one Y (.nil)) T Y Y Y Y Y Y<|bE Cm λGP QF Cm=>gc (o5 QF) ⟨Y,ak⟩ ?_
 obtain rfl:=O Cm
 exact pF Y<|ag Y<|dn<|⟨GP,h,wR []⟩
 obtain rfl:=O (V Cm)
 exact ww<|ww<|ww<|ww<|ww<|pT Y<|ag Y<|dn<|⟨true,h,wR []⟩
 refine RT.fieldAddr (.some Y Y) Y T Y<|RT.zu (.some Y Y) Y Y Y T<|RT.jl (l:=[bB]) (e:=(eS 1 (eS 4 eQ))) (.some Y Y) (.one Y (.nil)) T Y Y Y Y Y Y<|bE (V FL) λlj sZ FL=>gc (nc sZ) ⟨Y,ak⟩ ?_
 obtain rfl:=O FL
 refine gT Y ?_
 obtain rfl:=O KI
 refine pF Y<|mv Y<|bE h λapW Js h=>?_
 cases lj
 refine RT.fieldAddr (.some Y Y) Y T Y<|RT.zu (.some Y Y) Y Y Y T<|RT.jl (l:=[bp]) (e:=(eS 1 (eS 4 eQ))) (.some Y Y) (.one Y (.nil)) T Y Y Y Y Y Y<|bE (F Js) λxm AY Js=>gc (nc AY) ⟨Y,ak⟩ ?_
 obtain rfl:=O Js
 refine pF Y<|mv Y<|bE h λapX Jt h=>?_
 cases xm
 refine RT.fieldAddr (.some Y Y) Y T Y<|RT.zu (.some Y Y) Y Y Y T<|bE (F Jt) λAA GV Jt=>gc (vL GV) ⟨Y,ak⟩<|RT.jl (l:=[AA]) (e:=(eS 4 eQ)) (.some Y Y) (.one Y (.nil)) T Y Y Y Y Y Y<|bE Jt λGP QF Jt=>gc (o5 QF) ⟨Y,ak⟩ ?_
 obtain rfl:=O Jt
 exact pF Y<|ag Y<|dn<|⟨GP,h,wR []⟩
 obtain rfl:=O (V Jt)
 exact ww<|ww<|ww<|ww<|ww<|pT Y<|ag Y<|dn<|⟨true,h,wR []⟩
 obtain rfl:=O (V Js)
 refine ww<|ww<|ww<|ww<|pT Y<|mv Y<|bE h λapY agE h=>?_
 obtain rfl:=O (V agE)
 exact ww<|ww<|ww<|ww<|ww<|pT Y<|ag Y<|dn<|⟨true,h,wR []⟩
 refine RT.fieldAddr (.some Y Y) Y T Y<|RT.zu (.some Y Y) Y Y Y T<|bE (V PV) λir oU PV=>gc (KG oU) ⟨Y,ak⟩<|lE PV λlp vz PV=>QC Y _ vz ?_
 obtain rfl:=O PV
 refine gT Y ?_
 obtain rfl:=O Jr
 refine pF Y<|mv Y<|bE h λapZ vM h=>?_
 cases lp
 refine RT.fieldAddr (.some Y Y) Y T Y<|RT.zu (.some Y Y) Y Y Y T<|lE (F vM) λyA zH vM=>gn Y zH<|lE vM λpB yN vM=>RT.leq (.some Y Y) _ Y Y T yN<|gm Y<|bE vM λap0 UQ vM=>?_
 cases pB
 obtain rfl:=O (F UQ)
 refine ww<|ww<|ww<|ww<|gF Y ?_
 obtain rfl:=O vM
 refine pF Y<|mv Y<|bE h λap1 agF h=>RT.fieldAddr (.some Y Y) Y T Y<|RT.zu (.some Y Y) Y Y Y T<|RT.jl (l:=[bp]) (e:=(eS 1 (eS 4 eQ))) (.some Y Y) (.one Y (.nil)) T Y Y Y Y Y Y<|bE (F agF) λxm AY agF=>gc (nc AY) ⟨Y,ak⟩ ?_
 obtain rfl:=O agF
 refine pF Y<|mv Y<|bE h λap2 UR h=>?_
 cases xm
 refine RT.fieldAddr (.some Y Y) Y T Y<|RT.zu (.some Y Y) Y Y Y T<|bE (F UR) λAA GV UR=>gc (vL GV) ⟨Y,ak⟩<|RT.jl (l:=[AA]) (e:=(eS 4 eQ)) (.some Y Y) (.one Y (.nil)) T Y Y Y Y Y Y<|bE UR λGP QF UR=>gc (o5 QF) ⟨Y,ak⟩ ?_
 obtain rfl:=O UR
 exact pF Y<|ag Y<|dn<|⟨GP,h,wR []⟩
 obtain rfl:=O (V UR)
 exact ww<|ww<|ww<|ww<|ww<|pT Y<|ag Y<|dn<|⟨true,h,wR []⟩
 refine RT.fieldAddr (.some Y Y) Y T Y<|RT.zu (.some Y Y) Y Y Y T<|RT.jl (l:=[bB]) (e:=(eS 1 (eS 4 eQ))) (.some Y Y) (.one Y (.nil)) T Y Y Y Y Y Y<|bE (V UQ) λlj sZ UQ=>gc (nc sZ) ⟨Y,ak⟩ ?_
 obtain rfl:=O UQ
 refine gT Y ?_
 obtain rfl:=O vM
 refine pF Y<|mv Y<|bE h λap3 US h=>?_
 cases lj
 refine RT.fieldAddr (.some Y Y) Y T Y<|RT.zu (.some Y Y) Y Y Y T<|RT.jl (l:=[bp]) (e:=(eS 1 (eS 4 eQ))) (.some Y Y) (.one Y (.nil)) T Y Y Y Y Y Y<|bE (F US) λxm AY US=>gc (nc AY) ⟨Y,ak⟩ ?_
 obtain rfl:=O US
 refine pF Y<|mv Y<|bE h λap4 PW h=>?_
 cases xm
 refine RT.fieldAddr (.some Y Y) Y T Y<|RT.zu (.some Y Y) Y Y Y T<|bE (F PW) λAA GV PW=>gc (vL GV) ⟨Y,ak⟩<|RT.jl (l:=[AA]) (e:=(eS 4 eQ)) (.some Y Y) (.one Y (.nil)) T Y Y Y Y Y Y<|bE PW λGP QF PW=>gc (o5 QF) ⟨Y,ak⟩ ?_
 obtain rfl:=O PW
 exact pF Y<|ag Y<|dn<|⟨GP,h,wR []⟩
 obtain rfl:=O (V PW)
 exact ww<|ww<|ww<|ww<|ww<|pT Y<|ag Y<|dn<|⟨true,h,wR []⟩
 obtain rfl:=O (V US)
 refine ww<|ww<|ww<|ww<|pT Y<|mv Y<|bE h λap5 agG h=>?_
 obtain rfl:=O (V agG)
 exact ww<|ww<|ww<|ww<|ww<|pT Y<|ag Y<|dn<|⟨true,h,wR []⟩
 obtain rfl:=O (V vM)
 refine ww<|ww<|ww<|ww<|ww<|wu<|wu<|wu<|wu<|ww<|pT Y<|mv Y<|bE h λap6 G7 h=>?_
 obtain rfl:=O (V G7)
 refine ww<|ww<|ww<|ww<|pT Y<|mv Y<|bE h λap7 UT h=>?_
 obtain rfl:=O (V UT)
 exact ww<|ww<|ww<|ww<|ww<|pT Y<|ag Y<|dn<|⟨true,h,wR []⟩
 obtain rfl:=O (V Jr)
 refine ww<|ww<|ww<|ww<|ww<|wu<|wu<|wu<|wu<|ww<|pT Y<|mv Y<|bE h λap8 ap9 h=>?_
 obtain rfl:=O (V ap9)
 refine ww<|ww<|ww<|ww<|ww<|wu<|wu<|wu<|wu<|ww<|pT Y<|mv Y<|bE h λaqa aqb h=>?_
 obtain rfl:=O (V aqb)
 refine ww<|ww<|ww<|ww<|pT Y<|mv Y<|bE h λalW akr h=>?_
 obtain rfl:=O (V akr)
 exact ww<|ww<|ww<|ww<|ww<|pT Y<|ag Y<|dn<|⟨true,h,wR []⟩
 obtain rfl:=O (V PU)
 refine ww<|ww<|ww<|ww<|pT Y<|mv Y<|bE h λalX aks h=>?_
 obtain rfl:=O (V aks)
 refine ww<|ww<|ww<|ww<|ww<|wu<|wu<|wu<|wu<|ww<|pT Y<|mv Y<|bE h λalY akt h=>?_
 obtain rfl:=O (V akt)
 refine ww<|ww<|ww<|ww<|ww<|wu<|wu<|wu<|wu<|ww<|pT Y<|mv Y<|bE h λalZ aku h=>?_
 obtain rfl:=O (V aku)
 refine ww<|ww<|ww<|ww<|pT Y<|mv Y<|bE h λal3 akv h=>?_
 obtain rfl:=O (V akv)
 exact ww<|ww<|ww<|ww<|ww<|pT Y<|ag Y<|dn<|⟨true,h,wR []⟩
 obtain rfl:=O (V PT)
 refine ww<|ww<|ww<|ww<|pT Y<|mv Y<|bE h λal4 akw h=>?_
 obtain rfl:=O (V akw)
 refine ww<|ww<|ww<|ww<|pT Y<|mv Y<|bE h λal5 akx h=>?_
 obtain rfl:=O (V akx)
 refine ww<|ww<|ww<|ww<|ww<|wu<|wu<|wu<|wu<|ww<|pT Y<|mv Y<|bE h λal6 aky h=>?_
 obtain rfl:=O (V aky)
 refine ww<|ww<|ww<|ww<|ww<|wu<|wu<|wu<|wu<|ww<|pT Y<|mv Y<|bE h λal8 akz h=>?_
 obtain rfl:=O (V akz)
 refine ww<|ww<|ww<|ww<|pT Y<|mv Y<|bE h λal9 akA h=>?_
 obtain rfl:=O (V akA)
 exact ww<|ww<|ww<|ww<|ww<|pT Y<|ag Y<|dn<|⟨true,h,wR []⟩
 try dsimp only
 refine aW.n<|aY ?_
 obtain rfl:=O h
 exact R1 Y
end
section
open Go.Fw
noncomputable def oJ(x0:List Int)(x1:List Int):Option (Bool):=(some (x0.length:Int)).bind λx7=>(some (x1.length:Int)).bind λx9=>(some (decide ((x7:Int)≠x9))).bind λdG=>(bif dG then some false else(b9 (λ(iA:Int)=>(show Option ((Int)⊕((Unit)⊕(Bool)))from(some (x0.length:Int)).bind λeY=>(some (decide ((iA:Int)<eY))).bind λdV=>(bif dV then(cM x0 iA).bind λjb=>(cM x1 iA).bind λgU=>(some (decide ((jb:Int)≠gU))).bind λke=>(bif ke then some (.inr (.inr false))else(some (IntKind.i64.wrap (iA+1))).bind λeX=>some (.inl eX))else some (.inr (.inl ()))))) 0).bind λe6=>match e6 with|.inr v6=>some v6|.inl _=>some true)
noncomputable def fM:Option (Bool):=(tq).bind λ⟨Jf,Jg,akB,akC⟩=>(kW ⟨Jf,Jg,akB,akC⟩).bind λ⟨pY,pZ,Dk,Dl,UU⟩=>cJ (λ(XM:Bool)=>(bif XM then some false else(bY pY pZ Dk Dl UU 1 1).bind λ⟨lj,l14,Ti,l16⟩=>cJ (λ(R7:Bool)=>(bif R7 then some false else(bY pY pZ l14 Ti l16 2 0).bind λ⟨x64,ZO,l31,l32⟩=>cJ (λ(adI:Bool)=>some adI) λK53=>(some (decide ((x64:Int)=0))).bind λMu=>(bif Mu then(jL (⟨pY,pZ,ZO,l31,l32⟩:Tb)).bind λWh=>(dQ [2,6,2]).bind λVp=>(gL Wh Vp).bind λOz=>some Oz else some false).bind λXN=>(bif XN then(iF (⟨pY,pZ,ZO,l31,l32⟩:Tb)).bind λx76=>(dQ [2,6]).bind λx78=>(gL x76 x78).bind λUw=>some Uw else some false).bind λagH=>(bif agH then(kG (⟨pY,pZ,ZO,l31,l32⟩:Tb)).bind λx83=>(dQ [36,(-2),(-6)]).bind λx85=>(gL x83 x85).bind λQ9=>some Q9 else some false).bind λagI=>(bif agI then(jA (⟨pY,pZ,ZO,l31,l32⟩:Tb)).bind λVm=>some Vm else some false).bind λagJ=>(bif agJ then(jS (⟨pY,pZ,ZO,l31,l32⟩:Tb)).bind λx94=>some x94 else some false).bind λagK=>K53 agK)) λK26=>(some (decide ((lj:Int)≠0))).bind λpC=>(bif pC then some true else(jL (⟨pY,pZ,l14,Ti,l16⟩:Tb)).bind λyf=>(dQ [4,6,6]).bind λxm=>(gL yf xm).bind λuM=>(some (!uM)).bind λx49=>some x49).bind λXO=>(bif XO then some true else(kG (⟨pY,pZ,l14,Ti,l16⟩:Tb)).bind λVq=>(dQ [30,0,(-6)]).bind λCZ=>(gL Vq CZ).bind λGN=>(some (!GN)).bind λGf=>some Gf).bind λagL=>(bif agL then some true else(jA (⟨pY,pZ,l14,Ti,l16⟩:Tb)).bind λN2=>some N2).bind λagM=>K26 agM)) λUL=>(bif false then none else some false).bind λXP=>(bif XP then some true else(jz (⟨pY,pZ,Dk,Dl,UU⟩:Tb)).bind λeE=>(oJ eE [2,3,4]).bind λgK=>(some (!gK)).bind λgh=>some gh).bind λagN=>(bif agN then some true else(jL (⟨pY,pZ,Dk,Dl,UU⟩:Tb)).bind λke=>(dQ [4,12,18]).bind λir=>(gL ke ir).bind λlp=>(some (!lp)).bind λiM=>some iM).bind λagO=>(bif agO then some true else(dz (⟨pY,pZ,Dk,Dl,UU⟩:Tb) 0).bind λou=>(dQ [(-3),1,0]).bind λpB=>(gL ou pB).bind λnE=>(some (!nE)).bind λpD=>some pD).bind λagP=>UL agP
end
section
open Go.Fw Go.Fw.Z Go.RowKit
theorem CH{x0:List Int}{x1:List Int}{r:Bool}(h:oJ x0 x1=some r):Pure af 45 [slc 1 (List.map bH x0),slc 1 (List.map bH x1)] (ay r):=by
 refine bj Tryz.func45 Y (ae Y) (λc9 M vs hvs=>?_)
 unfold oJ at h
 refine sr<|ag Y<|dn<|qq<|sr<|mv Y<|lE h λx7 h7 h=>ln Y h7<|mv Y<|lE h λx9 h9 h=>ln Y h9<|lE h λdG fY h=>ne _ Y Y (Le (p:=x7) (q:=x9) fY)<|dn ?_
 cases dG
 refine fs<|qq<|sr<|ag Y<|dn<|bE (F h) λe6 uO je=>?_
 refine bJ (λ(uG:Unit)=>AS.cu 26 [] [] []) (λuG=>.inl uG=e6) ?_ (λuG uP=>?_)
 refine bf ?_
 refine bK uO (λs6=>AS.cu 26 [(0,.sv (slc 1 (List.map bH x0))),(1,.sv (slc 1 (List.map bH x1))),(5,ah s6)] [] []) (wR []) (λiA y6 G6 h uQ pE=>?_)
 try dsimp only
 refine qq<|sr<|mv Y<|mv Y<|lE h λeY iX h=>ln Y iX<|lE h λdV jy h=>ls _ Y Y jy<|dn ?_
 cases dV
 refine cF<|bP<|aW.x<|aW.x<|bF.x<|aW.n ?_
 obtain rfl:=O (F h)
 exact⟨(),pE _ Y,wR []⟩
 refine cT<|bu<|aW.n<|qq<|bf<|qq<|aZ mixed<|mv Y<|mv Y<|bE (V h) λjb lZ h=>ix Y Y lZ<|lr Y Y<|mv Y<|mv Y<|bE h λgU oP h=>ix Y Y oP<|lr Y Y<|lE h λke nN h=>ne _ Y Y (Le (p:=jb) (q:=gU) nN) ?_
 refine RT.done ⟨by kernel_rfl,?_⟩
 refine aW.n ?_
 cases ke
 refine cF<|bu<|bF.n<|aW.n<|aX<|mv Y<|lE (F h) λeX kf h=>ad _ Y Y kf<|ag Y<|RT.done ?_
 obtain rfl:=O h
 exact aW.n ⟨eX,uQ _ Y,wR []⟩
 refine cT<|sr<|ag Y<|dn<|aY<|bF.r<|aW.r ?_
 obtain rfl:=O (V h)
 have GR:=pE _ Y
 subst GR
 refine aW.r<|bF.r<|aW.r<|aW.r ?_
 obtain rfl:=O je
 exact R1 Y
 subst uP
 try dsimp only
 refine aW.n<|sr<|ag Y<|dn<|aY ?_
 obtain rfl:=O je
 exact R1 Y
 refine cT<|sr<|ag Y<|dn<|aY<|aW.r ?_
 obtain rfl:=O (V h)
 exact R1 Y
set_option maxHeartbeats 4000000 in
theorem n8{r:Bool}(h:fM=some r):Pure af 10 [] (ay r):=by
 refine bj Tryz.func10 Y (ae Y) (λc9 M vs hvs=>?_)
 unfold fM at h
 refine sr<|ag Y<|dn<|sr ?_
 obtain⟨⟨Jf,Jg,akB,akC⟩,h6,h⟩:=bS h
 refine cl (Jq h6) trivial ?_
 obtain⟨⟨pY,pZ,Dk,Dl,UU⟩,h7,h⟩:=bS h
 refine RT.Te .none (Bu h7) [304,305,306] (by decide) Y ⟨⟨Y,T⟩,⟨Y,T⟩,⟨Y,T⟩,ak⟩ Y ⟨Y,ak⟩ T Y Y<|mo (s:=.cmp _ _) Y<|RT.Eb .none Y Y T<|RT.Eb .none Y Y T<|an (s:=.ptr _ _) Y<|ag Y<|dn<|qq<|qq ?_
 refine bL h (λQG=>AS.cu 96 [(1,.ptr 7 0),(38,ai QG)] [(7,⟨79,[ai pY,ah pZ,.row 304,.row 305,.row 306]⟩)] [(304,TR 23 1 (eS 4 eQ) Dk),(305,TR 3 1 bH Dl),(306,TR 23 1 (eS 4 eQ) UU)]) (λh=>?_) (λXM h=>?_)
 refine aX<|mv Y<|ne false Y Y (by decide)<|mv Y<|bE h λXP R6 h=>RT.move (.some Y Y) (s:=.ptr _ _) Y T<|RT.WW (.some Y Y) Y Y T ?_
 obtain rfl:=O (F R6)
 refine pF Y<|mv Y<|bE h λaqc Cm h=>RT.move (.some Y Y) (s:=.ptr _ _) Y T<|bE (F Cm) λeE jd Cm=>RT.nV (.some Y Y) (MV jd) 7 [304,305,306] Y ⟨Y,Y,Y,ak⟩ (by decide) Y Y (.cons Y (.nil)) T<|RT.jl (l:=[2,3,4]) (e:=bH) (.some Y Y) (.one Y (.one Y (.one Y (.nil)))) T Y Y Y Y Y Y<|bE Cm λgK oO Cm=>gc (CH oO) ⟨Y,Y,ak⟩<|lE Cm λgh kA Cm=>QC Y _ kA ?_
 obtain rfl:=O Cm
 refine pF Y<|mv Y<|bE h λaqd KJ h=>?_
 cases gh
 refine RT.move (.some Y Y) (s:=.ptr _ _) Y T<|bE (F KJ) λke nN KJ=>RT.nV (.some Y Y) (Dh nN) 7 [304,305,306] Y ⟨Y,Y,Y,ak⟩ (by decide) Y Y (.cons Y (.nil)) T<|RT.jl (l:=[4,12,18]) (e:=bH) (.some Y Y) (.one Y (.one Y (.one Y (.nil)))) T Y Y Y Y Y Y<|bE KJ λir oU KJ=>gc (fN oU) ⟨Y,ak⟩<|bE KJ λlp vz KJ=>gc (mF vz) ⟨Y,Y,ak⟩<|lE KJ λiM oM KJ=>QC Y _ oM ?_
 obtain rfl:=O KJ
 refine pF Y<|mv Y<|bE h λaqe KK h=>?_
 cases iM
 refine RT.move (.some Y Y) (s:=.ptr _ _) Y T<|bE (F KK) λou xk KK=>RT.nV (.some Y Y) (wS xk) 7 [304,305,306] Y ⟨Y,Y,Y,ak⟩ (by decide) Y Y (.k2 Y Y) T<|RT.jl (l:=[(-3),1,0]) (e:=bH) (.some Y Y) (.one Y (.one Y (.one Y (.nil)))) T Y Y Y Y Y Y<|bE KK λpB yN KK=>gc (fN yN) ⟨Y,ak⟩<|bE KK λnE xo KK=>gc (mF xo) ⟨Y,Y,ak⟩<|lE KK λpD A0 KK=>?_
 refine QC Y _ A0 ?_
 obtain rfl:=O KK
 exact pF Y<|dn<|⟨pD,h,wR []⟩
 obtain rfl:=O (V KK)
 exact ww<|ww<|ww<|ww<|ww<|ww<|pT Y<|dn<|⟨true,h,wR []⟩
 obtain rfl:=O (V KJ)
 refine ww<|ww<|ww<|ww<|ww<|ww<|pT Y<|mv Y<|bE h λaqf aqg h=>?_
 obtain rfl:=O (V aqg)
 exact ww<|ww<|ww<|ww<|ww<|ww<|pT Y<|dn<|⟨true,h,wR []⟩
 try dsimp only
 refine aW.n ?_
 cases XM
 refine fs<|sr<|mo (s:=.ptr _ _) Y ?_
 obtain⟨⟨lj,l14,Ti,l16⟩,sZ,h⟩:=bS (F h)
 refine RT.IV .none (kX sZ) 7 [304,305,306] [310,311,312] Y ⟨Y,Y,Y,ak⟩ (by decide) (by decide) Y ⟨⟨Y,T⟩,⟨Y,T⟩,⟨Y,T⟩,ak⟩ Y Y (.k3 Y Y Y) T<|ag Y<|dn<|qq<|qq ?_
 refine bL h (λj26=>AS.cu 96 [(1,.ptr 7 0),(62,ai j26)] [(7,⟨79,[ai pY,ah pZ,.row 310,.row 311,.row 312]⟩)] [(310,TR 23 1 (eS 4 eQ) l14),(311,TR 3 1 bH Ti),(312,TR 23 1 (eS 4 eQ) l16)]) (λh=>?_) (λR7 h=>?_)
 refine aX<|mv Y<|lE h λpC Ay h=>ne _ Y Y (Le (p:=lj) (q:=0) Ay)<|mv Y<|bE h λXO KL h=>?_
 cases pC
 refine RT.move (.some Y Y) (s:=.ptr _ _) Y T<|bE (F KL) λyf GU KL=>RT.nV (.some Y Y) (Dh GU) 7 [310,311,312] Y ⟨Y,Y,Y,ak⟩ (by decide) Y Y (.cons Y (.nil)) T<|RT.jl (l:=[4,6,6]) (e:=bH) (.some Y Y) (.one Y (.one Y (.one Y (.nil)))) T Y Y Y Y Y Y<|bE KL λxm AY KL=>gc (fN AY) ⟨Y,ak⟩<|bE KL λuM h48 KL=>gc (mF h48) ⟨Y,Y,ak⟩<|lE KL λx49 h49 KL=>QC Y _ h49 ?_
 obtain rfl:=O KL
 refine pF Y<|mv Y<|bE h λaqh G7 h=>?_
 cases x49
 refine RT.move (.some Y Y) (s:=.ptr _ _) Y T<|bE (F G7) λVq Wx G7=>RT.nV (.some Y Y) (Ej Wx) 7 [310,311,312] Y ⟨Y,Y,Y,ak⟩ (by decide) Y Y (.cons Y (.nil)) T<|RT.jl (l:=[30,0,(-6)]) (e:=bH) (.some Y Y) (.one Y (.one Y (.one Y (.nil)))) T Y Y Y Y Y Y<|bE G7 λCZ Ri G7=>gc (fN Ri) ⟨Y,ak⟩<|bE G7 λGN Rg G7=>gc (mF Rg) ⟨Y,Y,ak⟩<|lE G7 λGf Rh G7=>QC Y _ Rh ?_
 obtain rfl:=O G7
 refine pF Y<|mv Y<|bE h λaqi UT h=>?_
 cases Gf
 refine RT.move (.some Y Y) (s:=.ptr _ _) Y T<|bE (F UT) λN2 Wv UT=>RT.nV (.some Y Y) (Bt Wv) 7 [310,311,312] Y ⟨Y,Y,Y,ak⟩ (by decide) Y Y (.cons Y (.nil)) T ?_
 obtain rfl:=O UT
 exact pF Y<|dn<|⟨N2,h,wR []⟩
 obtain rfl:=O (V UT)
 exact ww<|ww<|pT Y<|dn<|⟨true,h,wR []⟩
 obtain rfl:=O (V G7)
 refine ww<|ww<|ww<|ww<|ww<|ww<|pT Y<|mv Y<|bE h λaqj KI h=>?_
 obtain rfl:=O (V KI)
 exact ww<|ww<|pT Y<|dn<|⟨true,h,wR []⟩
 obtain rfl:=O (V KL)
 refine ww<|ww<|ww<|ww<|ww<|ww<|pT Y<|mv Y<|bE h λaqk FL h=>?_
 obtain rfl:=O (V FL)
 refine ww<|ww<|ww<|ww<|ww<|ww<|pT Y<|mv Y<|bE h λaql Js h=>?_
 obtain rfl:=O (V Js)
 exact ww<|ww<|pT Y<|dn<|⟨true,h,wR []⟩
 try dsimp only
 refine aW.n ?_
 cases R7
 refine fs<|sr<|mo (s:=.ptr _ _) Y ?_
 obtain⟨⟨x64,ZO,l31,l32⟩,h64,h⟩:=bS (F h)
 refine RT.IV .none (kX h64) 7 [310,311,312] [316,317,318] Y ⟨Y,Y,Y,ak⟩ (by decide) (by decide) Y ⟨⟨Y,T⟩,⟨Y,T⟩,⟨Y,T⟩,ak⟩ Y Y (.k3 Y Y Y) T<|ag Y<|dn<|qq ?_
 refine bL h (λj53=>AS.cu 96 [(0,ai j53)] [] []) (λh=>?_) (λadI h=>?_)
 refine aX<|mv Y<|lE h λMu h66 h=>eq _ Y Y (xj (p:=x64) (q:=0) h66)<|mv Y<|bE h λXN Dr h=>?_
 cases Mu
 obtain rfl:=O (F Dr)
 refine ww<|ww<|ww<|ww<|ww<|pF Y<|mv Y<|bE h λaqm UQ h=>?_
 obtain rfl:=O (F UQ)
 refine ww<|ww<|ww<|ww<|ww<|pF Y<|mv Y<|bE h λaqn US h=>?_
 obtain rfl:=O (F US)
 refine ww<|ww<|ww<|ww<|ww<|pF Y<|mv Y<|bE h λaqo PW h=>?_
 obtain rfl:=O (F PW)
 refine ww<|ww<|pF Y<|mv Y<|bE h λaqp agG h=>?_
 obtain rfl:=O (F agG)
 exact ww<|ww<|pF Y<|ag Y<|dn<|⟨false,h,wR []⟩
 refine RT.move (.some Y Y) (s:=.ptr _ _) Y T<|bE (V Dr) λWh h69 Dr=>RT.nV (.some Y Y) (Dh h69) 7 [316,317,318] Y ⟨Y,Y,Y,ak⟩ (by decide) Y Y (.cons Y (.nil)) T<|RT.jl (l:=[2,6,2]) (e:=bH) (.some Y Y) (.one Y (.one Y (.one Y (.nil)))) T Y Y Y Y Y Y<|bE Dr λVp h71 Dr=>gc (fN h71) ⟨Y,ak⟩<|bE Dr λOz h72 Dr=>gc (mF h72) ⟨Y,Y,ak⟩ ?_
 obtain rfl:=O Dr
 refine pT Y<|mv Y<|bE h λaqq PX h=>?_
 cases Oz
 obtain rfl:=O (F PX)
 refine ww<|ww<|ww<|ww<|ww<|pF Y<|mv Y<|bE h λaqr Jr h=>?_
 obtain rfl:=O (F Jr)
 refine ww<|ww<|ww<|ww<|ww<|pF Y<|mv Y<|bE h λaqs PV h=>?_
 obtain rfl:=O (F PV)
 refine ww<|ww<|pF Y<|mv Y<|bE h λaqt vM h=>?_
 obtain rfl:=O (F vM)
 exact ww<|ww<|pF Y<|ag Y<|dn<|⟨false,h,wR []⟩
 refine RT.move (.some Y Y) (s:=.ptr _ _) Y T<|bE (V PX) λx76 h76 PX=>RT.nV (.some Y Y) (G3 h76) 7 [316,317,318] Y ⟨Y,Y,Y,ak⟩ (by decide) Y Y (.cons Y (.nil)) T<|RT.jl (l:=[2,6]) (e:=bH) (.some Y Y) (.one Y (.one Y (.nil))) T Y Y Y Y Y Y<|bE PX λx78 h78 PX=>gc (fN h78) ⟨Y,ak⟩<|bE PX λUw h79 PX=>gc (mF h79) ⟨Y,Y,ak⟩ ?_
 obtain rfl:=O PX
 refine pT Y<|mv Y<|bE h λaqu PY h=>?_
 cases Uw
 obtain rfl:=O (F PY)
 refine ww<|ww<|ww<|ww<|ww<|pF Y<|mv Y<|bE h λaqv PT h=>?_
 obtain rfl:=O (F PT)
 refine ww<|ww<|pF Y<|mv Y<|bE h λaqw PU h=>?_
 obtain rfl:=O (F PU)
 exact ww<|ww<|pF Y<|ag Y<|dn<|⟨false,h,wR []⟩
 refine RT.move (.some Y Y) (s:=.ptr _ _) Y T<|bE (V PY) λx83 h83 PY=>RT.nV (.some Y Y) (Ej h83) 7 [316,317,318] Y ⟨Y,Y,Y,ak⟩ (by decide) Y Y (.cons Y (.nil)) T<|RT.jl (l:=[36,(-2),(-6)]) (e:=bH) (.some Y Y) (.one Y (.one Y (.one Y (.nil)))) T Y Y Y Y Y Y<|bE PY λx85 h85 PY=>gc (fN h85) ⟨Y,ak⟩<|bE PY λQ9 h86 PY=>gc (mF h86) ⟨Y,Y,ak⟩ ?_
 obtain rfl:=O PY
 refine pT Y<|mv Y<|bE h λaqy aa1 h=>?_
 cases Q9
 obtain rfl:=O (F aa1)
 refine ww<|ww<|pF Y<|mv Y<|bE h λaqz PC h=>?_
 obtain rfl:=O (F PC)
 exact ww<|ww<|pF Y<|ag Y<|dn<|⟨false,h,wR []⟩
 refine RT.move (.some Y Y) (s:=.ptr _ _) Y T<|bE (V aa1) λVm h90 aa1=>RT.nV (.some Y Y) (Bt h90) 7 [316,317,318] Y ⟨Y,Y,Y,ak⟩ (by decide) Y Y (.cons Y (.nil)) T ?_
 obtain rfl:=O aa1
 refine pT Y<|mv Y<|bE h λaqA aa2 h=>?_
 cases Vm
 obtain rfl:=O (F aa2)
 exact ww<|ww<|pF Y<|ag Y<|dn<|⟨false,h,wR []⟩
 refine RT.move (.some Y Y) (s:=.ptr _ _) Y T<|bE (V aa2) λx94 h94 aa2=>RT.nV (.some Y Y) (G4 h94) 7 [316,317,318] Y ⟨Y,Y,Y,ak⟩ (by decide) Y Y (.cons Y (.nil)) T ?_
 obtain rfl:=O aa2
 exact pT Y<|ag Y<|dn<|⟨x94,h,wR []⟩
 try dsimp only
 refine aW.n<|aY ?_
 obtain rfl:=O h
 exact R1 Y
 refine cT<|sr<|ag Y<|dn<|aY<|aW.r ?_
 obtain rfl:=O (V h)
 exact R1 Y
 refine cT<|sr<|ag Y<|dn<|aY<|aW.r ?_
 obtain rfl:=O (V h)
 exact R1 Y
end
section
open Go.Fw
noncomputable def wX(x0:Lr):Option (Unit):=match x0 with|⟨bn,bp,bB,bD⟩=>(pW ⟨bn,bp,bB,bD⟩).bind λx5=>(some (!x5)).bind λx6=>(bif x6 then some ()else(ga ⟨bn,bp,bB,bD⟩).bind λ⟨qJ,qK,Bc,Bd,aaM⟩=>none)
noncomputable def oK(x0:Lr):Option (Bool):=match x0 with|⟨bn,bp,bB,bD⟩=>cJ (λ(adJ:Bool)=>some adJ) λGM=>(rI ⟨bn,bp,bB,bD⟩).bind λx4=>(bif x4 then some true else(some (bB.length:Int)).bind λx8=>(some (decide ((5:Int)<x8))).bind λx9=>(bif x9 then(mh ⟨bn,bp,bB,bD⟩).bind λc8=>some c8 else some false).bind λXQ=>some XQ).bind λFi=>(bif Fi then some true else(some (decide ((6:Int)<bn))).bind λeE=>(bif eE then(mh ⟨bn,bp,bB,bD⟩).bind λgh=>some gh else some false).bind λXx=>some Xx).bind λJp=>GM Jp
end
section
open Go.Fw Go.Fw.Z Go.RowKit
theorem PZ{x0:Lr}{r:Unit}(h:wX x0=some r):Pure af 12 [.agg (Om x0)] (.Cp [.v (.pointer none),ax 1]):=by
 obtain⟨bn,bp,bB,bD⟩:=x0
 refine bj Tryz.func12 Y (ae Y) (λc9 M vs hvs=>?_)
 unfold wX at h
 refine sr<|bx Y<|ag Y<|ag Y<|dn<|qq<|sr<|ld Y Y (.k4 Y Y Y Y)<|bE h λx5 h5 h=>cl (Gr h5) ⟨Y,ak⟩<|lE h λx6 h6 h=>nt Y _ h6<|dn ?_
 cases x6
 refine fs<|sr<|ld Y Y (.k4 Y Y Y Y) ?_
 obtain⟨⟨qJ,qK,Bc,Bd,aaM⟩,h8,h⟩:=bS (F h)
 refine RT.FD .none (sq h8) [304,305,306] (by decide) Y ⟨⟨Y,T⟩,⟨Y,T⟩,⟨Y,T⟩,ak⟩ Y ⟨Y,ak⟩ T Y Y<|an (s:=.ptr _ _) Y<|ag Y<|dn<|aY ?_
 cases h
 refine cT<|sr<|ag Y<|ag Y<|dn<|aY<|aW.r ?_
 obtain rfl:=O (V h)
 exact R2 Y Y
theorem CI{x0:Lr}{r:Bool}(h:oK x0=some r):Pure af 9 [.agg (Om x0)] (ay r):=by
 obtain⟨bn,bp,bB,bD⟩:=x0
 refine bj Tryz.func9 Y (ae Y) (λc9 M vs hvs=>?_)
 unfold oK at h
 refine sr<|bx Y<|ag Y<|dn<|qq ?_
 refine bL h (λGQ=>AS.cu 24 [(2,ai GQ)] [] []) (λh=>?_) (λadJ h=>?_)
 refine aX<|ld Y Y (.k4 Y Y Y Y)<|bE h λx4 h4 h=>cl (KH h4) ⟨Y,ak⟩<|mv Y<|bE h λFi dH h=>?_
 cases x4
 refine RT.fieldAddr (.some Y Y) Y T Y<|RT.zu (.some Y Y) Y Y Y T<|lE (F dH) λx8 h8 dH=>gn Y h8<|lE dH λx9 h9 dH=>gg _ Y Y h9<|gm Y<|bE dH λXQ Ni dH=>?_
 cases x9
 obtain rfl:=O (F Ni)
 refine ww<|ww<|gF Y ?_
 obtain rfl:=O dH
 refine pF Y<|mv Y<|bE h λaqB kC h=>RT.fieldAddr (.some Y Y) Y T Y<|RT.zu (.some Y Y) Y Y Y T<|lE (F kC) λeE jd kC=>gg _ Y Y jd<|gm Y<|bE kC λaqC wO kC=>?_
 cases eE
 obtain rfl:=O (F wO)
 refine ww<|ww<|gF Y ?_
 obtain rfl:=O kC
 exact pF Y<|ag Y<|dn<|⟨false,h,wR []⟩
 refine gl Y Y (.k4 Y Y Y Y)<|bE (V wO) λgh kA wO=>gc (rE kA) ⟨Y,ak⟩ ?_
 obtain rfl:=O wO
 refine gT Y ?_
 obtain rfl:=O kC
 exact pF Y<|ag Y<|dn<|⟨gh,h,wR []⟩
 refine gl Y Y (.k4 Y Y Y Y)<|bE (V Ni) λc8 fI Ni=>gc (rE fI) ⟨Y,ak⟩ ?_
 obtain rfl:=O Ni
 refine gT Y ?_
 obtain rfl:=O dH
 refine pF Y<|mv Y<|bE h λaqD iN h=>?_
 cases c8
 refine RT.fieldAddr (.some Y Y) Y T Y<|RT.zu (.some Y Y) Y Y Y T<|lE (F iN) λeE jd iN=>gg _ Y Y jd<|gm Y<|bE iN λaqE qH iN=>?_
 cases eE
 obtain rfl:=O (F qH)
 refine ww<|ww<|gF Y ?_
 obtain rfl:=O iN
 exact pF Y<|ag Y<|dn<|⟨false,h,wR []⟩
 refine gl Y Y (.k4 Y Y Y Y)<|bE (V qH) λgh kA qH=>gc (rE kA) ⟨Y,ak⟩ ?_
 obtain rfl:=O qH
 refine gT Y ?_
 obtain rfl:=O iN
 exact pF Y<|ag Y<|dn<|⟨gh,h,wR []⟩
 obtain rfl:=O (V iN)
 exact ww<|ww<|ww<|ww<|wu<|wu<|ww<|pT Y<|ag Y<|dn<|⟨true,h,wR []⟩
 obtain rfl:=O (V dH)
 refine ww<|ww<|ww<|ww<|ww<|wu<|wu<|ww<|pT Y<|mv Y<|bE h λaf5 Ec h=>?_
 obtain rfl:=O (V Ec)
 exact ww<|ww<|ww<|ww<|wu<|wu<|ww<|pT Y<|ag Y<|dn<|⟨true,h,wR []⟩
 try dsimp only
 refine aW.n<|aY ?_
 obtain rfl:=O h
 exact R1 Y
end
end Go.Proofs.YtningmnklfpfjaaGreat
namespace Go.Fw
section
open Go.RowKit
structure Rt where
 p:Lr
 basis:List Int
abbrev XR(x:Rt):List SV:=[.v (.int .i64 x.p.vars),slc 1 (x.p.Fe.map (eS 4 eQ)),slc 1 (x.p.rows.map (eS 4 eQ)),slc 4 (x.p.bounds.map eQ),slc 1 (x.basis.map bH)]
end
end Go.Fw
namespace Go.Proofs.YtningmnklfpfjaaGreat
section
open Go.Fw
noncomputable def sM(x0:List (List Qr))(x1:List (List Qr)):Option (Bool):=(some (x0.length:Int)).bind λx7=>(some (x1.length:Int)).bind λx9=>(some (decide ((x7:Int)≠x9))).bind λdG=>(bif dG then some false else(b9 (λ(iA:Int)=>(show Option ((Int)⊕((Unit)⊕(Bool)))from(some (x0.length:Int)).bind λeY=>(some (decide ((iA:Int)<eY))).bind λdV=>(bif dV then(cM x0 iA).bind λjb=>(cM x1 iA).bind λgU=>(jU jb gU).bind λke=>(some (!ke)).bind λji=>(bif ji then some (.inr (.inr false))else(some (IntKind.i64.wrap (iA+1))).bind λeX=>some (.inl eX))else some (.inr (.inl ()))))) 0).bind λe6=>match e6 with|.inr v6=>some v6|.inl _=>some true)
noncomputable def rJ(x0:Int):Option (List (List Qr)):=(b9 (λ(s6:Int×(List (List Qr)))=>match s6 with|⟨nX,gB⟩=>(show Option ((Int×(List (List Qr)))⊕((List (List Qr))))from(jE x0).bind λx7=>(some (decide ((nX:Int)<x7))).bind λx8=>(bif x8 then(jE x0).bind λeY=>(jo eY nX).bind λdN=>(mP 24 gB [dN]).bind λdR=>(some (IntKind.i64.wrap (nX+1))).bind λdG=>some (.inl (dG,dR))else some (.inr gB)))) (0,[])).bind λdr=>some dr
noncomputable def nf(x0:List (List Qr))(x1:List Qr):Option (List Qr):=(b9 (λ(s6:Int×(List Qr))=>match s6 with|⟨l7,gB⟩=>(show Option ((Int×(List Qr))⊕((List Qr)))from(some (x0.length:Int)).bind λx9=>(some (decide ((l7:Int)<x9))).bind λdG=>(bif dG then(cM x0 l7).bind λeX=>(qy eX x1).bind λ⟨⟨lM,lO⟩,⟨wI,wJ⟩⟩=>(mP 64 gB [⟨⟨lM,lO⟩,⟨wI,wJ⟩⟩]).bind λgh=>(some (IntKind.i64.wrap (l7+1))).bind λc8=>some (.inl (c8,gh))else some (.inr gB)))) (0,[])).bind λdr=>some dr
noncomputable def kN(x0:List (List Qr))(x1:List (List Qr)):Option (List (List Qr)):=(some (x0.length:Int)).bind λx6=>(cV x1).bind λx8=>(kM x6 x8 2 ⟨⟨false,[]⟩,⟨false,[]⟩⟩ x0 x1).bind λc8=>some c8
noncomputable def mK(x0:List (List Qr)):Option (List (List Qr)):=(cV x0).bind λx4=>(some (x0.length:Int)).bind λx6=>(kM x4 x6 1 ⟨⟨false,[]⟩,⟨false,[]⟩⟩ x0 []).bind λx9=>some x9
noncomputable def n9(x0:List (List Qr))(x1:List (List Qr)):Option (List (List Qr)):=(some (x0.length:Int)).bind λx6=>(some (x1.length:Int)).bind λx8=>(some (max (x6:Int) x8)).bind λx9=>(cV x0).bind λff=>(cV x1).bind λeY=>(some (IntKind.i64.wrap (ff+eY))).bind λdV=>(kM x9 dV 3 ⟨⟨false,[]⟩,⟨false,[]⟩⟩ x0 x1).bind λeE=>some eE
noncomputable def yu(x0:Int)(x1:Int)(x2:Nat)(x3:Qr)(x4:List (List Qr))(x5:List (List Qr)):Option (List (List Qr)):=match x3 with|⟨⟨qW,qX⟩,⟨Dp,Dq⟩⟩=>(b9 (λ(nA:Int×(List (List Qr)))=>match nA with|⟨yZ,FM⟩=>(show Option ((Int×(List (List Qr)))⊕((List (List Qr))))from(some (decide ((yZ:Int)<x0))).bind λjb=>(bif jb then(b9 (λ(yq:Int×(List Qr))=>match yq with|⟨zX,HB⟩=>(show Option ((Int×(List Qr))⊕((List Qr)))from(some (decide ((zX:Int)<x1))).bind λgV=>(bif gV then(eJ x2 ⟨⟨qW,qX⟩,⟨Dp,Dq⟩⟩ x4 x5 yZ zX).bind λ⟨⟨qk,ql⟩,⟨vi,vm⟩⟩=>(mP 64 HB [⟨⟨qk,ql⟩,⟨vi,vm⟩⟩]).bind λnE=>(some (IntKind.i64.wrap (zX+1))).bind λji=>some (.inl (ji,nE))else some (.inr HB)))) (0,[])).bind λvN=>(mP 24 FM [vN]).bind λlj=>(some (IntKind.i64.wrap (yZ+1))).bind λgh=>some (.inl (gh,lj))else some (.inr FM)))) (0,[])).bind λBZ=>some BZ
noncomputable def vO(x0:List (List Qr))(x1:Int)(x2:Int):Option (List (List Qr)):=(jE x1).bind λx8=>(jE x2).bind λdG=>(iI 1).bind λ⟨⟨xD,xE⟩,⟨PR,PS⟩⟩=>(yu x8 dG 0 ⟨⟨xD,xE⟩,⟨PR,PS⟩⟩ x0 []).bind λeY=>some eY
noncomputable def nh(x0:Int)(x1:Int):Option (List Qr):=(b9 (λ(Ak:Int×(List Qr))=>match Ak with|⟨sE,FN⟩=>(show Option ((Int×(List Qr))⊕((List Qr)))from cJ (λ(Dn:Bool)=>(bif Dn then(some (decide ((sE:Int)=x1))).bind λgK=>cJ (λ(PE:Bool×(List Nat)×Bool×(List Nat))=>match PE with|⟨vH,vI,vJ,vK⟩=>(mP 64 FN [⟨⟨vH,vI⟩,⟨vJ,vK⟩⟩]).bind λke=>(some (IntKind.i64.wrap (sE+1))).bind λeX=>some (.inl (eX,ke))) λK17=>(bif gK then(iI 1).bind λ⟨⟨lW,lX⟩,⟨nB,nC⟩⟩=>K17 (lW,lX,nB,nC)else K17 (false,[],false,[]))else some (.inr FN))) λXg=>(some (decide ((sE:Int)<x0))).bind λdG=>(bif dG then(some (decide ((sE:Int)<65536))).bind λeY=>some eY else some false).bind λJm=>Xg Jm)) (0,[])).bind λB0=>some B0
noncomputable def wY(x0:Qr)(x1:Qr):Option (Qr):=match x0 with|⟨⟨bn,bp⟩,⟨bB,bD⟩⟩=>match x1 with|⟨⟨ct,cj⟩,⟨ek,ep⟩⟩=>(uw ⟨⟨bn,bp⟩,⟨bB,bD⟩⟩ ⟨⟨ct,cj⟩,⟨ek,ep⟩⟩).bind λ⟨⟨⟨XS,XT⟩,⟨XU,XV⟩⟩,aaC⟩=>some ⟨⟨XS,XT⟩,⟨XU,XV⟩⟩
noncomputable def jV(x0:List (List Qr)):Option ((List (List Qr))×(List Int)):=(cV x0).bind λc8=>(some (x0.length:Int)).bind λdN=>(vO x0 dN c8).bind λdR=>(b9 (λ(s50:Int×Int×(List (List Qr))×(List Int))=>match s50 with|⟨o6,vn,nm,pG⟩=>(show Option ((Int×Int×(List (List Qr))×(List Int))⊕(Int×(List (List Qr))×(List Int)))from(some (decide ((vn:Int)<c8))).bind λgK=>(bif gK then(b9 (λ(Ju:Int)=>(show Option ((Int)⊕(Int))from cJ (λ(R8:Bool)=>(bif R8 then(some (IntKind.i64.wrap (Ju+1))).bind λlj=>some (.inl lj)else some (.inr Ju))) λK63=>(some (nm.length:Int)).bind λji=>(some (decide ((Ju:Int)<ji))).bind λir=>(bif ir then(qg nm Ju).bind λnq=>(nm[nq]?).bind λjY=>(cM jY vn).bind λ⟨⟨qk,ql⟩,⟨vi,vm⟩⟩=>(jm ⟨⟨qk,ql⟩,⟨vi,vm⟩⟩).bind λnE=>(some (decide ((nE:Int)=0))).bind λpD=>some pD else some false).bind λXW=>K63 XW)) o6).bind λEv=>(some (nm.length:Int)).bind λyB=>(some (decide ((Ev:Int)=yB))).bind λr9=>(bif r9 then(some (IntKind.i64.wrap (vn+1))).bind λiK=>some (.inl (o6,iK,nm,pG))else(qg nm Ev).bind λBU=>(nm[BU]?).bind λAA=>(qg nm o6).bind λCZ=>(nm[CZ]?).bind λGN=>(qg nm o6).bind λGf=>(stM nm Gf AA).bind λl67=>(qg l67 Ev).bind λQE=>(stM l67 QE GN).bind λl68=>(iI 1).bind λ⟨⟨adL,adM⟩,⟨adN,adO⟩⟩=>(qg l68 o6).bind λx64=>(l68[x64]?).bind λS4=>(cM S4 vn).bind λ⟨⟨LJ,LK⟩,⟨LM,LN⟩⟩=>(wY ⟨⟨adL,adM⟩,⟨adN,adO⟩⟩ ⟨⟨LJ,LK⟩,⟨LM,LN⟩⟩).bind λ⟨⟨adP,adQ⟩,⟨adR,adS⟩⟩=>(qg l68 o6).bind λOz=>(l68[Oz]?).bind λx73=>(oZ ⟨⟨adP,adQ⟩,⟨adR,adS⟩⟩ x73).bind λx74=>(qg l68 o6).bind λx75=>(stM l68 x75 x74).bind λl70=>(b9 (λ(s80:Int×(List (List Qr)))=>match s80 with|⟨zY,rK⟩=>(show Option ((Int×(List (List Qr)))⊕((List (List Qr))))from(some (rK.length:Int)).bind λx78=>(some (decide ((zY:Int)<x78))).bind λUw=>(bif Uw then(some (decide ((zY:Int)≠o6))).bind λZE=>cJ (λ(R9:(List (List Qr)))=>(some (IntKind.i64.wrap (zY+1))).bind λx81=>some (.inl (x81,R9))) λK83=>(bif ZE then(qg rK zY).bind λZF=>(rK[ZF]?).bind λVm=>(cM Vm vn).bind λ⟨⟨adT,adU⟩,⟨adV,adW⟩⟩=>(n7 ⟨⟨adT,adU⟩,⟨adV,adW⟩⟩).bind λ⟨⟨adX,adY⟩,⟨adZ,ad0⟩⟩=>(qg rK o6).bind λx97=>(rK[x97]?).bind λZN=>(qg rK zY).bind λXX=>(rK[XX]?).bind λDU=>(gO ⟨⟨adX,adY⟩,⟨adZ,ad0⟩⟩ ZN DU).bind λKp=>(qg rK zY).bind λKq=>(stM rK Kq Kp).bind λl85=>K83 l85 else K83 rK)else some (.inr rK)))) (0,l70)).bind λDs=>(mP 8 pG [vn]).bind λagR=>(some (IntKind.i64.wrap (o6+1))).bind λagS=>(some (IntKind.i64.wrap (vn+1))).bind λiK=>some (.inl (agS,iK,Ds,agR)))else some (.inr (o6,nm,pG))))) (0,0,dR,[])).bind λe50=>match e50 with|⟨XY,Sa,Nj⟩=>(GK Sa 0 XY).bind λakD=>some (akD,Nj)
noncomputable def sN(x0:List Int)(x1:Int):Option (Bool):=(b9 (λ(iA:Int)=>(show Option ((Int)⊕((Unit)⊕(Bool)))from(some (x0.length:Int)).bind λx8=>(some (decide ((iA:Int)<x8))).bind λx9=>(bif x9 then(cM x0 iA).bind λdV=>(some (decide ((dV:Int)=x1))).bind λdR=>(bif dR then some (.inr (.inr true))else(some (IntKind.i64.wrap (iA+1))).bind λff=>some (.inl ff))else some (.inr (.inl ()))))) 0).bind λe6=>match e6 with|.inr v6=>some v6|.inl _=>some false
noncomputable def rL(x0:List (List Qr)):Option (List (List Qr)):=(jV x0).bind λ⟨AP,DW⟩=>(cV x0).bind λeX=>(b9 (λ(UW:Int×(List (List Qr)))=>match UW with|⟨mm,xP⟩=>(show Option ((Int×(List (List Qr)))⊕((List (List Qr))))from(some (decide ((mm:Int)<eX))).bind λjb=>(bif jb then(sN DW mm).bind λgV=>(bif gV then(some (IntKind.i64.wrap (mm+1))).bind λgh=>some (.inl (gh,xP))else(nh eX mm).bind λir=>(b9 (λ(Us:Int×(List Qr))=>match Us with|⟨P0,Jv⟩=>(show Option ((Int×(List Qr))⊕((List Qr)))from(some (AP.length:Int)).bind λuL=>(some (decide ((P0:Int)<uL))).bind λnq=>(bif nq then(cM DW P0).bind λpD=>(cM AP P0).bind λyJ=>(cM yJ mm).bind λ⟨⟨Gk,Gl⟩,⟨OQ,OR⟩⟩=>(n7 ⟨⟨Gk,Gl⟩,⟨OQ,OR⟩⟩).bind λ⟨⟨Jw,Jx⟩,⟨Jy,Jz⟩⟩=>(qg Jv pD).bind λxm=>(stM Jv xm ⟨⟨Jw,Jx⟩,⟨Jy,Jz⟩⟩).bind λZO=>(some (IntKind.i64.wrap (P0+1))).bind λou=>some (.inl (ou,ZO))else some (.inr Jv)))) (0,ir)).bind λzZ=>(mP 24 xP [zZ]).bind λBU=>(some (IntKind.i64.wrap (mm+1))).bind λgh=>some (.inl (gh,BU)))else some (.inr xP)))) (0,[])).bind λz4=>some z4
noncomputable def rM(x0:List (List Qr))(x1:List Qr):Option (List (List Qr)):=(cV x0).bind λff=>(b9 (λ(UW:Int×(List (List Qr)))=>match UW with|⟨mm,z5⟩=>(show Option ((Int×(List (List Qr)))⊕((List (List Qr))))from cJ (λ(Sb:Bool)=>(bif Sb then(b9 (λ(s29:Int×(List Qr))=>match s29 with|⟨Tu,HC⟩=>(show Option ((Int×(List Qr))⊕((List Qr)))from(some (decide ((Tu:Int)<ff))).bind λji=>(bif ji then(fo x0 mm Tu).bind λ⟨⟨Cx,Cy⟩,⟨IK,IL⟩⟩=>(mP 64 HC [⟨⟨Cx,Cy⟩,⟨IK,IL⟩⟩]).bind λpB=>(some (IntKind.i64.wrap (Tu+1))).bind λlp=>some (.inl (lp,pB))else some (.inr HC)))) (0,[])).bind λB3=>(g9 x1 mm).bind λ⟨⟨vg,vh⟩,⟨yO,yP⟩⟩=>(mP 64 B3 [⟨⟨vg,vh⟩,⟨yO,yP⟩⟩]).bind λpC=>(mP 24 z5 [pC]).bind λr9=>(some (IntKind.i64.wrap (mm+1))).bind λgU=>some (.inl (gU,r9))else some (.inr z5))) λK23=>(some (x0.length:Int)).bind λdV=>(some (decide ((mm:Int)<dV))).bind λdN=>(bif dN then some true else(some (x1.length:Int)).bind λjb=>(some (decide ((mm:Int)<jb))).bind λgK=>some gK).bind λXZ=>K23 XZ)) (0,[])).bind λz6=>some z6
noncomputable def o7(x0:List (List Qr))(x1:List Qr):Option ((List Qr)×(List (List Qr))×Int):=(cV x0).bind λeY=>(rM x0 x1).bind λdR=>(jV dR).bind λ⟨Ky,MI⟩=>(sN MI eY).bind λgU=>(bif gU then some ([],[],8)else(nh eY (-1)).bind λke=>(b9 (λ(s8:Int×(List Qr))=>match s8 with|⟨tZ,P1⟩=>(show Option ((Int×(List Qr))⊕((List Qr)))from(some (Ky.length:Int)).bind λlp=>(some (decide ((tZ:Int)<lp))).bind λiM=>(bif iM then(cM MI tZ).bind λpB=>(cM Ky tZ).bind λyj=>(cM yj eY).bind λ⟨⟨X0,X1⟩,⟨X2,X3⟩⟩=>(qg P1 pB).bind λr9=>(stM P1 r9 ⟨⟨X0,X1⟩,⟨X2,X3⟩⟩).bind λCe=>(some (IntKind.i64.wrap (tZ+1))).bind λnq=>some (.inl (nq,Ce))else some (.inr P1)))) (0,ke)).bind λJA=>(rL x0).bind λxm=>some (JA,xm,0))
noncomputable def eA(x0:List (List Qr)):Option ((List (List Qr))×Int):=(some (x0.length:Int)).bind λff=>(b9 (λ(uF:Int×(List (List Qr)))=>match uF with|⟨KD,nY⟩=>(show Option ((Int×(List (List Qr)))⊕(((List (List Qr)))⊕((List (List Qr))×Int)))from(some (decide ((KD:Int)<ff))).bind λdV=>(bif dV then(jo ff KD).bind λgh=>(o7 x0 gh).bind λ⟨X4,akE,agT⟩=>cJ (λ(Sc:Bool)=>(bif Sc then some (.inr (.inr ([],8)))else(mP 24 nY [X4]).bind λnE=>(some (IntKind.i64.wrap (KD+1))).bind λeX=>some (.inl (eX,nE)))) λGM=>(some (decide ((agT:Int)≠0))).bind λir=>(bif ir then some true else(some (akE.length:Int)).bind λuL=>(some (decide ((0:Int)<uL))).bind λnq=>some nq).bind λX5=>GM X5 else some (.inr (.inl nY))))) (0,[])).bind λFo=>match Fo with|.inr v10=>some v10|.inl jT=>(mK jT).bind λuK=>some (uK,0)
noncomputable def fH(x0:Lr):Option (List (List Qr)):=match x0 with|⟨bn,bp,bB,bD⟩=>(some (bB.length:Int)).bind λx7=>(qB bB x7 bn).bind λdG=>(some (bB.length:Int)).bind λeY=>(rJ eY).bind λdV=>(n9 dG dV).bind λdN=>some dN
noncomputable def jG(x0:Lr)(x1:Int):Option (List Qr):=match x0 with|⟨bn,bp,bB,bD⟩=>(b9 (λ(s6:Int×(List Qr))=>match s6 with|⟨l7,gB⟩=>(show Option ((Int×(List Qr))⊕((List Qr)))from(some (bp.length:Int)).bind λc8=>(some (decide ((l7:Int)<c8))).bind λeY=>(bif eY then(fo bp l7 x1).bind λ⟨⟨lW,lX⟩,⟨nB,nC⟩⟩=>(mP 64 gB [⟨⟨lW,lX⟩,⟨nB,nC⟩⟩]).bind λgU=>(some (IntKind.i64.wrap (l7+1))).bind λdN=>some (.inl (dN,gU))else some (.inr gB)))) (0,[])).bind λdr=>(b9 (λ(s14:Int×(List Qr))=>match s14 with|⟨mm,Ew⟩=>(show Option ((Int×(List Qr))⊕((List Qr)))from(some (decide ((mm:Int)<bn))).bind λir=>(bif ir then(some (decide ((mm:Int)=x1))).bind λou=>cJ (λ(S7:Bool×(List Nat)×Bool×(List Nat))=>match S7 with|⟨HD,HE,HF,HG⟩=>(mP 64 Ew [⟨⟨HD,HE⟩,⟨HF,HG⟩⟩]).bind λuK=>(some (IntKind.i64.wrap (mm+1))).bind λiM=>some (.inl (iM,uK))) λK16=>(bif ou then(iI (-1)).bind λ⟨⟨qk,ql⟩,⟨vi,vm⟩⟩=>K16 (qk,ql,vi,vm)else K16 (false,[],false,[]))else some (.inr Ew)))) (0,dr)).bind λxQ=>(some (decide ((bn:Int)≤x1))).bind λpC=>(bif pC then(some (xQ.length:Int)).bind λr9=>(jo r9 (-1)).bind λyf=>some yf else some xQ)
noncomputable def kZ(x0:Rt):Option (List (List Qr)):=match x0 with|⟨⟨bn,bp,bB,bD⟩,cC⟩=>(fH ⟨bn,bp,bB,bD⟩).bind λc8=>(b9 (λ(nA:Int×(List (List Qr)))=>match nA with|⟨sL,hG⟩=>(show Option ((Int×(List (List Qr)))⊕((List (List Qr))))from(some (c8.length:Int)).bind λdN=>(some (decide ((sL:Int)<dN))).bind λeX=>(bif eX then(b9 (λ(yq:Int×(List Qr))=>match yq with|⟨nZ,jq⟩=>(show Option ((Int×(List Qr))⊕((List Qr)))from(some (cC.length:Int)).bind λgV=>(some (decide ((nZ:Int)<gV))).bind λke=>(bif ke then(cM cC nZ).bind λnE=>(fo c8 sL nE).bind λ⟨⟨tQ,tW⟩,⟨xR,xS⟩⟩=>(mP 64 jq [⟨⟨tQ,tW⟩,⟨xR,xS⟩⟩]).bind λlj=>(some (IntKind.i64.wrap (nZ+1))).bind λir=>some (.inl (ir,lj))else some (.inr jq)))) (0,[])).bind λdD=>(mP 24 hG [dD]).bind λr9=>(some (IntKind.i64.wrap (sL+1))).bind λeE=>some (.inl (eE,r9))else some (.inr hG)))) (0,[])).bind λee=>some ee
noncomputable def LQ(x0:Rt):Option (Bool):=match x0 with|⟨⟨bn,bp,bB,bD⟩,cC⟩=>(kZ ⟨⟨bn,bp,bB,bD⟩,cC⟩).bind λx7=>(eA x7).bind λ⟨Vo,ZK⟩=>(some (decide ((ZK:Int)=0))).bind λc8=>some c8
noncomputable def iJ(x0:Rt):Option (List (List Qr)):=match x0 with|⟨⟨bn,bp,bB,bD⟩,cC⟩=>(kZ ⟨⟨bn,bp,bB,bD⟩,cC⟩).bind λx7=>(eA x7).bind λ⟨Vo,ZK⟩=>(fH ⟨bn,bp,bB,bD⟩).bind λeX=>(kN Vo eX).bind λdR=>some dR
noncomputable def iZ(x0:Rt):Option (List Qr):=match x0 with|⟨⟨bn,bp,bB,bD⟩,cC⟩=>(kZ ⟨⟨bn,bp,bB,bD⟩,cC⟩).bind λx7=>(eA x7).bind λ⟨Vo,ZK⟩=>(nf Vo bD).bind λdR=>some dR
noncomputable def qa(x0:Rt)(x1:List Qr):Option (List Qr):=match x0 with|⟨⟨bn,bp,bB,bD⟩,cC⟩=>(some (bp.length:Int)).bind λc8=>(some (IntKind.i64.wrap (c8+bn))).bind λeE=>(jo eE (-1)).bind λjb=>(b9 (λ(s6:(List Qr)×Int)=>match s6 with|⟨iA,l7⟩=>(show Option (((List Qr)×Int)⊕((List Qr)))from(some (cC.length:Int)).bind λke=>(some (decide ((l7:Int)<ke))).bind λji=>(bif ji then(g9 x1 l7).bind λ⟨⟨OE,OF⟩,⟨ad1,ad2⟩⟩=>(cM cC l7).bind λyJ=>(jG ⟨bn,bp,bB,bD⟩ yJ).bind λyB=>(gO ⟨⟨OE,OF⟩,⟨ad1,ad2⟩⟩ yB iA).bind λyf=>(some (IntKind.i64.wrap (l7+1))).bind λlp=>some (.inl (yf,lp))else some (.inr iA)))) (jb,0)).bind λwm=>some wm
noncomputable def eL(x0:Rt):Option (List (List Qr)):=match x0 with|⟨⟨bn,bp,bB,bD⟩,cC⟩=>(iJ ⟨⟨bn,bp,bB,bD⟩,cC⟩).bind λx9=>(b9 (λ(nA:Int×(List (List Qr)))=>match nA with|⟨sL,hG⟩=>(show Option ((Int×(List (List Qr)))⊕((List (List Qr))))from(some (bB.length:Int)).bind λgh=>(some (IntKind.i64.wrap (bn+gh))).bind λiK=>(some (decide ((sL:Int)<iK))).bind λgU=>(bif gU then(b9 (λ(yq:Int×(List Qr))=>match yq with|⟨nZ,jq⟩=>(show Option ((Int×(List Qr))⊕((List Qr)))from(some (x9.length:Int)).bind λlp=>(some (decide ((nZ:Int)<lp))).bind λiM=>(bif iM then(cM x9 nZ).bind λpB=>(cM pB sL).bind λ⟨⟨tQ,tW⟩,⟨xR,xS⟩⟩=>(mP 64 jq [⟨⟨tQ,tW⟩,⟨xR,xS⟩⟩]).bind λyJ=>(some (IntKind.i64.wrap (nZ+1))).bind λnq=>some (.inl (nq,yJ))else some (.inr jq)))) (0,[])).bind λdD=>(qa ⟨⟨bn,bp,bB,bD⟩,cC⟩ dD).bind λyf=>(jG ⟨bn,bp,bB,bD⟩ sL).bind λBU=>(qx yf BU).bind λAA=>(mP 24 hG [AA]).bind λGP=>(some (IntKind.i64.wrap (sL+1))).bind λke=>some (.inl (ke,GP))else some (.inr hG)))) (0,[])).bind λee=>some ee
noncomputable def rO(x0:Rt):Option (List Qr):=match x0 with|⟨⟨bn,bp,bB,bD⟩,cC⟩=>(iZ ⟨⟨bn,bp,bB,bD⟩,cC⟩).bind λx5=>(qa ⟨⟨bn,bp,bB,bD⟩,cC⟩ x5).bind λx6=>some x6
noncomputable def mU(x0:Rt):Option (List Qr):=match x0 with|⟨⟨bn,bp,bB,bD⟩,cC⟩=>(nh bn (-1)).bind λff=>(iZ ⟨⟨bn,bp,bB,bD⟩,cC⟩).bind λeY=>(b9 (λ(uF:Int×(List Qr))=>match uF with|⟨Dm,JB⟩=>(show Option ((Int×(List Qr))⊕((List Qr)))from(some (cC.length:Int)).bind λjb=>(some (decide ((Dm:Int)<jb))).bind λgK=>(bif gK then(cM cC Dm).bind λlp=>(some (decide ((lp:Int)<bn))).bind λpB=>cJ (λ(Sd:(List Qr))=>(some (IntKind.i64.wrap (Dm+1))).bind λiK=>some (.inl (iK,Sd))) λGM=>(bif pB then(cM cC Dm).bind λpC=>(cM eY Dm).bind λ⟨⟨Jw,Jx⟩,⟨Jy,Jz⟩⟩=>(qg JB pC).bind λuM=>(stM JB uM ⟨⟨Jw,Jx⟩,⟨Jy,Jz⟩⟩).bind λTi=>GM Ti else GM JB)else some (.inr JB)))) (0,ff)).bind λJC=>some JC
noncomputable def mW(x0:Rt):Option (Bool):=match x0 with|⟨⟨bn,bp,bB,bD⟩,cC⟩=>(iZ ⟨⟨bn,bp,bB,bD⟩,cC⟩).bind λx6=>(b9 (λ(nX:Int)=>(show Option ((Int)⊕((Unit)⊕(Bool)))from(some (x6.length:Int)).bind λx9=>(some (decide ((nX:Int)<x9))).bind λdG=>(bif dG then(cM x6 nX).bind λ⟨⟨jQ,jR⟩,⟨xI,xJ⟩⟩=>(jm ⟨⟨jQ,jR⟩,⟨xI,xJ⟩⟩).bind λdR=>(some (decide ((dR:Int)<0))).bind λeE=>(bif eE then some (.inr (.inr false))else(some (IntKind.i64.wrap (nX+1))).bind λc8=>some (.inl c8))else some (.inr (.inl ()))))) 0).bind λe6=>match e6 with|.inr v6=>some v6|.inl _=>some true
noncomputable def oa(x0:Rt):Option (Bool):=match x0 with|⟨⟨bn,bp,bB,bD⟩,cC⟩=>(eL ⟨⟨bn,bp,bB,bD⟩,cC⟩).bind λx6=>(b9 (λ(nX:Int)=>(show Option ((Int)⊕((Unit)⊕(Bool)))from(some (x6.length:Int)).bind λx9=>(some (decide ((nX:Int)<x9))).bind λdG=>(bif dG then(cM x6 nX).bind λdN=>(qA dN []).bind λdR=>(some (decide ((dR:Int)<0))).bind λeE=>(bif eE then some (.inr (.inr false))else(some (IntKind.i64.wrap (nX+1))).bind λc8=>some (.inl c8))else some (.inr (.inl ()))))) 0).bind λe6=>match e6 with|.inr v6=>some v6|.inl _=>some true
noncomputable def k7(x0:Tb)(x1:Rt):Option (Bool):=match x0 with|⟨bn,bp,bB,bD,cC⟩=>match x1 with|⟨⟨ct,cj,ek,ep⟩,KM⟩=>cJ (λ(Se:Bool)=>(bif Se then some false else cJ (λ(ad3:Bool)=>some ad3) λK22=>(kG ⟨bn,bp,bB,bD,cC⟩).bind λpC=>(rO ⟨⟨ct,cj,ek,ep⟩,KM⟩).bind λr9=>(jU pC r9).bind λyf=>(bif yf then(iF ⟨bn,bp,bB,bD,cC⟩).bind λuM=>(mU ⟨⟨ct,cj,ek,ep⟩,KM⟩).bind λAx=>(jU uM Ax).bind λBU=>some BU else some false).bind λX6=>(bif X6 then(jS ⟨bn,bp,bB,bD,cC⟩).bind λCZ=>(mW ⟨⟨ct,cj,ek,ep⟩,KM⟩).bind λGf=>(some (CZ==Gf)).bind λQE=>some QE else some false).bind λagU=>(bif agU then(jA ⟨bn,bp,bB,bD,cC⟩).bind λx62=>(oa ⟨⟨ct,cj,ek,ep⟩,KM⟩).bind λx64=>(some (x62==x64)).bind λS4=>some S4 else some false).bind λagV=>K22 agV)) λK12=>(bif false then none else(jz ⟨bn,bp,bB,bD,cC⟩).bind λx9=>(oJ x9 KM).bind λdV=>(some (!dV)).bind λdN=>some dN).bind λX7=>(bif X7 then some true else(sJ ⟨bn,bp,bB,bD,cC⟩).bind λjb=>(iJ ⟨⟨ct,cj,ek,ep⟩,KM⟩).bind λgh=>(sM jb gh).bind λiK=>(some (!iK)).bind λgU=>some gU).bind λagW=>(bif agW then some true else(jL ⟨bn,bp,bB,bD,cC⟩).bind λir=>(iZ ⟨⟨ct,cj,ek,ep⟩,KM⟩).bind λiM=>(jU ir iM).bind λuL=>(some (!uL)).bind λnq=>some nq).bind λWS=>(bif WS then some true else(gZ ⟨bn,bp,bB,bD,cC⟩).bind λpB=>(eL ⟨⟨ct,cj,ek,ep⟩,KM⟩).bind λpD=>(sM pB pD).bind λuK=>(some (!uK)).bind λyj=>some yj).bind λagX=>K12 agX
end
section
open Go.Fw Go.Fw.Z Go.RowKit
theorem Gu{x0:List (List Qr)}{x1:List (List Qr)}{r:Bool}(h:sM x0 x1=some r):Pure af 66 [slc 1 (List.map (eS 4 eQ) x0),slc 1 (List.map (eS 4 eQ) x1)] (ay r):=by
 refine bj Tryz.func66 Y (ae Y) (λc9 M vs hvs=>?_)
 unfold sM at h
 refine sr<|ag Y<|dn<|qq<|sr<|mv Y<|lE h λx7 h7 h=>ln Y h7<|mv Y<|lE h λx9 h9 h=>ln Y h9<|lE h λdG fY h=>ne _ Y Y (Le (p:=x7) (q:=x9) fY)<|dn ?_
 cases dG
 refine fs<|qq<|sr<|ag Y<|dn<|bE (F h) λe6 uO je=>?_
 refine bJ (λ(uG:Unit)=>AS.cu 27 [] [] []) (λuG=>.inl uG=e6) ?_ (λuG uP=>?_)
 refine bf ?_
 refine bK uO (λs6=>AS.cu 27 [(0,.sv (slc 1 (List.map (eS 4 eQ) x0))),(1,.sv (slc 1 (List.map (eS 4 eQ) x1))),(5,ah s6)] [] []) (wR []) (λiA y6 G6 h uQ pE=>?_)
 try dsimp only
 refine qq<|sr<|mv Y<|mv Y<|lE h λeY iX h=>ln Y iX<|lE h λdV jy h=>ls _ Y Y jy<|dn ?_
 cases dV
 refine cF<|bP<|aW.x<|aW.x<|bF.x<|aW.n ?_
 obtain rfl:=O (F h)
 exact⟨(),pE _ Y,wR []⟩
 refine cT<|bu<|aW.n<|qq<|bf<|qq<|aZ mixed<|mv Y<|mv Y<|bE (V h) λjb lZ h=>ix Y Y lZ<|lr Y Y<|mv Y<|mv Y<|bE h λgU oP h=>ix Y Y oP<|lr Y Y<|bE h λke nN h=>cl (uy nN) ⟨Y,Y,ak⟩<|lE h λji qS h=>nt Y _ qS ?_
 refine RT.done ⟨by kernel_rfl,?_⟩
 refine aW.n ?_
 cases ji
 refine cF<|bu<|bF.n<|aW.n<|aX<|mv Y<|lE (F h) λeX kf h=>ad _ Y Y kf<|ag Y<|RT.done ?_
 obtain rfl:=O h
 exact aW.n ⟨eX,uQ _ Y,wR []⟩
 refine cT<|sr<|ag Y<|dn<|aY<|bF.r<|aW.r ?_
 obtain rfl:=O (V h)
 have GR:=pE _ Y
 subst GR
 refine aW.r<|bF.r<|aW.r<|aW.r ?_
 obtain rfl:=O je
 exact R1 Y
 subst uP
 try dsimp only
 refine aW.n<|sr<|ag Y<|dn<|aY ?_
 obtain rfl:=O je
 exact R1 Y
 refine cT<|sr<|ag Y<|dn<|aY<|aW.r ?_
 obtain rfl:=O (V h)
 exact R1 Y
theorem KN{x0:Int}{r:List (List Qr)}(h:rJ x0=some r):Pure af 151 [ax x0] (slc 1 (List.map (eS 4 eQ) r)):=by
 refine bj Tryz.func151 Y (ae Y) (λc9 M vs hvs=>?_)
 unfold rJ at h
 refine sr<|aI Y (aB (n:=1) (e:=(eS 4 eQ)))<|dn<|sr<|ag Y<|dn<|bU (cY 3 304 23 1 Y Y T)<|qq<|sr<|ag Y<|dn<|bE h λe6 uO je=>?_
 refine bJ (λ(dr:(List (List Qr)))=>AS.cu 19 [(3,.row 306)] [] [(306,TR 23 1 (eS 4 eQ) dr)]) (λdr=>dr=e6) ?_ (λdr uP=>?_)
 refine bf ?_
 refine bK uO (λs6=>AS.cu 19 [(0,ah x0),(3,.row 306),(4,ah s6.1)] [] [(306,TR 23 1 (eS 4 eQ) s6.2)]) (cz (λi=>bif Nat.beq i 306 then 304 else i) Y Y Y Y Y ⟨.sv aq,.row Y,.sv aq,ak⟩ trivial ⟨⟨_,Y,cg.refl _⟩,ak⟩ (λi hi=>by rw[bV (show i≠306 by omega)];rfl)) (λs6 y6 G6 h uQ pE=>?_)
 obtain⟨nX,gB⟩:=s6
 try dsimp only
 refine qq<|sr<|mv Y<|mv Y<|bE h λx7 h7 h=>cl (oG h7) ⟨Y,ak⟩<|lE h λx8 h8 h=>ls _ Y Y h8<|dn ?_
 cases x8
 refine cF<|bP<|aW.x<|aW.x<|bF.x<|aW.n ?_
 obtain rfl:=O (F h)
 exact⟨gB,pE _ Y,wR []⟩
 refine cT<|bu<|aW.n<|qq<|bf<|aX<|mo (s:=.row _) Y<|mv Y<|bE (V h) λeY iX h=>cl (oG iX) ⟨Y,ak⟩<|mv Y<|bE h λdN gH h=>cl (th gH) ⟨Y,Y,ak⟩<|bl (l:=[dN]) (e:=(eS 4 eQ)) (.one Y (.nil)) Y Y Y Y Y Y<|bE h λdR jK h=>aR (k:=[dN]) (e:=(eS 4 eQ)) Y Y Y jK<|an (s:=.row _) Y<|RT.done<|bF.n<|aW.n<|aX<|mv Y ?_
 refine lE h λdG fY h=>ad _ Y Y fY<|ag Y<|RT.done ?_
 obtain rfl:=O h
 exact aW.n ⟨(dG,dR),uQ _ Y,cz (λi=>bif Nat.beq i 306 then 17 else i) Y Y Y Y Y ⟨.sv aq,.row Y,.sv aq,ak⟩ trivial ⟨⟨_,Y,cg.refl _⟩,ak⟩ (λi hi=>by rw[bV (show i≠306 by omega)];rfl)⟩
 subst uP
 try dsimp only
 refine aW.n<|sr<|mo (s:=.row _) Y<|an (s:=.row _) Y<|dn<|bU (cP (i:=306) (E1:=23) (n:=1) (e:=(eS 4 eQ)) (l:=dr) Y)<|aY ?_
 obtain rfl:=O je
 exact R1 Y
theorem JD{x0:List (List Qr)}{x1:List Qr}{r:List Qr}(h:nf x0 x1=some r):Pure af 115 [slc 1 (List.map (eS 4 eQ) x0),slc 4 (List.map eQ x1)] (slc 4 (List.map eQ r)):=by
 refine bj Tryz.func115 Y (ae Y) (λc9 M vs hvs=>?_)
 unfold nf at h
 refine sr<|aI Y (aB (n:=4) (e:=eQ))<|dn<|sr<|ag Y<|dn<|bU (cY 5 304 43 4 Y Y T)<|qq<|sr<|ag Y<|dn<|bE h λe6 uO je=>?_
 refine bJ (λ(dr:(List Qr))=>AS.cu 23 [(5,.row 306)] [] [(306,TR 43 4 eQ dr)]) (λdr=>dr=e6) ?_ (λdr uP=>?_)
 refine bf ?_
 refine bK uO (λs6=>AS.cu 23 [(0,.sv (slc 1 (List.map (eS 4 eQ) x0))),(1,.sv (slc 4 (List.map eQ x1))),(5,.row 306),(6,ah s6.1)] [] [(306,TR 43 4 eQ s6.2)]) (cz (λi=>bif Nat.beq i 306 then 304 else i) Y Y Y Y Y ⟨.sv aq,.sv aq,.row Y,.sv aq,ak⟩ trivial ⟨⟨_,Y,cg.refl _⟩,ak⟩ (λi hi=>by rw[bV (show i≠306 by omega)];rfl)) (λs6 y6 G6 h uQ pE=>?_)
 obtain⟨l7,gB⟩:=s6
 try dsimp only
 refine qq<|sr<|mv Y<|mv Y<|lE h λx9 h9 h=>ln Y h9<|lE h λdG fY h=>ls _ Y Y fY<|dn ?_
 cases dG
 refine cF<|bP<|aW.x<|aW.x<|bF.x<|aW.n ?_
 obtain rfl:=O (F h)
 exact⟨gB,pE _ Y,wR []⟩
 refine cT<|bu<|aW.n<|qq<|bf<|aX<|mo (s:=.row _) Y<|mv Y<|mv Y<|bE (V h) λeX kf h=>ix Y Y kf<|lr Y Y<|mv Y ?_
 obtain⟨⟨⟨lM,lO⟩,⟨wI,wJ⟩⟩,lZ,h⟩:=bS h
 refine cl (Nf lZ) ⟨Y,Y,ak⟩<|bl (l:=[⟨⟨lM,lO⟩,⟨wI,wJ⟩⟩]) (e:=eQ) (.agg Y (.nil)) Y Y Y Y Y Y<|bE h λgh kA h=>aR (k:=[⟨⟨lM,lO⟩,⟨wI,wJ⟩⟩]) (e:=eQ) Y Y Y kA<|an (s:=.row _) Y<|RT.done<|bF.n<|aW.n<|aX<|mv Y<|lE h λc8 fI h=>ad _ Y Y fI<|ag Y<|RT.done ?_
 obtain rfl:=O h
 exact aW.n ⟨(c8,gh),uQ _ Y,cz (λi=>bif Nat.beq i 306 then 21 else i) Y Y Y Y Y ⟨.sv aq,.sv aq,.row Y,.sv aq,ak⟩ trivial ⟨⟨_,Y,cg.refl _⟩,ak⟩ (λi hi=>by rw[bV (show i≠306 by omega)];rfl)⟩
 subst uP
 try dsimp only
 refine aW.n<|sr<|mo (s:=.row _) Y<|an (s:=.row _) Y<|dn<|bU (cP (i:=306) (E1:=43) (n:=4) (e:=eQ) (l:=dr) Y)<|aY ?_
 obtain rfl:=O je
 exact R1 Y
theorem Ex{x0:List (List Qr)}{x1:List (List Qr)}{r:List (List Qr)}(h:kN x0 x1=some r):Pure af 111 [slc 1 (List.map (eS 4 eQ) x0),slc 1 (List.map (eS 4 eQ) x1)] (slc 1 (List.map (eS 4 eQ) r)):=by
 refine bj Tryz.func111 Y (ae Y) (λc9 M vs hvs=>?_)
 unfold kN at h
 refine sr<|aI Y (aB (n:=1) (e:=(eS 4 eQ)))<|dn<|sr<|mv Y<|lE h λx6 h6 h=>ln Y h6<|mv Y<|bE h λx8 h8 h=>cl (eK h8) ⟨Y,ak⟩<|bI (cs:=[_,_,_,_]) (cs':=[ay false,au,ay false,au]) (.nil) ⟨aq,aB,aq,aB,ak⟩<|mv Y<|mv Y<|bE h λc8 fI h=>cl (tj fI) ⟨Y,Y,Y,Y,Y,Y,ak⟩ ?_
 refine ag Y<|dn<|aY ?_
 obtain rfl:=O h
 exact R1 Y
theorem KO{x0:List (List Qr)}{r:List (List Qr)}(h:mK x0=some r):Pure af 124 [slc 1 (List.map (eS 4 eQ) x0)] (slc 1 (List.map (eS 4 eQ) r)):=by
 refine bj Tryz.func124 Y (ae Y) (λc9 M vs hvs=>?_)
 unfold mK at h
 refine sr<|aI Y (aB (n:=1) (e:=(eS 4 eQ)))<|dn<|sr<|mv Y<|bE h λx4 h4 h=>cl (eK h4) ⟨Y,ak⟩<|mv Y<|lE h λx6 h6 h=>ln Y h6<|bI (cs:=[_,_,_,_]) (cs':=[ay false,au,ay false,au]) (.nil) ⟨aq,aB,aq,aB,ak⟩<|mv Y<|bE h λx9 h9 h=>cl ((tj h9).w (args':=[_,_,_,_,_,_]) ⟨aq,aq,aq,aq,aq,aB,ak⟩) ⟨Y,Y,Y,Y,Y,Y,ak⟩ ?_
 refine ag Y<|dn<|aY ?_
 obtain rfl:=O h
 exact R1 Y
theorem He{x0:List (List Qr)}{x1:List (List Qr)}{r:List (List Qr)}(h:n9 x0 x1=some r):Pure af 149 [slc 1 (List.map (eS 4 eQ) x0),slc 1 (List.map (eS 4 eQ) x1)] (slc 1 (List.map (eS 4 eQ) r)):=by
 refine bj Tryz.func149 Y (ae Y) (λc9 M vs hvs=>?_)
 unfold n9 at h
 refine sr<|aI Y (aB (n:=1) (e:=(eS 4 eQ)))<|dn<|sr<|mv Y<|lE h λx6 h6 h=>ln Y h6<|mv Y<|lE h λx8 h8 h=>ln Y h8<|lE h λx9 h9 h=>RT.max .none _ Y Y T (Ol (p:=x6) (q:=x8) h9)<|mv Y<|bE h λff kz h=>cl (eK kz) ⟨Y,ak⟩<|mv Y<|bE h λeY iX h=>cl (eK iX) ⟨Y,ak⟩<|lE h λdV jy h=>ad _ Y Y jy<|bI (cs:=[_,_,_,_]) (cs':=[ay false,au,ay false,au]) (.nil) ⟨aq,aB,aq,aB,ak⟩ ?_
 refine mv Y<|mv Y<|bE h λeE jd h=>cl (tj jd) ⟨Y,Y,Y,Y,Y,Y,ak⟩<|ag Y<|dn<|aY ?_
 obtain rfl:=O h
 exact R1 Y
theorem JE{x0:Int}{x1:Int}{x2:Nat}{x3:Qr}{x4:List (List Qr)}{x5:List (List Qr)}{r:List (List Qr)}(h:yu x0 x1 x2 x3 x4 x5=some r):GI af 148 [ax x0,ax x1,.v (.int .u8 ((x2:Nat):Int)),.agg (eQ x3),slc 1 (List.map (eS 4 eQ) x4),slc 1 (List.map (eS 4 eQ) x5)] (TR 23 1 (eS 4 eQ) r):=by
 obtain⟨⟨qW,qX⟩,⟨Dp,Dq⟩⟩:=x3
 refine vV Tryz.func148 Y (ae Y) (λc9 M vs hvs=>?_)
 unfold yu at h
 refine sr<|bx Y<|ag Y<|dn<|bU (cY 12 304 23 1 Y Y T)<|sr<|ag Y<|dn<|bU (cY 13 308 23 1 Y Y T)<|qq<|sr<|ag Y<|dn<|bE h λBn sK fC=>?_
 refine bJ (λ(BZ:(List (List Qr)))=>AS.cu 42 [(13,.row 315)] [] [(315,TR 23 1 (eS 4 eQ) BZ)]) (λBZ=>BZ=Bn) ?_ (λBZ ry=>?_)
 refine bf ?_
 refine bK sK (λnA=>AS.cu 42 [(0,ah x0),(1,ah x1),(2,.sv (.v (.int .u8 ((x2:Nat):Int)))),(4,.sv (slc 1 (List.map (eS 4 eQ) x4))),(5,.sv (slc 1 (List.map (eS 4 eQ) x5))),(9,.ptr 9 0),(13,.row 315),(14,ah nA.1)] [(9,⟨43,[ai qW,.sv (slc 1 (List.map bh qX)),ai Dp,.sv (slc 1 (List.map bh Dq))]⟩)] [(315,TR 23 1 (eS 4 eQ) nA.2)]) (cz (λi=>bif Nat.beq i 315 then 308 else i) Y Y Y Y Y ⟨.sv aq,.sv aq,.sv aq,.sv aq,.sv aq,.ptr,.row Y,.sv aq,ak⟩ ⟨⟨_,Y,⟨.sv aq,.sv aq,.sv aq,.sv aq,ak⟩⟩,ak⟩ ⟨⟨_,Y,cg.refl _⟩,ak⟩ (λi hi=>by rw[bV (show i≠315 by omega)];rfl)) (λnA Vr Vs h uS rz=>?_)
 obtain⟨yZ,FM⟩:=nA
 try dsimp only
 refine qq<|sr<|mv Y<|mv Y<|lE h λjb lZ h=>ls _ Y Y lZ<|dn ?_
 cases jb
 refine cF<|bP<|aW.x<|aW.x<|bF.x<|aW.n ?_
 obtain rfl:=O (F h)
 exact⟨FM,rz _ Y,wR []⟩
 refine cT<|bu<|aW.n<|qq<|bf<|sr<|ag Y<|dn<|bU (cY 15 325 43 4 Y Y T)<|qq<|sr<|ag Y<|dn<|bE (V h) λXy Jh mI=>?_
 refine bJ (λ(vN:(List Qr))=>AS.cu 42 [(0,ah x0),(1,ah x1),(2,.sv (.v (.int .u8 ((x2:Nat):Int)))),(4,.sv (slc 1 (List.map (eS 4 eQ) x4))),(5,.sv (slc 1 (List.map (eS 4 eQ) x5))),(9,.ptr 9 0),(13,.row 315),(14,ah yZ),(15,.row 327)] [(9,⟨43,[ai qW,.sv (slc 1 (List.map bh qX)),ai Dp,.sv (slc 1 (List.map bh Dq))]⟩)] [(315,TR 23 1 (eS 4 eQ) FM),(327,TR 43 4 eQ vN)]) (λvN=>vN=Xy) ?_ (λvN Ji=>?_)
 refine bf ?_
 refine bK Jh (λyq=>AS.cu 42 [(0,ah x0),(1,ah x1),(2,.sv (.v (.int .u8 ((x2:Nat):Int)))),(4,.sv (slc 1 (List.map (eS 4 eQ) x4))),(5,.sv (slc 1 (List.map (eS 4 eQ) x5))),(9,.ptr 9 0),(13,.row 315),(14,ah yZ),(15,.row 327),(16,ah yq.1)] [(9,⟨43,[ai qW,.sv (slc 1 (List.map bh qX)),ai Dp,.sv (slc 1 (List.map bh Dq))]⟩)] [(315,TR 23 1 (eS 4 eQ) FM),(327,TR 43 4 eQ yq.2)]) (cz (λi=>bif Nat.beq i 327 then 325 else i) Y Y Y Y Y ⟨.sv aq,.sv aq,.sv aq,.sv aq,.sv aq,.ptr,.row Y,.sv aq,.row Y,.sv aq,ak⟩ ⟨⟨_,Y,⟨.sv aq,.sv aq,.sv aq,.sv aq,ak⟩⟩,ak⟩ ⟨⟨_,Y,cg.refl _⟩,⟨_,Y,cg.refl _⟩,ak⟩ (λi hi=>by rw[bV (show i≠327 by omega)];rfl)) (λyq y22 G22 h Jj Jk=>?_)
 obtain⟨zX,HB⟩:=yq
 try dsimp only
 refine qq<|sr<|mv Y<|mv Y<|lE h λgV nF h=>ls _ Y Y nF<|dn ?_
 cases gV
 refine cF<|bP<|aW.x<|aW.x<|bF.x<|aW.n ?_
 obtain rfl:=O (F h)
 exact⟨HB,Jk _ Y,wR []⟩
 refine cT<|bu<|aW.n<|qq<|bf<|aX<|mo (s:=.row _) Y<|mv Y<|ld Y Y (.k4 Y Y Y Y)<|mv Y<|mv Y<|mv Y<|mv Y ?_
 obtain⟨⟨⟨qk,ql⟩,⟨vi,vm⟩⟩,zH,h⟩:=bS (V h)
 refine cl (By zH) ⟨Y,Y,Y,Y,Y,Y,ak⟩<|bl (l:=[⟨⟨qk,ql⟩,⟨vi,vm⟩⟩]) (e:=eQ) (.agg Y (.nil)) Y Y Y Y Y Y<|bE h λnE xo h=>aR (k:=[⟨⟨qk,ql⟩,⟨vi,vm⟩⟩]) (e:=eQ) Y Y Y xo<|an (s:=.row _) Y<|RT.done<|bF.n<|aW.n<|aX<|mv Y<|lE h λji qS h=>ad _ Y Y qS<|ag Y<|RT.done ?_
 obtain rfl:=O h
 exact aW.n ⟨(ji,nE),Jj _ Y,cz (λi=>bif Nat.beq i 327 then 36 else i) Y Y Y Y Y ⟨.sv aq,.sv aq,.sv aq,.sv aq,.sv aq,.ptr,.row Y,.sv aq,.row Y,.sv aq,ak⟩ ⟨⟨_,Y,⟨.sv aq,.sv aq,.sv aq,.sv aq,ak⟩⟩,ak⟩ ⟨⟨_,Y,cg.refl _⟩,⟨_,Y,cg.refl _⟩,ak⟩ (λi hi=>by rw[bV (show i≠327 by omega)];rfl)⟩
 subst Ji
 try dsimp only
 refine aW.n<|bU (cP (i:=327) (E1:=43) (n:=4) (e:=eQ) (l:=vN) Y)<|aX<|mo (s:=.row _) Y<|mv Y<|bl (l:=[vN]) (e:=(eS 4 eQ)) (.one Y (.nil)) Y Y Y Y Y Y<|bE mI λlj sZ mI=>aR (k:=[vN]) (e:=(eS 4 eQ)) Y Y Y sZ<|an (s:=.row _) Y<|RT.done<|bF.n<|aW.n<|aX<|mv Y<|lE mI λgh kA mI=>ad _ Y Y kA<|ag Y<|RT.done ?_
 obtain rfl:=O mI
 exact aW.n ⟨(gh,lj),uS _ Y,cz (λi=>bif Nat.beq i 315 then 40 else i) Y Y Y Y Y ⟨.sv aq,.sv aq,.sv aq,.sv aq,.sv aq,.ptr,.row Y,.sv aq,ak⟩ ⟨⟨_,Y,⟨.sv aq,.sv aq,.sv aq,.sv aq,ak⟩⟩,ak⟩ ⟨⟨_,Y,cg.refl _⟩,ak⟩ (λi hi=>by rw[bV (show i≠315 by omega)];rfl)⟩
 subst ry
 try dsimp only
 refine aW.n<|sr<|mo (s:=.row _) Y<|an (s:=.row _) Y<|dn<|aY ?_
 obtain rfl:=O fC
 exact⟨.inr Y,_,.tmp Y,Y⟩
theorem KP{x0:List (List Qr)}{x1:Int}{x2:Int}{r:List (List Qr)}(h:vO x0 x1 x2=some r):GI af 150 [slc 1 (List.map (eS 4 eQ) x0),ax x1,ax x2] (TR 23 1 (eS 4 eQ) r):=by
 refine vV Tryz.func150 Y (ae Y) (λc9 M vs hvs=>?_)
 unfold vO at h
 refine sr<|ag Y<|dn<|bU (cY 6 304 23 1 Y Y T)<|sr<|mv Y<|bE h λx8 h8 h=>cl (oG h8) ⟨Y,ak⟩<|mv Y<|bE h λdG fY h=>cl (oG fY) ⟨Y,ak⟩ ?_
 obtain⟨⟨⟨xD,xE⟩,⟨PR,PS⟩⟩,kz,h⟩:=bS h
 refine cl (mJ kz) ⟨Y,ak⟩<|mv Y<|bE h λeY iX h=>cN ((JE iX).w (args':=[_,_,_,_,_,_]) ⟨aq,aq,aq,aq,aq,aB,ak⟩) ⟨Y,Y,Y,Y,Y,Y,ak⟩<|an (s:=.row _) Y<|dn<|aY ?_
 obtain rfl:=O h
 exact⟨.inr Y,_,.tmp Y,Y⟩
theorem wZ{x0:Int}{x1:Int}{r:List Qr}(h:nh x0 x1=some r):GI af 116 [ax x0,ax x1] (TR 43 4 eQ r):=by
 refine vV Tryz.func116 Y (ae Y) (λc9 M vs hvs=>?_)
 unfold nh at h
 refine sr<|ag Y<|dn<|bU (cY 4 304 43 4 Y Y T)<|sr<|ag Y<|dn<|bU (cY 5 308 43 4 Y Y T)<|qq<|sr<|ag Y<|dn<|bE h λUv My tN=>?_
 refine bJ (λ(B0:(List Qr))=>AS.cu 27 [(5,.row 310)] [] [(310,TR 43 4 eQ B0)]) (λB0=>B0=Uv) ?_ (λB0 Mz=>?_)
 refine bf ?_
 refine bK My (λAk=>AS.cu 27 [(0,ah x0),(1,ah x1),(5,.row 310),(6,ah Ak.1)] [] [(310,TR 43 4 eQ Ak.2)]) (cz (λi=>bif Nat.beq i 310 then 308 else i) Y Y Y Y Y ⟨.sv aq,.sv aq,.row Y,.sv aq,ak⟩ trivial ⟨⟨_,Y,cg.refl _⟩,ak⟩ (λi hi=>by rw[bV (show i≠310 by omega)];rfl)) (λAk y12 G12 h MA MB=>?_)
 obtain⟨sE,FN⟩:=Ak
 try dsimp only
 refine qq<|qq ?_
 refine bL h (λj15=>AS.cu 27 [(0,ah x0),(1,ah x1),(5,.row 310),(6,ah sE),(14,ai j15)] [] [(310,TR 43 4 eQ FN)]) (λh=>?_) (λDn h=>?_)
 refine aX<|mv Y<|mv Y<|lE h λdG fY h=>ls _ Y Y fY<|mv Y<|bE h λJm kC h=>?_
 cases dG
 obtain rfl:=O (F kC)
 exact ww<|ww<|pF Y<|dn<|⟨false,h,wR []⟩
 refine gm Y<|lE (V kC) λeY iX kC=>RT.lss (.some Y Y) _ Y Y T iX ?_
 obtain rfl:=O kC
 exact pT Y<|dn<|⟨eY,h,wR []⟩
 try dsimp only
 refine aW.n ?_
 cases Dn
 refine cF<|bP<|aW.x<|aW.x<|bF.x<|aW.n ?_
 obtain rfl:=O (F h)
 exact⟨FN,MB _ Y,wR []⟩
 refine cT<|bu<|aW.n<|qq<|bf<|sr<|bI (cs:=[_,_,_,_]) (cs':=[ay false,au,ay false,au]) (.nil) ⟨aq,aB,aq,aB,ak⟩<|al (cs:=[ay false,au,ay false,au]) (by exact⟨aq,aB,aq,aB,ak⟩) Y<|so Y Y Y<|dn<|qq<|sr<|mv Y<|mv Y<|lE (V h) λgK oO h=>?_
 refine eq _ Y Y (xj (p:=sE) (q:=x1) oO)<|dn ?_
 refine bL h (λPE=>AS.cu 27 [(0,ah x0),(1,ah x1),(5,.row 310),(6,ah sE),(7,.ptr 7 0)] [(7,⟨43,[ai PE.1,.sv (slc 1 (List.map bh PE.2.1)),ai PE.2.2.1,.sv (slc 1 (List.map bh PE.2.2.2))]⟩)] [(310,TR 43 4 eQ FN)]) (λh=>?_) (λPE h=>?_)
 cases gK
 exact fs<|⟨(false,[],false,[]),(F h),wR []⟩
 refine cT<|aX ?_
 obtain⟨⟨⟨lW,lX⟩,⟨nB,nC⟩⟩,kA,h⟩:=bS (V h)
 exact cl (mJ kA) ⟨Y,ak⟩<|so Y Y Y<|dn<|⟨(lW,lX,nB,nC),h,wR []⟩
 obtain⟨vH,vI,vJ,vK⟩:=PE
 try dsimp only
 refine aW.n<|aX<|mo (s:=.row _) Y<|ld Y Y (.k4 Y Y Y Y)<|bl (l:=[⟨⟨vH,vI⟩,⟨vJ,vK⟩⟩]) (e:=eQ) (.agg Y (.nil)) Y Y Y Y Y Y<|bE h λke nN h=>aR (k:=[⟨⟨vH,vI⟩,⟨vJ,vK⟩⟩]) (e:=eQ) Y Y Y nN<|an (s:=.row _) Y<|RT.done<|bF.n<|aW.n<|aX<|mv Y<|lE h λeX kf h=>ad _ Y Y kf<|ag Y<|RT.done ?_
 obtain rfl:=O h
 exact aW.n ⟨(eX,ke),MA _ Y,cz (λi=>bif Nat.beq i 310 then 25 else i) Y Y Y Y Y ⟨.sv aq,.sv aq,.row Y,.sv aq,ak⟩ trivial ⟨⟨_,Y,cg.refl _⟩,ak⟩ (λi hi=>by rw[bV (show i≠310 by omega)];rfl)⟩
 subst Mz
 try dsimp only
 refine aW.n<|sr<|mo (s:=.row _) Y<|an (s:=.row _) Y<|dn<|aY ?_
 obtain rfl:=O tN
 exact⟨.inr Y,_,.tmp Y,Y⟩
theorem P2{x0:Qr}{x1:Qr}{r:Qr}(h:wY x0 x1=some r):Pure af 184 [.agg (eQ x0),.agg (eQ x1)] (.agg (eQ r)):=by
 obtain⟨⟨bn,bp⟩,⟨bB,bD⟩⟩:=x0
 obtain⟨⟨ct,cj⟩,⟨ek,ep⟩⟩:=x1
 refine bj Tryz.func184 Y (ae Y) (λc9 M vs hvs=>?_)
 unfold wY at h
 refine sr<|bx Y<|bx Y<|al (cs:=[ay false,au,ay false,au]) (by exact⟨aq,aB,aq,aB,ak⟩) Y<|dn<|sr<|ld Y Y (.k4 Y Y Y Y)<|ld Y Y (.k4 Y Y Y Y) ?_
 obtain⟨⟨⟨⟨XS,XT⟩,⟨XU,XV⟩⟩,aaC⟩,fY,h⟩:=bS h
 refine cl (M7 fY) ⟨Y,Y,ak⟩<|mv Y<|ex Y Y<|ex Y Y<|al (cs:=[ay false,au,ay false,au]) (by exact⟨aq,aB,aq,aB,ak⟩) Y<|so Y Y Y<|ag Y<|dn<|sr<|ld Y Y (.k4 Y Y Y Y)<|so Y Y Y<|dn<|aY ?_
 obtain rfl:=O h
 exact RZ (.agg Y Y (.k4 Y Y Y Y) Y (.nil))
set_option maxHeartbeats 4000000 in
theorem Au{x0:List (List Qr)}{r:(List (List Qr))×(List Int)}(h:jV x0=some r):Pure af 157 [slc 1 (List.map (eS 4 eQ) x0)] (.Cp [slc 1 (List.map (eS 4 eQ) r.1),slc 1 (List.map bH r.2)]):=by
 refine bj Tryz.func157 Y (ae Y) (λc9 M vs hvs=>?_)
 unfold jV at h
 refine sr<|aI Y (aB (n:=1) (e:=(eS 4 eQ)))<|aI Y (aB (n:=1) (e:=bH))<|dn<|sr<|mv Y<|bE h λc8 fI h=>cl (eK fI) ⟨Y,ak⟩<|ag Y<|dn<|sr<|mv Y<|mv Y<|lE h λdN gH h=>ln Y gH<|mv Y<|bE h λdR jK h=>cN (KP jK) ⟨Y,Y,Y,ak⟩<|an (s:=.row _) Y<|RT.done ?_
 refine aW.n<|sr<|ag Y<|dn<|bU (cY 6 304 3 1 Y Y T)<|sr<|ag Y<|dn<|qq<|sr<|ag Y<|dn<|bE h λe50 aqJ agY=>?_
 refine bJ (λ(Sf:Int×(List (List Qr))×(List Int))=>AS.cu 115 [(5,.row 17),(6,.row 306),(7,ah Sf.1)] [] [(17,TR 23 1 (eS 4 eQ) Sf.2.1),(306,TR 3 1 bH Sf.2.2)]) (λSf=>Sf=e50) ?_ (λSf aqK=>?_)
 refine bf ?_
 refine bK aqJ (λs50=>AS.cu 115 [(4,ah c8),(5,.row 17),(6,.row 306),(7,ah s50.1),(8,ah s50.2.1)] [] [(17,TR 23 1 (eS 4 eQ) s50.2.2.1),(306,TR 3 1 bH s50.2.2.2)]) (cz (λi=>bif Nat.beq i 306 then 304 else i) Y Y Y Y Y ⟨.sv aq,.row Y,.row Y,.sv aq,.sv aq,ak⟩ trivial ⟨⟨_,Y,cg.refl _⟩,⟨_,Y,cg.refl _⟩,ak⟩ (λi hi=>by rw[bV (show i≠306 by omega)];rfl)) (λs50 y50 G50 h akF aqL=>?_)
 obtain⟨o6,vn,nm,pG⟩:=s50
 try dsimp only
 refine qq<|sr<|mv Y<|mv Y<|lE h λgK oO h=>ls _ Y Y oO<|dn ?_
 cases gK
 refine cF<|bP<|aW.x<|aW.x<|bF.x<|aW.n ?_
 obtain rfl:=O (F h)
 exact⟨(o6,nm,pG),aqL _ Y,wR []⟩
 refine cT<|bu<|aW.n<|qq<|bf<|sr<|mv Y<|ag Y<|dn<|qq<|bE (V h) λe60 aqM kO=>?_
 refine bJ (λ(Ev:Int)=>AS.cu 115 [(4,ah c8),(5,.row 17),(6,.row 306),(7,ah o6),(8,ah vn),(9,ah Ev)] [] [(17,TR 23 1 (eS 4 eQ) nm),(306,TR 3 1 bH pG)]) (λEv=>Ev=e60) ?_ (λEv aqN=>?_)
 refine bf ?_
 refine bK aqM (λs60=>AS.cu 115 [(4,ah c8),(5,.row 17),(6,.row 306),(7,ah o6),(8,ah vn),(9,ah s60)] [] [(17,TR 23 1 (eS 4 eQ) nm),(306,TR 3 1 bH pG)]) (wR []) (λJu y60 G60 h aqO aqP=>?_)
 try dsimp only
 refine qq<|qq ?_
 refine bL h (λj63=>AS.cu 115 [(4,ah c8),(5,.row 17),(6,.row 306),(7,ah o6),(8,ah vn),(9,ah Ju),(38,ai j63)] [] [(17,TR 23 1 (eS 4 eQ) nm),(306,TR 3 1 bH pG)]) (λh=>?_) (λR8 h=>?_)
 refine aX<|mv Y<|mo (s:=.row _) Y<|lE h λji qS h=>lL Y Y qS<|lE h λir oU h=>ls _ Y Y oU<|mv Y<|bE h λXW vM h=>?_
 cases ir
 obtain rfl:=O (F vM)
 exact ww<|ww<|ww<|ww<|ww<|ww<|ww<|ww<|ww<|pF Y<|dn<|⟨false,h,wR []⟩
 refine RT.move (.some Y Y) (s:=.row _) Y T<|gm Y<|bE (V vM) λnq xA vM=>RT.ai8 (.some Y Y) Y Y Y T xA<|bE vM λjY qT vM=>RT.aeX (e:=(eS 4 eQ)) (.some Y Y) Y Y qT Y T<|gm Y ?_
 obtain⟨⟨⟨qk,ql⟩,⟨vi,vm⟩⟩,zH,vM⟩:=bS vM
 refine RT.ixM (.some Y Y) Y Y T zH<|RT.gJ (cs:=[_,_,_,_]) (.some Y Y) Y T Y Y<|bE vM λnE xo vM=>gc (oY xo) ⟨Y,ak⟩<|lE vM λpD A0 vM=>ge_ _ Y Y (xj (p:=nE) (q:=0) A0) ?_
 obtain rfl:=O vM
 exact pT Y<|dn<|⟨pD,h,wR []⟩
 try dsimp only
 refine aW.n ?_
 cases R8
 refine cF<|bP<|aW.x<|aW.x<|bF.x<|aW.n ?_
 obtain rfl:=O (F h)
 exact⟨Ju,aqP _ Y,wR []⟩
 refine cT<|bu<|aW.n<|bf<|aX<|mv Y<|lE (V h) λlj sZ h=>ad _ Y Y sZ<|ag Y<|RT.done<|bF.n ?_
 obtain rfl:=O h
 exact aW.n ⟨lj,aqO _ Y,wR []⟩
 subst aqN
 try dsimp only
 refine aW.n<|qq<|sr<|mv Y<|mo (s:=.row _) Y<|lE kO λyB EV kO=>lL Y Y EV<|lE kO λr9 Az kO=>eq _ Y Y (xj (p:=Ev) (q:=yB) Az)<|dn ?_
 cases r9
 refine fs<|qq<|aZ mixed<|mo (s:=.row _) Y<|mv Y<|mo (s:=.row _) Y<|mv Y<|mo (s:=.row _) Y<|mv Y<|bE (F kO) λBU IA kO=>iR Y Y Y IA<|bE kO λAA GV kO=>lR (e:=(eS 4 eQ)) Y Y GV Y<|mo (s:=.row _) Y<|mv Y<|bE kO λCZ Ri kO=>iR Y Y Y Ri<|bE kO λGN Rg kO=>lR (e:=(eS 4 eQ)) Y Y Rg Y ?_
 refine bE kO λGf Rh kO=>iR Y Y Y Rh<|bE kO λl67 akG kO=>sR AA Y Y Y Y akG<|bE kO λQE h58 kO=>iR Y Y Y h58<|bE kO λl68 akH kO=>sR GN Y Y Y Y akH ?_
 refine RT.done ⟨by kernel_rfl,?_⟩
 refine aW.n<|qq<|aZ mixed<|mo (s:=.row _) Y<|mv Y ?_
 obtain⟨⟨⟨adL,adM⟩,⟨adN,adO⟩⟩,Wv,kO⟩:=bS kO
 refine cl (mJ Wv) ⟨Y,ak⟩<|mo (s:=.row _) Y<|mv Y<|bE kO λx64 h64 kO=>iR Y Y Y h64<|bE kO λS4 ZI kO=>lR (e:=(eS 4 eQ)) Y Y ZI Y<|mv Y ?_
 obtain⟨⟨⟨LJ,LK⟩,⟨LM,LN⟩⟩,h67,kO⟩:=bS kO
 refine ix Y Y h67<|RT.gJ (cs:=[_,_,_,_]) .none Y T Y Y ?_
 obtain⟨⟨⟨adP,adQ⟩,⟨adR,adS⟩⟩,h69,kO⟩:=bS kO
 refine cl (P2 h69) ⟨Y,Y,ak⟩<|mo (s:=.row _) Y<|mv Y<|bE kO λOz h72 kO=>iR Y Y Y h72<|bE kO λx73 h73 kO=>lR (e:=(eS 4 eQ)) Y Y h73 Y<|bE kO λx74 h74 kO=>cl (Jn h74) ⟨Y,Y,ak⟩<|bE kO λx75 h75 kO=>iR Y Y Y h75<|bE kO λl70 akI kO=>sR x74 Y Y Y Y akI ?_
 refine RT.done ⟨by kernel_rfl,?_⟩
 refine aW.n<|qq<|sr<|ag Y<|dn<|bE kO λe80 aqR Sg=>?_
 refine bJ (λ(Ds:(List (List Qr)))=>AS.cu 115 [(4,ah c8),(5,.row 17),(6,.row 306),(7,ah o6),(8,ah vn)] [] [(17,TR 23 1 (eS 4 eQ) Ds),(306,TR 3 1 bH pG)]) (λDs=>Ds=e80) ?_ (λDs aqS=>?_)
 refine bf ?_
 refine bK aqR (λs80=>AS.cu 115 [(4,ah c8),(5,.row 17),(6,.row 306),(7,ah o6),(8,ah vn),(10,ah s80.1)] [] [(17,TR 23 1 (eS 4 eQ) s80.2),(306,TR 3 1 bH pG)]) (wR []) (λs80 y80 G80 h aqT aqU=>?_)
 obtain⟨zY,rK⟩:=s80
 try dsimp only
 refine qq<|sr<|mv Y<|mo (s:=.row _) Y<|lE h λx78 h78 h=>lL Y Y h78<|lE h λUw h79 h=>ls _ Y Y h79<|dn ?_
 cases Uw
 refine cF<|bP<|aW.x<|aW.x<|bF.x<|aW.n ?_
 obtain rfl:=O (F h)
 exact⟨rK,aqU _ Y,wR []⟩
 refine cT<|bu<|aW.n<|qq<|bf<|sr<|mv Y<|mv Y<|lE (V h) λZE h84 h=>ne _ Y Y (Le (p:=zY) (q:=o6) h84)<|dn ?_
 refine bL h (λj83=>AS.cu 115 [(4,ah c8),(5,.row 17),(6,.row 306),(7,ah o6),(8,ah vn),(10,ah zY)] [] [(17,TR 23 1 (eS 4 eQ) j83),(306,TR 3 1 bH pG)]) (λh=>?_) (λR9 h=>?_)
 cases ZE
 exact fs<|⟨rK,(F h),wR []⟩
 refine cT<|aZ mixed<|mo (s:=.row _) Y<|mv Y<|mo (s:=.row _) Y<|mv Y<|bE (V h) λZF h89 h=>iR Y Y Y h89<|bE h λVm h90 h=>lR (e:=(eS 4 eQ)) Y Y h90 Y<|mv Y ?_
 obtain⟨⟨⟨adT,adU⟩,⟨adV,adW⟩⟩,h92,h⟩:=bS h
 refine ix Y Y h92<|RT.gJ (cs:=[_,_,_,_]) .none Y T Y Y ?_
 obtain⟨⟨⟨adX,adY⟩,⟨adZ,ad0⟩⟩,h94,h⟩:=bS h
 refine cl (zV h94) ⟨Y,ak⟩<|mo (s:=.row _) Y<|mv Y<|bE h λx97 h97 h=>iR Y Y Y h97<|bE h λZN h98 h=>lR (e:=(eS 4 eQ)) Y Y h98 Y<|mo (s:=.row _) Y<|mv Y<|bE h λXX agZ h=>iR Y Y Y agZ<|bE h λDU Rj h=>lR (e:=(eS 4 eQ)) Y Y Rj Y<|bE h λKp Wy h=>cl (oF Wy) ⟨Y,Y,Y,ak⟩<|bE h λKq Wz h=>iR Y Y Y Wz ?_
 refine bE h λl85 akJ h=>sR Kp Y Y Y Y akJ ?_
 refine RT.done ⟨by kernel_rfl,?_⟩
 exact aW.n<|⟨l85,h,wR []⟩
 try dsimp only
 refine bF.n<|aW.n<|aX<|mv Y<|lE h λx81 h81 h=>ad _ Y Y h81<|ag Y<|RT.done ?_
 obtain rfl:=O h
 exact aW.n ⟨(x81,R9),aqT _ Y,wR []⟩
 subst aqS
 try dsimp only
 refine aW.n<|sr<|mo (s:=.row _) Y<|mv Y<|bl (l:=[vn]) (e:=bH) (.one Y (.nil)) Y Y Y Y Y Y<|bE Sg λagR aqV Sg=>aR (k:=[vn]) (e:=bH) Y Y Y aqV<|an (s:=.row _) Y<|dn<|aX<|mv Y<|lE Sg λagS ag0 Sg=>ad _ Y Y ag0<|ag Y<|RT.done<|bF.n<|aW.n<|aX<|mv Y<|lE Sg λiK oz Sg=>ad _ Y Y oz<|ag Y ?_
 refine RT.done ?_
 obtain rfl:=O Sg
 exact aW.n ⟨(agS,iK,Ds,agR),akF _ Y,cz (λi=>bif Nat.beq i 306 then 108 else i) Y Y Y Y Y ⟨.sv aq,.row Y,.row Y,.sv aq,.sv aq,ak⟩ trivial ⟨⟨_,Y,cg.refl _⟩,⟨_,Y,cg.refl _⟩,ak⟩ (λi hi=>by rw[bV (show i≠306 by omega)];rfl)⟩
 refine cT<|bP<|aW.x<|bF.x<|aW.n<|aX<|mv Y<|lE (V kO) λiK oz kO=>ad _ Y Y oz<|ag Y<|RT.done ?_
 obtain rfl:=O kO
 exact aW.n ⟨(o6,iK,nm,pG),akF _ Y,wR []⟩
 subst aqK
 obtain⟨XY,Sa,Nj⟩:=Sf
 try dsimp only
 refine aW.n<|qq<|bU (cP (i:=17) (E1:=23) (n:=1) (e:=(eS 4 eQ)) (l:=Sa) Y)<|aX<|mv Y<|mv Y<|bE agY λakD aqW agY=>RT.Io .none 0 XY Y Y ⟨_,Y⟩ T aqW<|mo (s:=.row _) Y<|ag Y<|an (s:=.row _) Y<|dn<|bU (cP (i:=306) (E1:=3) (n:=1) (e:=bH) (l:=Nj) Y)<|aY ?_
 obtain rfl:=O agY
 exact R2 Y Y
theorem Gv{x0:List Int}{x1:Int}{r:Bool}(h:sN x0 x1=some r):Pure af 159 [slc 1 (List.map bH x0),ax x1] (ay r):=by
 refine bj Tryz.func159 Y (ae Y) (λc9 M vs hvs=>?_)
 unfold sN at h
 refine sr<|ag Y<|dn<|qq<|sr<|ag Y<|dn<|bE h λe6 uO je=>?_
 refine bJ (λ(uG:Unit)=>AS.cu 18 [] [] []) (λuG=>.inl uG=e6) ?_ (λuG uP=>?_)
 refine bf ?_
 refine bK uO (λs6=>AS.cu 18 [(0,.sv (slc 1 (List.map bH x0))),(1,ah x1),(5,ah s6)] [] []) (wR []) (λiA y6 G6 h uQ pE=>?_)
 try dsimp only
 refine qq<|sr<|mv Y<|mv Y<|lE h λx8 h8 h=>ln Y h8<|lE h λx9 h9 h=>ls _ Y Y h9<|dn ?_
 cases x9
 refine cF<|bP<|aW.x<|aW.x<|bF.x<|aW.n ?_
 obtain rfl:=O (F h)
 exact⟨(),pE _ Y,wR []⟩
 refine cT<|bu<|aW.n<|qq<|bf<|sr<|mv Y<|mv Y<|bE (V h) λdV jy h=>ix Y Y jy<|lr Y Y<|mv Y<|lE h λdR jK h=>eq _ Y Y (xj (p:=dV) (q:=x1) jK)<|dn ?_
 cases dR
 refine cF<|bu<|bF.n<|aW.n<|aX<|mv Y<|lE (F h) λff kz h=>ad _ Y Y kz<|ag Y<|RT.done ?_
 obtain rfl:=O h
 exact aW.n ⟨ff,uQ _ Y,wR []⟩
 refine cT<|sr<|ag Y<|dn<|aY<|bF.r<|aW.r ?_
 obtain rfl:=O (V h)
 have GR:=pE _ Y
 subst GR
 refine aW.r<|bF.r<|aW.r<|aW.r ?_
 obtain rfl:=O je
 exact R1 Y
 subst uP
 try dsimp only
 refine aW.n<|sr<|ag Y<|dn<|aY ?_
 obtain rfl:=O je
 exact R1 Y
theorem KQ{x0:List (List Qr)}{r:List (List Qr)}(h:rL x0=some r):Pure af 160 [slc 1 (List.map (eS 4 eQ) x0)] (slc 1 (List.map (eS 4 eQ) r)):=by
 refine bj Tryz.func160 Y (ae Y) (λc9 M vs hvs=>?_)
 unfold rL at h
 refine sr<|aI Y (aB (n:=1) (e:=(eS 4 eQ)))<|dn<|sr<|mv Y ?_
 obtain⟨⟨AP,DW⟩,fI,h⟩:=bS h
 refine cl (Au fI) ⟨Y,ak⟩<|mv Y<|ex Y Y<|ex Y Y<|ag Y<|ag Y<|dn<|sr<|mv Y<|bE h λeX kf h=>cl (eK kf) ⟨Y,ak⟩<|ag Y<|dn<|sr<|ag Y<|dn<|bU (cY 6 304 23 1 Y Y T)<|qq<|sr<|ag Y<|dn<|bE h λe20 ag1 ag2=>?_
 refine bJ (λ(z4:(List (List Qr)))=>AS.cu 53 [(6,.row 306)] [] [(306,TR 23 1 (eS 4 eQ) z4)]) (λz4=>z4=e20) ?_ (λz4 ag3=>?_)
 refine bf ?_
 refine bK ag1 (λUW=>AS.cu 53 [(3,.sv (slc 1 (List.map (eS 4 eQ) AP))),(4,.sv (slc 1 (List.map bH DW))),(5,ah eX),(6,.row 306),(7,ah UW.1)] [] [(306,TR 23 1 (eS 4 eQ) UW.2)]) (cz (λi=>bif Nat.beq i 306 then 304 else i) Y Y Y Y Y ⟨.sv aq,.sv aq,.sv aq,.row Y,.sv aq,ak⟩ trivial ⟨⟨_,Y,cg.refl _⟩,ak⟩ (λi hi=>by rw[bV (show i≠306 by omega)];rfl)) (λUW y20 G20 h aa3 ag4=>?_)
 obtain⟨mm,xP⟩:=UW
 try dsimp only
 refine qq<|sr<|mv Y<|mv Y<|lE h λjb lZ h=>ls _ Y Y lZ<|dn ?_
 cases jb
 refine cF<|bP<|aW.x<|aW.x<|bF.x<|aW.n ?_
 obtain rfl:=O (F h)
 exact⟨xP,ag4 _ Y,wR []⟩
 refine cT<|bu<|aW.n<|qq<|bf<|qq<|sr<|mv Y<|mv Y<|bE (V h) λgV nF h=>cl (Gv nF) ⟨Y,Y,ak⟩<|dn ?_
 cases gV
 refine fs<|sr<|mv Y<|mv Y<|bE (F h) λir oU h=>cN (wZ oU) ⟨Y,Y,ak⟩<|an (s:=.row _) Y<|dn<|qq<|sr<|ag Y<|dn<|bE h λe28 afk Rf=>?_
 refine bJ (λ(zZ:(List Qr))=>AS.cu 53 [(3,.sv (slc 1 (List.map (eS 4 eQ) AP))),(4,.sv (slc 1 (List.map bH DW))),(5,ah eX),(6,.row 306),(7,ah mm),(8,.row 27)] [] [(306,TR 23 1 (eS 4 eQ) xP),(27,TR 43 4 eQ zZ)]) (λzZ=>zZ=e28) ?_ (λzZ afl=>?_)
 refine bf ?_
 refine bK afk (λUs=>AS.cu 53 [(3,.sv (slc 1 (List.map (eS 4 eQ) AP))),(4,.sv (slc 1 (List.map bH DW))),(5,ah eX),(6,.row 306),(7,ah mm),(8,.row 27),(9,ah Us.1)] [] [(306,TR 23 1 (eS 4 eQ) xP),(27,TR 43 4 eQ Us.2)]) (wR []) (λUs y28 G28 h afm afn=>?_)
 obtain⟨P0,Jv⟩:=Us
 try dsimp only
 refine qq<|sr<|mv Y<|mv Y<|lE h λuL zJ h=>ln Y zJ<|lE h λnq xA h=>ls _ Y Y xA<|dn ?_
 cases nq
 refine cF<|bP<|aW.x<|aW.x<|bF.x<|aW.n ?_
 obtain rfl:=O (F h)
 exact⟨Jv,afn _ Y,wR []⟩
 refine cT<|bu<|aW.n<|qq<|bf<|aZ mixed<|mo (s:=.row _) Y<|mv Y<|mv Y<|bE (V h) λpD A0 h=>ix Y Y A0<|lr Y Y<|mv Y<|mv Y<|bE h λyJ GS h=>ix Y Y GS<|lr Y Y<|mv Y ?_
 obtain⟨⟨⟨Gk,Gl⟩,⟨OQ,OR⟩⟩,Az,h⟩:=bS h
 refine ix Y Y Az<|RT.gJ (cs:=[_,_,_,_]) .none Y T Y Y ?_
 obtain⟨⟨⟨Jw,Jx⟩,⟨Jy,Jz⟩⟩,h46,h⟩:=bS h
 refine cl (zV h46) ⟨Y,ak⟩<|bE h λxm AY h=>iR Y Y Y AY<|bE h λZO akK h=>sA ⟨⟨Jw,Jx⟩,⟨Jy,Jz⟩⟩ Y Y Y akK ?_
 refine RT.done ⟨by kernel_rfl,?_⟩
 refine bF.n<|aW.n<|aX<|mv Y<|lE h λou xk h=>ad _ Y Y xk<|ag Y<|RT.done ?_
 obtain rfl:=O h
 exact aW.n ⟨(ou,ZO),afm _ Y,wR []⟩
 subst afl
 try dsimp only
 refine aW.n<|bU (cP (i:=27) (E1:=43) (n:=4) (e:=eQ) (l:=zZ) Y)<|aX<|mo (s:=.row _) Y<|mv Y<|bl (l:=[zZ]) (e:=(eS 4 eQ)) (.one Y (.nil)) Y Y Y Y Y Y<|bE Rf λBU IA Rf=>aR (k:=[zZ]) (e:=(eS 4 eQ)) Y Y Y IA<|an (s:=.row _) Y<|RT.done<|bF.n<|aW.n<|aX<|mv Y<|lE Rf λgh kA Rf=>ad _ Y Y kA<|ag Y<|RT.done ?_
 obtain rfl:=O Rf
 exact aW.n ⟨(gh,BU),aa3 _ Y,cz (λi=>bif Nat.beq i 306 then 51 else i) Y Y Y Y Y ⟨.sv aq,.sv aq,.sv aq,.row Y,.sv aq,ak⟩ trivial ⟨⟨_,Y,cg.refl _⟩,ak⟩ (λi hi=>by rw[bV (show i≠306 by omega)];rfl)⟩
 refine cT<|bP<|aW.x<|bF.x<|aW.n<|aX<|mv Y<|lE (V h) λgh kA h=>ad _ Y Y kA<|ag Y<|RT.done ?_
 obtain rfl:=O h
 exact aW.n ⟨(gh,xP),aa3 _ Y,wR []⟩
 subst ag3
 try dsimp only
 refine aW.n<|sr<|mo (s:=.row _) Y<|an (s:=.row _) Y<|dn<|bU (cP (i:=306) (E1:=23) (n:=1) (e:=(eS 4 eQ)) (l:=z4) Y)<|aY ?_
 obtain rfl:=O ag2
 exact R1 Y
theorem KR{x0:List (List Qr)}{x1:List Qr}{r:List (List Qr)}(h:rM x0 x1=some r):Pure af 158 [slc 1 (List.map (eS 4 eQ) x0),slc 4 (List.map eQ x1)] (slc 1 (List.map (eS 4 eQ) r)):=by
 refine bj Tryz.func158 Y (ae Y) (λc9 M vs hvs=>?_)
 unfold rM at h
 refine sr<|aI Y (aB (n:=1) (e:=(eS 4 eQ)))<|dn<|sr<|mv Y<|bE h λff kz h=>cl (eK kz) ⟨Y,ak⟩<|ag Y<|dn<|sr<|ag Y<|dn<|bU (cY 6 304 23 1 Y Y T)<|qq<|sr<|ag Y<|dn<|bE h λe20 ag1 ag2=>?_
 refine bJ (λ(z6:(List (List Qr)))=>AS.cu 46 [(6,.row 311)] [] [(311,TR 23 1 (eS 4 eQ) z6)]) (λz6=>z6=e20) ?_ (λz6 ag3=>?_)
 refine bf ?_
 refine bK ag1 (λUW=>AS.cu 46 [(0,.sv (slc 1 (List.map (eS 4 eQ) x0))),(1,.sv (slc 4 (List.map eQ x1))),(5,ah ff),(6,.row 311),(7,ah UW.1)] [] [(311,TR 23 1 (eS 4 eQ) UW.2)]) (cz (λi=>bif Nat.beq i 311 then 304 else i) Y Y Y Y Y ⟨.sv aq,.sv aq,.sv aq,.row Y,.sv aq,ak⟩ trivial ⟨⟨_,Y,cg.refl _⟩,ak⟩ (λi hi=>by rw[bV (show i≠311 by omega)];rfl)) (λUW y20 G20 h aa3 ag4=>?_)
 obtain⟨mm,z5⟩:=UW
 try dsimp only
 refine qq<|qq ?_
 refine bL h (λj23=>AS.cu 46 [(0,.sv (slc 1 (List.map (eS 4 eQ) x0))),(1,.sv (slc 4 (List.map eQ x1))),(5,ah ff),(6,.row 311),(7,ah mm),(21,ai j23)] [] [(311,TR 23 1 (eS 4 eQ) z5)]) (λh=>?_) (λSb h=>?_)
 refine aX<|mv Y<|mv Y<|lE h λdV jy h=>ln Y jy<|lE h λdN gH h=>ls _ Y Y gH<|mv Y<|bE h λXZ xp h=>?_
 cases dN
 refine gm Y<|gm Y<|lE (F xp) λjb lZ xp=>gn Y lZ<|lE xp λgK oO xp=>RT.lss (.some Y Y) _ Y Y T oO ?_
 obtain rfl:=O xp
 exact pF Y<|dn<|⟨gK,h,wR []⟩
 obtain rfl:=O (V xp)
 exact ww<|ww<|ww<|ww<|pT Y<|dn<|⟨true,h,wR []⟩
 try dsimp only
 refine aW.n ?_
 cases Sb
 refine cF<|bP<|aW.x<|aW.x<|bF.x<|aW.n ?_
 obtain rfl:=O (F h)
 exact⟨z5,ag4 _ Y,wR []⟩
 refine cT<|bu<|aW.n<|qq<|bf<|sr<|ag Y<|dn<|bU (cY 8 321 43 4 Y Y T)<|qq<|sr<|ag Y<|dn<|bE (V h) λe29 aqY Nk=>?_
 refine bJ (λ(B3:(List Qr))=>AS.cu 46 [(0,.sv (slc 1 (List.map (eS 4 eQ) x0))),(1,.sv (slc 4 (List.map eQ x1))),(5,ah ff),(6,.row 311),(7,ah mm),(8,.row 323)] [] [(311,TR 23 1 (eS 4 eQ) z5),(323,TR 43 4 eQ B3)]) (λB3=>B3=e29) ?_ (λB3 aqZ=>?_)
 refine bf ?_
 refine bK aqY (λs29=>AS.cu 46 [(0,.sv (slc 1 (List.map (eS 4 eQ) x0))),(1,.sv (slc 4 (List.map eQ x1))),(5,ah ff),(6,.row 311),(7,ah mm),(8,.row 323),(9,ah s29.1)] [] [(311,TR 23 1 (eS 4 eQ) z5),(323,TR 43 4 eQ s29.2)]) (cz (λi=>bif Nat.beq i 323 then 321 else i) Y Y Y Y Y ⟨.sv aq,.sv aq,.sv aq,.row Y,.sv aq,.row Y,.sv aq,ak⟩ trivial ⟨⟨_,Y,cg.refl _⟩,⟨_,Y,cg.refl _⟩,ak⟩ (λi hi=>by rw[bV (show i≠323 by omega)];rfl)) (λs29 y29 G29 h aq0 aq1=>?_)
 obtain⟨Tu,HC⟩:=s29
 try dsimp only
 refine qq<|sr<|mv Y<|mv Y<|lE h λji qS h=>ls _ Y Y qS<|dn ?_
 cases ji
 refine cF<|bP<|aW.x<|aW.x<|bF.x<|aW.n ?_
 obtain rfl:=O (F h)
 exact⟨HC,aq1 _ Y,wR []⟩
 refine cT<|bu<|aW.n<|qq<|bf<|aX<|mo (s:=.row _) Y<|mv Y<|mv Y<|mv Y ?_
 obtain⟨⟨⟨Cx,Cy⟩,⟨IK,IL⟩⟩,xk,h⟩:=bS (V h)
 refine cl (jF xk) ⟨Y,Y,Y,ak⟩<|bl (l:=[⟨⟨Cx,Cy⟩,⟨IK,IL⟩⟩]) (e:=eQ) (.agg Y (.nil)) Y Y Y Y Y Y<|bE h λpB yN h=>aR (k:=[⟨⟨Cx,Cy⟩,⟨IK,IL⟩⟩]) (e:=eQ) Y Y Y yN<|an (s:=.row _) Y<|RT.done<|bF.n<|aW.n<|aX<|mv Y<|lE h λlp vz h=>ad _ Y Y vz<|ag Y<|RT.done ?_
 obtain rfl:=O h
 exact aW.n ⟨(lp,pB),aq0 _ Y,cz (λi=>bif Nat.beq i 323 then 35 else i) Y Y Y Y Y ⟨.sv aq,.sv aq,.sv aq,.row Y,.sv aq,.row Y,.sv aq,ak⟩ trivial ⟨⟨_,Y,cg.refl _⟩,⟨_,Y,cg.refl _⟩,ak⟩ (λi hi=>by rw[bV (show i≠323 by omega)];rfl)⟩
 subst aqZ
 try dsimp only
 refine aW.n<|aX<|mo (s:=.row _) Y<|mo (s:=.row _) Y<|mv Y<|mv Y ?_
 obtain⟨⟨⟨vg,vh⟩,⟨yO,yP⟩⟩,sZ,Nk⟩:=bS Nk
 refine cl (me sZ) ⟨Y,Y,ak⟩<|bl (l:=[⟨⟨vg,vh⟩,⟨yO,yP⟩⟩]) (e:=eQ) (.agg Y (.nil)) Y Y Y Y Y Y<|bE Nk λpC Ay Nk=>RT.aab (k:=[⟨⟨vg,vh⟩,⟨yO,yP⟩⟩]) (e:=eQ) .none Y Y Y T Y T Ay<|bl (l:=[pC]) (e:=(eS 4 eQ)) (.one Y (.nil)) Y Y Y Y Y Y<|bE Nk λr9 Az Nk=>aR (k:=[pC]) (e:=(eS 4 eQ)) Y Y Y Az<|an (s:=.row _) Y<|RT.done<|bF.n<|aW.n<|aX<|mv Y ?_
 refine lE Nk λgU oP Nk=>ad _ Y Y oP<|ag Y<|RT.done ?_
 obtain rfl:=O Nk
 exact aW.n ⟨(gU,r9),aa3 _ Y,cz (λi=>bif Nat.beq i 311 then 44 else i) Y Y Y Y Y ⟨.sv aq,.sv aq,.sv aq,.row Y,.sv aq,ak⟩ trivial ⟨⟨_,Y,cg.refl _⟩,ak⟩ (λi hi=>by rw[bV (show i≠311 by omega)];rfl)⟩
 subst ag3
 try dsimp only
 refine aW.n<|sr<|mo (s:=.row _) Y<|an (s:=.row _) Y<|dn<|bU (cP (i:=311) (E1:=23) (n:=1) (e:=(eS 4 eQ)) (l:=z6) Y)<|aY ?_
 obtain rfl:=O ag2
 exact R1 Y
theorem JF{x0:List (List Qr)}{x1:List Qr}{r:(List Qr)×(List (List Qr))×Int}(h:o7 x0 x1=some r):Pure af 123 [slc 1 (List.map (eS 4 eQ) x0),slc 4 (List.map eQ x1)] (.Cp [slc 4 (List.map eQ r.1),slc 1 (List.map (eS 4 eQ) r.2.1),ax r.2.2]):=by
 refine bj Tryz.func123 Y (ae Y) (λc9 M vs hvs=>?_)
 unfold o7 at h
 refine sr<|aI Y (aB (n:=4) (e:=eQ))<|aI Y (aB (n:=1) (e:=(eS 4 eQ)))<|ag Y<|dn<|sr<|mv Y<|bE h λeY iX h=>cl (eK iX) ⟨Y,ak⟩<|ag Y<|dn<|sr<|mv Y<|mv Y<|bE h λdR jK h=>cl (KR jK) ⟨Y,Y,ak⟩ ?_
 obtain⟨⟨Ky,MI⟩,jd,h⟩:=bS h
 refine cl (Au jd) ⟨Y,ak⟩<|mv Y<|ex Y Y<|ex Y Y<|ag Y<|ag Y<|dn<|qq<|sr<|mv Y<|mv Y<|bE h λgU oP h=>cl (Gv oP) ⟨Y,Y,ak⟩<|dn ?_
 cases gU
 refine fs<|sr<|mv Y<|bE (F h) λke nN h=>cN (wZ nN) ⟨Y,Y,ak⟩<|an (s:=.row _) Y<|dn<|qq<|sr<|ag Y<|dn<|bE h λe8 Kt AZ=>?_
 refine bJ (λ(JA:(List Qr))=>AS.cu 48 [(0,.sv (slc 1 (List.map (eS 4 eQ) x0))),(10,.row 25)] [] [(25,TR 43 4 eQ JA)]) (λJA=>JA=e8) ?_ (λJA Ku=>?_)
 refine bf ?_
 refine bK Kt (λs8=>AS.cu 48 [(0,.sv (slc 1 (List.map (eS 4 eQ) x0))),(7,ah eY),(8,.sv (slc 1 (List.map (eS 4 eQ) Ky))),(9,.sv (slc 1 (List.map bH MI))),(10,.row 25),(11,ah s8.1)] [] [(25,TR 43 4 eQ s8.2)]) (wR []) (λs8 y8 G8 h Kv Kw=>?_)
 obtain⟨tZ,P1⟩:=s8
 try dsimp only
 refine qq<|sr<|mv Y<|mv Y<|lE h λlp vz h=>ln Y vz<|lE h λiM oM h=>ls _ Y Y oM<|dn ?_
 cases iM
 refine cF<|bP<|aW.x<|aW.x<|bF.x<|aW.n ?_
 obtain rfl:=O (F h)
 exact⟨P1,Kw _ Y,wR []⟩
 refine cT<|bu<|aW.n<|qq<|bf<|aZ mixed<|mo (s:=.row _) Y<|mv Y<|mv Y<|bE (V h) λpB yN h=>ix Y Y yN<|lr Y Y<|mv Y<|mv Y<|bE h λyj Fs h=>ix Y Y Fs<|lr Y Y<|mv Y ?_
 obtain⟨⟨⟨X0,X1⟩,⟨X2,X3⟩⟩,Ay,h⟩:=bS h
 refine ix Y Y Ay<|RT.gJ (cs:=[_,_,_,_]) .none Y T Y Y<|bE h λr9 Az h=>iR Y Y Y Az<|bE h λCe wc h=>sA ⟨⟨X0,X1⟩,⟨X2,X3⟩⟩ Y Y Y wc ?_
 refine RT.done ⟨by kernel_rfl,?_⟩
 refine bF.n<|aW.n<|aX<|mv Y<|lE h λnq xA h=>ad _ Y Y xA<|ag Y<|RT.done ?_
 obtain rfl:=O h
 exact aW.n ⟨(nq,Ce),Kv _ Y,wR []⟩
 subst Ku
 try dsimp only
 refine aW.n<|sr<|mo (s:=.row _) Y<|mv Y<|bE AZ λxm AY AZ=>cl (KQ AY) ⟨Y,ak⟩<|an (s:=.row _) Y<|ag Y<|ag Y<|dn<|bU (cP (i:=25) (E1:=43) (n:=4) (e:=eQ) (l:=JA) Y)<|aY ?_
 obtain rfl:=O AZ
 exact RZ (.tmp Y (.tmp Y (.tmp Y (.nil))))
 refine cT<|sr<|aI Y (aB (n:=4) (e:=eQ))<|aI Y (aB (n:=1) (e:=(eS 4 eQ)))<|ag Y<|dn<|aY<|aW.r ?_
 obtain rfl:=O (V h)
 exact RZ (.tmp Y (.tmp Y (.tmp Y (.nil))))
theorem sO{x0:List (List Qr)}{r:(List (List Qr))×Int}(h:eA x0=some r):Pure af 80 [slc 1 (List.map (eS 4 eQ) x0)] (.Cp [slc 1 (List.map (eS 4 eQ) r.1),ax r.2]):=by
 refine bj Tryz.func80 Y (ae Y) (λc9 M vs hvs=>?_)
 unfold eA at h
 refine sr<|aI Y (aB (n:=1) (e:=(eS 4 eQ)))<|ag Y<|dn<|sr<|mv Y<|lE h λff kz h=>ln Y kz<|ag Y<|dn<|sr<|ag Y<|dn<|bU (cY 5 304 23 1 Y Y T)<|qq<|sr<|ag Y<|dn<|bE h λFo yl oV=>?_
 refine bJ (λ(jT:(List (List Qr)))=>AS.cu 39 [(5,.row 306)] [] [(306,TR 23 1 (eS 4 eQ) jT)]) (λjT=>.inl jT=Fo) ?_ (λjT ym=>?_)
 refine bf ?_
 refine bK yl (λuF=>AS.cu 39 [(0,.sv (slc 1 (List.map (eS 4 eQ) x0))),(4,ah ff),(5,.row 306),(6,ah uF.1)] [] [(306,TR 23 1 (eS 4 eQ) uF.2)]) (cz (λi=>bif Nat.beq i 306 then 304 else i) Y Y Y Y Y ⟨.sv aq,.sv aq,.row Y,.sv aq,ak⟩ trivial ⟨⟨_,Y,cg.refl _⟩,ak⟩ (λi hi=>by rw[bV (show i≠306 by omega)];rfl)) (λuF ZG ZH h yn uN=>?_)
 obtain⟨KD,nY⟩:=uF
 try dsimp only
 refine qq<|sr<|mv Y<|mv Y<|lE h λdV jy h=>ls _ Y Y jy<|dn ?_
 cases dV
 refine cF<|bP<|aW.x<|aW.x<|bF.x<|aW.n ?_
 obtain rfl:=O (F h)
 exact⟨nY,uN _ Y,wR []⟩
 refine cT<|bu<|aW.n<|qq<|bf<|sr<|mv Y<|mv Y<|mv Y<|bE (V h) λgh kA h=>cl (th kA) ⟨Y,Y,ak⟩ ?_
 obtain⟨⟨X4,akE,agT⟩,oz,h⟩:=bS h
 refine cl (JF oz) ⟨Y,Y,ak⟩<|mv Y<|ex Y Y<|ex Y Y<|ex Y Y<|ag Y<|ag Y<|ag Y<|dn<|qq<|qq ?_
 refine bL h (λGQ=>AS.cu 39 [(0,.sv (slc 1 (List.map (eS 4 eQ) x0))),(4,ah ff),(5,.row 306),(6,ah KD),(7,.sv (slc 4 (List.map eQ X4))),(32,ai GQ)] [] [(306,TR 23 1 (eS 4 eQ) nY)]) (λh=>?_) (λSc h=>?_)
 refine aX<|mv Y<|lE h λir oU h=>ne _ Y Y (Le (p:=agT) (q:=0) oU)<|mv Y<|bE h λX5 dH h=>?_
 cases ir
 refine gm Y<|lE (F dH) λuL zJ dH=>gn Y zJ<|lE dH λnq xA dH=>gg _ Y Y xA ?_
 obtain rfl:=O dH
 exact pF Y<|dn<|⟨nq,h,wR []⟩
 obtain rfl:=O (V dH)
 exact ww<|ww<|ww<|pT Y<|dn<|⟨true,h,wR []⟩
 try dsimp only
 refine aW.n ?_
 cases Sc
 refine fs<|aX<|mo (s:=.row _) Y<|mv Y<|bl (l:=[X4]) (e:=(eS 4 eQ)) (.one Y (.nil)) Y Y Y Y Y Y<|bE (F h) λnE xo h=>aR (k:=[X4]) (e:=(eS 4 eQ)) Y Y Y xo<|an (s:=.row _) Y<|RT.done<|bF.n<|aW.n<|aX<|mv Y<|lE h λeX kf h=>ad _ Y Y kf<|ag Y<|RT.done ?_
 obtain rfl:=O h
 exact aW.n ⟨(eX,nE),yn _ Y,cz (λi=>bif Nat.beq i 306 then 36 else i) Y Y Y Y Y ⟨.sv aq,.sv aq,.row Y,.sv aq,ak⟩ trivial ⟨⟨_,Y,cg.refl _⟩,ak⟩ (λi hi=>by rw[bV (show i≠306 by omega)];rfl)⟩
 refine cT<|sr<|aI Y (aB (n:=1) (e:=(eS 4 eQ)))<|ag Y<|dn<|aY<|aW.r<|bF.r<|aW.r ?_
 obtain rfl:=O (V h)
 have XE:=uN _ Y
 subst XE
 refine aW.r<|bF.r<|aW.r<|aW.r ?_
 obtain rfl:=O oV
 exact R2 Y Y
 subst ym
 try dsimp only
 refine aW.n<|qq<|bU (cP (i:=306) (E1:=23) (n:=1) (e:=(eS 4 eQ)) (l:=jT) Y)<|aX<|mv Y<|bE oV λuK AX oV=>cl (KO AX) ⟨Y,ak⟩<|ag Y<|ag Y<|dn<|aY ?_
 obtain rfl:=O oV
 exact R2 Y Y
theorem mL{x0:Lr}{r:List (List Qr)}(h:fH x0=some r):Pure af 112 [.agg (Om x0)] (slc 1 (List.map (eS 4 eQ) r)):=by
 obtain⟨bn,bp,bB,bD⟩:=x0
 refine bj Tryz.func112 Y (ae Y) (λc9 M vs hvs=>?_)
 unfold fH at h
 refine sr<|bx Y<|aI Y (aB (n:=1) (e:=(eS 4 eQ)))<|dn<|qq<|aZ mixed<|fa Y Y<|lV Y Y Y<|fa Y Y<|lV Y Y Y<|lE h λx7 h7 h=>ln Y h7<|fa Y Y<|lV Y Y Y<|bE h λdG fY h=>cl (Nh fY) ⟨Y,Y,Y,ak⟩<|fa Y Y<|lV Y Y Y<|lE h λeY iX h=>ln Y iX ?_
 refine bE h λdV jy h=>cl (KN jy) ⟨Y,ak⟩<|bE h λdN gH h=>cl (He gH) ⟨Y,Y,ak⟩<|ag Y ?_
 refine RT.done ⟨by kernel_rfl,?_⟩
 refine aW.n<|aY ?_
 obtain rfl:=O h
 exact R1 Y
set_option maxHeartbeats 4000000 in
theorem BA{x0:Lr}{x1:Int}{r:List Qr}(h:jG x0 x1=some r):Pure af 76 [.agg (Om x0),ax x1] (slc 4 (List.map eQ r)):=by
 obtain⟨bn,bp,bB,bD⟩:=x0
 refine bj Tryz.func76 Y (ae Y) (λc9 M vs hvs=>?_)
 unfold jG at h
 refine sr<|bx Y<|aI Y (aB (n:=4) (e:=eQ))<|dn<|sr<|ag Y<|dn<|bU (cY 5 304 43 4 Y Y T)<|qq<|sr<|ag Y<|dn<|bE h λe6 uO je=>?_
 refine bJ (λ(dr:(List Qr))=>AS.cu 47 [(1,ah x1),(2,.ptr 2 0),(5,.row 306)] [(2,⟨25,[ah bn,.sv (slc 1 (List.map (eS 4 eQ) bp)),.sv (slc 1 (List.map (eS 4 eQ) bB)),.sv (slc 4 (List.map eQ bD))]⟩)] [(306,TR 43 4 eQ dr)]) (λdr=>dr=e6) ?_ (λdr uP=>?_)
 refine bf ?_
 refine bK uO (λs6=>AS.cu 47 [(1,ah x1),(2,.ptr 2 0),(5,.row 306),(6,ah s6.1)] [(2,⟨25,[ah bn,.sv (slc 1 (List.map (eS 4 eQ) bp)),.sv (slc 1 (List.map (eS 4 eQ) bB)),.sv (slc 4 (List.map eQ bD))]⟩)] [(306,TR 43 4 eQ s6.2)]) (cz (λi=>bif Nat.beq i 306 then 304 else i) Y Y Y Y Y ⟨.sv aq,.ptr,.row Y,.sv aq,ak⟩ ⟨⟨_,Y,⟨.sv aq,.sv aq,.sv aq,.sv aq,ak⟩⟩,ak⟩ ⟨⟨_,Y,cg.refl _⟩,ak⟩ (λi hi=>by rw[bV (show i≠306 by omega)];rfl)) (λs6 y6 G6 h uQ pE=>?_)
 obtain⟨l7,gB⟩:=s6
 try dsimp only
 refine qq<|sr<|mv Y<|fa Y Y<|lV Y Y Y<|lE h λc8 fI h=>ln Y fI<|lE h λeY iX h=>ls _ Y Y iX<|dn ?_
 cases eY
 refine cF<|bP<|aW.x<|aW.x<|bF.x<|aW.n ?_
 obtain rfl:=O (F h)
 exact⟨gB,pE _ Y,wR []⟩
 refine cT<|bu<|aW.n<|qq<|bf<|aX<|mo (s:=.row _) Y<|fa Y Y<|lV Y Y Y<|mv Y<|mv Y ?_
 obtain⟨⟨⟨lW,lX⟩,⟨nB,nC⟩⟩,kA,h⟩:=bS (V h)
 refine cl (jF kA) ⟨Y,Y,Y,ak⟩<|bl (l:=[⟨⟨lW,lX⟩,⟨nB,nC⟩⟩]) (e:=eQ) (.agg Y (.nil)) Y Y Y Y Y Y<|bE h λgU oP h=>aR (k:=[⟨⟨lW,lX⟩,⟨nB,nC⟩⟩]) (e:=eQ) Y Y Y oP<|an (s:=.row _) Y<|RT.done<|bF.n<|aW.n<|aX<|mv Y<|lE h λdN gH h=>ad _ Y Y gH<|ag Y<|RT.done ?_
 obtain rfl:=O h
 exact aW.n ⟨(dN,gU),uQ _ Y,cz (λi=>bif Nat.beq i 306 then 23 else i) Y Y Y Y Y ⟨.sv aq,.ptr,.row Y,.sv aq,ak⟩ ⟨⟨_,Y,⟨.sv aq,.sv aq,.sv aq,.sv aq,ak⟩⟩,ak⟩ ⟨⟨_,Y,cg.refl _⟩,ak⟩ (λi hi=>by rw[bV (show i≠306 by omega)];rfl)⟩
 subst uP
 try dsimp only
 refine aW.n<|qq<|sr<|ag Y<|dn<|bE je λe14 aq2 P3=>?_
 refine bJ (λ(xQ:(List Qr))=>AS.cu 47 [(1,ah x1),(2,.ptr 2 0),(5,.row 309)] [(2,⟨25,[ah bn,.sv (slc 1 (List.map (eS 4 eQ) bp)),.sv (slc 1 (List.map (eS 4 eQ) bB)),.sv (slc 4 (List.map eQ bD))]⟩)] [(309,TR 43 4 eQ xQ)]) (λxQ=>xQ=e14) ?_ (λxQ aq3=>?_)
 refine bf ?_
 refine bK aq2 (λs14=>AS.cu 47 [(1,ah x1),(2,.ptr 2 0),(5,.row 309),(7,ah s14.1)] [(2,⟨25,[ah bn,.sv (slc 1 (List.map (eS 4 eQ) bp)),.sv (slc 1 (List.map (eS 4 eQ) bB)),.sv (slc 4 (List.map eQ bD))]⟩)] [(309,TR 43 4 eQ s14.2)]) (cz (λi=>bif Nat.beq i 309 then 306 else i) Y Y Y Y Y ⟨.sv aq,.ptr,.row Y,.sv aq,ak⟩ ⟨⟨_,Y,⟨.sv aq,.sv aq,.sv aq,.sv aq,ak⟩⟩,ak⟩ ⟨⟨_,Y,cg.refl _⟩,ak⟩ (λi hi=>by rw[bV (show i≠309 by omega)];rfl)) (λs14 y14 G14 h aq4 aq5=>?_)
 obtain⟨mm,Ew⟩:=s14
 try dsimp only
 refine qq<|sr<|mv Y<|fa Y Y<|lV Y Y Y<|lE h λir oU h=>ls _ Y Y oU<|dn ?_
 cases ir
 refine cF<|bP<|aW.x<|aW.x<|bF.x<|aW.n ?_
 obtain rfl:=O (F h)
 exact⟨Ew,aq5 _ Y,wR []⟩
 refine cT<|bu<|aW.n<|qq<|bf<|sr<|bI (cs:=[_,_,_,_]) (cs':=[ay false,au,ay false,au]) (.nil) ⟨aq,aB,aq,aB,ak⟩<|al (cs:=[ay false,au,ay false,au]) (by exact⟨aq,aB,aq,aB,ak⟩) Y<|so Y Y Y<|dn<|qq<|sr<|mv Y<|mv Y<|lE (V h) λou xk h=>?_
 refine eq _ Y Y (xj (p:=mm) (q:=x1) xk)<|dn ?_
 refine bL h (λS7=>AS.cu 47 [(1,ah x1),(2,.ptr 2 0),(5,.row 309),(7,ah mm),(8,.ptr 8 0)] [(8,⟨43,[ai S7.1,.sv (slc 1 (List.map bh S7.2.1)),ai S7.2.2.1,.sv (slc 1 (List.map bh S7.2.2.2))]⟩),(2,⟨25,[ah bn,.sv (slc 1 (List.map (eS 4 eQ) bp)),.sv (slc 1 (List.map (eS 4 eQ) bB)),.sv (slc 4 (List.map eQ bD))]⟩)] [(309,TR 43 4 eQ Ew)]) (λh=>?_) (λS7 h=>?_)
 cases ou
 exact fs<|⟨(false,[],false,[]),(F h),wR []⟩
 refine cT<|aX ?_
 obtain⟨⟨⟨qk,ql⟩,⟨vi,vm⟩⟩,zH,h⟩:=bS (V h)
 exact cl (mJ zH) ⟨Y,ak⟩<|so Y Y Y<|dn<|⟨(qk,ql,vi,vm),h,wR []⟩
 obtain⟨HD,HE,HF,HG⟩:=S7
 try dsimp only
 refine aW.n<|aX<|mo (s:=.row _) Y<|ld Y Y (.k4 Y Y Y Y)<|bl (l:=[⟨⟨HD,HE⟩,⟨HF,HG⟩⟩]) (e:=eQ) (.agg Y (.nil)) Y Y Y Y Y Y<|bE h λuK AX h=>aR (k:=[⟨⟨HD,HE⟩,⟨HF,HG⟩⟩]) (e:=eQ) Y Y Y AX<|an (s:=.row _) Y<|RT.done<|bF.n<|aW.n<|aX<|mv Y<|lE h λiM oM h=>ad _ Y Y oM<|ag Y<|RT.done ?_
 obtain rfl:=O h
 exact aW.n ⟨(iM,uK),aq4 _ Y,cz (λi=>bif Nat.beq i 309 then 38 else i) Y Y Y Y Y ⟨.sv aq,.ptr,.row Y,.sv aq,ak⟩ ⟨⟨_,Y,⟨.sv aq,.sv aq,.sv aq,.sv aq,ak⟩⟩,ak⟩ ⟨⟨_,Y,cg.refl _⟩,ak⟩ (λi hi=>by rw[bV (show i≠309 by omega)];rfl)⟩
 subst aq3
 try dsimp only
 refine aW.n<|qq<|sr<|mv Y<|fa Y Y<|lV Y Y Y<|lE P3 λpC Ay P3=>ge _ Y Y Ay<|dn ?_
 cases pC
 refine fs<|sr<|mo (s:=.row _) Y<|an (s:=.row _) Y<|dn<|bU (cP (i:=309) (E1:=43) (n:=4) (e:=eQ) (l:=xQ) Y)<|aY ?_
 obtain rfl:=O (F P3)
 exact R1 Y
 refine cT<|sr<|mo (s:=.row _) Y<|lE (V P3) λr9 Az P3=>lL Y Y Az<|bE P3 λyf GU P3=>cl (th GU) ⟨Y,Y,ak⟩<|ag Y<|dn<|aY<|aW.r ?_
 obtain rfl:=O P3
 exact R1 Y
theorem BB{x0:Rt}{r:List (List Qr)}(h:kZ x0=some r):Pure af 81 [ref (XR x0)] (slc 1 (List.map (eS 4 eQ) r)):=by
 obtain⟨⟨bn,bp,bB,bD⟩,cC⟩:=x0
 refine bj Tryz.func81 Y (ae Y) (λc9 M vs hvs=>?_)
 unfold kZ at h
 refine sr<|aI Y (aB (n:=1) (e:=(eS 4 eQ)))<|dn<|sr<|mv Y<|RT.cq .none Y T<|RT.bQ .none Y T Y<|RT.gJ (cs:=[_,_,_,_]) .none Y T Y Y<|bE h λc8 fI h=>cl (mL fI) ⟨Y,ak⟩<|ag Y<|dn<|sr<|ag Y<|dn<|bU (cY 4 304 23 1 Y Y T)<|qq<|sr<|ag Y<|dn<|bE h λBn sK fC=>?_
 refine bJ (λ(ee:(List (List Qr)))=>AS.cu 46 [(4,.row 311)] [] [(311,TR 23 1 (eS 4 eQ) ee)]) (λee=>ee=Bn) ?_ (λee ry=>?_)
 refine bf ?_
 refine bK sK (λnA=>AS.cu 46 [(0,.sv (ref [ax bn,slc 1 (List.map (eS 4 eQ) bp),slc 1 (List.map (eS 4 eQ) bB),slc 4 (List.map eQ bD),slc 1 (List.map bH cC)])),(3,.sv (slc 1 (List.map (eS 4 eQ) c8))),(4,.row 311),(5,ah nA.1)] [] [(311,TR 23 1 (eS 4 eQ) nA.2)]) (cz (λi=>bif Nat.beq i 311 then 304 else i) Y Y Y Y Y ⟨.sv aq,.sv aq,.row Y,.sv aq,ak⟩ trivial ⟨⟨_,Y,cg.refl _⟩,ak⟩ (λi hi=>by rw[bV (show i≠311 by omega)];rfl)) (λnA Vr Vs h uS rz=>?_)
 obtain⟨sL,hG⟩:=nA
 try dsimp only
 refine qq<|sr<|mv Y<|mv Y<|lE h λdN gH h=>ln Y gH<|lE h λeX kf h=>ls _ Y Y kf<|dn ?_
 cases eX
 refine cF<|bP<|aW.x<|aW.x<|bF.x<|aW.n ?_
 obtain rfl:=O (F h)
 exact⟨hG,rz _ Y,wR []⟩
 refine cT<|bu<|aW.n<|qq<|bf<|sr<|ag Y<|dn<|bU (cY 6 321 43 4 Y Y T)<|qq<|sr<|ag Y<|dn<|bE (V h) λXy Jh mI=>?_
 refine bJ (λ(dD:(List Qr))=>AS.cu 46 [(0,.sv (ref [ax bn,slc 1 (List.map (eS 4 eQ) bp),slc 1 (List.map (eS 4 eQ) bB),slc 4 (List.map eQ bD),slc 1 (List.map bH cC)])),(3,.sv (slc 1 (List.map (eS 4 eQ) c8))),(4,.row 311),(5,ah sL),(6,.row 323)] [] [(311,TR 23 1 (eS 4 eQ) hG),(323,TR 43 4 eQ dD)]) (λdD=>dD=Xy) ?_ (λdD Ji=>?_)
 refine bf ?_
 refine bK Jh (λyq=>AS.cu 46 [(0,.sv (ref [ax bn,slc 1 (List.map (eS 4 eQ) bp),slc 1 (List.map (eS 4 eQ) bB),slc 4 (List.map eQ bD),slc 1 (List.map bH cC)])),(3,.sv (slc 1 (List.map (eS 4 eQ) c8))),(4,.row 311),(5,ah sL),(6,.row 323),(7,ah yq.1)] [] [(311,TR 23 1 (eS 4 eQ) hG),(323,TR 43 4 eQ yq.2)]) (cz (λi=>bif Nat.beq i 323 then 321 else i) Y Y Y Y Y ⟨.sv aq,.sv aq,.row Y,.sv aq,.row Y,.sv aq,ak⟩ trivial ⟨⟨_,Y,cg.refl _⟩,⟨_,Y,cg.refl _⟩,ak⟩ (λi hi=>by rw[bV (show i≠323 by omega)];rfl)) (λyq y22 G22 h Jj Jk=>?_)
 obtain⟨nZ,jq⟩:=yq
 try dsimp only
 refine qq<|sr<|mv Y<|mv Y<|RT.cq .none Y T<|RT.bQ .none Y T Y<|lr Y Y<|lE h λgV nF h=>ln Y nF<|lE h λke nN h=>ls _ Y Y nN<|dn ?_
 cases ke
 refine cF<|bP<|aW.x<|aW.x<|bF.x<|aW.n ?_
 obtain rfl:=O (F h)
 exact⟨jq,Jk _ Y,wR []⟩
 refine cT<|bu<|aW.n<|qq<|bf<|aX<|mo (s:=.row _) Y<|mv Y<|mv Y<|mv Y<|RT.cq .none Y T<|RT.bQ .none Y T Y<|lr Y Y<|mv Y<|bE (V h) λnE xo h=>ix Y Y xo<|lr Y Y ?_
 obtain⟨⟨⟨tQ,tW⟩,⟨xR,xS⟩⟩,AX,h⟩:=bS h
 refine cl (jF AX) ⟨Y,Y,Y,ak⟩<|bl (l:=[⟨⟨tQ,tW⟩,⟨xR,xS⟩⟩]) (e:=eQ) (.agg Y (.nil)) Y Y Y Y Y Y<|bE h λlj sZ h=>aR (k:=[⟨⟨tQ,tW⟩,⟨xR,xS⟩⟩]) (e:=eQ) Y Y Y sZ<|an (s:=.row _) Y<|RT.done<|bF.n<|aW.n<|aX<|mv Y<|lE h λir oU h=>ad _ Y Y oU<|ag Y<|RT.done ?_
 obtain rfl:=O h
 exact aW.n ⟨(ir,lj),Jj _ Y,cz (λi=>bif Nat.beq i 323 then 40 else i) Y Y Y Y Y ⟨.sv aq,.sv aq,.row Y,.sv aq,.row Y,.sv aq,ak⟩ trivial ⟨⟨_,Y,cg.refl _⟩,⟨_,Y,cg.refl _⟩,ak⟩ (λi hi=>by rw[bV (show i≠323 by omega)];rfl)⟩
 subst Ji
 try dsimp only
 refine aW.n<|bU (cP (i:=323) (E1:=43) (n:=4) (e:=eQ) (l:=dD) Y)<|aX<|mo (s:=.row _) Y<|mv Y<|bl (l:=[dD]) (e:=(eS 4 eQ)) (.one Y (.nil)) Y Y Y Y Y Y<|bE mI λr9 Az mI=>aR (k:=[dD]) (e:=(eS 4 eQ)) Y Y Y Az<|an (s:=.row _) Y<|RT.done<|bF.n<|aW.n<|aX<|mv Y<|lE mI λeE jd mI=>ad _ Y Y jd<|ag Y<|RT.done ?_
 obtain rfl:=O mI
 exact aW.n ⟨(eE,r9),uS _ Y,cz (λi=>bif Nat.beq i 311 then 44 else i) Y Y Y Y Y ⟨.sv aq,.sv aq,.row Y,.sv aq,ak⟩ trivial ⟨⟨_,Y,cg.refl _⟩,ak⟩ (λi hi=>by rw[bV (show i≠311 by omega)];rfl)⟩
 subst ry
 try dsimp only
 refine aW.n<|sr<|mo (s:=.row _) Y<|an (s:=.row _) Y<|dn<|bU (cP (i:=311) (E1:=23) (n:=1) (e:=(eS 4 eQ)) (l:=ee) Y)<|aY ?_
 obtain rfl:=O fC
 exact R1 Y
theorem Ey{x0:Rt}{r:List (List Qr)}(h:iJ x0=some r):Pure af 62 [ref (XR x0)] (slc 1 (List.map (eS 4 eQ) r)):=by
 obtain⟨⟨bn,bp,bB,bD⟩,cC⟩:=x0
 refine bj Tryz.func62 Y (ae Y) (λc9 M vs hvs=>?_)
 unfold iJ at h
 refine sr<|aI Y (aB (n:=1) (e:=(eS 4 eQ)))<|dn<|sr<|mv Y<|bE h λx7 h7 h=>cl (BB h7) ⟨Y,ak⟩ ?_
 obtain⟨⟨Vo,ZK⟩,h8,h⟩:=bS h
 refine cl (sO h8) ⟨Y,ak⟩<|mv Y<|ex Y Y<|ex Y Y<|ag Y<|ag Y<|dn<|sr<|mv Y<|mv Y<|RT.cq .none Y T<|RT.bQ .none Y T Y<|RT.gJ (cs:=[_,_,_,_]) .none Y T Y Y<|bE h λeX kf h=>cl (mL kf) ⟨Y,ak⟩<|bE h λdR jK h=>cl (Ex jK) ⟨Y,Y,ak⟩<|ag Y ?_
 refine dn<|aY ?_
 obtain rfl:=O h
 exact R1 Y
theorem xT{x0:Rt}{r:List Qr}(h:iZ x0=some r):Pure af 67 [ref (XR x0)] (slc 4 (List.map eQ r)):=by
 obtain⟨⟨bn,bp,bB,bD⟩,cC⟩:=x0
 refine bj Tryz.func67 Y (ae Y) (λc9 M vs hvs=>?_)
 unfold iZ at h
 refine sr<|aI Y (aB (n:=4) (e:=eQ))<|dn<|sr<|mv Y<|bE h λx7 h7 h=>cl (BB h7) ⟨Y,ak⟩ ?_
 obtain⟨⟨Vo,ZK⟩,h8,h⟩:=bS h
 refine cl (sO h8) ⟨Y,ak⟩<|mv Y<|ex Y Y<|ex Y Y<|ag Y<|ag Y<|dn<|sr<|mv Y<|mv Y<|RT.cq .none Y T<|RT.bQ .none Y T Y<|RT.bQ .none Y T Y<|lr Y Y<|bE h λdR jK h=>cl (JD jK) ⟨Y,Y,ak⟩<|ag Y<|dn<|aY ?_
 obtain rfl:=O h
 exact R1 Y
theorem Gw{x0:Rt}{x1:List Qr}{r:List Qr}(h:qa x0 x1=some r):Pure af 75 [ref (XR x0),slc 4 (List.map eQ x1)] (slc 4 (List.map eQ r)):=by
 obtain⟨⟨bn,bp,bB,bD⟩,cC⟩:=x0
 refine bj Tryz.func75 Y (ae Y) (λc9 M vs hvs=>?_)
 unfold qa at h
 refine sr<|aI Y (aB (n:=4) (e:=eQ))<|dn<|qq<|aZ mixed<|mv Y<|RT.cq .none Y T<|RT.bQ .none Y T Y<|RT.bQ .none Y T Y<|lr Y Y<|lE h λc8 fI h=>ln Y fI<|mv Y<|RT.cq .none Y T<|RT.bQ .none Y T Y<|RT.bQ .none Y T Y<|lr Y Y<|lE h λeE jd h=>ad _ Y Y jd<|bE h λjb lZ h=>cl (th lZ) ⟨Y,Y,ak⟩ ?_
 refine ag Y ?_
 refine RT.done ⟨by kernel_rfl,?_⟩
 refine aW.n<|qq<|sr<|ag Y<|dn<|bE h λe6 uO je=>?_
 refine bJ (λ(wm:(List Qr))=>AS.cu 47 [(5,.sv (slc 4 (List.map eQ wm)))] [] []) (λwm=>wm=e6) ?_ (λwm uP=>?_)
 refine bf ?_
 refine bK uO (λs6=>AS.cu 47 [(0,.sv (ref [ax bn,slc 1 (List.map (eS 4 eQ) bp),slc 1 (List.map (eS 4 eQ) bB),slc 4 (List.map eQ bD),slc 1 (List.map bH cC)])),(1,.sv (slc 4 (List.map eQ x1))),(5,.sv (slc 4 (List.map eQ s6.1))),(6,ah s6.2)] [] []) (wR []) (λs6 y6 G6 h uQ pE=>?_)
 obtain⟨iA,l7⟩:=s6
 try dsimp only
 refine qq<|sr<|mv Y<|mv Y<|RT.cq .none Y T<|RT.bQ .none Y T Y<|lr Y Y<|lE h λke nN h=>ln Y nN<|lE h λji qS h=>ls _ Y Y qS<|dn ?_
 cases ji
 refine cF<|bP<|aW.x<|aW.x<|bF.x<|aW.n ?_
 obtain rfl:=O (F h)
 exact⟨iA,pE _ Y,wR []⟩
 refine cT<|bu<|aW.n<|qq<|bf<|aZ mixed<|mv Y<|mv Y ?_
 obtain⟨⟨⟨OE,OF⟩,⟨ad1,ad2⟩⟩,xA,h⟩:=bS (V h)
 refine cl (me xA) ⟨Y,Y,ak⟩<|mv Y<|RT.cq .none Y T<|RT.bQ .none Y T Y<|RT.gJ (cs:=[_,_,_,_]) .none Y T Y Y<|mv Y<|RT.cq .none Y T<|RT.bQ .none Y T Y<|lr Y Y<|mv Y<|bE h λyJ GS h=>ix Y Y GS<|lr Y Y<|bE h λyB EV h=>cl (BA EV) ⟨Y,Y,ak⟩<|mv Y<|bE h λyf GU h=>cl (oF GU) ⟨Y,Y,Y,ak⟩ ?_
 refine ag Y ?_
 refine RT.done ⟨by kernel_rfl,?_⟩
 refine bF.n<|aW.n<|aX<|mv Y<|lE h λlp vz h=>ad _ Y Y vz<|ag Y<|RT.done ?_
 obtain rfl:=O h
 exact aW.n ⟨(yf,lp),uQ _ Y,wR []⟩
 subst uP
 try dsimp only
 refine aW.n<|sr<|mv Y<|ag Y<|dn<|aY ?_
 obtain rfl:=O je
 exact R1 Y
theorem oc{x0:Rt}{r:List (List Qr)}(h:eL x0=some r):Pure af 27 [ref (XR x0)] (slc 1 (List.map (eS 4 eQ) r)):=by
 obtain⟨⟨bn,bp,bB,bD⟩,cC⟩:=x0
 refine bj Tryz.func27 Y (ae Y) (λc9 M vs hvs=>?_)
 unfold eL at h
 refine sr<|aI Y (aB (n:=1) (e:=(eS 4 eQ)))<|dn<|sr<|mv Y<|bE h λx9 h9 h=>cl (Ey h9) ⟨Y,ak⟩<|ag Y<|dn<|sr<|ag Y<|dn<|bU (cY 4 304 23 1 Y Y T)<|qq<|sr<|ag Y<|dn<|bE h λBn sK fC=>?_
 refine bJ (λ(ee:(List (List Qr)))=>AS.cu 56 [(4,.row 311)] [] [(311,TR 23 1 (eS 4 eQ) ee)]) (λee=>ee=Bn) ?_ (λee ry=>?_)
 refine bf ?_
 refine bK sK (λnA=>AS.cu 56 [(0,.sv (ref [ax bn,slc 1 (List.map (eS 4 eQ) bp),slc 1 (List.map (eS 4 eQ) bB),slc 4 (List.map eQ bD),slc 1 (List.map bH cC)])),(3,.sv (slc 1 (List.map (eS 4 eQ) x9))),(4,.row 311),(5,ah nA.1)] [] [(311,TR 23 1 (eS 4 eQ) nA.2)]) (cz (λi=>bif Nat.beq i 311 then 304 else i) Y Y Y Y Y ⟨.sv aq,.sv aq,.row Y,.sv aq,ak⟩ trivial ⟨⟨_,Y,cg.refl _⟩,ak⟩ (λi hi=>by rw[bV (show i≠311 by omega)];rfl)) (λnA Vr Vs h uS rz=>?_)
 obtain⟨sL,hG⟩:=nA
 try dsimp only
 refine qq<|qq<|aZ mixed<|mv Y<|mv Y<|RT.cq .none Y T<|RT.bQ .none Y T Y<|RT.bQ .none Y T Y<|lr Y Y<|mv Y<|RT.cq .none Y T<|RT.bQ .none Y T Y<|RT.bQ .none Y T Y<|lr Y Y<|lE h λgh kA h=>ln Y kA<|lE h λiK oz h=>ad _ Y Y oz<|lE h λgU oP h=>ls _ Y Y oP ?_
 refine RT.done ⟨by kernel_rfl,?_⟩
 refine aW.n ?_
 cases gU
 refine cF<|bP<|aW.x<|aW.x<|bF.x<|aW.n ?_
 obtain rfl:=O (F h)
 exact⟨hG,rz _ Y,wR []⟩
 refine cT<|bu<|aW.n<|qq<|bf<|sr<|ag Y<|dn<|bU (cY 6 321 43 4 Y Y T)<|qq<|sr<|ag Y<|dn<|bE (V h) λXy Jh mI=>?_
 refine bJ (λ(dD:(List Qr))=>AS.cu 56 [(0,.sv (ref [ax bn,slc 1 (List.map (eS 4 eQ) bp),slc 1 (List.map (eS 4 eQ) bB),slc 4 (List.map eQ bD),slc 1 (List.map bH cC)])),(3,.sv (slc 1 (List.map (eS 4 eQ) x9))),(4,.row 311),(5,ah sL),(6,.row 323)] [] [(311,TR 23 1 (eS 4 eQ) hG),(323,TR 43 4 eQ dD)]) (λdD=>dD=Xy) ?_ (λdD Ji=>?_)
 refine bf ?_
 refine bK Jh (λyq=>AS.cu 56 [(0,.sv (ref [ax bn,slc 1 (List.map (eS 4 eQ) bp),slc 1 (List.map (eS 4 eQ) bB),slc 4 (List.map eQ bD),slc 1 (List.map bH cC)])),(3,.sv (slc 1 (List.map (eS 4 eQ) x9))),(4,.row 311),(5,ah sL),(6,.row 323),(7,ah yq.1)] [] [(311,TR 23 1 (eS 4 eQ) hG),(323,TR 43 4 eQ yq.2)]) (cz (λi=>bif Nat.beq i 323 then 321 else i) Y Y Y Y Y ⟨.sv aq,.sv aq,.row Y,.sv aq,.row Y,.sv aq,ak⟩ trivial ⟨⟨_,Y,cg.refl _⟩,⟨_,Y,cg.refl _⟩,ak⟩ (λi hi=>by rw[bV (show i≠323 by omega)];rfl)) (λyq y22 G22 h Jj Jk=>?_)
 obtain⟨nZ,jq⟩:=yq
 try dsimp only
 refine qq<|sr<|mv Y<|mv Y<|lE h λlp vz h=>ln Y vz<|lE h λiM oM h=>ls _ Y Y oM<|dn ?_
 cases iM
 refine cF<|bP<|aW.x<|aW.x<|bF.x<|aW.n ?_
 obtain rfl:=O (F h)
 exact⟨jq,Jk _ Y,wR []⟩
 refine cT<|bu<|aW.n<|qq<|bf<|aX<|mo (s:=.row _) Y<|mv Y<|mv Y<|bE (V h) λpB yN h=>ix Y Y yN<|lr Y Y<|mv Y ?_
 obtain⟨⟨⟨tQ,tW⟩,⟨xR,xS⟩⟩,AX,h⟩:=bS h
 refine ix Y Y AX<|RT.gJ (cs:=[_,_,_,_]) .none Y T Y Y<|bl (l:=[⟨⟨tQ,tW⟩,⟨xR,xS⟩⟩]) (e:=eQ) (.agg Y (.nil)) Y Y Y Y Y Y<|bE h λyJ GS h=>aR (k:=[⟨⟨tQ,tW⟩,⟨xR,xS⟩⟩]) (e:=eQ) Y Y Y GS<|an (s:=.row _) Y<|RT.done<|bF.n<|aW.n<|aX<|mv Y<|lE h λnq xA h=>ad _ Y Y xA<|ag Y<|RT.done ?_
 obtain rfl:=O h
 exact aW.n ⟨(nq,yJ),Jj _ Y,cz (λi=>bif Nat.beq i 323 then 41 else i) Y Y Y Y Y ⟨.sv aq,.sv aq,.row Y,.sv aq,.row Y,.sv aq,ak⟩ trivial ⟨⟨_,Y,cg.refl _⟩,⟨_,Y,cg.refl _⟩,ak⟩ (λi hi=>by rw[bV (show i≠323 by omega)];rfl)⟩
 subst Ji
 try dsimp only
 refine aW.n<|bU (cP (i:=323) (E1:=43) (n:=4) (e:=eQ) (l:=dD) Y)<|aZ mixed<|mo (s:=.row _) Y<|mv Y<|mv Y<|bE mI λyf GU mI=>cl (Gw GU) ⟨Y,Y,ak⟩<|mv Y<|RT.cq .none Y T<|RT.bQ .none Y T Y<|RT.gJ (cs:=[_,_,_,_]) .none Y T Y Y<|mv Y<|bE mI λBU IA mI=>cl (BA IA) ⟨Y,Y,ak⟩<|bE mI λAA GV mI=>cl (Nd GV) ⟨Y,Y,ak⟩ ?_
 refine bl (l:=[AA]) (e:=(eS 4 eQ)) (.one Y (.nil)) Y Y Y Y Y Y<|bE mI λGP QF mI=>aR (k:=[AA]) (e:=(eS 4 eQ)) Y Y Y QF<|an (s:=.row _) Y ?_
 refine RT.done ⟨by kernel_rfl,?_⟩
 refine bF.n<|aW.n<|aX<|mv Y<|lE mI λke nN mI=>ad _ Y Y nN<|ag Y<|RT.done ?_
 obtain rfl:=O mI
 exact aW.n ⟨(ke,GP),uS _ Y,cz (λi=>bif Nat.beq i 311 then 54 else i) Y Y Y Y Y ⟨.sv aq,.sv aq,.row Y,.sv aq,ak⟩ trivial ⟨⟨_,Y,cg.refl _⟩,ak⟩ (λi hi=>by rw[bV (show i≠311 by omega)];rfl)⟩
 subst ry
 try dsimp only
 refine aW.n<|sr<|mo (s:=.row _) Y<|an (s:=.row _) Y<|dn<|bU (cP (i:=311) (E1:=23) (n:=1) (e:=(eS 4 eQ)) (l:=ee) Y)<|aY ?_
 obtain rfl:=O fC
 exact R1 Y
theorem KS{x0:Rt}{r:List Qr}(h:rO x0=some r):Pure af 68 [ref (XR x0)] (slc 4 (List.map eQ r)):=by
 obtain⟨⟨bn,bp,bB,bD⟩,cC⟩:=x0
 refine bj Tryz.func68 Y (ae Y) (λc9 M vs hvs=>?_)
 unfold rO at h
 refine sr<|aI Y (aB (n:=4) (e:=eQ))<|dn<|sr<|mv Y<|mv Y<|bE h λx5 h5 h=>cl (xT h5) ⟨Y,ak⟩<|bE h λx6 h6 h=>cl (Gw h6) ⟨Y,Y,ak⟩<|ag Y<|dn<|aY ?_
 obtain rfl:=O h
 exact R1 Y
theorem FO{x0:Rt}{r:List Qr}(h:mU x0=some r):Pure af 69 [ref (XR x0)] (slc 4 (List.map eQ r)):=by
 obtain⟨⟨bn,bp,bB,bD⟩,cC⟩:=x0
 refine bj Tryz.func69 Y (ae Y) (λc9 M vs hvs=>?_)
 unfold mU at h
 refine sr<|aI Y (aB (n:=4) (e:=eQ))<|dn<|sr<|mv Y<|RT.cq .none Y T<|RT.bQ .none Y T Y<|RT.bQ .none Y T Y<|lr Y Y<|bE h λff kz h=>cN (wZ kz) ⟨Y,Y,ak⟩<|an (s:=.row _) Y<|dn<|sr<|mv Y<|bE h λeY iX h=>cl (xT iX) ⟨Y,ak⟩<|ag Y<|dn<|qq<|sr<|ag Y ?_
 refine dn<|bE h λFo yl oV=>?_
 refine bJ (λ(JC:(List Qr))=>AS.cu 50 [(3,.row 11)] [] [(11,TR 43 4 eQ JC)]) (λJC=>JC=Fo) ?_ (λJC ym=>?_)
 refine bf ?_
 refine bK yl (λuF=>AS.cu 50 [(0,.sv (ref [ax bn,slc 1 (List.map (eS 4 eQ) bp),slc 1 (List.map (eS 4 eQ) bB),slc 4 (List.map eQ bD),slc 1 (List.map bH cC)])),(3,.row 11),(4,.sv (slc 4 (List.map eQ eY))),(5,ah uF.1)] [] [(11,TR 43 4 eQ uF.2)]) (wR []) (λuF ZG ZH h yn uN=>?_)
 obtain⟨Dm,JB⟩:=uF
 try dsimp only
 refine qq<|sr<|mv Y<|mv Y<|RT.cq .none Y T<|RT.bQ .none Y T Y<|lr Y Y<|lE h λjb lZ h=>ln Y lZ<|lE h λgK oO h=>ls _ Y Y oO<|dn ?_
 cases gK
 refine cF<|bP<|aW.x<|aW.x<|bF.x<|aW.n ?_
 obtain rfl:=O (F h)
 exact⟨JB,uN _ Y,wR []⟩
 refine cT<|bu<|aW.n<|qq<|bf<|qq<|aZ mixed<|mv Y<|RT.cq .none Y T<|RT.bQ .none Y T Y<|lr Y Y<|mv Y<|bE (V h) λlp vz h=>ix Y Y vz<|lr Y Y<|mv Y<|RT.cq .none Y T<|RT.bQ .none Y T Y<|RT.bQ .none Y T Y<|lr Y Y<|lE h λpB yN h=>ls _ Y Y yN ?_
 refine RT.done ⟨by kernel_rfl,?_⟩
 refine aW.n ?_
 refine bL h (λGQ=>AS.cu 50 [(0,.sv (ref [ax bn,slc 1 (List.map (eS 4 eQ) bp),slc 1 (List.map (eS 4 eQ) bB),slc 4 (List.map eQ bD),slc 1 (List.map bH cC)])),(3,.row 11),(4,.sv (slc 4 (List.map eQ eY))),(5,ah Dm)] [] [(11,TR 43 4 eQ GQ)]) (λh=>?_) (λSd h=>?_)
 cases pB
 exact fs<|⟨JB,(F h),wR []⟩
 refine cT<|aZ mixed<|mo (s:=.row _) Y<|mv Y<|RT.cq .none Y T<|RT.bQ .none Y T Y<|lr Y Y<|mv Y<|bE (V h) λpC Ay h=>ix Y Y Ay<|lr Y Y<|mv Y<|mv Y ?_
 obtain⟨⟨⟨Jw,Jx⟩,⟨Jy,Jz⟩⟩,h46,h⟩:=bS h
 refine ix Y Y h46<|RT.gJ (cs:=[_,_,_,_]) .none Y T Y Y<|bE h λuM h48 h=>iR Y Y Y h48<|bE h λTi Xk h=>sA ⟨⟨Jw,Jx⟩,⟨Jy,Jz⟩⟩ Y Y Y Xk ?_
 refine RT.done ⟨by kernel_rfl,?_⟩
 exact aW.n<|⟨Ti,h,wR []⟩
 try dsimp only
 refine bF.n<|aW.n<|aX<|mv Y<|lE h λiK oz h=>ad _ Y Y oz<|ag Y<|RT.done ?_
 obtain rfl:=O h
 exact aW.n ⟨(iK,Sd),yn _ Y,wR []⟩
 subst ym
 try dsimp only
 refine aW.n<|sr<|mo (s:=.row _) Y<|an (s:=.row _) Y<|dn<|bU (cP (i:=11) (E1:=43) (n:=4) (e:=eQ) (l:=JC) Y)<|aY ?_
 obtain rfl:=O oV
 exact R1 Y
theorem FP{x0:Rt}{r:Bool}(h:mW x0=some r):Pure af 70 [ref (XR x0)] (ay r):=by
 obtain⟨⟨bn,bp,bB,bD⟩,cC⟩:=x0
 refine bj Tryz.func70 Y (ae Y) (λc9 M vs hvs=>?_)
 unfold mW at h
 refine sr<|ag Y<|dn<|sr<|mv Y<|bE h λx6 h6 h=>cl (xT h6) ⟨Y,ak⟩<|ag Y<|dn<|qq<|sr<|ag Y<|dn<|bE h λe6 uO je=>?_
 refine bJ (λ(uG:Unit)=>AS.cu 19 [] [] []) (λuG=>.inl uG=e6) ?_ (λuG uP=>?_)
 refine bf ?_
 refine bK uO (λs6=>AS.cu 19 [(3,.sv (slc 4 (List.map eQ x6))),(4,ah s6)] [] []) (wR []) (λnX y6 G6 h uQ pE=>?_)
 try dsimp only
 refine qq<|sr<|mv Y<|mv Y<|lE h λx9 h9 h=>ln Y h9<|lE h λdG fY h=>ls _ Y Y fY<|dn ?_
 cases dG
 refine cF<|bP<|aW.x<|aW.x<|bF.x<|aW.n ?_
 obtain rfl:=O (F h)
 exact⟨(),pE _ Y,wR []⟩
 refine cT<|bu<|aW.n<|qq<|bf<|sr<|mv Y<|mv Y ?_
 obtain⟨⟨⟨jQ,jR⟩,⟨xI,xJ⟩⟩,gH,h⟩:=bS (V h)
 refine ix Y Y gH<|RT.gJ (cs:=[_,_,_,_]) .none Y T Y Y<|bE h λdR jK h=>cl (oY jK) ⟨Y,ak⟩<|lE h λeE jd h=>ls _ Y Y jd<|dn ?_
 cases eE
 refine cF<|bu<|bF.n<|aW.n<|aX<|mv Y<|lE (F h) λc8 fI h=>ad _ Y Y fI<|ag Y<|RT.done ?_
 obtain rfl:=O h
 exact aW.n ⟨c8,uQ _ Y,wR []⟩
 refine cT<|sr<|ag Y<|dn<|aY<|bF.r<|aW.r ?_
 obtain rfl:=O (V h)
 have GR:=pE _ Y
 subst GR
 refine aW.r<|bF.r<|aW.r<|aW.r ?_
 obtain rfl:=O je
 exact R1 Y
 subst uP
 try dsimp only
 refine aW.n<|sr<|ag Y<|dn<|aY ?_
 obtain rfl:=O je
 exact R1 Y
theorem Hf{x0:Rt}{r:Bool}(h:oa x0=some r):Pure af 71 [ref (XR x0)] (ay r):=by
 obtain⟨⟨bn,bp,bB,bD⟩,cC⟩:=x0
 refine bj Tryz.func71 Y (ae Y) (λc9 M vs hvs=>?_)
 unfold oa at h
 refine sr<|ag Y<|dn<|sr<|mv Y<|bE h λx6 h6 h=>cl (oc h6) ⟨Y,ak⟩<|ag Y<|dn<|qq<|sr<|ag Y<|dn<|bE h λe6 uO je=>?_
 refine bJ (λ(uG:Unit)=>AS.cu 19 [] [] []) (λuG=>.inl uG=e6) ?_ (λuG uP=>?_)
 refine bf ?_
 refine bK uO (λs6=>AS.cu 19 [(3,.sv (slc 1 (List.map (eS 4 eQ) x6))),(4,ah s6)] [] []) (wR []) (λnX y6 G6 h uQ pE=>?_)
 try dsimp only
 refine qq<|sr<|mv Y<|mv Y<|lE h λx9 h9 h=>ln Y h9<|lE h λdG fY h=>ls _ Y Y fY<|dn ?_
 cases dG
 refine cF<|bP<|aW.x<|aW.x<|bF.x<|aW.n ?_
 obtain rfl:=O (F h)
 exact⟨(),pE _ Y,wR []⟩
 refine cT<|bu<|aW.n<|qq<|bf<|sr<|mv Y<|mv Y<|bE (V h) λdN gH h=>ix Y Y gH<|lr Y Y<|bE h λdR jK h=>cl ((Ng jK).w (args':=[_,_]) ⟨aq,aB,ak⟩) ⟨Y,Y,ak⟩<|lE h λeE jd h=>ls _ Y Y jd<|dn ?_
 cases eE
 refine cF<|bu<|bF.n<|aW.n<|aX<|mv Y<|lE (F h) λc8 fI h=>ad _ Y Y fI<|ag Y<|RT.done ?_
 obtain rfl:=O h
 exact aW.n ⟨c8,uQ _ Y,wR []⟩
 refine cT<|sr<|ag Y<|dn<|aY<|bF.r<|aW.r ?_
 obtain rfl:=O (V h)
 have GR:=pE _ Y
 subst GR
 refine aW.r<|bF.r<|aW.r<|aW.r ?_
 obtain rfl:=O je
 exact R1 Y
 subst uP
 try dsimp only
 refine aW.n<|sr<|ag Y<|dn<|aY ?_
 obtain rfl:=O je
 exact R1 Y
theorem BC{x0:Tb}{x1:Rt}{r:Bool}(h:k7 x0 x1=some r):Pure af 23 [ref (xl x0),ref (XR x1)] (ay r):=by
 obtain⟨bn,bp,bB,bD,cC⟩:=x0
 obtain⟨⟨ct,cj,ek,ep⟩,KM⟩:=x1
 refine bj Tryz.func23 Y (ae Y) (λc9 M vs hvs=>?_)
 unfold k7 at h
 refine sr<|ag Y<|dn<|qq<|qq ?_
 refine bL h (λj12=>AS.cu 67 [(0,.sv (ref [ay bn,ax bp,slc 1 (List.map (eS 4 eQ) bB),slc 1 (List.map bH bD),slc 1 (List.map (eS 4 eQ) cC)])),(1,.sv (ref [ax ct,slc 1 (List.map (eS 4 eQ) cj),slc 1 (List.map (eS 4 eQ) ek),slc 4 (List.map eQ ep),slc 1 (List.map bH KM)])),(40,ai j12)] [] []) (λh=>?_) (λSe h=>?_)
 refine aZ mixed<|mv Y<|RT.W4 .none Y Y T<|mv Y<|bE h λX7 D2 h=>gm Y<|bE (F D2) λx9 h9 D2=>gc (MS h9) ⟨Y,ak⟩<|gm Y<|RT.cq (.some Y Y) Y T<|RT.bQ (.some Y Y) Y T Y<|gr Y Y<|bE D2 λdV jy D2=>gc (CH jy) ⟨Y,Y,ak⟩<|lE D2 λdN gH D2=>QC Y _ gH ?_
 obtain rfl:=O D2
 refine pF Y<|mv Y<|bE h λaq7 D3 h=>?_
 cases dN
 refine gm Y<|bE (F D3) λjb lZ D3=>gc (Px lZ) ⟨Y,ak⟩<|gm Y<|bE D3 λgh kA D3=>gc (Ey kA) ⟨Y,ak⟩<|bE D3 λiK oz D3=>gc (Gu oz) ⟨Y,Y,ak⟩<|lE D3 λgU oP D3=>QC Y _ oP ?_
 obtain rfl:=O D3
 refine pF Y<|mv Y<|bE h λaq8 D4 h=>?_
 cases gU
 refine gm Y<|bE (F D4) λir oU D4=>gc (I8 oU) ⟨Y,ak⟩<|gm Y<|bE D4 λiM oM D4=>gc (xT oM) ⟨Y,ak⟩<|bE D4 λuL zJ D4=>gc (uy zJ) ⟨Y,Y,ak⟩<|lE D4 λnq xA D4=>QC Y _ xA ?_
 obtain rfl:=O D4
 refine pF Y<|mv Y<|bE h λafP D5 h=>?_
 cases nq
 refine gm Y<|bE (F D5) λpB yN D5=>gc (Cj yN) ⟨Y,ak⟩<|gm Y<|bE D5 λpD A0 D5=>gc (oc A0) ⟨Y,ak⟩<|bE D5 λuK AX D5=>gc (Gu AX) ⟨Y,Y,ak⟩<|lE D5 λyj Fs D5=>QC Y _ Fs ?_
 obtain rfl:=O D5
 refine pF Y ?_
 refine RT.done ⟨by kernel_rfl,?_⟩
 exact aW.n<|⟨yj,h,wR []⟩
 obtain rfl:=O (V D5)
 refine ww<|ww<|ww<|ww<|ww<|ww<|pT Y ?_
 refine RT.done ⟨by kernel_rfl,?_⟩
 exact aW.n<|⟨true,h,wR []⟩
 obtain rfl:=O (V D4)
 refine ww<|ww<|ww<|ww<|ww<|ww<|pT Y<|mv Y<|bE h λaq9 WO h=>?_
 obtain rfl:=O (V WO)
 refine ww<|ww<|ww<|ww<|ww<|ww<|pT Y ?_
 refine RT.done ⟨by kernel_rfl,?_⟩
 exact aW.n<|⟨true,h,wR []⟩
 obtain rfl:=O (V D3)
 refine ww<|ww<|ww<|ww<|ww<|ww<|pT Y<|mv Y<|bE h λara WQ h=>?_
 obtain rfl:=O (V WQ)
 refine ww<|ww<|ww<|ww<|ww<|ww<|pT Y<|mv Y<|bE h λafQ WR h=>?_
 obtain rfl:=O (V WR)
 refine ww<|ww<|ww<|ww<|ww<|ww<|pT Y ?_
 refine RT.done ⟨by kernel_rfl,?_⟩
 exact aW.n<|⟨true,h,wR []⟩
 try dsimp only
 refine aW.n ?_
 cases Se
 refine fs<|qq ?_
 refine bL (F h) (λj22=>AS.cu 67 [(4,ai j22)] [] []) (λh=>?_) (λad3 h=>?_)
 refine aX<|mv Y<|bE h λpC Ay h=>cl (MT Ay) ⟨Y,ak⟩<|mv Y<|bE h λr9 Az h=>cl (KS Az) ⟨Y,ak⟩<|bE h λyf GU h=>cl (uy GU) ⟨Y,Y,ak⟩<|mv Y<|bE h λX6 mG h=>?_
 cases yf
 obtain rfl:=O (F mG)
 refine ww<|ww<|ww<|ww<|ww<|pF Y<|mv Y<|bE h λarb yQ h=>?_
 obtain rfl:=O (F yQ)
 refine ww<|ww<|ww<|ww<|ww<|pF Y<|mv Y<|bE h λarc C7 h=>?_
 obtain rfl:=O (F C7)
 exact ww<|ww<|ww<|ww<|ww<|pF Y<|ag Y<|dn<|⟨false,h,wR []⟩
 refine gm Y<|bE (V mG) λuM h48 mG=>gc (G2 h48) ⟨Y,ak⟩<|gm Y<|bE mG λAx Ks mG=>gc (FO Ks) ⟨Y,ak⟩<|bE mG λBU IA mG=>gc (uy IA) ⟨Y,Y,ak⟩ ?_
 obtain rfl:=O mG
 refine pT Y<|mv Y<|bE h λard nW h=>?_
 cases BU
 obtain rfl:=O (F nW)
 refine ww<|ww<|ww<|ww<|ww<|pF Y<|mv Y<|bE h λare Ja h=>?_
 obtain rfl:=O (F Ja)
 exact ww<|ww<|ww<|ww<|ww<|pF Y<|ag Y<|dn<|⟨false,h,wR []⟩
 refine gm Y<|bE (V nW) λCZ Ri nW=>gc (Ar Ri) ⟨Y,ak⟩<|gm Y<|bE nW λGf Rh nW=>gc (FP Rh) ⟨Y,ak⟩<|lE nW λQE h58 nW=>RT.ZV (.some Y Y) _ Y Y T h58 ?_
 obtain rfl:=O nW
 refine pT Y<|mv Y<|bE h λarf r6 h=>?_
 cases QE
 obtain rfl:=O (F r6)
 exact ww<|ww<|ww<|ww<|ww<|pF Y<|ag Y<|dn<|⟨false,h,wR []⟩
 refine gm Y<|bE (V r6) λx62 h62 r6=>gc (Bs h62) ⟨Y,ak⟩<|gm Y<|bE r6 λx64 h64 r6=>gc (Hf h64) ⟨Y,ak⟩<|lE r6 λS4 ZI r6=>RT.ZV (.some Y Y) _ Y Y T ZI ?_
 obtain rfl:=O r6
 exact pT Y<|ag Y<|dn<|⟨S4,h,wR []⟩
 try dsimp only
 refine aW.n<|aY ?_
 obtain rfl:=O h
 exact R1 Y
 refine cT<|sr<|ag Y<|dn<|aY<|aW.r ?_
 obtain rfl:=O (V h)
 exact R1 Y
end
end Go.Proofs.YtningmnklfpfjaaGreat
namespace Go.Fw
section
open Go.RowKit
def lcl(N:Nat)(s:SV):SV:=⟨λM v=>s.h (M.fr N) v,λhM h=>s.mono (Mem.Mq hM N) h⟩
theorem aa4{s:SV}:∀(N:Nat) (M:Mem) (v:Value),(lcl N s).h M v→s.h (M.fr N) v:=λ_ _ _ h=>h
def X8(N:Nat):List SV→List SV→Prop
 |[],[]=>True
 |s::l,t::k=>((∀M v,s.h M v→s.h (M.fr N) v)∧SV.imp s t)∧X8 N l k
 |_,_=>False
theorem X8.get{N:Nat}:∀{l k:List SV} {j:Nat} {t:SV},X8 N l k→k[j]? =some t→∃s,l[j]? =some s∧(∀M v,s.h M v→s.h (M.fr N) v)∧SV.imp s t
 |s::l,t::k,0,_,h,e=>by cases e;exact⟨s,rfl,h.1⟩
 |s::l,t::k,j+1,u,h,e=>X8.get (l:=l) (k:=k) (j:=j) h.2 e
 |[],[],_,_,_,e=>by simp at e
 |[],_::_,_,_,h,_=>h.elim
 |_::_,[],_,_,h,_=>h.elim
theorem Tv{E:Env}:∀{cs:List SV} {us:List Value},ei E (cs.map AV.sv) us→SV.fX E.M cs us
 |[],[],_=>trivial
 |_::_,_::_,h=>⟨h.1,Tv h.2⟩
 |[],_::_,h=>h.elim
 |_::_,[],h=>h.elim
theorem Nl{P:Program}{f:FuncId}{fn:Func}{code:Code}{N:Nat}{args:List SV}{T:TypeId}{cs cs':List SV}(hf:P.funcs[f]? =some fn)(hb:fn.body=some code)(hn:args.length≤fn.ntmps)(hs:X8 N cs cs')(hone:∀M vs,SV.fX M cs vs→∀v∈vs,v.oneCell'=true)
  (h:∀(w:World) (M:Mem) (vs:List Value),N≤w.heap.size→SV.fX M args vs→Ok P (Mg w M) code (AS.init fn.ntmps args) (λe S=>(e=.normal∨e=.ret)∧∃k:Nat,E7 P S fn.results.toList (.ptr k 0)∧S.b k=some ⟨T,cs.map AV.sv⟩)):dB P f N args (lcl N (ref cs')):=by
 intro M w vs hN hM hvs
 refine jv Y hf hb (nI hM hvs hn) (h w M vs hN hvs) ?_
 rintro S' E a w' ⟨k,hr,hB⟩ hh
 obtain⟨v,hv,hx⟩:=hr.run hh
 obtain rfl:v=.pointer (some ⟨E.β k,0,none⟩):=hx
 obtain⟨b1,b2,_,us,b4,b5⟩:=hh.bx k _ hB
 have hge:w.heap.size≤E.β k:=b1.elim id (λq=>q.elim)
 have E4:=Tv b5
 have h1:=hone _ _ E4
 refine⟨_,hv,_,λb o=>if b=E.β k then us[o]? else E.M b o,Y,λb o x e=>?_,λb o x e=>?_,λb o x e=>?_,⟨E.β k,0,Y,λj s hj=>?_⟩,⟨hh.os,hh.tape,hh.output,hh.grown,λq hq=>hh.frame q hq (λe=>e)⟩⟩
 ·have e2:=hh.m0 b o x e
  have:b≠E.β k:=by rintro rfl;rw[b2 o]at e2;cases e2
  simp[this,e2]
 ·by_cases hb:b=E.β k
  ·exact .inr (by omega)
  ·simp only[if_neg hb]at e
   rcases hh.gE b o x e with q|q|q
   ·exact .inl q
   ·exact .inr q
   ·exact q.elim
 ·by_cases hb:b=E.β k
  ·subst hb
   simp only[if_true]at e
   refine .of ?_ (h1 x (List.mem_of_getElem? e))
   simp[World.cell?,b4];simpa using e
  ·simp only[if_neg hb]at e;exact hh.ef b o x e
 ·obtain⟨s0,q1,q2,q3⟩:=hs.get hj
  obtain⟨y,q4,q5⟩:=E4.get q1
  have hle:E.M.le (λb o=>if b=E.β k then us[o]? else E.M b o):=λb o x e=>by
   have:b≠E.β k:=by rintro rfl;rw[b2 o]at e;cases e
   simp[this,e]
  refine⟨y,?_,h1 y (List.mem_of_getElem? q4),q3 _ _ (q2 _ _ (s0.mono hle q5))⟩
  show(if N≤E.β k then(if E.β k=E.β k then us[0+j]? else E.M (E.β k) (0+j))else none)=some y
  rw[if_pos (Nat.le_trans hN hge),if_pos Y,Nat.zero_add];exact q4
theorem pH{n:Nat}{rows:List (List SV)}:SV.imp (slc n rows) (slc n rows)∧∀M v,(slc n rows).h M v→v.oneCell'=true:=⟨aq,λM v h=>by
 rcases h with⟨g,rfl,_⟩|⟨b,o,c,rfl,_⟩
 ·rfl
 ·rfl⟩
section steps
variable {P:Program}{C:Ctx}{ops:Array Oper}{S:AS}{nd:Bool}{K:List Ac→AS→Prop}{rest:List Oper}{acc:List Ac}
variable {gd:Option (Nat×Bool)}{rg:List Nat}{d:Nat}{ty:TypeId}{pos:String}{aft:Array Edge}
theorem RT.X9(hg:Gd ops S gd rg){f:FuncId}[cZ P f]{g:Operand}{xs:Array Operand}{at_:Array TypeId}{x0 x1:Operand}{x:Value}{k1 k2:List SV}(hp:Pure P f [ref k1,ref k2] (.v x))(i1 i2:Nat)(js1 js2:List Nat){T1 T2:TypeId}{c1 c2:List Oc}
  (hB1:S.b i1=some ⟨T1,cX js1 c1⟩) (hL1:Lv S js1 (rowsOf c1)) (hn1:js1.Nodup) (hi1:OcI c1 k1) (hB2:S.b i2=some ⟨T2,cX js2 c2⟩) (hL2:Lv S js2 (rowsOf c2)) (hn2:js2.Nodup) (hi2:OcI c2 k2)
  (hf:S.ev g=.sv (.v (.func (.func f) #[] #[]))) (hxs:xs.toList=[x0,x1]) (e0:S.ev x0=.ptr i1 0) (e1:S.ev x1=.ptr i2 0) (hd:d<S.n)
  (next:RunT P C ops nd K rest (⟨rg++(bk g++(bk x0++bk x1)),[i1,i2],js1++js2,⟨some (d,.sv (.v x)),[],[]⟩⟩::acc) (S.set d (.sv (.v x)))):RunT P C ops nd K (⟨some d,.call ⟨.value g,xs,at_⟩,ty,pos,aft,gd⟩::rest) acc S:=by
 refine .inl ⟨_,[i1,i2],js1++js2,_,?_,next⟩
 rintro S' hn ht hb hr k a w L Q ho ⟨E,h⟩ hLL
 refine dw (C:=C) ho (hg.wanted h (λs hs=>ht s (List.mem_append_left _ hs)) Y) ?_
 have Av:a.eval g=.func (.func f) #[] ⟨[]⟩:=by
  have h1:=h.ev g;rw[bR (λ_ h=>List.mem_append_right _ (List.mem_append_left _ h)) ht,hf]at h1;exact h1
 have v0:a.eval x0=.pointer (some ⟨E.β i1,0,none⟩):=by
  have h1:=h.ev x0;rw[bR (λ_ h=>List.mem_append_right _ (List.mem_append_right _ (List.mem_append_left _ h))) ht,e0]at h1;exact h1
 have v1:a.eval x1=.pointer (some ⟨E.β i2,0,none⟩):=by
  have h1:=h.ev x1;rw[bR (λ_ h=>List.mem_append_right _ (List.mem_append_right _ (List.mem_append_right _ h))) ht,e1]at h1;exact h1
 have arh:S'.b i1=some ⟨T1,cX js1 c1⟩:=by rw[hb i1 (by simp)];exact hB1
 have ari:S'.b i2=some ⟨T2,cX js2 c2⟩:=by rw[hb i2 (by simp)];exact hB2
 have arj:Lv S' js1 (rowsOf c1):=hL1.congr (λk hk=>hr k (List.mem_append_left _ hk))
 have ark:Lv S' js2 (rowsOf c2):=hL2.congr (λk hk=>hr k (List.mem_append_right _ hk))
 obtain⟨us1,o1,_⟩:=ue h arh arj hn1
 obtain⟨Zz,o2,_⟩:=ue h ari ark hn2
 have hno:∀b,((b=E.β i1∨fj c1 us1 b)∨(b=E.β i2∨fj c2 Zz b))→∀o,E.M b o=none:=λb hb o=>by
  rcases hb with(rfl|hb)|(rfl|hb)
  ·exact o1.nb o
  ·exact(o1.nr b hb).2 o
  ·exact o2.nb o
  ·exact(o2.nr b hb).2 o
 have c1h:(ref k1).h (yW E.M w (λb=>(b=E.β i1∨fj c1 us1 b)∨(b=E.β i2∨fj c2 Zz b))) (.pointer (some ⟨E.β i1,0,none⟩)):=⟨E.β i1,0,Y,λk s hk=>by
  obtain⟨y,q1,q2,q3⟩:=Ef hno hi1 o1.al (λq hq g hg=>.inl (.inr ⟨q,hq,hg⟩)) hk
  refine⟨y,Ee (.inl (.inl Y)) ?_ q2,q2,q3⟩
  simp only[World.cell?,o1.hp]
  simpa using q1⟩
 have c2h:(ref k2).h (yW E.M w (λb=>(b=E.β i1∨fj c1 us1 b)∨(b=E.β i2∨fj c2 Zz b))) (.pointer (some ⟨E.β i2,0,none⟩)):=⟨E.β i2,0,Y,λk s hk=>by
  obtain⟨y,q1,q2,q3⟩:=Ef hno hi2 o2.al (λq hq g hg=>.inr (.inr ⟨q,hq,hg⟩)) hk
  refine⟨y,Ee (.inr (.inl Y)) ?_ q2,q2,q3⟩
  simp only[World.cell?,o2.hp]
  simpa using q1⟩
 refine dm (C:=C) (by intro c h;cases h) (qQ Av) ?_
 rw[List.append_nil,hxs,List.map_cons,List.map_cons,List.map_nil,v0,v1]
 refine⟨λh=>by simp at h,jN ((hp (yW E.M w (λb=>(b=E.β i1∨fj c1 us1 b)∨(b=E.β i2∨fj c2 Zz b))) w [.pointer (some ⟨E.β i1,0,none⟩),.pointer (some ⟨E.β i2,0,none⟩)] (LA h.ef) ⟨c1h,c2h,ak⟩).mono ?_)⟩
 rintro e w' ⟨v,M',rfl,hM,_,hin,hv,aan⟩
 exact hLL _ _ ⟨_,(h.grow (Mem.le_refl _) (λ_ _ _ e=>.inl e) (λb o y e=>hin b o y (hM b o y (Bl hno b o y e))) aan).put (x:=.sv (.v x)) hv (by show d<S'.n;omega) ik⟩
end steps
end
end Go.Fw
namespace Go.Proofs.YtningmnklfpfjaaGreat
section
open Go.Fw
noncomputable def ia(x0:List (List Qr)):Option (List (List Qr)):=(dK 1).bind λ⟨⟨qW,qX⟩,⟨Dp,Dq⟩⟩=>(uc ⟨⟨qW,qX⟩,⟨Dp,Dq⟩⟩ x0).bind λx5=>some x5
noncomputable def qC(x0:Tb):Option (Tb):=match x0 with|⟨bn,bp,bB,bD,cC⟩=>(di ⟨bn,bp,bB,bD,cC⟩).bind λx4=>(bif x4 then none else(ia bB).bind λeY=>(jz ⟨bn,bp,bB,bD,cC⟩).bind λdN=>(ia cC).bind λgK=>some ⟨true,bp,eY,dN,gK⟩)
noncomputable def jH(x0:Lr):Option (Int×(List (List Qr))×(List (List Qr))×(List Qr)×(List Int)):=match x0 with|⟨bn,bp,bB,bD⟩=>(b9 (λ(s6:Int×(List Int))=>match s6 with|⟨nX,wP⟩=>(show Option ((Int×(List Int))⊕((List Int)))from(some (bB.length:Int)).bind λff=>(some (decide ((nX:Int)<ff))).bind λc8=>(bif c8 then(some (IntKind.i64.wrap (bn+nX))).bind λgU=>(mP 8 wP [gU]).bind λke=>(some (IntKind.i64.wrap (nX+1))).bind λdV=>some (.inl (dV,ke))else some (.inr wP)))) (0,[])).bind λDt=>some (bn,bp,bB,bD,Dt)
noncomputable def w5(o0:Int)(o1:List (List Qr))(o2:List (List Qr))(o3:List Qr)(o4:List Int):Option ((List (List Qr))):=(fH ⟨o0,o1,o2,o3⟩).bind λc8=>(b9 (λ(nA:Int×(List (List Qr)))=>match nA with|⟨sL,hG⟩=>(show Option ((Int×(List (List Qr)))⊕((List (List Qr))))from(some (c8.length:Int)).bind λdN=>(some (decide ((sL:Int)<dN))).bind λeX=>(bif eX then(b9 (λ(yq:Int×(List Qr))=>match yq with|⟨nZ,jq⟩=>(show Option ((Int×(List Qr))⊕((List Qr)))from(some (o4.length:Int)).bind λgV=>(some (decide ((nZ:Int)<gV))).bind λke=>(bif ke then(cM o4 nZ).bind λnE=>(fo c8 sL nE).bind λ⟨⟨tQ,tW⟩,⟨xR,xS⟩⟩=>(mP 64 jq [⟨⟨tQ,tW⟩,⟨xR,xS⟩⟩]).bind λlj=>(some (IntKind.i64.wrap (nZ+1))).bind λir=>some (.inl (ir,lj))else some (.inr jq)))) (0,[])).bind λdD=>(mP 24 hG [dD]).bind λr9=>(some (IntKind.i64.wrap (sL+1))).bind λeE=>some (.inl (eE,r9))else some (.inr hG)))) (0,[])).bind λee=>some (ee)
noncomputable def vP(o0:Int)(o1:List (List Qr))(o2:List (List Qr))(o3:List Qr)(o4:List Int):Option ((List (List Qr))):=(w5 o0 o1 o2 o3 o4).bind λx7=>(eA x7).bind λ⟨Vo,ZK⟩=>(fH ⟨o0,o1,o2,o3⟩).bind λeX=>(kN Vo eX).bind λdR=>some (dR)
noncomputable def fP(o0:Int)(o1:List (List Qr))(o2:List (List Qr))(o3:List Qr)(o4:List Int)(x1:Int)(x2:Int):Option (Int×(List Int)):=cJ (λ(Ya:Bool)=>(bif Ya then some (1,o4)else(b9 (λ(Tw:Int)=>(show Option ((Int)⊕((Unit)⊕(Int×(List Int))))from(some (o4.length:Int)).bind λyf=>(some (decide ((Tw:Int)<yf))).bind λyK=>(bif yK then(cM o4 Tw).bind λGP=>(some (decide ((GP:Int)=x2))).bind λGf=>(bif Gf then some (.inr (.inr (1,o4)))else(some (IntKind.i64.wrap (Tw+1))).bind λuM=>some (.inl uM))else some (.inr (.inl ()))))) 0).bind λBn=>match Bn with|.inr jM=>some jM|.inl _=>(vP o0 o1 o2 o3 o4).bind λLm=>(cM Lm x1).bind λN2=>(cM N2 x2).bind λ⟨⟨PL,PM⟩,⟨PN,PO⟩⟩=>(jm ⟨⟨PL,PM⟩,⟨PN,PO⟩⟩).bind λMu=>(some (decide ((Mu:Int)=0))).bind λVl=>(bif Vl then some (7,o4)else(mP 8 [] o4).bind λOz=>(qg Oz x1).bind λx76=>(stM Oz x76 x2).bind λl18=>some (0,l18)))) λUL=>(some (decide ((x1:Int)<0))).bind λdG=>(bif dG then some true else(some (o4.length:Int)).bind λdR=>(some (decide ((dR:Int)≤x1))).bind λeE=>some eE).bind λYb=>(bif Yb then some true else(some (decide ((x2:Int)<0))).bind λiK=>some iK).bind λag7=>(bif ag7 then some true else(some (o2.length:Int)).bind λnE=>(some (IntKind.i64.wrap (o0+nE))).bind λpD=>(some (decide ((pD:Int)≤x2))).bind λuK=>some uK).bind λSh=>UL Sh
noncomputable def BD:Option (Bool):=some true
noncomputable def z7(x1:Int)(x2:Int):Option (Int):=some 2
noncomputable def z8:Option (List Int):=some []
noncomputable def BE:Option (List (List Qr)):=some []
noncomputable def Du:Option (List Qr):=some []
noncomputable def oS:Option (List (List Qr)):=some []
noncomputable def qb(x1:Int):Option (List Qr):=some []
noncomputable def z9:Option (List Qr):=some []
noncomputable def uT:Option (List Qr):=some []
noncomputable def uU:Option (Bool):=some false
noncomputable def w6:Option (Bool):=some false
noncomputable def Aa:Option (Unit):=some ()
noncomputable def gP:Option (Bool):=cJ (λ(ad4:Bool)=>some ad4) λXg=>(z7 0 0).bind λx3=>(some (decide ((x3:Int)=2))).bind λx4=>(bif x4 then(z8).bind λx7=>(some (x7.length:Int)).bind λx8=>(BE).bind λdG=>(some (dG.length:Int)).bind λff=>(some (IntKind.i64.wrap (x8+ff))).bind λc8=>(Du).bind λdV=>(some (dV.length:Int)).bind λdN=>(some (IntKind.i64.wrap (c8+dN))).bind λeX=>(oS).bind λeE=>(some (eE.length:Int)).bind λjb=>(some (IntKind.i64.wrap (eX+jb))).bind λgK=>(qb 0).bind λiK=>(some (iK.length:Int)).bind λgU=>(some (IntKind.i64.wrap (gK+gU))).bind λgV=>(z9).bind λji=>(some (ji.length:Int)).bind λir=>(some (IntKind.i64.wrap (gV+ir))).bind λlp=>(uT).bind λuL=>(some (uL.length:Int)).bind λnq=>(some (IntKind.i64.wrap (lp+nq))).bind λjY=>(some (decide ((jY:Int)=0))).bind λou=>some ou else some false).bind λYc=>(bif Yc then(uU).bind λpD=>(some (!pD)).bind λuK=>some uK else some false).bind λSh=>(bif Sh then(w6).bind λpC=>(some (!pC)).bind λyB=>some yB else some false).bind λag8=>(bif ag8 then(Aa).bind λxm=>some true else some false).bind λag9=>Xg ag9
end
section
open Go.Fw Go.Fw.Z Go.RowKit
theorem vo{x0:List (List Qr)}(N:Nat){r:List (List Qr)}(h:ia x0=some r):dB af 73 N [slc 1 (List.map (eS 4 eQ) x0)] (nw N (slc 1 (List.map (fS N 4 (fQ N)) r))):=by
 refine bT Tryz.func73 Y (ae Y) (λc9 M vs hN hvs=>?_)
 unfold ia at h
 refine sr<|aI Y (bt (N:=N) (n:=1) (e:=(fS N 4 (fQ N))))<|dn<|sr ?_
 obtain⟨⟨⟨qW,qX⟩,⟨Dp,Dq⟩⟩,h3,h⟩:=bS h
 refine RT.bW .none (xK N h3) hN Y ⟨Y,ak⟩ T<|mv Y<|bE h λx5 h5 h=>?_
 refine RT.bW .none ((ML N h5).w (args':=[_,_]) ⟨(SV.fE (show cg [ay qW,nw N (slc 1 (List.map bh qX)),ay Dp,nw N (slc 1 (List.map bh Dq))] _ from⟨aq,fe,aq,fe,ak⟩)),aq,ak⟩) hN Y ⟨Y,Y,ak⟩ T<|ag Y<|dn<|aY ?_
 obtain rfl:=O h
 exact R1 Y
theorem Nm{x0:Tb}(N:Nat){r:Tb}(h:qC x0=some r):dB af 26 N [ref (xl x0)] (lcl N (ref (xl r))):=by
 obtain⟨bn,bp,bB,bD,cC⟩:=x0
 refine Nl (T:=79) (cs:=[ay r.made,ax r.vars,nw N (slc 1 (List.map (fS N 4 (fQ N)) r.Fe)),nw N (slc 1 (List.map bH r.basis)),nw N (slc 1 (List.map (fS N 4 (fQ N)) r.rows))]) Tryz.func26 Y (ae Y) ⟨⟨Sup.h,aq⟩,⟨Sup.h,aq⟩,⟨Sup.h,aap⟩,⟨Sup.h,fe⟩,⟨Sup.h,aap⟩,ak⟩ (yD.h (l:=[ay r.made,ax r.vars,nw N (slc 1 (List.map (fS N 4 (fQ N)) r.Fe)),nw N (slc 1 (List.map bH r.basis)),nw N (slc 1 (List.map (fS N 4 (fQ N)) r.rows))])) (λc9 M vs hN hvs=>?_)
 unfold qC at h
 refine sr<|ag Y<|dn<|qq<|sr<|mv Y<|bE h λx4 h4 h=>cl (fm h4) ⟨Y,ak⟩<|dn ?_
 cases x4
 refine fs<|qq<|aZ mixed<|mv Y<|RT.cq .none Y T<|RT.bQ .none Y T Y<|lr Y Y<|mv Y<|RT.cq .none Y T<|RT.bQ .none Y T Y<|lr Y Y<|bE (F h) λeY iX h=>RT.bW .none (vo N iX) hN Y ⟨Y,ak⟩ T<|mv Y<|bE h λdN gH h=>RT.bW .none (zO N gH) hN Y ⟨Y,ak⟩ T<|mv Y<|RT.cq .none Y T<|RT.bQ .none Y T Y ?_
 refine lr Y Y<|bE h λgK oO h=>RT.bW .none (vo N oO) hN Y ⟨Y,ak⟩ T ?_
 refine bI (cs:=[_,_,_,_,_]) (cs':=[ay true,ax bp,nw N (slc 1 (List.map (fS N 4 (fQ N)) eY)),nw N (slc 1 (List.map bH dN)),nw N (slc 1 (List.map (fS N 4 (fQ N)) gK))]) (.one Y (.one Y (.one Y (.one Y (.one Y (.nil)))))) ⟨aq,aq,aq,aq,aq,ak⟩<|bx Y<|an (s:=.ptr _ _) Y ?_
 refine RT.done ⟨by kernel_rfl,?_⟩
 refine aW.n<|aY ?_
 obtain rfl:=O h
 exact⟨.inr Y,22,.tmp Y,Y⟩
 refine cT<|sr<|ag Y<|dn<|aY<|aW.r ?_
 replace h:=V h
 cases h
theorem Nn{o0:Bool}{o1:Int}{o2:List (List Qr)}{o3:List Int}{o4:List (List Qr)}{r:Tb}(h:qC (⟨o0,o1,o2,o3,o4⟩:Tb)=some r):FE af 26 [.ptr 1000 0] 79 [.s (ay o0),.s (ax o1),.r (TR 23 1 (eS 4 eQ) o2),.r (TR 3 1 bH o3),.r (TR 23 1 (eS 4 eQ) o4)] (ref (xl r)):=fK (cells:=xl (⟨o0,o1,o2,o3,o4⟩:Tb)) (r:=λN=>lcl N (ref (xl r))) (λN=>by exact Nm N h) Y ⟨⟨aq,λ_ _ q=>One.h _ _ q⟩,⟨aq,λ_ _ q=>One.h _ _ q⟩,dJ,dJ,dJ,ak⟩ aa4
theorem rP{x0:Lr}{r:Int×(List (List Qr))×(List (List Qr))×(List Qr)×(List Int)}(h:jH x0=some r):RC af 13 [.agg (Om x0)] false [] 59 [.s (ax r.1),.s (slc 1 (List.map (eS 4 eQ) r.2.1)),.s (slc 1 (List.map (eS 4 eQ) r.2.2.1)),.s (slc 4 (List.map eQ r.2.2.2.1)),.s (slc 1 (List.map bH r.2.2.2.2))]:=by
 obtain⟨bn,bp,bB,bD⟩:=x0
 refine Gq Tryz.func13 Y (ae Y) (λc9 M vs hvs=>?_)
 unfold jH at h
 refine sr<|bx Y<|ag Y<|dn<|sr<|ld Y Y (.k4 Y Y Y Y) ?_
 refine bI (cs:=[_,_,_,_,_]) (cs':=[ax bn,slc 1 (List.map (eS 4 eQ) bp),slc 1 (List.map (eS 4 eQ) bB),slc 4 (List.map eQ bD),.v (.slice none 0 0)]) (.agg Y (.nil)) ⟨aq,aq,aq,aq,aq,ak⟩<|bx Y<|an (s:=.ptr _ _) Y<|dn<|bU (yI 7 4 302 3 1 Y Y Y T)<|qq<|sr<|ag Y<|dn<|bE h λe6 uO je=>?_
 refine bJ (λ(Dt:(List Int))=>AS.cu 29 [(3,.ptr 7 0)] [(7,⟨59,[ah bn,.sv (slc 1 (List.map (eS 4 eQ) bp)),.sv (slc 1 (List.map (eS 4 eQ) bB)),.sv (slc 4 (List.map eQ bD)),.row 304]⟩)] [(304,TR 3 1 bH Dt)]) (λDt=>Dt=e6) ?_ (λDt uP=>?_)
 refine bf ?_
 refine bK uO (λs6=>AS.cu 29 [(1,.ptr 1 0),(3,.ptr 7 0),(4,ah s6.1)] [(7,⟨59,[ah bn,.sv (slc 1 (List.map (eS 4 eQ) bp)),.sv (slc 1 (List.map (eS 4 eQ) bB)),.sv (slc 4 (List.map eQ bD)),.row 304]⟩),(1,⟨25,[ah bn,.sv (slc 1 (List.map (eS 4 eQ) bp)),.sv (slc 1 (List.map (eS 4 eQ) bB)),.sv (slc 4 (List.map eQ bD))]⟩)] [(304,TR 3 1 bH s6.2)]) (cz (λi=>bif Nat.beq i 304 then 302 else i) Y Y Y Y Y ⟨.ptr,.ptr,.sv aq,ak⟩ ⟨⟨_,Y,⟨.sv aq,.sv aq,.sv aq,.sv aq,.row Y,ak⟩⟩,⟨_,Y,⟨.sv aq,.sv aq,.sv aq,.sv aq,ak⟩⟩,ak⟩ ⟨⟨_,Y,cg.refl _⟩,ak⟩ (λi hi=>by rw[bV (show i≠304 by omega)];rfl)) (λs6 y6 G6 h uQ pE=>?_)
 obtain⟨nX,wP⟩:=s6
 try dsimp only
 refine qq<|sr<|mv Y<|fa Y Y<|lV Y Y Y<|lE h λff kz h=>ln Y kz<|lE h λc8 fI h=>ls _ Y Y fI<|dn ?_
 cases c8
 refine cF<|bP<|aW.x<|aW.x<|bF.x<|aW.n ?_
 obtain rfl:=O (F h)
 exact⟨wP,pE _ Y,wR []⟩
 refine cT<|bu<|aW.n<|qq<|bf<|aZ mixed<|mo (s:=.ptr _ _) Y<|mo (s:=.ptr _ _) Y<|RT.dh .none Y T<|fa Y Y<|RT.lf .none (s:=.row _) Y Y Y T<|fa Y Y<|lV Y Y Y<|mv Y<|lE (V h) λgU oP h=>ad _ Y Y oP<|bl (l:=[gU]) (e:=bH) (.one Y (.nil)) Y Y Y Y Y Y<|bE h λke nN h=>aR (k:=[gU]) (e:=bH) Y Y Y nN<|RT.dh .none Y T ?_
 refine fa Y Y<|RT.qO (cells:=[_,_,_,_,_]) .none Y Y Y Y T Y ?_
 refine RT.done ⟨by kernel_rfl,?_⟩
 refine bF.n<|aW.n<|aX<|mv Y<|lE h λdV jy h=>ad _ Y Y jy<|ag Y<|RT.done ?_
 obtain rfl:=O h
 exact aW.n ⟨(dV,ke),uQ _ Y,cz (λi=>bif Nat.beq i 304 then 25 else i) Y Y Y Y Y ⟨.ptr,.ptr,.sv aq,ak⟩ ⟨⟨_,Y,⟨.sv aq,.sv aq,.sv aq,.sv aq,.row Y,ak⟩⟩,⟨_,Y,⟨.sv aq,.sv aq,.sv aq,.sv aq,ak⟩⟩,ak⟩ ⟨⟨_,Y,cg.refl _⟩,ak⟩ (λi hi=>by rw[bV (show i≠304 by omega)];rfl)⟩
 subst uP
 try dsimp only
 refine aW.n<|sr<|mo (s:=.ptr _ _) Y<|an (s:=.ptr _ _) Y<|dn<|bU (cP (i:=304) (E1:=3) (n:=1) (e:=bH) (l:=Dt) Y)<|aY ?_
 obtain rfl:=O je
 exact⟨.inr Y,7,[],.tmp Y,Y,ak,by decide⟩
theorem Hg{o0:Int}{o1:List (List Qr)}{o2:List (List Qr)}{o3:List Qr}{o4:List Int}{r:(List (List Qr))}(h:w5 o0 o1 o2 o3 o4=some r):RA af 81 [.ptr 1000 0] 59 [.s (ax o0),.s (slc 1 (List.map (eS 4 eQ) o1)),.s (slc 1 (List.map (eS 4 eQ) o2)),.s (slc 4 (List.map eQ o3)),.s (slc 1 (List.map bH o4))] (slc 1 (List.map (eS 4 eQ) r)) [.s (ax o0),.s (slc 1 (List.map (eS 4 eQ) o1)),.s (slc 1 (List.map (eS 4 eQ) o2)),.s (slc 4 (List.map eQ o3)),.s (slc 1 (List.map bH o4))]:=by
 refine wN [] Tryz.func81 Y (ae Y) Y (by decide) Y (λc9 M β us=>?_)
 unfold w5 at h
 refine sr<|aI Y (aB (n:=1) (e:=(eS 4 eQ)))<|dn<|sr<|mo (s:=.ptr _ _) Y<|RT.dh .none Y T<|fa Y Y<|ld Y Y (.k4 Y Y Y Y)<|bE h λc8 fI h=>cl (mL fI) ⟨Y,ak⟩<|ag Y<|dn<|sr<|ag Y<|dn<|bU (cY 4 304 23 1 Y Y T)<|qq<|sr<|ag Y<|dn<|bE h λBn sK fC=>?_
 refine bJ (λ(ee:(List (List Qr)))=>AS.cu 46 [(4,.row 311)] [(1000,⟨59,[ah o0,.sv (slc 1 (List.map (eS 4 eQ) o1)),.sv (slc 1 (List.map (eS 4 eQ) o2)),.sv (slc 4 (List.map eQ o3)),.sv (slc 1 (List.map bH o4))]⟩)] [(311,TR 23 1 (eS 4 eQ) ee)]) (λee=>ee=Bn) ?_ (λee ry=>?_)
 refine bf ?_
 refine bK sK (λnA=>AS.cu 46 [(0,.ptr 1000 0),(3,.sv (slc 1 (List.map (eS 4 eQ) c8))),(4,.row 311),(5,ah nA.1)] [(1000,⟨59,[ah o0,.sv (slc 1 (List.map (eS 4 eQ) o1)),.sv (slc 1 (List.map (eS 4 eQ) o2)),.sv (slc 4 (List.map eQ o3)),.sv (slc 1 (List.map bH o4))]⟩)] [(311,TR 23 1 (eS 4 eQ) nA.2)]) (cz (λi=>bif Nat.beq i 311 then 304 else i) Y Y Y Y Y ⟨.ptr,.sv aq,.row Y,.sv aq,ak⟩ ⟨⟨_,Y,⟨.sv aq,.sv aq,.sv aq,.sv aq,.sv aq,ak⟩⟩,ak⟩ ⟨⟨_,Y,cg.refl _⟩,ak⟩ (λi hi=>by rw[bV (show i≠311 by omega)];rfl)) (λnA Vr Vs h uS rz=>?_)
 obtain⟨sL,hG⟩:=nA
 try dsimp only
 refine qq<|sr<|mv Y<|mv Y<|lE h λdN gH h=>ln Y gH<|lE h λeX kf h=>ls _ Y Y kf<|dn ?_
 cases eX
 refine cF<|bP<|aW.x<|aW.x<|bF.x<|aW.n ?_
 obtain rfl:=O (F h)
 exact⟨hG,rz _ Y,wR []⟩
 refine cT<|bu<|aW.n<|qq<|bf<|sr<|ag Y<|dn<|bU (cY 6 321 43 4 Y Y T)<|qq<|sr<|ag Y<|dn<|bE (V h) λXy Jh mI=>?_
 refine bJ (λ(dD:(List Qr))=>AS.cu 46 [(0,.ptr 1000 0),(3,.sv (slc 1 (List.map (eS 4 eQ) c8))),(4,.row 311),(5,ah sL),(6,.row 323)] [(1000,⟨59,[ah o0,.sv (slc 1 (List.map (eS 4 eQ) o1)),.sv (slc 1 (List.map (eS 4 eQ) o2)),.sv (slc 4 (List.map eQ o3)),.sv (slc 1 (List.map bH o4))]⟩)] [(311,TR 23 1 (eS 4 eQ) hG),(323,TR 43 4 eQ dD)]) (λdD=>dD=Xy) ?_ (λdD Ji=>?_)
 refine bf ?_
 refine bK Jh (λyq=>AS.cu 46 [(0,.ptr 1000 0),(3,.sv (slc 1 (List.map (eS 4 eQ) c8))),(4,.row 311),(5,ah sL),(6,.row 323),(7,ah yq.1)] [(1000,⟨59,[ah o0,.sv (slc 1 (List.map (eS 4 eQ) o1)),.sv (slc 1 (List.map (eS 4 eQ) o2)),.sv (slc 4 (List.map eQ o3)),.sv (slc 1 (List.map bH o4))]⟩)] [(311,TR 23 1 (eS 4 eQ) hG),(323,TR 43 4 eQ yq.2)]) (cz (λi=>bif Nat.beq i 323 then 321 else i) Y Y Y Y Y ⟨.ptr,.sv aq,.row Y,.sv aq,.row Y,.sv aq,ak⟩ ⟨⟨_,Y,⟨.sv aq,.sv aq,.sv aq,.sv aq,.sv aq,ak⟩⟩,ak⟩ ⟨⟨_,Y,cg.refl _⟩,⟨_,Y,cg.refl _⟩,ak⟩ (λi hi=>by rw[bV (show i≠323 by omega)];rfl)) (λyq y22 G22 h Jj Jk=>?_)
 obtain⟨nZ,jq⟩:=yq
 try dsimp only
 refine qq<|sr<|mv Y<|mo (s:=.ptr _ _) Y<|RT.dh .none Y T<|fa Y Y<|lV Y Y Y<|lE h λgV nF h=>ln Y nF<|lE h λke nN h=>ls _ Y Y nN<|dn ?_
 cases ke
 refine cF<|bP<|aW.x<|aW.x<|bF.x<|aW.n ?_
 obtain rfl:=O (F h)
 exact⟨jq,Jk _ Y,wR []⟩
 refine cT<|bu<|aW.n<|qq<|bf<|aX<|mo (s:=.row _) Y<|mv Y<|mv Y<|mo (s:=.ptr _ _) Y<|RT.dh .none Y T<|fa Y Y<|lV Y Y Y<|mv Y<|bE (V h) λnE xo h=>ix Y Y xo<|lr Y Y ?_
 obtain⟨⟨⟨tQ,tW⟩,⟨xR,xS⟩⟩,AX,h⟩:=bS h
 refine cl (jF AX) ⟨Y,Y,Y,ak⟩<|bl (l:=[⟨⟨tQ,tW⟩,⟨xR,xS⟩⟩]) (e:=eQ) (.agg Y (.nil)) Y Y Y Y Y Y<|bE h λlj sZ h=>aR (k:=[⟨⟨tQ,tW⟩,⟨xR,xS⟩⟩]) (e:=eQ) Y Y Y sZ<|an (s:=.row _) Y<|RT.done<|bF.n<|aW.n<|aX<|mv Y<|lE h λir oU h=>ad _ Y Y oU<|ag Y<|RT.done ?_
 obtain rfl:=O h
 exact aW.n ⟨(ir,lj),Jj _ Y,cz (λi=>bif Nat.beq i 323 then 40 else i) Y Y Y Y Y ⟨.ptr,.sv aq,.row Y,.sv aq,.row Y,.sv aq,ak⟩ ⟨⟨_,Y,⟨.sv aq,.sv aq,.sv aq,.sv aq,.sv aq,ak⟩⟩,ak⟩ ⟨⟨_,Y,cg.refl _⟩,⟨_,Y,cg.refl _⟩,ak⟩ (λi hi=>by rw[bV (show i≠323 by omega)];rfl)⟩
 subst Ji
 try dsimp only
 refine aW.n<|bU (cP (i:=323) (E1:=43) (n:=4) (e:=eQ) (l:=dD) Y)<|aX<|mo (s:=.row _) Y<|mv Y<|bl (l:=[dD]) (e:=(eS 4 eQ)) (.one Y (.nil)) Y Y Y Y Y Y<|bE mI λr9 Az mI=>aR (k:=[dD]) (e:=(eS 4 eQ)) Y Y Y Az<|an (s:=.row _) Y<|RT.done<|bF.n<|aW.n<|aX<|mv Y<|lE mI λeE jd mI=>ad _ Y Y jd<|ag Y<|RT.done ?_
 obtain rfl:=O mI
 exact aW.n ⟨(eE,r9),uS _ Y,cz (λi=>bif Nat.beq i 311 then 44 else i) Y Y Y Y Y ⟨.ptr,.sv aq,.row Y,.sv aq,ak⟩ ⟨⟨_,Y,⟨.sv aq,.sv aq,.sv aq,.sv aq,.sv aq,ak⟩⟩,ak⟩ ⟨⟨_,Y,cg.refl _⟩,ak⟩ (λi hi=>by rw[bV (show i≠311 by omega)];rfl)⟩
 subst ry
 try dsimp only
 refine aW.n<|sr<|mo (s:=.row _) Y<|an (s:=.row _) Y<|dn<|bU (cP (i:=311) (E1:=23) (n:=1) (e:=(eS 4 eQ)) (l:=ee) Y)<|aY ?_
 obtain rfl:=O fC
 exact⟨.inr Y,gR (.tmp Y (.nil)) aq,[],Y,ak,by decide⟩
theorem KT{o0:Int}{o1:List (List Qr)}{o2:List (List Qr)}{o3:List Qr}{o4:List Int}{r:(List (List Qr))}(h:vP o0 o1 o2 o3 o4=some r):RA af 62 [.ptr 1000 0] 59 [.s (ax o0),.s (slc 1 (List.map (eS 4 eQ) o1)),.s (slc 1 (List.map (eS 4 eQ) o2)),.s (slc 4 (List.map eQ o3)),.s (slc 1 (List.map bH o4))] (slc 1 (List.map (eS 4 eQ) r)) [.s (ax o0),.s (slc 1 (List.map (eS 4 eQ) o1)),.s (slc 1 (List.map (eS 4 eQ) o2)),.s (slc 4 (List.map eQ o3)),.s (slc 1 (List.map bH o4))]:=by
 refine wN [] Tryz.func62 Y (ae Y) Y (by decide) Y (λc9 M β us=>?_)
 unfold vP at h
 refine sr<|aI Y (aB (n:=1) (e:=(eS 4 eQ)))<|dn<|sr<|mo (s:=.ptr _ _) Y<|bE h λx7 h7 h=>RT.IV .none (Hg h7) 1000 [] [] Y trivial (by decide) (by decide) Y trivial Y Y (.cons Y (.nil)) T ?_
 obtain⟨⟨Vo,ZK⟩,h8,h⟩:=bS h
 refine cl (sO h8) ⟨Y,ak⟩<|mv Y<|ex Y Y<|ex Y Y<|ag Y<|ag Y<|dn<|sr<|mv Y<|mo (s:=.ptr _ _) Y<|RT.dh .none Y T<|fa Y Y<|ld Y Y (.k4 Y Y Y Y)<|bE h λeX kf h=>cl (mL kf) ⟨Y,ak⟩<|bE h λdR jK h=>cl (Ex jK) ⟨Y,Y,ak⟩ ?_
 refine ag Y<|dn<|aY ?_
 obtain rfl:=O h
 exact⟨.inr Y,gR (.tmp Y (.nil)) aq,[],Y,ak,by decide⟩
set_option maxHeartbeats 4000000 in
theorem KU{o0:Int}{o1:List (List Qr)}{o2:List (List Qr)}{o3:List Qr}{o4:List Int}{x1:Int}{x2:Int}{r:Int×(List Int)}(h:fP o0 o1 o2 o3 o4 x1 x2=some r):RA af 15 [.ptr 1000 0,ah x1,ah x2] 59 [.s (ax o0),.s (slc 1 (List.map (eS 4 eQ) o1)),.s (slc 1 (List.map (eS 4 eQ) o2)),.s (slc 4 (List.map eQ o3)),.s (slc 1 (List.map bH o4))] (ax r.1) [.s (ax o0),.s (slc 1 (List.map (eS 4 eQ) o1)),.s (slc 1 (List.map (eS 4 eQ) o2)),.s (slc 4 (List.map eQ o3)),.s (slc 1 (List.map bH r.2))]:=by
 refine wN [] Tryz.func15 Y (ae Y) Y (by decide) Y (λc9 M β us=>?_)
 unfold fP at h
 refine sr<|ag Y<|dn<|qq<|qq ?_
 refine bL h (λQG=>AS.cu 81 [(0,.ptr 1000 0),(1,ah x1),(2,ah x2),(39,ai QG)] [(1000,⟨59,[ah o0,.sv (slc 1 (List.map (eS 4 eQ) o1)),.sv (slc 1 (List.map (eS 4 eQ) o2)),.sv (slc 4 (List.map eQ o3)),.sv (slc 1 (List.map bH o4))]⟩)] []) (λh=>?_) (λYa h=>?_)
 refine aZ mixed<|mv Y<|lE h λdG fY h=>ls _ Y Y fY<|mv Y<|bE h λYb wO h=>?_
 cases dG
 refine gm Y<|RT.move (.some Y Y) (s:=.ptr _ _) Y T<|RT.dh (.some Y Y) Y T<|RT.fieldAddr (.some Y Y) Y T Y<|RT.zu (.some Y Y) Y Y Y T<|lE (F wO) λdR jK wO=>gn Y jK<|lE wO λeE jd wO=>RT.geq (.some Y Y) _ Y Y T jd ?_
 obtain rfl:=O wO
 refine pF Y<|mv Y<|bE h λarl IX h=>?_
 cases eE
 refine gm Y<|lE (F IX) λiK oz IX=>RT.lss (.some Y Y) _ Y Y T oz ?_
 obtain rfl:=O IX
 refine pF Y<|mv Y<|bE h λarn Dc h=>?_
 cases iK
 refine gm Y<|RT.move (.some Y Y) (s:=.ptr _ _) Y T<|RT.dh (.some Y Y) Y T<|RT.fieldAddr (.some Y Y) Y T Y<|RT.fieldAddr (.some Y Y) Y T Y<|RT.zu (.some Y Y) Y Y Y T<|RT.move (.some Y Y) (s:=.ptr _ _) Y T<|RT.dh (.some Y Y) Y T<|RT.fieldAddr (.some Y Y) Y T Y<|RT.fieldAddr (.some Y Y) Y T Y<|RT.zu (.some Y Y) Y Y Y T<|lE (F Dc) λnE xo Dc=>gn Y xo<|lE Dc λpD A0 Dc=>RT.add (.some Y Y) _ Y Y T A0 ?_
 refine lE Dc λuK AX Dc=>RT.geq (.some Y Y) _ Y Y T AX ?_
 obtain rfl:=O Dc
 refine pF Y ?_
 refine RT.done ⟨by kernel_rfl,?_⟩
 exact aW.n<|⟨uK,h,wR []⟩
 obtain rfl:=O (V Dc)
 refine ww<|ww<|ww<|ww<|ww<|ww<|ww<|ww<|ww<|ww<|ww<|ww<|ww<|ww<|pT Y ?_
 refine RT.done ⟨by kernel_rfl,?_⟩
 exact aW.n<|⟨true,h,wR []⟩
 obtain rfl:=O (V IX)
 refine ww<|ww<|pT Y<|mv Y<|bE h λaro Ec h=>?_
 obtain rfl:=O (V Ec)
 refine ww<|ww<|ww<|ww<|ww<|ww<|ww<|ww<|ww<|ww<|ww<|ww<|ww<|ww<|pT Y ?_
 refine RT.done ⟨by kernel_rfl,?_⟩
 exact aW.n<|⟨true,h,wR []⟩
 obtain rfl:=O (V wO)
 refine ww<|ww<|ww<|ww<|ww<|ww<|ww<|pT Y<|mv Y<|bE h λJp mG h=>?_
 obtain rfl:=O (V mG)
 refine ww<|ww<|pT Y<|mv Y<|bE h λarp nW h=>?_
 obtain rfl:=O (V nW)
 refine ww<|ww<|ww<|ww<|ww<|ww<|ww<|ww<|ww<|ww<|ww<|ww<|ww<|ww<|pT Y ?_
 refine RT.done ⟨by kernel_rfl,?_⟩
 exact aW.n<|⟨true,h,wR []⟩
 try dsimp only
 refine aW.n ?_
 cases Ya
 refine fs<|qq<|sr<|ag Y<|dn<|bE (F h) λBn sK fC=>?_
 refine bJ (λ(vE:Unit)=>AS.cu 81 [(0,.ptr 1000 0),(1,ah x1),(2,ah x2)] [(1000,⟨59,[ah o0,.sv (slc 1 (List.map (eS 4 eQ) o1)),.sv (slc 1 (List.map (eS 4 eQ) o2)),.sv (slc 4 (List.map eQ o3)),.sv (slc 1 (List.map bH o4))]⟩)] []) (λvE=>.inl vE=Bn) ?_ (λvE ry=>?_)
 refine bf ?_
 refine bK sK (λnA=>AS.cu 81 [(0,.ptr 1000 0),(1,ah x1),(2,ah x2),(7,ah nA)] [(1000,⟨59,[ah o0,.sv (slc 1 (List.map (eS 4 eQ) o1)),.sv (slc 1 (List.map (eS 4 eQ) o2)),.sv (slc 4 (List.map eQ o3)),.sv (slc 1 (List.map bH o4))]⟩)] []) (wR []) (λTw Vr Vs h uS rz=>?_)
 try dsimp only
 refine qq<|sr<|mv Y<|mo (s:=.ptr _ _) Y<|RT.dh .none Y T<|fa Y Y<|lV Y Y Y<|lE h λyf GU h=>ln Y GU<|lE h λyK h46 h=>ls _ Y Y h46<|dn ?_
 cases yK
 refine cF<|bP<|aW.x<|aW.x<|bF.x<|aW.n ?_
 obtain rfl:=O (F h)
 exact⟨(),rz _ Y,wR []⟩
 refine cT<|bu<|aW.n<|qq<|bf<|sr<|mo (s:=.ptr _ _) Y<|RT.dh .none Y T<|fa Y Y<|lV Y Y Y<|mv Y<|bE (V h) λGP QF h=>ix Y Y QF<|lr Y Y<|mv Y<|lE h λGf Rh h=>eq _ Y Y (xj (p:=GP) (q:=x2) Rh)<|dn ?_
 cases Gf
 refine cF<|bu<|bF.n<|aW.n<|aX<|mv Y<|lE (F h) λuM h48 h=>ad _ Y Y h48<|ag Y<|RT.done ?_
 obtain rfl:=O h
 exact aW.n ⟨uM,uS _ Y,wR []⟩
 refine cT<|sr<|ag Y<|dn<|aY<|bF.r<|aW.r ?_
 obtain rfl:=O (V h)
 have RI:=rz _ Y
 subst RI
 refine aW.r<|bF.r<|aW.r<|aW.r ?_
 obtain rfl:=O fC
 exact⟨.inr Y,gR (.tmp Y (.nil)) aq,[],Y,ak,by decide⟩
 subst ry
 try dsimp only
 refine aW.n<|qq<|sr<|mo (s:=.ptr _ _) Y<|bE fC λLm UA fC=>RT.IV .none (KT UA) 1000 [] [] Y trivial (by decide) (by decide) Y trivial Y Y (.cons Y (.nil)) T<|mv Y<|bE fC λN2 Wv fC=>ix Y Y Wv<|lr Y Y<|mv Y ?_
 obtain⟨⟨⟨PL,PM⟩,⟨PN,PO⟩⟩,h64,fC⟩:=bS fC
 refine ix Y Y h64<|RT.gJ (cs:=[_,_,_,_]) .none Y T Y Y<|bE fC λMu h66 fC=>cl (oY h66) ⟨Y,ak⟩<|lE fC λVl h67 fC=>eq _ Y Y (xj (p:=Mu) (q:=0) h67)<|dn ?_
 cases Vl
 refine fs<|sr<|mo (s:=.ptr _ _) Y<|RT.dh .none Y T<|fa Y Y<|lV Y Y Y<|bE (F fC) λOz h72 fC=>RT.apN (k:=o4) (e:=bH) .none Y Y T Y T h72<|an (s:=.row _) Y<|dn<|sr<|mo (s:=.row _) Y<|mv Y<|mv Y<|bE fC λx76 h76 fC=>iR Y Y Y h76<|bE fC λl18 Ww fC=>sR x2 Y Y Y Y Ww<|dn<|sr ?_
 refine mo (s:=.ptr _ _) Y<|mo (s:=.row _) Y<|RT.dh .none Y T<|fa Y Y<|RT.qO (cells:=[_,_,_,_,_]) .none Y Y Y Y T Y<|dn<|sr<|ag Y<|dn<|bU (cP (i:=72) (E1:=3) (n:=1) (e:=bH) (l:=l18) Y)<|aY ?_
 obtain rfl:=O fC
 exact⟨.inr Y,gR (.tmp Y (.nil)) aq,[],Y,ak,by decide⟩
 refine cT<|sr<|ag Y<|dn<|aY<|aW.r ?_
 obtain rfl:=O (V fC)
 exact⟨.inr Y,gR (.tmp Y (.nil)) aq,[],Y,ak,by decide⟩
 refine cT<|sr<|ag Y<|dn<|aY<|aW.r ?_
 obtain rfl:=O (V h)
 exact⟨.inr Y,gR (.tmp Y (.nil)) aq,[],Y,ak,by decide⟩
theorem Gx{o0:Int}{o1:List (List Qr)}{o2:List (List Qr)}{o3:List Qr}{o4:List Int}{x0:Tb}{r:Bool}(h:k7 x0 (⟨⟨o0,o1,o2,o3⟩,o4⟩:Rt)=some r):FE af 23 [.sv (ref (xl x0)),.ptr 1000 0] 59 [.s (ax o0),.s (slc 1 (List.map (eS 4 eQ) o1)),.s (slc 1 (List.map (eS 4 eQ) o2)),.s (slc 4 (List.map eQ o3)),.s (slc 1 (List.map bH o4))] (ay r):=fK (cells:=XR (⟨⟨o0,o1,o2,o3⟩,o4⟩:Rt)) (r:=λN=>(ay r)) (λN=>by exact oX (BC h) N) Y ⟨⟨aq,λ_ _ q=>One.h _ _ q⟩,pH,pH,pH,pH,ak⟩ Pr
end
section
open Go.Fw Go.Fw.Z Go.RowKit
theorem eD{r:Bool}(h:BD=some r):Pure af 57 [.v (.pointer none)] (ay r):=by
 refine bj Tryz.func57 Y (ae Y) (λc9 M vs hvs=>?_)
 unfold BD at h
 refine sr<|ag Y<|dn<|sr<|mv Y<|RT.RB .none Y Y T<|mv Y<|ww<|ww<|ww<|ww<|ww<|pT Y<|ag Y<|dn<|aY ?_
 obtain rfl:=O h
 exact R1 Y
theorem KV{x1:Int}{x2:Int}{r:Int}(h:z7 x1 x2=some r):Pure af 14 [.v (.pointer none),ax x1,ax x2] (ax r):=by
 refine bj Tryz.func14 Y (ae Y) (λc9 M vs hvs=>?_)
 unfold z7 at h
 refine sr<|ag Y<|dn<|qq<|sr<|mv Y<|cl (eD (r:=true) Y) ⟨Y,ak⟩<|dn<|cT<|sr<|ag Y<|dn<|aY<|aW.r ?_
 obtain rfl:=O h
 exact R1 Y
theorem KW{r:List Int}(h:z8=some r):Pure af 17 [.v (.pointer none)] (slc 1 (List.map bH r)):=by
 refine bj Tryz.func17 Y (ae Y) (λc9 M vs hvs=>?_)
 unfold z8 at h
 refine sr<|aI Y (aB (n:=1) (e:=bH))<|dn<|qq<|sr<|mv Y<|cl (eD (r:=true) Y) ⟨Y,ak⟩<|dn<|cT<|sr<|aI Y (aB (n:=1) (e:=bH))<|dn<|aY<|aW.r ?_
 obtain rfl:=O h
 exact R1 Y
theorem No{r:List (List Qr)}(h:BE=some r):Pure af 18 [.v (.pointer none)] (slc 1 (List.map (eS 4 eQ) r)):=by
 refine bj Tryz.func18 Y (ae Y) (λc9 M vs hvs=>?_)
 unfold BE at h
 refine sr<|aI Y (aB (n:=1) (e:=(eS 4 eQ)))<|dn<|qq<|sr<|mv Y<|cl (eD (r:=true) Y) ⟨Y,ak⟩<|dn<|cT<|sr<|aI Y (aB (n:=1) (e:=(eS 4 eQ)))<|dn<|aY<|aW.r ?_
 obtain rfl:=O h
 exact R1 Y
theorem P4{r:List Qr}(h:Du=some r):Pure af 19 [.v (.pointer none)] (slc 4 (List.map eQ r)):=by
 refine bj Tryz.func19 Y (ae Y) (λc9 M vs hvs=>?_)
 unfold Du at h
 refine sr<|aI Y (aB (n:=4) (e:=eQ))<|dn<|qq<|sr<|mv Y<|cl (eD (r:=true) Y) ⟨Y,ak⟩<|dn<|cT<|sr<|aI Y (aB (n:=4) (e:=eQ))<|dn<|aY<|aW.r ?_
 obtain rfl:=O h
 exact R1 Y
theorem BF{r:List (List Qr)}(h:oS=some r):Pure af 20 [.v (.pointer none)] (slc 1 (List.map (eS 4 eQ) r)):=by
 refine bj Tryz.func20 Y (ae Y) (λc9 M vs hvs=>?_)
 unfold oS at h
 refine sr<|RT.CK .none (s:=.sv _) Y T Y Y<|aI Y (aB (n:=1) (e:=(eS 4 eQ)))<|dn<|qq<|sr<|lV Y Y Y<|cl (eD (r:=true) Y) ⟨Y,ak⟩<|dn<|cT<|sr<|aI Y (aB (n:=1) (e:=(eS 4 eQ)))<|dn<|aY<|aW.r ?_
 obtain rfl:=O h
 exact R1 Y
theorem Cn{x1:Int}{r:List Qr}(h:qb x1=some r):Pure af 28 [.v (.pointer none),ax x1] (slc 4 (List.map eQ r)):=by
 refine bj Tryz.func28 Y (ae Y) (λc9 M vs hvs=>?_)
 unfold qb at h
 refine sr<|aI Y (aB (n:=4) (e:=eQ))<|dn<|qq<|sr<|mv Y<|cl (eD (r:=true) Y) ⟨Y,ak⟩<|mv Y<|ww<|ww<|pT Y<|mv Y<|ww<|ww<|ww<|ww<|pT Y<|dn<|cT<|sr<|aI Y (aB (n:=4) (e:=eQ)) ?_
 refine dn<|aY<|aW.r ?_
 obtain rfl:=O h
 exact R1 Y
theorem KX{r:List Qr}(h:z9=some r):Pure af 38 [.v (.pointer none)] (slc 4 (List.map eQ r)):=by
 refine bj Tryz.func38 Y (ae Y) (λc9 M vs hvs=>?_)
 unfold z9 at h
 refine sr<|aI Y (aB (n:=4) (e:=eQ))<|dn<|qq<|sr<|mv Y<|cl (eD (r:=true) Y) ⟨Y,ak⟩<|dn<|cT<|sr<|aI Y (aB (n:=4) (e:=eQ))<|dn<|aY<|aW.r ?_
 obtain rfl:=O h
 exact R1 Y
theorem FR{r:List Qr}(h:uT=some r):Pure af 21 [.v (.pointer none)] (slc 4 (List.map eQ r)):=by
 refine bj Tryz.func21 Y (ae Y) (λc9 M vs hvs=>?_)
 unfold uT at h
 refine sr<|aI Y (aB (n:=4) (e:=eQ))<|dn<|qq<|sr<|mv Y<|cl (eD (r:=true) Y) ⟨Y,ak⟩<|dn<|cT<|sr<|aI Y (aB (n:=4) (e:=eQ))<|dn<|aY<|aW.r ?_
 obtain rfl:=O h
 exact R1 Y
theorem FU{r:Bool}(h:uU=some r):Pure af 35 [.v (.pointer none)] (ay r):=by
 refine bj Tryz.func35 Y (ae Y) (λc9 M vs hvs=>?_)
 unfold uU at h
 refine sr<|ag Y<|dn<|qq<|sr<|mv Y<|cl (eD (r:=true) Y) ⟨Y,ak⟩<|dn<|cT<|sr<|ag Y<|dn<|aY<|aW.r ?_
 obtain rfl:=O h
 exact R1 Y
theorem Hh{r:Bool}(h:w6=some r):Pure af 42 [.v (.pointer none)] (ay r):=by
 refine bj Tryz.func42 Y (ae Y) (λc9 M vs hvs=>?_)
 unfold w6 at h
 refine sr<|RT.CK .none (s:=.sv _) Y T Y Y<|al (cs:=[ay false]) (by exact⟨aq,ak⟩) Y<|dn<|qq<|sr<|lV Y Y Y<|cl (eD (r:=true) Y) ⟨Y,ak⟩<|dn<|cT<|sr<|RT.zA (cells:=[_]) .none (s:=.sv _) Y Y Y T Y<|dn<|aY<|aW.r ?_
 obtain rfl:=O h
 exact RZ (.one Y Y Y (.nil))
theorem KY{r:Unit}(h:Aa=some r):Pure af 26 [.v (.pointer none)] (.v (.pointer none)):=by
 refine bj Tryz.func26 Y (ae Y) (λc9 M vs hvs=>?_)
 unfold Aa at h
 refine sr<|ag Y<|dn<|qq<|sr<|mv Y<|cl (eD (r:=true) Y) ⟨Y,ak⟩<|dn<|cT<|sr<|ag Y<|dn<|aY<|aW.r ?_
 obtain rfl:=O h
 exact R1 Y
theorem y4{r:Bool}(h:gP=some r):Pure af 25 [] (ay r):=by
 refine bj Tryz.func25 Y (ae Y) (λc9 M vs hvs=>?_)
 unfold gP at h
 refine sr<|ag Y<|dn<|sr<|ag Y<|dn<|qq ?_
 refine bL h (λj15=>AS.cu 50 [(0,ai j15)] [] []) (λh=>?_) (λad4 h=>?_)
 refine aX<|mv Y<|bE h λx3 h3 h=>cl (KV h3) ⟨Y,Y,Y,ak⟩<|lE h λx4 h4 h=>eq _ Y Y (xj (p:=x3) (q:=2) h4)<|mv Y<|bE h λYc iN h=>?_
 cases x4
 obtain rfl:=O (F iN)
 refine ww<|ww<|ww<|ww<|ww<|ww<|ww<|ww<|ww<|ww<|ww<|ww<|ww<|ww<|ww<|ww<|ww<|ww<|ww ?_
 refine ww<|ww<|ww<|ww<|ww<|ww<|ww<|ww<|ww<|pF Y<|mv Y<|bE h λarq mG h=>?_
 obtain rfl:=O (F mG)
 refine ww<|ww<|ww<|pF Y<|mv Y<|bE h λars nW h=>?_
 obtain rfl:=O (F nW)
 refine ww<|ww<|ww<|pF Y<|mv Y<|bE h λRY r6 h=>?_
 obtain rfl:=O (F r6)
 exact ww<|ww<|ww<|pF Y<|ag Y<|dn<|⟨false,h,wR []⟩
 refine gm Y<|bE (V iN) λx7 h7 iN=>gc (KW h7) ⟨Y,ak⟩<|lE iN λx8 h8 iN=>gn Y h8<|gm Y<|bE iN λdG fY iN=>gc (No fY) ⟨Y,ak⟩<|lE iN λff kz iN=>gn Y kz<|lE iN λc8 fI iN=>RT.add (.some Y Y) _ Y Y T fI<|gm Y<|bE iN λdV jy iN=>gc (P4 jy) ⟨Y,ak⟩<|lE iN λdN gH iN=>?_
 refine gn Y gH<|lE iN λeX kf iN=>RT.add (.some Y Y) _ Y Y T kf<|gm Y<|bE iN λeE jd iN=>gc (BF jd) ⟨Y,ak⟩<|lE iN λjb lZ iN=>gn Y lZ<|lE iN λgK oO iN=>RT.add (.some Y Y) _ Y Y T oO<|gm Y<|bE iN λiK oz iN=>gc (Cn oz) ⟨Y,Y,ak⟩<|lE iN λgU oP iN=>gn Y oP ?_
 refine lE iN λgV nF iN=>RT.add (.some Y Y) _ Y Y T nF<|gm Y<|bE iN λji qS iN=>gc (KX qS) ⟨Y,ak⟩<|lE iN λir oU iN=>gn Y oU<|lE iN λlp vz iN=>RT.add (.some Y Y) _ Y Y T vz<|gm Y<|bE iN λuL zJ iN=>gc (FR zJ) ⟨Y,ak⟩<|lE iN λnq xA iN=>gn Y xA<|lE iN λjY qT iN=>RT.add (.some Y Y) _ Y Y T qT ?_
 refine lE iN λou xk iN=>ge_ _ Y Y (xj (p:=jY) (q:=0) xk) ?_
 obtain rfl:=O iN
 refine pT Y<|mv Y<|bE h λart qH h=>?_
 cases ou
 obtain rfl:=O (F qH)
 refine ww<|ww<|ww<|pF Y<|mv Y<|bE h λaru Dc h=>?_
 obtain rfl:=O (F Dc)
 refine ww<|ww<|ww<|pF Y<|mv Y<|bE h λarv Ec h=>?_
 obtain rfl:=O (F Ec)
 exact ww<|ww<|ww<|pF Y<|ag Y<|dn<|⟨false,h,wR []⟩
 refine gm Y<|bE (V qH) λpD A0 qH=>gc (FU A0) ⟨Y,ak⟩<|lE qH λuK AX qH=>QC Y _ AX ?_
 obtain rfl:=O qH
 refine pT Y<|mv Y<|bE h λarw kC h=>?_
 cases uK
 obtain rfl:=O (F kC)
 refine ww<|ww<|ww<|pF Y<|mv Y<|bE h λarx IX h=>?_
 obtain rfl:=O (F IX)
 exact ww<|ww<|ww<|pF Y<|ag Y<|dn<|⟨false,h,wR []⟩
 refine gm Y<|bE (V kC) λpC Ay kC=>gc (Hh Ay) ⟨Y,ak⟩<|lE kC λyB EV kC=>QC Y _ EV ?_
 obtain rfl:=O kC
 refine pT Y<|mv Y<|bE h λary wO h=>?_
 cases yB
 obtain rfl:=O (F wO)
 exact ww<|ww<|ww<|pF Y<|ag Y<|dn<|⟨false,h,wR []⟩
 refine gm Y<|bE (V wO) λxm AY wO=>gc (KY AY) ⟨Y,ak⟩<|RT.RB (.some Y Y) Y Y T ?_
 obtain rfl:=O wO
 exact pT Y<|ag Y<|dn<|⟨true,h,wR []⟩
 try dsimp only
 refine aW.n<|aY ?_
 obtain rfl:=O h
 exact R1 Y
end
section
open Go.Fw
noncomputable def oe(x0:Lr)(x1:List Pv)(x2:Int):Option (Bool):=match x0 with|⟨bn,bp,bB,bD⟩=>cJ (λ(AQ:Bool)=>(bif AQ then(fM).bind λgh=>some gh else(kW ⟨bn,bp,bB,bD⟩).bind λ⟨kE,kF,qm,qo,LR⟩=>(mh ⟨bn,bp,bB,bD⟩).bind λlp=>(some (!lp)).bind λiM=>(bif iM then cJ (λ(ad5:Bool)=>some ad5) λK16=>(bif false then none else some false).bind λYd=>(bif Yd then(gP).bind λpD=>some pD else some false).bind λaha=>(bif aha then(fM).bind λlj=>some lj else some false).bind λahb=>K16 ahb else(jH ⟨bn,bp,bB,bD⟩).bind λ⟨vp,vr,vu,vv,JG⟩=>cJ (λ(Si:Bool)=>(bif Si then some false else(qC (⟨kE,kF,qm,qo,LR⟩:Tb)).bind λ⟨CA,CB,CC,CD,JH⟩=>(b9 (λ(s42:Int×(List Int)×(List (List Qr))×(List Int)×(List (List Qr)))=>match s42 with|⟨BG,Ez,HH,HI,HJ⟩=>(show Option ((Int×(List Int)×(List (List Qr))×(List Int)×(List (List Qr)))⊕(((List Int)×(List (List Qr))×(List Int)×(List (List Qr)))⊕(Bool)))from(some (x1.length:Int)).bind λGN=>(some (decide ((BG:Int)<GN))).bind λGf=>(bif Gf then cJ (λ(j49:Bool×(List Int)×(List (List Qr))×(List Int)×(List (List Qr)))=>match j49 with|⟨Sj,JI,Np,Nq,Nr⟩=>(bif Sj then some (.inr (.inr false))else(some (IntKind.i64.wrap (BG+1))).bind λLm=>some (.inl (Lm,JI,Np,Nq,Nr)))) λK49=>(cM x1 BG).bind λ⟨ad6,akL⟩=>(cM x1 BG).bind λ⟨akM,ad7⟩=>(bY kE kF HH HI HJ ad6 ad7).bind λ⟨Vp,l50,l51,l52⟩=>(cM x1 BG).bind λ⟨ad8,akN⟩=>(cM x1 BG).bind λ⟨akO,ad9⟩=>(fP vp vr vu vv Ez ad8 ad9).bind λ⟨x83,l53⟩=>(some (decide ((Vp:Int)≠x83))).bind λZE=>(bif ZE then some true else(k7 (⟨kE,kF,l50,l51,l52⟩:Tb) (⟨⟨vp,vr,vu,vv⟩,l53⟩:Rt)).bind λx88=>(some (!x88)).bind λZF=>some ZF).bind λYe=>K49 (Ye,l53,l50,l51,l52)else some (.inr (.inl (Ez,HH,HI,HJ)))))) (0,JG,qm,qo,LR)).bind λe42=>match e42 with|.inr v42=>some v42|.inl ⟨BH,Tx,Ty,Tz⟩=>(eL ⟨⟨vp,vr,vu,vv⟩,BH⟩).bind λx92=>(dz (⟨kE,kF,Tx,Ty,Tz⟩:Tb) x2).bind λx95=>cJ (λ(Ns:Bool)=>(bif Ns then cJ (λ(aea:Bool)=>some aea) λK76=>(some (x95.length:Int)).bind λKr=>(some (decide ((Kr:Int)=0))).bind λRa=>(bif Ra then(jH ⟨bn,bp,bB,bD⟩).bind λ⟨Yf,Yg,Yh,Yi,Yj⟩=>(k7 ⟨CA,CB,CC,CD,JH⟩ (⟨⟨Yf,Yg,Yh,Yi⟩,Yj⟩:Rt)).bind λQ8=>some Q8 else some false).bind λTA=>(bif TA then(gP).bind λIw=>some Iw else some false).bind λaa7=>(bif aa7 then(fM).bind λRb=>some Rb else some false).bind λaa8=>K76 aa8 else cJ (λ(aeb:Bool)=>some aeb) λK90=>(cM x92 x2).bind λakP=>(jU x95 akP).bind λUx=>(bif Ux then(jH ⟨bn,bp,bB,bD⟩).bind λ⟨Yk,Yl,Ym,Yn,Yo⟩=>(k7 ⟨CA,CB,CC,CD,JH⟩ (⟨⟨Yk,Yl,Ym,Yn⟩,Yo⟩:Rt)).bind λUy=>some Uy else some false).bind λTB=>(bif TB then(fM).bind λRc=>some Rc else some false).bind λaa9=>K90 aa9)) λK57=>(some (decide ((x2:Int)<0))).bind λx97=>(bif x97 then some true else(some (x92.length:Int)).bind λXX=>(some (decide ((XX:Int)≤x2))).bind λDU=>some DU).bind λTC=>K57 TC)) λK24=>(bif false then none else(k7 (⟨kE,kF,qm,qo,LR⟩:Tb) (⟨⟨vp,vr,vu,vv⟩,JG⟩:Rt)).bind λx49=>(some (!x49)).bind λAx=>some Ax).bind λYp=>K24 Yp))) λK3=>(oK ⟨bn,bp,bB,bD⟩).bind λdN=>(bif dN then some true else(some (x1.length:Int)).bind λeE=>(some (decide ((12:Int)<eE))).bind λjb=>some jb).bind λYq=>K3 Yq
noncomputable def uA(x0:Lr)(x1:List Pv)(x2:Int):Option (Bool):=match x0 with|⟨bn,bp,bB,bD⟩=>cJ (λ(AQ:Bool)=>(bif AQ then(fM).bind λgh=>some gh else(wX ⟨bn,bp,bB,bD⟩).bind λ_=>(mh ⟨bn,bp,bB,bD⟩).bind λlp=>(some (!lp)).bind λiM=>(bif iM then cJ (λ(aec:Bool)=>some aec) λK12=>(gP).bind λpD=>(bif pD then(fM).bind λlj=>some lj else some false).bind λYr=>K12 Yr else(jH ⟨bn,bp,bB,bD⟩).bind λ⟨vp,vr,vu,vv,JG⟩=>some false))) λK3=>(oK ⟨bn,bp,bB,bD⟩).bind λdN=>(bif dN then some true else(some (x1.length:Int)).bind λeE=>(some (decide ((12:Int)<eE))).bind λjb=>some jb).bind λYs=>K3 Ys
noncomputable def jr(x0:Lr)(x1:List Pv)(x2:Int):Option (Bool):=if oe x0 x1 x2=some true then some true else uA x0 x1 x2
end
section
open Go.Fw Go.Fw.Z Go.RowKit
set_option maxHeartbeats 4000000 in
theorem Nt{x0:Lr}{x1:List Pv}{x2:Int}{r:Bool}(h:oe x0 x1 x2=some r):Pure af 4 [.agg (Om x0),slc 2 (List.map V6 x1),ax x2] (ay r):=by
 obtain⟨bn,bp,bB,bD⟩:=x0
 refine bj Tryz.func4 Y (ae Y) (λc9 M vs hvs=>?_)
 unfold oe at h
 refine sr<|bx Y<|ag Y<|dn<|qq<|qq ?_
 refine bL h (λj3=>AS.cu 134 [(1,.sv (slc 2 (List.map V6 x1))),(2,ah x2),(3,.ptr 3 0),(20,ai j3)] [(3,⟨25,[ah bn,.sv (slc 1 (List.map (eS 4 eQ) bp)),.sv (slc 1 (List.map (eS 4 eQ) bB)),.sv (slc 4 (List.map eQ bD))]⟩)] []) (λh=>?_) (λAQ h=>?_)
 refine aX<|ld Y Y (.k4 Y Y Y Y)<|bE h λdN gH h=>cl (CI gH) ⟨Y,ak⟩<|mv Y<|bE h λYq UX h=>?_
 cases dN
 refine gm Y<|lE (F UX) λeE jd UX=>gn Y jd<|lE UX λjb lZ UX=>gg _ Y Y lZ ?_
 obtain rfl:=O UX
 exact pF Y<|dn<|⟨jb,h,wR []⟩
 obtain rfl:=O (V UX)
 exact ww<|ww<|ww<|pT Y<|dn<|⟨true,h,wR []⟩
 try dsimp only
 refine aW.n ?_
 cases AQ
 refine fs<|sr<|ld Y Y (.k4 Y Y Y Y) ?_
 obtain⟨⟨kE,kF,qm,qo,LR⟩,nF,h⟩:=bS (F h)
 refine RT.Te .none (Bu nF) [304,305,306] (by decide) Y ⟨⟨Y,T⟩,⟨Y,T⟩,⟨Y,T⟩,ak⟩ Y ⟨Y,ak⟩ T Y Y<|mo (s:=.cmp _ _) Y<|RT.Eb .none Y Y T<|RT.Eb .none Y Y T<|an (s:=.ptr _ _) Y<|ag Y<|dn<|qq<|sr<|ld Y Y (.k4 Y Y Y Y)<|bE h λlp vz h=>cl (rE vz) ⟨Y,ak⟩<|lE h λiM oM h=>nt Y _ oM ?_
 refine dn ?_
 cases iM
 refine fs<|sr<|ld Y Y (.k4 Y Y Y Y) ?_
 obtain⟨⟨vp,vr,vu,vv,JG⟩,EV,h⟩:=bS (F h)
 refine RT.FD .none (rP EV) [] (by decide) Y trivial Y ⟨Y,ak⟩ T Y Y<|an (s:=.ptr _ _) Y<|dn<|qq<|qq ?_
 refine bL h (λZJ=>AS.cu 134 [(1,.sv (slc 2 (List.map V6 x1))),(2,ah x2),(3,.ptr 3 0),(7,.ptr 24 0),(9,.ptr 43 0),(51,ai ZJ)] [(43,⟨59,[ah vp,.sv (slc 1 (List.map (eS 4 eQ) vr)),.sv (slc 1 (List.map (eS 4 eQ) vu)),.sv (slc 4 (List.map eQ vv)),.sv (slc 1 (List.map bH JG))]⟩),(24,⟨79,[ai kE,ah kF,.row 304,.row 305,.row 306]⟩),(3,⟨25,[ah bn,.sv (slc 1 (List.map (eS 4 eQ) bp)),.sv (slc 1 (List.map (eS 4 eQ) bB)),.sv (slc 4 (List.map eQ bD))]⟩)] [(304,TR 23 1 (eS 4 eQ) qm),(305,TR 3 1 bH qo),(306,TR 23 1 (eS 4 eQ) LR)]) (λh=>?_) (λSi h=>?_)
 refine aX<|mv Y<|ne false Y Y (by decide)<|mv Y<|bE h λYp Yt h=>RT.move (.some Y Y) (s:=.ptr _ _) Y T<|RT.move (.some Y Y) (s:=.ptr _ _) Y T<|bE (F Yt) λx49 h49 Yt=>?_
 refine RT.X9 (c1:=[.s (ay kE),.s (ax kF),.r (TR 23 1 (eS 4 eQ) qm),.r (TR 3 1 bH qo),.r (TR 23 1 (eS 4 eQ) LR)]) (c2:=[.s (ax vp),.s (slc 1 (List.map (eS 4 eQ) vr)),.s (slc 1 (List.map (eS 4 eQ) vu)),.s (slc 4 (List.map eQ vv)),.s (slc 1 (List.map bH JG))]) (.some Y Y) (BC h49) 24 43 [304,305,306] [] Y ⟨Y,Y,Y,ak⟩ (by decide) ⟨⟨aq,λ_ _ q=>One.h _ _ q⟩,⟨aq,λ_ _ q=>One.h _ _ q⟩,dJ,dJ,dJ,ak⟩ Y trivial (by decide) ⟨⟨aq,λ_ _ q=>One.h _ _ q⟩,pH,pH,pH,pH,ak⟩ Y Y Y Y T ?_
 refine lE Yt λAx Ks Yt=>QC Y _ Ks ?_
 obtain rfl:=O Yt
 exact pF Y<|dn<|⟨Ax,h,wR []⟩
 try dsimp only
 refine aW.n ?_
 cases Si
 refine fs<|sr<|mo (s:=.ptr _ _) Y ?_
 obtain⟨⟨CA,CB,CC,CD,JH⟩,Wx,h⟩:=bS (F h)
 refine RT.nV .none (Nn Wx) 24 [304,305,306] Y ⟨Y,Y,Y,ak⟩ (by decide) Y Y (.cons Y (.nil)) T<|ag Y<|dn<|qq<|sr<|ag Y<|dn<|bE h λe42 arA ic=>?_
 refine bJ (λ(P5:(List Int)×(List (List Qr))×(List Int)×(List (List Qr)))=>AS.cu 134 [(2,ah x2),(3,.ptr 3 0),(7,.ptr 24 0),(9,.ptr 43 0),(10,.sv (ref [ay CA,ax CB,slc 1 (List.map (eS 4 eQ) CC),slc 1 (List.map bH CD),slc 1 (List.map (eS 4 eQ) JH)]))] [(43,⟨59,[ah vp,.sv (slc 1 (List.map (eS 4 eQ) vr)),.sv (slc 1 (List.map (eS 4 eQ) vu)),.sv (slc 4 (List.map eQ vv)),.sv (slc 1 (List.map bH P5.1))]⟩),(24,⟨79,[ai kE,ah kF,.row 313,.row 314,.row 315]⟩),(3,⟨25,[ah bn,.sv (slc 1 (List.map (eS 4 eQ) bp)),.sv (slc 1 (List.map (eS 4 eQ) bB)),.sv (slc 4 (List.map eQ bD))]⟩)] [(313,TR 23 1 (eS 4 eQ) P5.2.1),(314,TR 3 1 bH P5.2.2.1),(315,TR 23 1 (eS 4 eQ) P5.2.2.2)]) (λP5=>.inl P5=e42) ?_ (λP5 arB=>?_)
 refine bf ?_
 refine bK arA (λs42=>AS.cu 134 [(1,.sv (slc 2 (List.map V6 x1))),(2,ah x2),(3,.ptr 3 0),(7,.ptr 24 0),(9,.ptr 43 0),(10,.sv (ref [ay CA,ax CB,slc 1 (List.map (eS 4 eQ) CC),slc 1 (List.map bH CD),slc 1 (List.map (eS 4 eQ) JH)])),(11,ah s42.1)] [(43,⟨59,[ah vp,.sv (slc 1 (List.map (eS 4 eQ) vr)),.sv (slc 1 (List.map (eS 4 eQ) vu)),.sv (slc 4 (List.map eQ vv)),.sv (slc 1 (List.map bH s42.2.1))]⟩),(24,⟨79,[ai kE,ah kF,.row 313,.row 314,.row 315]⟩),(3,⟨25,[ah bn,.sv (slc 1 (List.map (eS 4 eQ) bp)),.sv (slc 1 (List.map (eS 4 eQ) bB)),.sv (slc 4 (List.map eQ bD))]⟩)] [(313,TR 23 1 (eS 4 eQ) s42.2.2.1),(314,TR 3 1 bH s42.2.2.2.1),(315,TR 23 1 (eS 4 eQ) s42.2.2.2.2)]) (cz (λi=>bif Nat.beq i 313 then 304 else bif Nat.beq i 314 then 305 else bif Nat.beq i 315 then 306 else i) Y Y Y Y Y ⟨.sv aq,.sv aq,.ptr,.ptr,.ptr,.sv aq,.sv aq,ak⟩ ⟨⟨_,Y,⟨.sv aq,.sv aq,.sv aq,.sv aq,.sv aq,ak⟩⟩,⟨_,Y,⟨.sv aq,.sv aq,.row Y,.row Y,.row Y,ak⟩⟩,⟨_,Y,⟨.sv aq,.sv aq,.sv aq,.sv aq,ak⟩⟩,ak⟩ ⟨⟨_,Y,cg.refl _⟩,⟨_,Y,cg.refl _⟩,⟨_,Y,cg.refl _⟩,ak⟩ (λi hi=>by rw[bV (show i≠313 by omega)];rw[bV (show i≠314 by omega)];rw[bV (show i≠315 by omega)];rfl)) (λs42 y42 G42 h arC akQ=>?_)
 obtain⟨BG,Ez,HH,HI,HJ⟩:=s42
 try dsimp only
 refine qq<|sr<|mv Y<|mv Y<|lE h λGN Rg h=>ln Y Rg<|lE h λGf Rh h=>ls _ Y Y Rh<|dn ?_
 cases Gf
 refine cF<|bP<|aW.x<|aW.x<|bF.x<|aW.n ?_
 obtain rfl:=O (F h)
 exact⟨(Ez,HH,HI,HJ),akQ _ Y,wR []⟩
 refine cT<|bu<|aW.n<|qq<|bf<|qq ?_
 refine bL (V h) (λj49=>AS.cu 134 [(1,.sv (slc 2 (List.map V6 x1))),(2,ah x2),(3,.ptr 3 0),(7,.ptr 24 0),(9,.ptr 43 0),(10,.sv (ref [ay CA,ax CB,slc 1 (List.map (eS 4 eQ) CC),slc 1 (List.map bH CD),slc 1 (List.map (eS 4 eQ) JH)])),(11,ah BG),(90,ai j49.1)] [(43,⟨59,[ah vp,.sv (slc 1 (List.map (eS 4 eQ) vr)),.sv (slc 1 (List.map (eS 4 eQ) vu)),.sv (slc 4 (List.map eQ vv)),.sv (slc 1 (List.map bH j49.2.1))]⟩),(24,⟨79,[ai kE,ah kF,.row 322,.row 323,.row 324]⟩),(3,⟨25,[ah bn,.sv (slc 1 (List.map (eS 4 eQ) bp)),.sv (slc 1 (List.map (eS 4 eQ) bB)),.sv (slc 4 (List.map eQ bD))]⟩)] [(322,TR 23 1 (eS 4 eQ) j49.2.2.1),(323,TR 3 1 bH j49.2.2.2.1),(324,TR 23 1 (eS 4 eQ) j49.2.2.2.2)]) (λh=>?_) (λj49 h=>?_)
 refine aZ mixed<|mo (s:=.ptr _ _) Y<|mv Y<|mv Y ?_
 obtain⟨⟨ad6,akL⟩,h63,h⟩:=bS h
 refine ix Y Y h63<|RT.bQ .none Y T Y<|lr Y Y<|mv Y<|mv Y ?_
 obtain⟨⟨akM,ad7⟩,h68,h⟩:=bS h
 refine ix Y Y h68<|RT.bQ .none Y T Y<|lr Y Y ?_
 obtain⟨⟨Vp,l50,l51,l52⟩,h71,h⟩:=bS h
 refine RT.IV .none (kX h71) 24 [313,314,315] [325,326,327] Y ⟨Y,Y,Y,ak⟩ (by decide) (by decide) Y ⟨⟨Y,T⟩,⟨Y,T⟩,⟨Y,T⟩,ak⟩ Y Y (.k3 Y Y Y) T<|mo (s:=.ptr _ _) Y<|mv Y<|mv Y ?_
 obtain⟨⟨ad8,akN⟩,h75,h⟩:=bS h
 refine ix Y Y h75<|RT.bQ .none Y T Y<|lr Y Y<|mv Y<|mv Y ?_
 obtain⟨⟨akO,ad9⟩,h80,h⟩:=bS h
 refine ix Y Y h80<|RT.bQ .none Y T Y<|lr Y Y ?_
 obtain⟨⟨x83,l53⟩,h83,h⟩:=bS h
 refine RT.IV .none (KU h83) 43 [] [] Y trivial (by decide) (by decide) Y trivial Y Y (.k3 Y Y Y) T<|lE h λZE h84 h=>ne _ Y Y (Le (p:=Vp) (q:=x83) h84)<|mv Y<|bE h λYe Dr h=>?_
 cases ZE
 refine RT.move (.some Y Y) (s:=.ptr _ _) Y T<|RT.move (.some Y Y) (s:=.ptr _ _) Y T<|bE (F Dr) λx88 h88 Dr=>?_
 refine RT.X9 (c1:=[.s (ay kE),.s (ax kF),.r (TR 23 1 (eS 4 eQ) l50),.r (TR 3 1 bH l51),.r (TR 23 1 (eS 4 eQ) l52)]) (c2:=[.s (ax vp),.s (slc 1 (List.map (eS 4 eQ) vr)),.s (slc 1 (List.map (eS 4 eQ) vu)),.s (slc 4 (List.map eQ vv)),.s (slc 1 (List.map bH l53))]) (.some Y Y) (BC h88) 24 43 [325,326,327] [] Y ⟨Y,Y,Y,ak⟩ (by decide) ⟨⟨aq,λ_ _ q=>One.h _ _ q⟩,⟨aq,λ_ _ q=>One.h _ _ q⟩,dJ,dJ,dJ,ak⟩ Y trivial (by decide) ⟨⟨aq,λ_ _ q=>One.h _ _ q⟩,pH,pH,pH,pH,ak⟩ Y Y Y Y T ?_
 refine lE Dr λZF h89 Dr=>QC Y _ h89 ?_
 obtain rfl:=O Dr
 refine pF Y ?_
 refine RT.done ⟨by kernel_rfl,?_⟩
 exact aW.n<|⟨(ZF,l53,l50,l51,l52),h,cz (λi=>bif Nat.beq i 322 then 325 else bif Nat.beq i 323 then 326 else bif Nat.beq i 324 then 327 else i) Y Y Y Y Y ⟨.sv aq,.sv aq,.ptr,.ptr,.ptr,.sv aq,.sv aq,.sv aq,ak⟩ ⟨⟨_,Y,⟨.sv aq,.sv aq,.sv aq,.sv aq,.sv aq,ak⟩⟩,⟨_,Y,⟨.sv aq,.sv aq,.row Y,.row Y,.row Y,ak⟩⟩,⟨_,Y,⟨.sv aq,.sv aq,.sv aq,.sv aq,ak⟩⟩,ak⟩ ⟨⟨_,Y,cg.refl _⟩,⟨_,Y,cg.refl _⟩,⟨_,Y,cg.refl _⟩,ak⟩ (λi hi=>by rw[bV (show i≠322 by omega)];rw[bV (show i≠323 by omega)];rw[bV (show i≠324 by omega)];rfl)⟩
 obtain rfl:=O (V Dr)
 refine ww<|ww<|ww<|ww<|pT Y ?_
 refine RT.done ⟨by kernel_rfl,?_⟩
 exact aW.n<|⟨(true,l53,l50,l51,l52),h,cz (λi=>bif Nat.beq i 322 then 325 else bif Nat.beq i 323 then 326 else bif Nat.beq i 324 then 327 else i) Y Y Y Y Y ⟨.sv aq,.sv aq,.ptr,.ptr,.ptr,.sv aq,.sv aq,.sv aq,ak⟩ ⟨⟨_,Y,⟨.sv aq,.sv aq,.sv aq,.sv aq,.sv aq,ak⟩⟩,⟨_,Y,⟨.sv aq,.sv aq,.row Y,.row Y,.row Y,ak⟩⟩,⟨_,Y,⟨.sv aq,.sv aq,.sv aq,.sv aq,ak⟩⟩,ak⟩ ⟨⟨_,Y,cg.refl _⟩,⟨_,Y,cg.refl _⟩,⟨_,Y,cg.refl _⟩,ak⟩ (λi hi=>by rw[bV (show i≠322 by omega)];rw[bV (show i≠323 by omega)];rw[bV (show i≠324 by omega)];rfl)⟩
 obtain⟨Sj,JI,Np,Nq,Nr⟩:=j49
 try dsimp only
 refine aW.n ?_
 cases Sj
 refine cF<|bu<|bF.n<|aW.n<|aX<|mv Y<|lE (F h) λLm UA h=>ad _ Y Y UA<|ag Y<|RT.done ?_
 obtain rfl:=O h
 exact aW.n ⟨(Lm,JI,Np,Nq,Nr),arC _ Y,cz (λi=>bif Nat.beq i 313 then 322 else bif Nat.beq i 314 then 323 else bif Nat.beq i 315 then 324 else i) Y Y Y Y Y ⟨.sv aq,.sv aq,.ptr,.ptr,.ptr,.sv aq,.sv aq,ak⟩ ⟨⟨_,Y,⟨.sv aq,.sv aq,.sv aq,.sv aq,.sv aq,ak⟩⟩,⟨_,Y,⟨.sv aq,.sv aq,.row Y,.row Y,.row Y,ak⟩⟩,⟨_,Y,⟨.sv aq,.sv aq,.sv aq,.sv aq,ak⟩⟩,ak⟩ ⟨⟨_,Y,cg.refl _⟩,⟨_,Y,cg.refl _⟩,⟨_,Y,cg.refl _⟩,ak⟩ (λi hi=>by rw[bV (show i≠313 by omega)];rw[bV (show i≠314 by omega)];rw[bV (show i≠315 by omega)];rfl)⟩
 refine cT<|sr<|ag Y<|dn<|aY<|bF.r<|aW.r ?_
 obtain rfl:=O (V h)
 have arD:=akQ _ Y
 subst arD
 refine aW.r<|bF.r<|aW.r<|aW.r ?_
 obtain rfl:=O ic
 exact R1 Y
 subst arB
 obtain⟨BH,Tx,Ty,Tz⟩:=P5
 try dsimp only
 refine aW.n<|qq ?_
 refine bU (lH (i:=43) Y [ax vp,slc 1 (List.map (eS 4 eQ) vr),slc 1 (List.map (eS 4 eQ) vu),slc 4 (List.map eQ vv),slc 1 (List.map bH BH)] (.cons Y (.k4 Y Y Y Y)) .any 0 [(9,.sv (ref [ax vp,slc 1 (List.map (eS 4 eQ) vr),slc 1 (List.map (eS 4 eQ) vu),slc 4 (List.map eQ vv),slc 1 (List.map bH BH)]))] (λ_ _ _=>trivial) (yD.h (l:=[ax vp,slc 1 (List.map (eS 4 eQ) vr),slc 1 (List.map (eS 4 eQ) vu),slc 4 (List.map eQ vv),slc 1 (List.map bH BH)])) ⟨@FT.ptr _ _ _ _ _ 9 0 Y,ak⟩) ?_
 refine aX<|mv Y<|bE ic λx92 h92 ic=>cl (oc h92) ⟨Y,ak⟩<|ag Y<|dn<|sr<|mo (s:=.ptr _ _) Y<|mv Y<|bE ic λx95 h95 ic=>RT.nV .none (wS h95) 24 [313,314,315] Y ⟨Y,Y,Y,ak⟩ (by decide) Y Y (.k2 Y Y) T<|ag Y<|dn<|qq<|qq ?_
 refine bL ic (λj57=>AS.cu 134 [(2,ah x2),(3,.ptr 3 0),(10,.sv (ref [ay CA,ax CB,slc 1 (List.map (eS 4 eQ) CC),slc 1 (List.map bH CD),slc 1 (List.map (eS 4 eQ) JH)])),(12,.sv (slc 1 (List.map (eS 4 eQ) x92))),(13,.sv (slc 4 (List.map eQ x95))),(103,ai j57)] [(3,⟨25,[ah bn,.sv (slc 1 (List.map (eS 4 eQ) bp)),.sv (slc 1 (List.map (eS 4 eQ) bB)),.sv (slc 4 (List.map eQ bD))]⟩)] []) (λic=>?_) (λNs ic=>?_)
 refine aX<|mv Y<|lE ic λx97 h97 ic=>ls _ Y Y h97<|mv Y<|bE ic λTC UY ic=>?_
 cases x97
 refine gm Y<|gm Y<|lE (F UY) λXX agZ UY=>gn Y agZ<|lE UY λDU Rj UY=>RT.geq (.some Y Y) _ Y Y T Rj ?_
 obtain rfl:=O UY
 exact pF Y<|dn<|⟨DU,ic,wR []⟩
 obtain rfl:=O (V UY)
 exact ww<|ww<|ww<|ww<|pT Y<|dn<|⟨true,ic,wR []⟩
 try dsimp only
 refine aW.n ?_
 cases Ns
 refine fs<|qq ?_
 refine bL (F ic) (λj90=>AS.cu 134 [(6,ai j90)] [] []) (λic=>?_) (λaeb ic=>?_)
 refine aX<|mv Y<|mv Y<|mv Y<|bE ic λakP arE ic=>ix Y Y arE<|lr Y Y<|bE ic λUx afA ic=>cl (uy afA) ⟨Y,Y,ak⟩<|mv Y<|bE ic λTB UZ ic=>?_
 cases Ux
 obtain rfl:=O (F UZ)
 refine ww<|ww<|ww<|ww<|pF Y<|mv Y<|bE ic λamd arF ic=>?_
 obtain rfl:=O (F arF)
 exact ww<|pF Y<|ag Y<|dn<|⟨false,ic,wR []⟩
 refine gm Y<|gl Y Y (.k4 Y Y Y Y) ?_
 obtain⟨⟨Yk,Yl,Ym,Yn,Yo⟩,h128,UZ⟩:=bS (V UZ)
 refine RT.FD (.some Y Y) (rP h128) [] (by decide) Y trivial Y ⟨Y,ak⟩ T Y Y<|bE UZ λUy afB UZ=>RT.nV (.some Y Y) (Gx afB) 128 [] Y trivial (by decide) Y Y (.k2 Y Y) T ?_
 obtain rfl:=O UZ
 refine pT Y<|mv Y<|bE ic λame aba ic=>?_
 cases Uy
 obtain rfl:=O (F aba)
 exact ww<|pF Y<|ag Y<|dn<|⟨false,ic,wR []⟩
 refine bE (V aba) λRc afC aba=>gc (n8 afC) trivial ?_
 obtain rfl:=O aba
 exact pT Y<|ag Y<|dn<|⟨Rc,ic,wR []⟩
 try dsimp only
 refine aW.n<|aY ?_
 obtain rfl:=O ic
 exact R1 Y
 refine cT<|qq ?_
 refine bL (V ic) (λj76=>AS.cu 134 [(6,ai j76)] [] []) (λic=>?_) (λaea ic=>?_)
 refine aX<|mv Y<|lE ic λKr WA ic=>ln Y WA<|lE ic λRa afx ic=>eq _ Y Y (xj (p:=Kr) (q:=0) afx)<|mv Y<|bE ic λTA FL ic=>?_
 cases Ra
 obtain rfl:=O (F FL)
 refine ww<|ww<|ww<|ww<|pF Y<|mv Y<|bE ic λamf R6 ic=>?_
 obtain rfl:=O (F R6)
 refine ww<|pF Y<|mv Y<|bE ic λamg Cm ic=>?_
 obtain rfl:=O (F Cm)
 exact ww<|pF Y<|ag Y<|dn<|⟨false,ic,wR []⟩
 refine gm Y<|gl Y Y (.k4 Y Y Y Y) ?_
 obtain⟨⟨Yf,Yg,Yh,Yi,Yj⟩,ag0,FL⟩:=bS (V FL)
 refine RT.FD (.some Y Y) (rP ag0) [] (by decide) Y trivial Y ⟨Y,ak⟩ T Y Y<|bE FL λQ8 afy FL=>RT.nV (.some Y Y) (Gx afy) 110 [] Y trivial (by decide) Y Y (.k2 Y Y) T ?_
 obtain rfl:=O FL
 refine pT Y<|mv Y<|bE ic λamh Js ic=>?_
 cases Q8
 obtain rfl:=O (F Js)
 refine ww<|pF Y<|mv Y<|bE ic λami agE ic=>?_
 obtain rfl:=O (F agE)
 exact ww<|pF Y<|ag Y<|dn<|⟨false,ic,wR []⟩
 refine bE (V Js) λIw WB Js=>gc (y4 WB) trivial ?_
 obtain rfl:=O Js
 refine pT Y<|mv Y<|bE ic λamj Jt ic=>?_
 cases Iw
 obtain rfl:=O (F Jt)
 exact ww<|pF Y<|ag Y<|dn<|⟨false,ic,wR []⟩
 refine bE (V Jt) λRb afz Jt=>gc (n8 afz) trivial ?_
 obtain rfl:=O Jt
 exact pT Y<|ag Y<|dn<|⟨Rb,ic,wR []⟩
 try dsimp only
 refine aW.n<|aY<|aW.r ?_
 obtain rfl:=O ic
 exact R1 Y
 refine cT<|sr<|ag Y<|dn<|aY<|aW.r ?_
 obtain rfl:=O (V h)
 exact R1 Y
 refine cT<|qq ?_
 refine bL (V h) (λS7=>AS.cu 134 [(6,ai S7)] [] []) (λh=>?_) (λad5 h=>?_)
 refine aX<|mo (s:=.ptr _ _) Y<|RT.WW .none Y Y T<|mv Y<|bE h λYd qH h=>?_
 obtain rfl:=O (F qH)
 refine ww<|ww<|pF Y<|mv Y<|bE h λarG kC h=>?_
 obtain rfl:=O (F kC)
 refine ww<|pF Y<|mv Y<|bE h λarH wO h=>?_
 obtain rfl:=O (F wO)
 exact ww<|pF Y<|ag Y<|dn<|⟨false,h,wR []⟩
 try dsimp only
 refine aW.n<|aY<|aW.r ?_
 obtain rfl:=O h
 exact R1 Y
 refine cT<|sr<|bE (V h) λgh kA h=>cl (n8 kA) trivial<|ag Y<|dn<|aY<|aW.r ?_
 obtain rfl:=O h
 exact R1 Y
end
section
open Go.Fw Go.Fw.Z Go.RowKit
theorem Nu{x0:Lr}{x1:List Pv}{x2:Int}{r:Bool}(h:uA x0 x1 x2=some r):Pure af 4 [.agg (Om x0),slc 2 (List.map V6 x1),ax x2] (ay r):=by
 obtain⟨bn,bp,bB,bD⟩:=x0
 refine bj Tryz.func4 Y (ae Y) (λc9 M vs hvs=>?_)
 unfold uA at h
 refine sr<|bx Y<|ag Y<|dn<|qq<|qq ?_
 refine bL h (λj3=>AS.cu 134 [(1,.sv (slc 2 (List.map V6 x1))),(2,ah x2),(3,.ptr 3 0),(20,ai j3)] [(3,⟨25,[ah bn,.sv (slc 1 (List.map (eS 4 eQ) bp)),.sv (slc 1 (List.map (eS 4 eQ) bB)),.sv (slc 4 (List.map eQ bD))]⟩)] []) (λh=>?_) (λAQ h=>?_)
 refine aX<|ld Y Y (.k4 Y Y Y Y)<|bE h λdN gH h=>cl (CI gH) ⟨Y,ak⟩<|mv Y<|bE h λYs kC h=>?_
 cases dN
 refine gm Y<|lE (F kC) λeE jd kC=>gn Y jd<|lE kC λjb lZ kC=>gg _ Y Y lZ ?_
 obtain rfl:=O kC
 exact pF Y<|dn<|⟨jb,h,wR []⟩
 obtain rfl:=O (V kC)
 exact ww<|ww<|ww<|pT Y<|dn<|⟨true,h,wR []⟩
 try dsimp only
 refine aW.n ?_
 cases AQ
 refine fs<|sr<|ld Y Y (.k4 Y Y Y Y)<|bE (F h) λ_ nF h=>cl (PZ nF) ⟨Y,ak⟩<|mv Y<|ex Y Y<|ex Y Y<|ag Y<|ag Y<|dn<|qq<|sr<|ld Y Y (.k4 Y Y Y Y)<|bE h λlp vz h=>cl (rE vz) ⟨Y,ak⟩<|lE h λiM oM h=>nt Y _ oM ?_
 refine dn ?_
 cases iM
 refine fs<|sr<|ld Y Y (.k4 Y Y Y Y) ?_
 obtain⟨⟨vp,vr,vu,vv,JG⟩,EV,h⟩:=bS (F h)
 refine RT.FD .none (rP EV) [] (by decide) Y trivial Y ⟨Y,ak⟩ T Y Y<|an (s:=.ptr _ _) Y<|dn<|qq<|sr<|mv Y<|ne true Y Y (by decide)<|mv Y<|ww<|ww<|ww<|ww<|pT Y<|dn<|cT<|sr<|ag Y<|dn<|aY<|aW.r ?_
 obtain rfl:=O h
 exact R1 Y
 refine cT<|qq ?_
 refine bL (V h) (λj12=>AS.cu 134 [(6,ai j12)] [] []) (λh=>?_) (λaec h=>?_)
 refine aX<|mv Y<|RT.RB .none Y Y T<|mv Y<|gm Y<|ge_ true Y Y (by decide)<|pT Y<|mv Y<|bE h λpD A0 h=>gc (y4 A0) trivial<|pT Y<|mv Y<|bE h λYr Ni h=>?_
 cases pD
 obtain rfl:=O (F Ni)
 exact ww<|pF Y<|ag Y<|dn<|⟨false,h,wR []⟩
 refine bE (V Ni) λlj sZ Ni=>gc (n8 sZ) trivial ?_
 obtain rfl:=O Ni
 exact pT Y<|ag Y<|dn<|⟨lj,h,wR []⟩
 try dsimp only
 refine aW.n<|aY<|aW.r ?_
 obtain rfl:=O h
 exact R1 Y
 refine cT<|sr<|bE (V h) λgh kA h=>cl (n8 kA) trivial<|ag Y<|dn<|aY<|aW.r ?_
 obtain rfl:=O h
 exact R1 Y
end
section
open Go.Fw Go.Fw.Z Go.RowKit
theorem y5{x0:Lr}{x1:List Pv}{x2:Int}{r:Bool}(h:jr x0 x1 x2=some r):Pure af 4 [.agg (Om x0),slc 2 (List.map V6 x1),ax x2] (ay r):=by
 unfold jr at h
 by_cases ahc:oe x0 x1 x2=some true
 rw[if_pos ahc]at h;rw[←Option.some.inj h];exact Nt ahc
 rw[if_neg ahc]at h
 exact Nu h
end
end Go.Proofs.YtningmnklfpfjaaGreat
namespace Go.Fw
section
theorem j1{n:Nat}(h:n≤9223372036854775807):IntKind.i64.wrap (n:Int)=n:=uI (by omega)
theorem cH{x:Int}(h: -9223372036854775808≤x)(h':x≤9223372036854775807):IntKind.i64.wrap x=x:=uI ⟨h,h'⟩
theorem bM{n:Nat}(h:n<9223372036854775807):IntKind.i64.wrap ((n:Int)+1)=((n+1:Nat):Int):=by rw[uI (by omega)];simp
theorem rQ{n m:Nat}(h:n+m≤9223372036854775807):IntKind.i64.wrap ((n:Int)+(m:Int))=((n+m:Nat):Int):=by rw[uI (by omega)];simp
theorem JJ{n:Nat}(h:n≤9223372036854775807):IntKind.i64.wrap (((n+1:Nat):Int)-1)=(n:Int):=by rw[uI (by omega)];omega
theorem bC{α:Type}{l:List α}{i:Nat}{a:α}(h:l[i]? =some a):cM l (i:Int)=some a:=by simp[cM,h]
theorem B4{α:Type}{l:List α}{a:α}(h:l[0]? =some a):cM l 0=some a:=by simp[cM,h]
theorem Yu{α:Type}{l:List α}{a:α}(h:l[1]? =some a):cM l 1=some a:=by simp[cM,h]
theorem cE{α:Type}{l:List α}{i:Nat}(h:i<l.length):qg l (i:Int)=some i:=by simp[qg,h]
theorem fz{α:Type}{l:List α}{i:Nat}{y:α}(h:i<l.length):stM l i y=some (l.set i y):=by simp[stM,h]
theorem Yv{α:Type}{b:Nat}{l k:List α}(h:(l.length+k.length)*b≤140737488355328)(h':l.length+k.length≤140737488355328):mP b l k=some (l++k):=by simp[mP,h,h']
theorem nn{α:Type}{b:Nat}{l:List α}{x:α}(hb:b≤100)(h:l.length≤1000000000000):mP b l [x]=some (l++[x]):=by
 apply Yv
 ·have:(l.length+[x].length)*b≤1000000000001*100:=Nat.mul_le_mul (by simp;omega) hb
  omega
 ·simp;omega
theorem Yw{α:Type}{b:Nat}{l k:List α}(hb:b≤100)(h:l.length+k.length≤1000000000000):mP b l k=some (l++k):=by
 apply Yv
 ·have:(l.length+k.length)*b≤1000000000000*100:=Nat.mul_le_mul h hb
  omega
 ·omega
theorem JK{α:Type}{b:Nat}{n:Nat}(hb:b≤100)(h:n≤1000000000000):VY (α:=α) b (n:Int)=some []:=by
 have:b*n≤100*1000000000000:=Nat.mul_le_mul hb h
 have h2:(b:Int)*(n:Int)=((b*n:Nat):Int):=by simp
 unfold VY
 rw[h2,if_pos ⟨by omega,by omega,by omega⟩]
theorem yw{α:Type}{b:Nat}{n:Nat}{z:α}(hb:b≤100)(h:n≤1000000000000):Ka b (n:Int) z=some (List.replicate n z):=by
 have:b*n≤100*1000000000000:=Nat.mul_le_mul hb h
 have h2:(b:Int)*(n:Int)=((b*n:Nat):Int):=by simp
 unfold Ka
 rw[h2,if_pos ⟨by omega,by omega,by omega⟩,Int.toNat_natCast]
theorem Yx{α:Type}{l:List α}{i j:Nat}(h:i≤j)(h':j≤l.length):GK l (i:Int) (j:Int)=some (cut l i j):=by
 unfold GK;rw[if_pos ⟨by omega,by omega,by omega⟩];simp
theorem y7{α:Type}{l:List α}{j:Nat}(h':j≤l.length):GK l 0 (j:Int)=some (l.take j):=by
 have:=Yx (l:=l) (i:=0) (j:=j) (by omega) h'
 simpa[cut]using this
theorem Ab{M a b:Nat}(h:b≤a)(h':a<M):vW M a b=a-b:=by
 unfold vW;rw[show(a:Int)-(b:Int)=((a-b:Nat):Int) by omega,←Int.natCast_emod,Int.toNat_natCast,Nat.mod_eq_of_lt (by omega)]
theorem EA{M a b:Nat}(h:a<b)(h':b≤M):vW M a b=M+a-b:=by
 unfold vW
 have:((a:Int)-(b:Int))%(M:Int)=((M+a-b:Nat):Int):=by
  rw[←Int.add_emod_right (a:=(a:Int)-b),show(a:Int)-(b:Int)+(M:Int)=((M+a-b:Nat):Int) by omega,←Int.natCast_emod,Nat.mod_eq_of_lt (by omega)]
 rw[this,Int.toNat_natCast]
theorem HK{o n i:Nat}(h:i<n):ZC o n (i:Int)=some (o+i):=by simp[ZC,h]
theorem za{α:Type}{l l':List α}(h:l'.length=l.length):Cu l l'=some ():=by simp[Cu,h]
theorem Nv{M a b:Nat}(h:b≠0)(h':a<M):Ml M a b=some (a/b):=by
 unfold Ml;rw[if_neg h,Nat.mod_eq_of_lt (Nat.lt_of_le_of_lt (Nat.div_le_self _ _) h')]
theorem HL{a b:Nat}(h:b≠0):Kl a b=some (a%b):=by unfold Kl;rw[if_neg h]
theorem cc{α β:Type}{a:α}{f:α→Option β}:Option.bind (some a) f=f a:=by
 have h:∀o,o=some a→Option.bind o f=f a:=by intro o ho;rw[ho];rfl
 exact h _ Y
theorem gS{α:Type}{x y:α}:(bif true then x else y)=x:=by
 have h:∀b,b=true→(bif b then x else y)=x:=by intro b hb;rw[hb];rfl
 exact h _ Y
theorem iz{α:Type}{x y:α}:(bif false then x else y)=y:=by
 have h:∀b,b=false→(bif b then x else y)=y:=by intro b hb;rw[hb];rfl
 exact h _ Y
theorem iU{S E R:Type}{body:S→Option (S⊕E)}{s:S}{f:E→Option R}{r:R}(I:S→Prop)(Post:E→Prop)(μ:S→Nat)
  (step:∀s,I s→(∃s',body s=some (.inl s')∧I s'∧μ s'<μ s)∨(∃e,body s=some (.inr e)∧Post e)) (h:I s) (hf:∀e,Post e→f e=some r):(b9 body s).bind f=some r:=by
 obtain⟨e,h1,h2⟩:=Fb I Post μ step h
 rw[h1];exact hf e h2
theorem mM{S E R:Type}{body:S→Option (S⊕E)}{s:S}{f:E→Option R}{Q:R→Prop}(I:S→Prop)(Post:E→Prop)(μ:S→Nat)
  (step:∀s,I s→(∃s',body s=some (.inl s')∧I s'∧μ s'<μ s)∨(∃e,body s=some (.inr e)∧Post e)) (h:I s) (hf:∀e,Post e→∃r,f e=some r∧Q r):∃r,(b9 body s).bind f=some r∧Q r:=by
 obtain⟨e,h1,h2⟩:=Fb I Post μ step h
 rw[h1];exact hf e h2
theorem bG{S E R:Type}{body:S→Option (S⊕E)}{s:S}{f:E→Option R}{r:R}(st:Nat→S)(n:Nat)(e:E)(h0:s=st 0)(hs:∀k,k<n→body (st k)=some (.inl (st (k+1))))(he:body (st n)=some (.inr e))(hf:f e=some r):(b9 body s).bind f=some r:=by
 rw[h0,V3 st n hs he];exact hf
theorem Ad{S R:Type}{body:Nat→S→Option S}{s:S}{f:S→Option R}{r:R}(st:Nat→S){n:Nat}(h0:s=st 0)(hs:∀k,k<n→body k (st k)=some (st (k+1)))(hf:f (st n)=some r):(uJ body n s).bind f=some r:=by
 rw[h0,Ff st n hs];exact hf
theorem aA{α β:Type}{x:Option α}{a:α}{f:α→Option β}{r:Option β}(h:x=some a)(hf:f a=r):x.bind f=r:=by rw[h];exact hf
theorem bN{α:Type}{b:Bool}{x y r:α}(hb:b=true)(h:x=r):(bif b then x else y)=r:=by rw[hb];exact h
theorem bA{α:Type}{b:Bool}{x y r:α}(hb:b=false)(h:y=r):(bif b then x else y)=r:=by rw[hb];exact h
end
end Go.Fw
